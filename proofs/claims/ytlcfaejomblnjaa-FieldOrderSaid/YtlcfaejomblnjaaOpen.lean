/-
  Arguments of the laws as numbers: a byte, a block of 16 bytes. No function of the program.
-/
import Derived.Test.YtlcfaejomblnjaaRows
import Derived.Test.YtlcfaejomblnjaaArr
import Derived.ProofKit
import Derived.OpenShut
import Derived.ChangeOld
import Derived.Below
namespace Go.Proofs.Ytlcfaejomblnjaa
open Go.ChangeShapes Go.WideShapes Go.ChangeAt Go.RowKit
set_option linter.unusedVariables false

theorem byte_of {a : Int} (w : (Lit.int .u8 a).wf = true) : ∃ b : Nat, a = (b : Int) ∧ b < 256 := by
  have := bounds_u8 w
  exact ⟨a.toNat, by omega, by omega⟩

theorem key_of {H : Type} {enc : TypeId × Value → H} {W : World} {base b0 : Nat} {sp : Nat → Bool} {hd : Bool} {v : Value} {d : DataW H} {p : List MemPlace} (hv : Value.okWide Try.prog W .any base 26 v)
    (h : DataW.Trod enc Try.prog W b0 sp hd 26 v d p) : ∃ K, v = .agg (keyA K) ∧ K < 2 ^ 128 := by
  have h26 : Try.prog.cellsOf 26 = 16 := by kernel_rfl
  have h5 : Try.prog.cellsOf 5 = 1 := by kernel_rfl
  unfold Value.okWide at hv
  rw [Try.underlying26] at hv
  obtain ⟨cs, rfl, hsz, _⟩ := hv
  rw [h26] at hsz
  obtain ⟨fuel, hf⟩ := h
  obtain ⟨xs, m, _, _, _, hxl, hx⟩ := DataW.trod_array Try.underlying26 hf
  have key : ∀ i, i < 16 → ∃ n : Nat, n < 256 ∧ cs[i]? = some (.int .u8 (n : Int)) := by
    intro i hi
    have h1 := hx i hi
    rw [h5, Nat.mul_one, List.getElem?_eq_getElem (by omega)] at h1
    obtain ⟨n, hn, _, hw⟩ := DataW.trod_int Try.underlying5 h1
    obtain ⟨n', rfl, hlt⟩ := byte_of hw
    refine ⟨n', hlt, ?_⟩
    have hd : (Value.cells (.agg cs)).toList = cs.toList := rfl
    rw [hd, List.drop_eq_getElem_cons (by simp; omega)] at hn
    simp only [List.take_succ_cons, List.take_zero, List.cons.injEq, and_true] at hn
    rw [Array.getElem?_eq_getElem (by omega)]
    rw [← hn]; simp
  have ch : ∃ f : Nat → Nat, ∀ i, i < 16 → f i < 256 ∧ cs[i]? = some (.int .u8 (f i : Nat)) := by
    refine ⟨fun i => if h : i < 16 then (key i h).choose else 0, fun i hi => ?_⟩
    simp only [hi, dif_pos]
    exact (key i hi).choose_spec
  obtain ⟨f, hf'⟩ := ch
  obtain ⟨K, hK, hb⟩ := of_bytes 16 f (fun j hj => (hf' j hj).1)
  refine ⟨K, ?_, by rw [show (2 : Nat) ^ 128 = 256 ^ 16 from by decide]; exact hK⟩
  congr 1
  apply Array.ext_getElem?
  intro i
  by_cases hi : i < 16
  · rw [(hf' i hi).2, keyA_at K i hi, hb i hi]
  · rw [Array.getElem?_eq_none (by omega), Array.getElem?_eq_none (by rw [keyA_size]; omega)]

end Go.Proofs.Ytlcfaejomblnjaa
