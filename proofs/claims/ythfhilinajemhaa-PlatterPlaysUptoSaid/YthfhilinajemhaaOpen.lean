/-
  Arguments of the laws opened: a slice of whole numbers. No walk.
-/
import Derived.Test.YthfhilinajemhaaRows
import Derived.Test.YthfhilinajemhaaFrames
import Derived.Test.YthfhilinajemhaaSettle
import Derived.ProofKit
import Derived.OpenShut
import Derived.ChangeOld
import Derived.ChangeSlices
import Derived.Deep.Slices
import Derived.Lib.SmallJoins
import Derived.Below
namespace Go.Proofs.Ythfhilinajemhaa
open Go.ChangeShapes Go.WideShapes Go.ChangeAt Go.RowKit
set_option linter.unusedVariables false

theorem cell_lt {w : World} {a : Addr} {v : Value} (h : w.cell? a = some v) : a.block < w.heap.size := by
  unfold World.cell? at h
  split at h
  · rename_i hb
    exact (Array.getElem?_eq_some_iff.1 hb).1
  · cases h
theorem ok64_of {a : Int} (h : (Lit.int .i64 a).wf = true) : ok64 a := by
  unfold ok64
  simp [Lit.wf, IntKind.min, IntKind.max, IntKind.bits, IntKind.signed] at h
  omega
set_option maxRecDepth 20000 in
theorem ints_of {H : Type} {enc : TypeId × Value → H} {W : World} {base b0 : Nat} {sp : Nat → Bool} {hd : Bool} {v : Value} {d : DataW H} {p : List MemPlace} (hv : Value.okWide Try.prog W .any base 27 v)
    (h : DataW.Trod enc Try.prog W b0 sp hd 27 v d p) : ∃ A n c zs, v = .slice A n c ∧ zs.length = n ∧ n ≤ c ∧ c ≤ maxLen ∧ RI W W.heap.size A zs ∧ ∀ z ∈ zs, ok64 z := by
  obtain ⟨A, n, c, rfl⟩ := okWide_slice Try.underlying27 hv
  obtain ⟨m, hf⟩ := h
  have hc3 : Try.prog.cellsOf 3 = 1 := by kernel_rfl
  rcases open_ints Try.underlying27 Try.underlying3 hc3 hf with ⟨hcs, hx⟩ | ⟨a, len', cap', zs, hcs, _, hl, hm, hz, hx, hcell, hwz⟩
  · simp [Value.cells] at hcs
    obtain ⟨rfl, rfl, rfl⟩ := hcs
    exact ⟨_, _, _, [], rfl, rfl, Nat.le_refl _, Nat.zero_le _, fun i x hx => by simp at hx, fun z hz => by simp at hz⟩
  · simp [Value.cells] at hcs
    obtain ⟨rfl, rfl, rfl⟩ := hcs
    have hlen : n ≤ zs.length := by rw [hz]; split <;> omega
    refine ⟨_, _, _, zs.take n, rfl, by rw [List.length_take]; omega, hl, hm, fun i x hx => ?_, fun z hz => ok64_of (hwz z (List.mem_of_mem_take hz))⟩
    have hi := (List.getElem?_eq_some_iff.1 hx).1
    rw [List.length_take] at hi
    have hc := hcell i (by omega)
    refine ⟨a, rfl, ?_, ?_⟩
    · have := cell_lt hc
      rwa [addr_add_block] at this
    · rw [hc]
      rw [List.getElem?_take] at hx
      rw [if_pos (by omega)] at hx
      simp [List.getD, hx]
end Go.Proofs.Ythfhilinajemhaa
