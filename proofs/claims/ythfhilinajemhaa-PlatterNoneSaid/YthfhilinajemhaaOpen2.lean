/-
  Arguments of the laws opened: bytes, lists of bytes, structs. No walk.
-/
import Derived.Test.YthfhilinajemhaaOpen
import Derived.Test.YthfhilinajemhaaBytes
namespace Go.Proofs.Ythfhilinajemhaa
open Go.ChangeShapes Go.WideShapes Go.ChangeAt Go.RowKit
set_option linter.unusedVariables false

set_option maxRecDepth 20000 in
theorem bytes_of {H : Type} {enc : TypeId × Value → H} {W : World} {base b0 : Nat} {sp : Nat → Bool} {hd : Bool} {v : Value} {d : DataW H} {p : List MemPlace} (hv : Value.okWide Try.prog W .any base 22 v)
    (h : DataW.Trod enc Try.prog W b0 sp hd 22 v d p) : ∃ A n c zs, v = .slice A n c ∧ zs.length = n ∧ n ≤ c ∧ c ≤ maxLen ∧ RB W W.heap.size A zs ∧ ∀ z ∈ zs, (Lit.int .u8 z).wf = true := by
  obtain ⟨A, n, c, rfl⟩ := okWide_slice Try.underlying22 hv
  obtain ⟨m, hf⟩ := h
  have hc3 : Try.prog.cellsOf 5 = 1 := by kernel_rfl
  rcases open_ints Try.underlying22 Try.underlying5 hc3 hf with ⟨hcs, hx⟩ | ⟨a, len', cap', zs, hcs, _, hl, hm, hz, hx, hcell, hwz⟩
  · simp [Value.cells] at hcs
    obtain ⟨rfl, rfl, rfl⟩ := hcs
    exact ⟨_, _, _, [], rfl, rfl, Nat.le_refl _, Nat.zero_le _, fun i x hx => by simp at hx, fun z hz => by simp at hz⟩
  · simp [Value.cells] at hcs
    obtain ⟨rfl, rfl, rfl⟩ := hcs
    have hlen : n ≤ zs.length := by rw [hz]; split <;> omega
    refine ⟨_, _, _, zs.take n, rfl, by rw [List.length_take]; omega, hl, hm, fun i x hx => ?_, fun z hz => hwz z (List.mem_of_mem_take hz)⟩
    have hi := (List.getElem?_eq_some_iff.1 hx).1
    rw [List.length_take] at hi
    have hc := hcell i (by omega)
    refine ⟨a, rfl, ?_, ?_⟩
    · have := cell_lt hc
      rwa [addr_add_block] at this
    · rw [hc]
      rw [List.getElem?_take] at hx
      rw [if_pos (by omega)] at hx
      simp [List.getD, hx]
end Go.Proofs.Ythfhilinajemhaa
