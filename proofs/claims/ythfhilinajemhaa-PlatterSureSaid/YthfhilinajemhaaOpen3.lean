/-
  Arguments of the laws opened: a list of bytes' lists. No walk.
-/
import Derived.Test.YthfhilinajemhaaOpen2
namespace Go.Proofs.Ythfhilinajemhaa
open Go.ChangeShapes Go.WideShapes Go.ChangeAt Go.RowKit
set_option linter.unusedVariables false

/-- bytes, and where they lie -/
structure BD where
  a : Option Addr
  c : Nat
  z : List Int
def BD.v (e : BD) : Value := .slice e.a e.z.length e.c
/-- a slice of bytes' slices that can be read, below block S -/
def RBB (w : World) (S : Nat) (A : Option Addr) (R : List BD) : Prop := ∀ i e, R[i]? = some e → (∃ ad, A = some ad ∧ ad.block < S ∧ w.cell? (ad.add i) = some e.v) ∧ RB w S e.a e.z
theorem RBB.below {w w' : World} {S : Nat} {A : Option Addr} {R : List BD} (h : RBB w S A R) (hb : Below S w w') : RBB w' S A R := fun i e he => by
  obtain ⟨⟨ad, h1, h2, h3⟩, h4⟩ := h i e he
  refine ⟨⟨ad, h1, h2, ?_⟩, h4.below hb⟩
  rw [hb.cell (p := ad.add i) (by rw [addr_add_block]; exact h2)]
  exact h3
set_option maxRecDepth 20000 in
theorem byteses_of {H : Type} {enc : TypeId × Value → H} {W : World} {base b0 : Nat} {sp : Nat → Bool} {hd : Bool} {v : Value} {d : DataW H} {p : List MemPlace} (hv : Value.okWide Try.prog W .any base 50 v)
    (h : DataW.Trod enc Try.prog W b0 sp hd 50 v d p) : ∃ A n c zs, v = .slice A n c ∧ zs.length = n ∧ n ≤ c ∧ c ≤ maxLen ∧ RBB W W.heap.size A zs ∧ True := by
  obtain ⟨A, n, c, rfl⟩ := okWide_slice Try.underlying50 hv
  obtain ⟨m, hf⟩ := h
  have h22 : Try.prog.cellsOf 22 = 1 := by kernel_rfl
  rcases Go.Deep.open_slice Try.underlying50 hf with ⟨hcs, hx⟩ | ⟨a, len', cap', m', n', D, Pl, hcs, _, hl, hm, hmm, hx, hall⟩
  · simp [Value.cells] at hcs
    obtain ⟨rfl, rfl, rfl⟩ := hcs
    exact ⟨_, _, _, [], rfl, rfl, Nat.le_refl _, Nat.zero_le _, fun i x hx => by simp at hx, trivial⟩
  · simp [Value.cells] at hcs
    obtain ⟨rfl, rfl, rfl⟩ := hcs
    have hlm : n ≤ m' := by rw [hmm]; split <;> omega
    have each : ∀ i, i < n → ∃ e : BD, (∃ ad, some a = some ad ∧ ad.block < W.heap.size ∧ W.cell? (ad.add i) = some e.v) ∧ RB W W.heap.size e.a e.z := fun i hi => by
      obtain ⟨cs', h1, h2⟩ := hall i (by omega)
      obtain ⟨A', n0, c0, z, rfl, hz, _, _, hr⟩ := bytes_cells h2
      subst hz
      rw [h22, Nat.mul_one] at h1
      obtain ⟨_, _, hcell⟩ := World.cells?_some h1
      have hc := hcell 0 (by omega)
      have hc' : W.cell? (a.add i) = some (.slice A' z.length c0) := by
        have e0 : (a.add i).add 0 = a.add i := by simp [Addr.add]
        rw [e0] at hc
        rw [hc]; rfl
      refine ⟨⟨A', c0, z⟩, ⟨a, rfl, ?_, hc'⟩, hr⟩
      have := cell_lt hc'
      rwa [addr_add_block] at this
    have ch : ∃ f : Nat → BD, ∀ i, i < n → (∃ ad, some a = some ad ∧ ad.block < W.heap.size ∧ W.cell? (ad.add i) = some (f i).v) ∧ RB W W.heap.size (f i).a (f i).z := by
      refine ⟨fun i => if h : i < n then (each i h).choose else ⟨none, 0, []⟩, fun i hi => ?_⟩
      simp only [hi, dif_pos]
      exact (each i hi).choose_spec
    obtain ⟨f, hf'⟩ := ch
    refine ⟨_, _, _, (List.range n).map f, rfl, by simp, hl, hm, fun i x hx => ?_, trivial⟩
    have hi : i < n := by have := (List.getElem?_eq_some_iff.1 hx).1; simpa using this
    rw [List.getElem?_map, List.getElem?_range hi] at hx
    simp at hx
    subst hx
    exact hf' i hi
end Go.Proofs.Ythfhilinajemhaa
