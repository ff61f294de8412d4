/-
  Rows of cells; frames: what lies outside F stays. No function of the program.
-/
import Derived.Test.YthfhilinajemhaaProg
import Derived.Test.YthfhilinajemhaaCells
import Derived.Test.YthfhilinajemhaaMaps
import Derived.ChangeKeysEq
import Derived.Deep.MidRow
import Derived.Laws.StructEq
import Derived.Maps.AppendAt
import Derived.WideKeyArgs2
import Derived.DeepKeys4
namespace Go.Proofs.Ythfhilinajemhaa
open Go.RowKit
open Go.Maps (Keyed)

/-! ### rows -/
def row (e : Nat → Value) (n : Nat) : Array Value := ((List.range n).map e).toArray
theorem row_size (e : Nat → Value) (n : Nat) : (row e n).size = n := by simp [row]
theorem row_at (e : Nat → Value) (n j : Nat) (h : j < n) : (row e n)[j]? = some (e j) := by simp [row, h]
theorem row_none (e : Nat → Value) (n j : Nat) (h : n ≤ j) : (row e n)[j]? = none := by simp [row, h]
theorem row_congr {e e' : Nat → Value} {n : Nat} (h : ∀ j, j < n → e j = e' j) : row e n = row e' n := by
  unfold row; congr 1; exact List.map_congr_left fun j hj => h j (List.mem_range.1 hj)
def upd (e : Nat → Value) (j : Nat) (v : Value) : Nat → Value := fun i => if i = j then v else e i
theorem row_set (e : Nat → Value) (n j : Nat) (v : Value) : (row e n).setIfInBounds j v = row (upd e j v) n := by
  apply Array.ext_getElem?
  intro i
  rw [Array.getElem?_setIfInBounds]
  by_cases hi : i < n
  · rw [row_at _ _ _ hi, row_at _ _ _ hi]
    by_cases hij : j = i
    · subst hij
      rw [if_pos rfl, if_pos (by rw [row_size]; exact hi)]; simp [upd]
    · rw [if_neg hij]; simp [upd, Ne.symm hij]
  · rw [row_none _ _ _ (by omega), row_none _ _ _ (by omega)]
    split
    · rw [if_neg (by rw [row_size]; omega)]
    · rfl
theorem row_all (e : Nat → Value) (n : Nat) (h : ∀ j, (e j).oneCell' = true) : (row e n).all (·.oneCell') = true := by
  refine Array.all_eq_true_iff_forall_mem.2 fun v hv => ?_
  simp only [row, List.mem_toArray, List.mem_map] at hv
  obtain ⟨j, _, rfl⟩ := hv
  exact h j

/-! ### frames: what lies outside F stays -/
structure Fr (F : Nat → Prop) (w w' : World) : Prop where
  os : w'.os = w.os
  tape : w'.tape = w.tape
  output : w'.output = w.output
  size : w.heap.size ≤ w'.heap.size
  block : ∀ k, k < w.heap.size → ¬ F k → w'.heap[k]? = w.heap[k]?
theorem Fr.refl (F : Nat → Prop) (w : World) : Fr F w w := ⟨rfl, rfl, rfl, Nat.le_refl _, fun _ _ _ => rfl⟩
theorem Fr.trans {F F' : Nat → Prop} {a b c : World} (h : Fr F a b) (k : Fr F' b c) (hF : ∀ i, F' i → F i ∨ a.heap.size ≤ i) : Fr F a c :=
  ⟨k.os.trans h.os, k.tape.trans h.tape, k.output.trans h.output, Nat.le_trans h.size k.size, fun i hi hn =>
    (k.block i (Nat.lt_of_lt_of_le hi h.size) (fun hf => (hF i hf).elim hn (fun hge => absurd hge (by omega)))).trans (h.block i hi hn)⟩
theorem Fr.of_below {F : Nat → Prop} {w w' : World} (h : Below w.heap.size w w') : Fr F w w' := ⟨h.os, h.tape, h.output, h.size, fun k hk _ => h.block k hk⟩
theorem Fr.of_grown {F : Nat → Prop} {w w' : World} {row : Option Nat} (h : w.grownBy w' row) (hF : ∀ k, row = some k → F k) : Fr F w w' :=
  ⟨h.os, h.tape, h.output, h.size, fun k hk hn => h.block k hk (fun e => hn (hF k e.symm))⟩
theorem Fr.below {F : Nat → Prop} {w w' : World} {B : Nat} (h : Fr F w w') (hB : B ≤ w.heap.size) (hF : ∀ k, F k → B ≤ k) : Below B w w' :=
  ⟨h.os, h.tape, h.output, h.size, fun k hk => h.block k (by omega) (fun hf => absurd (hF k hf) (by omega))⟩
theorem Fr.blk {F : Nat → Prop} {w w' : World} {B : Nat} {vs : Array Value} {t : TypeId} (h : Fr F w w') (hb : Blk w B vs t) (hF : ¬ F B) : Blk w' B vs t := by
  have := hb.lt
  unfold Blk at hb ⊢; rw [h.block B this hF]; exact hb
theorem Fr.map {F : Nat → Prop} {w w' : World} {P : Program} {k : TypeId} {b : Nat} {f : Value → Option Value} (h : Fr F w w') (hb : MapF P k w b f) (hF : ¬ F b) : MapF P k w' b f := hb.kept' (h.block b hb.lt hF)
theorem Fr.own {F : Nat → Prop} {w w' : World} {base : Nat} {e : TypeId} {size : Nat} {v : Value} {n : Nat} {xs : List Value} (h : Fr F w w') (ho : w.ownsRow base e size v n xs) (hF : ∀ k, v.ownBlock = some k → ¬ F k) : w'.ownsRow base e size v n xs := by
  refine ⟨ho.1, ?_⟩
  rcases ho.2 with h1 | ⟨g, cap, cur, rfl, hb, hg, rest⟩
  · exact .inl h1
  · exact .inr ⟨g, cap, cur, rfl, hb, (h.block g (Array.getElem?_eq_some_iff.1 hg).1 (hF g rfl)).trans hg, rest⟩


theorem Blk.setRow {w : World} {B : Nat} {vs : Array Value} {t : TypeId} (h : Blk w B vs t) (cs : Array Value) : Blk (w.setRow B cs) B cs t := setRow_heap w B vs cs t _ h
theorem Blk.setRow_other {w : World} {B C : Nat} {vs : Array Value} {t : TypeId} (h : Blk w B vs t) (cs : Array Value) (hne : B ≠ C) : Blk (w.setRow C cs) B vs t := by
  unfold Blk at h ⊢; rw [Go.setRow_other w C B cs hne]; exact h
theorem below_setRow {B : Nat} {a w : World} (h : Below B a w) {g : Nat} (hg : B ≤ g) (cs : Array Value) : Below B a (w.setRow g cs) :=
  h.trans ⟨rfl, rfl, rfl, by rw [size_setRow]; exact Nat.le_refl _, fun k hk => Go.setRow_other w g k cs (by omega)⟩
end Go.Proofs.Ythfhilinajemhaa
