/-
  The document's disk: bytes laid over a sector; the plain laws.
-/
import Derived.Test.YthfhilinajemhaaRef5
import Derived.Test.YthfhilinajemhaaTamper
namespace Go.Proofs.Ythfhilinajemhaa
open Go.RowKit
open Go.Maps (Keyed int_keyed)
set_option linter.unusedVariables false

theorem overC_nil (c : Array Value) : overC c [] = c := rfl
theorem overC_at {c : Array Value} (hc : c.size = 128) {R : List Int} (hR : R.length ≤ 128) (i : Nat) : (overC c R)[i]? = if i < R.length then (R.map (Value.int .u8))[i]? else c[i]? := by
  unfold overC
  rw [putAll_at _ _ _ _ (by rw [hc, List.length_map]; omega), List.length_map]
  by_cases h : i < R.length
  · rw [if_pos ⟨by omega, by omega⟩, if_pos h, Nat.sub_zero]
  · rw [if_neg (by omega), if_neg h]
theorem overC_size {c : Array Value} (hc : Cel c) {R : List Int} (hR : R.length ≤ 128) : (overC c R).size = 128 := (hc.over hR).size
theorem overC_succ {c : Array Value} (hc : Cel c) {R : List Int} (hR : R.length ≤ 128) {j : Nat} {x : Int} (hx : R[j]? = some x) : overC c (R.take (j + 1)) = (overC c (R.take j)).setIfInBounds j (.int .u8 x) := by
  have hj := (List.getElem?_eq_some_iff.1 hx).1
  have h1 : (R.take (j + 1)).length = j + 1 := by rw [List.length_take]; omega
  have h2 : (R.take j).length = j := by rw [List.length_take]; omega
  apply Array.ext_getElem?
  intro i
  rw [overC_at hc.size (by omega), Array.getElem?_setIfInBounds, overC_at hc.size (by omega), h1, h2, overC_size hc (by omega)]
  by_cases e : j = i
  · subst e
    rw [if_pos (by omega), if_pos rfl, if_pos (by omega), List.getElem?_map, List.getElem?_take, if_pos (by omega), hx]; rfl
  · rw [if_neg e]
    by_cases e' : i < j
    · rw [if_pos (by omega), if_pos e', List.getElem?_map, List.getElem?_map, List.getElem?_take, List.getElem?_take, if_pos (by omega), if_pos e']
    · rw [if_neg (by omega), if_neg e']
theorem flat_set (n : Nat) (s : Nat → Array Value) (i j : Nat) (x : Value) (hi : i < n) (hj : j < 128) (hc : (s i).size = 128) : (flat n s).setIfInBounds (i * 128 + j) x = flat n (updS s i ((s i).setIfInBounds j x)) := by
  apply Array.ext_getElem?
  intro k
  rw [Array.getElem?_setIfInBounds, flat_size]
  by_cases hk : k < n * 128
  · rw [show k = (k / 128) * 128 + k % 128 by omega, flat_at _ (updS s i _) _ _ (by omega) (by omega)]
    unfold updS
    by_cases h1 : k / 128 = i
    · rw [if_pos h1, h1, Array.getElem?_setIfInBounds, hc]
      by_cases h2 : j = k % 128
      · rw [if_pos (by omega), if_pos (by omega), if_pos h2, if_pos (by omega)]; rfl
      · rw [if_neg (by omega), if_neg h2, flat_at _ _ _ _ (by omega) (by omega)]
    · rw [if_neg (by omega), if_neg h1, flat_at _ _ _ _ (by omega) (by omega)]
  · rw [if_neg (by omega)]
    unfold flat
    rw [row_none _ _ _ (by omega), row_none _ _ _ (by omega)]
theorem secs_set : ∀ {L : List (Array Value)} {k j : Nat} {c : Array Value} (x : Value), (∀ c ∈ L, c.size = 128) → L[k]? = some c → j < 128 → secs (L.set k (c.setIfInBounds j x)) = (secs L).set (k * 128 + j) x
  | [], _, _, _, _, _, h, _ => by simp at h
  | e :: L, 0, j, c, x, h, hk, hj => by
    have he : e.size = 128 := h e (List.mem_cons_self)
    simp at hk
    subst hk
    rw [List.set_cons_zero, secs, secs, Nat.zero_mul, Nat.zero_add, List.set_append_left _ _ (by rw [Array.length_toList, he]; exact hj), Array.toList_setIfInBounds]
  | e :: L, k + 1, j, c, x, h, hk, hj => by
    have he : e.size = 128 := h e (List.mem_cons_self)
    simp at hk
    rw [List.set_cons_succ, secs, secs, List.set_append_right _ _ (by rw [Array.length_toList, he]; omega), Array.length_toList, he, secs_set x (fun c hc => h c (List.mem_cons_of_mem _ hc)) hk hj, show (k + 1) * 128 + j - 128 = k * 128 + j by omega]
/-- the first k sectors have a byte more laid over them than the others -/
def mixL (L : List (Array Value)) (R : List Int) (j k : Nat) : List (Array Value) := (L.take k).map (overC · (R.take (j + 1))) ++ (L.drop k).map (overC · (R.take j))
theorem mixL_zero (L : List (Array Value)) (R : List Int) (j : Nat) : mixL L R j 0 = L.map (overC · (R.take j)) := by simp [mixL]
theorem mixL_all (L : List (Array Value)) (R : List Int) (j : Nat) : mixL L R j L.length = L.map (overC · (R.take (j + 1))) := by simp [mixL]
theorem mixL_len (L : List (Array Value)) (R : List Int) (j k : Nat) : (mixL L R j k).length = L.length := by simp [mixL]; omega
theorem mixL_cel {L : List (Array Value)} (h : ∀ c ∈ L, Cel c) {R : List Int} (hR : R.length ≤ 128) (j k : Nat) : ∀ c ∈ mixL L R j k, Cel c := fun c hc => by
  have h1 : (R.take (j + 1)).length ≤ 128 := by rw [List.length_take]; omega
  have h2 : (R.take j).length ≤ 128 := by rw [List.length_take]; omega
  unfold mixL at hc
  rcases List.mem_append.1 hc with hc | hc
  · obtain ⟨e, he, rfl⟩ := List.mem_map.1 hc
    exact (h e (List.mem_of_mem_take he)).over h1
  · obtain ⟨e, he, rfl⟩ := List.mem_map.1 hc
    exact (h e (List.mem_of_mem_drop he)).over h2
theorem mixL_at {L : List (Array Value)} (R : List Int) (j k : Nat) {c : Array Value} (hk : L[k]? = some c) : (mixL L R j k)[k]? = some (overC c (R.take j)) := by
  have hl := (List.getElem?_eq_some_iff.1 hk).1
  unfold mixL
  rw [List.getElem?_append_right (by simp; omega), List.length_map, List.length_take, Nat.min_eq_left (by omega), Nat.sub_self, List.getElem?_map, List.getElem?_drop, Nat.add_zero, hk]; rfl
theorem mixL_succ {L : List (Array Value)} {R : List Int} (hR : R.length ≤ 128) {j k : Nat} {c : Array Value} (hk : L[k]? = some c) (hc : Cel c) {x : Int} (hx : R[j]? = some x) : mixL L R j (k + 1) = (mixL L R j k).set k ((overC c (R.take j)).setIfInBounds j (.int .u8 x)) := by
  have hl := (List.getElem?_eq_some_iff.1 hk).1
  have hck := (List.getElem?_eq_some_iff.1 hk).2
  unfold mixL
  rw [List.set_append_right _ _ (by simp; omega), List.length_map, List.length_take, Nat.min_eq_left (by omega), Nat.sub_self]
  rw [List.drop_eq_getElem_cons hl, List.map_cons, List.set_cons_zero, List.take_succ_eq_append_getElem hl, List.map_append, List.append_assoc, hck, ← overC_succ hc hR hx]
  rfl
theorem own_set {w : World} {base : Nat} {e : TypeId} {size g n cap : Nat} {xs : List Value} (h : w.ownsRow base e size (.slice (some ⟨g, 0, none⟩) n cap) n xs) (o : Nat) (x : Value) : (w.setCell ⟨g, o, none⟩ x).ownsRow base e size (.slice (some ⟨g, 0, none⟩) n cap) n (xs.set o x) := by
  refine ⟨by rw [List.length_set]; exact h.1, ?_⟩
  rcases h.2 with ⟨h1, _⟩ | ⟨g', cap', cur, h0, hb, hg, h1, h2, h3, h4⟩
  · cases h1
  · cases h0
    refine .inr ⟨g, cap, cur.setIfInBounds o x, rfl, hb, (Blk.set (w := w) (t := e) hg o x), h1, h2, by simp [h3], ?_⟩
    rw [Array.toList_setIfInBounds, List.take_set, h4]
theorem tampered_zero (d : Dk) (i : Nat) : updS d.s i (overC (d.s i) []) = d.s := by
  funext k
  unfold updS
  rw [overC_nil]
  split
  · rename_i e; rw [e]
  · rfl
end Go.Proofs.Ythfhilinajemhaa
