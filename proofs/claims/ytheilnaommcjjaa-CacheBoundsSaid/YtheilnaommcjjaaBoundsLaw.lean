/-
  The plain law of CacheBounds: a dirty line stays, as a line of its spot that is dirty, behind Get and Put.
-/
import Derived.Test.YtheilnaommcjjaaCount
namespace Go.Proofs.Ytheilnaommcjjaa

theorem dirtyOf_mem {L : List Ln} {l : Ln} : l ∈ dirtyOf L ↔ l ∈ L ∧ l.d = true := List.mem_filter
theorem touch_keep {L : List Ln} (hn : (L.map Ln.spot).Nodup) {s : Spot} {l : Ln} (h : l ∈ L) : l ∈ touch L s := by
  unfold touch
  rcases hf : findLn L s with _ | x
  · exact h
  · obtain ⟨h1, h2⟩ := findLn_some hf
    show l ∈ without L s ++ [x]
    by_cases hs : l.spot = s
    · have : l = x := nodup_spot hn h1 h (hs.trans h2.symm)
      rw [this]; simp
    · exact List.mem_append.2 (.inl (List.mem_filter.2 ⟨h, decide_eq_true hs⟩))
theorem touch_dirty {L : List Ln} (hn : (L.map Ln.spot).Nodup) (s : Spot) : ∀ l ∈ dirtyOf L, l.spot ∈ (dirtyOf (touch L s)).map Ln.spot := fun l hl =>
  List.mem_map.2 ⟨l, dirtyOf_mem.2 ⟨touch_keep hn (dirtyOf_mem.1 hl).1, (dirtyOf_mem.1 hl).2⟩, rfl⟩
theorem roomL_keep {q : Nat} {L : List Ln} {l : Ln} (h : l ∈ L) (hd : l.d = true) : l ∈ roomL q L := by
  unfold roomL
  split
  · exact h
  · obtain ⟨i, hi⟩ := List.mem_iff_getElem?.1 h
    refine List.mem_eraseIdx_iff_getElem?.2 ⟨i, fun he => ?_, hi⟩
    have hlt := (List.getElem?_eq_some_iff.1 hi).1
    have hfc : firstClean L < L.length := by rw [← he]; exact hlt
    have := List.findIdx_getElem (xs := L) (p := fun l : Ln => !l.d) (w := hfc)
    have e : L[firstClean L] = l := by
      have h2 := (List.getElem?_eq_some_iff.1 hi).2
      subst he
      exact h2
    have this2 : (!(L[firstClean L]'hfc).d) = true := this
    rw [e, hd] at this2
    cases this2
theorem putL_dirty {q : Nat} {L : List Ln} (hn : (L.map Ln.spot).Nodup) (x : Ln) : ∀ l ∈ dirtyOf L, l.spot ∈ (dirtyOf (putL q L x)).map Ln.spot := fun l hl => by
  obtain ⟨h1, h2⟩ := dirtyOf_mem.1 hl
  cases hok : putOK q L x
  · rw [putL_no hok]
    exact List.mem_map.2 ⟨l, hl, rfl⟩
  · unfold putL
    rcases hf : findLn L x.spot with _ | was
    · have hne : l.spot ≠ x.spot := findLn_none hf l h1
      unfold putOK at hok
      rw [hf] at hok
      have hr : roomB q L = true := by simpa using hok
      show l.spot ∈ (dirtyOf (if roomB q L then without (roomL q L) x.spot ++ [x] else roomL q L)).map Ln.spot
      rw [hr]
      exact List.mem_map.2 ⟨l, dirtyOf_mem.2 ⟨List.mem_append.2 (.inl (List.mem_filter.2 ⟨roomL_keep h1 h2, decide_eq_true hne⟩)), h2⟩, rfl⟩
    · obtain ⟨f1, f2⟩ := findLn_some hf
      show l.spot ∈ (dirtyOf (without L x.spot ++ [{ x with d := x.d || was.d }])).map Ln.spot
      by_cases hs : l.spot = x.spot
      · obtain rfl : l = was := nodup_spot hn f1 h1 (hs.trans f2.symm)
        refine List.mem_map.2 ⟨{ x with d := x.d || l.d }, dirtyOf_mem.2 ⟨by simp, by rw [h2]; simp⟩, hs.symm⟩
      · exact List.mem_map.2 ⟨l, dirtyOf_mem.2 ⟨List.mem_append.2 (.inl (List.mem_filter.2 ⟨h1, decide_eq_true hs⟩)), h2⟩, rfl⟩
theorem put_full {q : Nat} {L : List Ln} {x : Ln} (h : putOK q L x = false) (hq : L.length ≤ q) : (dirtyOf L).length = q := by
  unfold putOK at h
  rw [Bool.or_eq_false_iff] at h
  have h2 := h.2
  unfold roomB at h2
  rw [Bool.or_eq_false_iff] at h2
  have h3 := of_decide_eq_false h2.1
  have : dirtyOf L = L := by
    unfold dirtyOf
    rw [List.filter_eq_self]
    intro l hl
    have := List.any_eq_false.1 h2.2 l hl
    simpa using this
  rw [this]
  omega
theorem dirty_nodup {L : List Ln} (hn : (L.map Ln.spot).Nodup) : ((dirtyOf L).map Ln.spot).Nodup := hn.sublist (List.filter_sublist.map _)
theorem dirty_len {L : List Ln} (h : L.length ≤ 8) : (dirtyOf L).length ≤ 8 := Nat.le_trans (List.length_filter_le _ _) h
theorem take_all {L : List Ln} (h : L.length ≤ 8) : (dirtyOf L).take 99 = dirtyOf L := List.take_of_length_le (by have := dirty_len h; omega)
end Go.Proofs.Ytheilnaommcjjaa
