/-
  CacheUsed's plain law: lines of unit 0, clean, as a list of their blocks.
-/
import Derived.Test.YtheilnaommcjjaaNew
namespace Go.Proofs.Ytheilnaommcjjaa

def lnB (b : Int) : Ln := ⟨0, b, 0, false⟩
def linesB (R : List Int) : List Ln := R.map lnB
def restB (R : List Int) (b : Int) : List Int := R.filter (fun x => decide (x ≠ b))
def nextR (q : Nat) (R : List Int) (b : Int) : List Int := if q < (restB R b ++ [b]).length then (restB R b ++ [b]).tail else restB R b ++ [b]

theorem linesB_len (R : List Int) : (linesB R).length = R.length := by simp [linesB]
theorem find_linesB (R : List Int) (b : Int) : findLn (linesB R) (0, b) = if b ∈ R then some (lnB b) else none := by
  induction R with
  | nil => rfl
  | cons x r ih =>
    unfold findLn linesB at *
    rw [List.map_cons, List.find?_cons]
    by_cases h : x = b
    · subst h
      simp [lnB, Ln.spot]
    · have h1 : decide ((lnB x).spot = (0, b)) = false := decide_eq_false (by simp [lnB, Ln.spot, h])
      rw [h1]
      simp only
      rw [ih]
      have : (b ∈ x :: r) ↔ b ∈ r := ⟨fun hc => (List.mem_cons.1 hc).elim (fun e => absurd e.symm h) id, List.mem_cons_of_mem _⟩
      by_cases hb : b ∈ r
      · rw [if_pos hb, if_pos (this.2 hb)]
      · rw [if_neg hb, if_neg (fun hc => hb (this.1 hc))]
theorem without_linesB (R : List Int) (b : Int) : without (linesB R) (0, b) = linesB (restB R b) := by
  unfold without linesB restB
  rw [List.filter_map]
  congr 1
  refine List.filter_congr (fun x _ => ?_)
  by_cases h : x = b <;> simp [lnB, Ln.spot, h]
theorem restB_len {R : List Int} {b : Int} (hb : b ∈ R) : (restB R b).length < R.length :=
  List.length_filter_lt_length_iff_exists.2 ⟨b, hb, by simp⟩
theorem restB_not {R : List Int} {b : Int} (hb : b ∉ R) : restB R b = R := by
  unfold restB
  refine List.filter_eq_self.2 (fun x hx => decide_eq_true (fun e => hb (e ▸ hx)))
theorem touch_linesB {q : Nat} {R : List Int} {b : Int} (hb : b ∈ R) (hq : R.length ≤ q) : touch (linesB R) (0, b) = linesB (nextR q R b) := by
  unfold touch
  rw [find_linesB, if_pos hb]
  show without (linesB R) (0, b) ++ [lnB b] = _
  have := restB_len hb
  unfold nextR
  rw [without_linesB, if_neg (by simp; omega)]
  simp [linesB]
theorem roomB_linesB {q : Nat} {R : List Int} (h1 : 1 ≤ q) : roomB q (linesB R) = true := by
  unfold roomB
  rw [linesB_len]
  by_cases h : R.length < q
  · rw [decide_eq_true h]; rfl
  · cases R with
    | nil => simp at h; omega
    | cons x r => simp [linesB, lnB]
theorem putOK_linesB {q : Nat} {R : List Int} {b : Int} (h1 : 1 ≤ q) : putOK q (linesB R) (lnB b) = true := by
  unfold putOK
  rw [roomB_linesB h1]
  simp
theorem putL_linesB {q : Nat} {R : List Int} {b : Int} (hb : b ∉ R) (h1 : 1 ≤ q) (hq : R.length ≤ q) : putL q (linesB R) (lnB b) = linesB (nextR q R b) := by
  unfold putL
  have hs : (lnB b).spot = (0, b) := rfl
  rw [hs, find_linesB, if_neg hb]
  show (if roomB q (linesB R) = true then without (roomL q (linesB R)) (0, b) ++ [lnB b] else _) = _
  rw [if_pos (roomB_linesB h1)]
  unfold nextR
  rw [restB_not hb]
  unfold roomL
  rw [linesB_len]
  by_cases h : R.length < q
  · rw [if_pos h, if_neg (by simp; omega), without_linesB, restB_not hb]
    simp [linesB]
  · rw [if_neg h, if_pos (by simp; omega)]
    cases R with
    | nil => simp at h; omega
    | cons x r =>
      have hf : firstClean (linesB (x :: r)) = 0 := by simp [firstClean, linesB, lnB, List.findIdx_cons]
      rw [hf]
      show without (linesB r) (0, b) ++ [lnB b] = linesB ((x :: r ++ [b]).tail)
      rw [without_linesB, restB_not (fun hc => hb (List.mem_cons_of_mem _ hc))]
      simp [linesB]
theorem nextR_len {q : Nat} {R : List Int} {b : Int} (hq : R.length ≤ q) : (nextR q R b).length ≤ q := by
  unfold nextR
  have : (restB R b).length ≤ R.length := List.length_filter_le _ _
  split
  · simp; omega
  · omega
end Go.Proofs.Ytheilnaommcjjaa
