/-
  A tenant's lines in memory: rows of cells, spots, lines, the order, the map; frames.
-/
import Derived.Test.YtheilnaommcjjaaProg
import Derived.Test.YtheilnaommcjjaaCells
import Derived.Test.YtheilnaommcjjaaMaps
import Derived.ChangeKeysEq
import Derived.Deep.MidRow
import Derived.Laws.StructEq
import Derived.Maps.AppendAt
import Derived.WideKeyArgs2
import Derived.DeepKeys4
namespace Go.Proofs.Ytheilnaommcjjaa
open Go.RowKit
open Go.Maps (Keyed)

/-! ### rows -/
def row (e : Nat → Value) (n : Nat) : Array Value := ((List.range n).map e).toArray
theorem row_size (e : Nat → Value) (n : Nat) : (row e n).size = n := by simp [row]
theorem row_at (e : Nat → Value) (n j : Nat) (h : j < n) : (row e n)[j]? = some (e j) := by simp [row, h]
theorem row_none (e : Nat → Value) (n j : Nat) (h : n ≤ j) : (row e n)[j]? = none := by simp [row, h]
theorem row_congr {e e' : Nat → Value} {n : Nat} (h : ∀ j, j < n → e j = e' j) : row e n = row e' n := by
  unfold row; congr 1; exact List.map_congr_left fun j hj => h j (List.mem_range.1 hj)
def upd (e : Nat → Value) (j : Nat) (v : Value) : Nat → Value := fun i => if i = j then v else e i
theorem row_set (e : Nat → Value) (n j : Nat) (v : Value) : (row e n).setIfInBounds j v = row (upd e j v) n := by
  apply Array.ext_getElem?
  intro i
  rw [Array.getElem?_setIfInBounds]
  by_cases hi : i < n
  · rw [row_at _ _ _ hi, row_at _ _ _ hi]
    by_cases hij : j = i
    · subst hij
      rw [if_pos rfl, if_pos (by rw [row_size]; exact hi)]; simp [upd]
    · rw [if_neg hij]; simp [upd, Ne.symm hij]
  · rw [row_none _ _ _ (by omega), row_none _ _ _ (by omega)]
    split
    · rw [if_neg (by rw [row_size]; omega)]
    · rfl
theorem row_all (e : Nat → Value) (n : Nat) (h : ∀ j, (e j).oneCell' = true) : (row e n).all (·.oneCell') = true := by
  refine Array.all_eq_true_iff_forall_mem.2 fun v hv => ?_
  simp only [row, List.mem_toArray, List.mem_map] at hv
  obtain ⟨j, _, rfl⟩ := hv
  exact h j

/-! ### frames: what lies outside F stays -/
structure Fr (F : Nat → Prop) (w w' : World) : Prop where
  os : w'.os = w.os
  tape : w'.tape = w.tape
  output : w'.output = w.output
  size : w.heap.size ≤ w'.heap.size
  block : ∀ k, k < w.heap.size → ¬ F k → w'.heap[k]? = w.heap[k]?
theorem Fr.refl (F : Nat → Prop) (w : World) : Fr F w w := ⟨rfl, rfl, rfl, Nat.le_refl _, fun _ _ _ => rfl⟩
theorem Fr.trans {F F' : Nat → Prop} {a b c : World} (h : Fr F a b) (k : Fr F' b c) (hF : ∀ i, F' i → F i ∨ a.heap.size ≤ i) : Fr F a c :=
  ⟨k.os.trans h.os, k.tape.trans h.tape, k.output.trans h.output, Nat.le_trans h.size k.size, fun i hi hn =>
    (k.block i (Nat.lt_of_lt_of_le hi h.size) (fun hf => (hF i hf).elim hn (fun hge => absurd hge (by omega)))).trans (h.block i hi hn)⟩
theorem Fr.of_below {F : Nat → Prop} {w w' : World} (h : Below w.heap.size w w') : Fr F w w' := ⟨h.os, h.tape, h.output, h.size, fun k hk _ => h.block k hk⟩
theorem Fr.of_grown {F : Nat → Prop} {w w' : World} {row : Option Nat} (h : w.grownBy w' row) (hF : ∀ k, row = some k → F k) : Fr F w w' :=
  ⟨h.os, h.tape, h.output, h.size, fun k hk hn => h.block k hk (fun e => hn (hF k e.symm))⟩
theorem Fr.below {F : Nat → Prop} {w w' : World} {B : Nat} (h : Fr F w w') (hB : B ≤ w.heap.size) (hF : ∀ k, F k → B ≤ k) : Below B w w' :=
  ⟨h.os, h.tape, h.output, h.size, fun k hk => h.block k (by omega) (fun hf => absurd (hF k hf) (by omega))⟩
theorem Fr.blk {F : Nat → Prop} {w w' : World} {B : Nat} {vs : Array Value} {t : TypeId} (h : Fr F w w') (hb : Blk w B vs t) (hF : ¬ F B) : Blk w' B vs t := by
  have := hb.lt
  unfold Blk at hb ⊢; rw [h.block B this hF]; exact hb
theorem Fr.map {F : Nat → Prop} {w w' : World} {P : Program} {k : TypeId} {b : Nat} {f : Value → Option Value} (h : Fr F w w') (hb : MapF P k w b f) (hF : ¬ F b) : MapF P k w' b f := hb.kept' (h.block b hb.lt hF)
theorem Fr.own {F : Nat → Prop} {w w' : World} {base : Nat} {e : TypeId} {size : Nat} {v : Value} {n : Nat} {xs : List Value} (h : Fr F w w') (ho : w.ownsRow base e size v n xs) (hF : ∀ k, v.ownBlock = some k → ¬ F k) : w'.ownsRow base e size v n xs := by
  refine ⟨ho.1, ?_⟩
  rcases ho.2 with h1 | ⟨g, cap, cur, rfl, hb, hg, rest⟩
  · exact .inl h1
  · exact .inr ⟨g, cap, cur, rfl, hb, (h.block g (Array.getElem?_eq_some_iff.1 hg).1 (hF g rfl)).trans hg, rest⟩

/-! ### spots and lines -/
abbrev Spot := Int × Int
def ok64 (a : Int) : Prop := -9223372036854775808 ≤ a ∧ a ≤ 9223372036854775807
def spotA (s : Spot) : Array Value := #[.int .i64 s.1, .int .i64 s.2]
def spotV (s : Spot) : Value := .agg (spotA s)
structure Ln where
  u : Int
  b : Int
  c : Nat
  d : Bool
def Ln.spot (l : Ln) : Spot := (l.u, l.b)
def lnE (l : Ln) (j : Nat) : Value := if j = 0 then .int .i64 l.u else if j = 1 then .int .i64 l.b else if j = 2 then .int .u8 l.c else if j = 130 then .bool l.d else .int .u8 0
def lnA (l : Ln) : Array Value := row (lnE l) 131
def zeroLn : Ln := ⟨0, 0, 0, false⟩
theorem lnA_size (l : Ln) : (lnA l).size = 131 := row_size _ _
theorem lnA_info (l : Ln) : (Try.prog.info? 33).map (·.size) = some (lnA l).size := by rw [lnA_size]; kernel_rfl
theorem lnA_all (l : Ln) : (lnA l).all (·.oneCell') = true := row_all _ _ fun j => by
  unfold lnE
  by_cases h0 : j = 0
  · rw [if_pos h0]; rfl
  rw [if_neg h0]
  by_cases h1 : j = 1
  · rw [if_pos h1]; rfl
  rw [if_neg h1]
  by_cases h2 : j = 2
  · rw [if_pos h2]; rfl
  rw [if_neg h2]
  by_cases h3 : j = 130
  · rw [if_pos h3]; rfl
  rw [if_neg h3]; rfl
theorem lnA_zero (w : World) : (zeroValue 33).run Try.prog w = .ok (.agg (lnA zeroLn)) w := by kernel_rfl
theorem lnA_at (l : Ln) (j : Nat) (h : j < 131) : (lnA l)[j]? = some (lnE l j) := row_at _ _ _ h

theorem laidOut : laidOutB Try.prog = true := by kernel_rfl
theorem row66 : (66 : TypeId) < Try.prog.types.size := of_decide_eq_true (by kernel_rfl)
theorem wide66 : (match Try.prog.underlying 66 with | some (.array _ _) | some (.struct _) => true | _ => false) = true := by kernel_rfl
theorem spot_keyed : Keyed Try.prog 66 := Keyed.of_law (deep_law_laid laidOut (m := 2) (by omega) row66 (by kernel_rfl) wide66)
theorem wf64 {a : Int} (h : ok64 a) : (Lit.int .i64 a).wf = true := by
  unfold ok64 at h
  simp [Lit.wf, IntKind.min, IntKind.max, IntKind.bits, IntKind.signed]
  omega
theorem spot_key (s : Spot) (h1 : ok64 s.1) (h2 : ok64 s.2) : ∃ l, keyOf Try.prog 66 (spotV s) = some l := by
  have hs : Try.prog.types.size = (Try.prog.types.size - 1) + 1 := by kernel_rfl
  have hc : Try.prog.cellsOf 66 = 2 := by kernel_rfl
  have hc3 : Try.prog.cellsOf 3 = 1 := by kernel_rfl
  have hk : Try.prog.keyType 66 = true := by kernel_rfl
  unfold keyOf
  rw [Try.underlying66]
  simp only [hk, spotV, spotA, Value.formed, Try.underlying66, Value.cells, hc]
  rw [hs]
  simp only [Program.keyLits, Try.underlying66, hc]
  simp [hc3, wf64 h1, wf64 h2, Try.underlying3]

/-! ### the order: a row of spots -/
def sc : List Spot → List Value
  | [] => []
  | s :: r => .int .i64 s.1 :: .int .i64 s.2 :: sc r
theorem sc_len : ∀ L : List Spot, (sc L).length = L.length * 2
  | [] => rfl
  | s :: r => by simp only [sc, List.length_cons, sc_len r]; omega
theorem sc_fst : ∀ (L : List Spot) (i : Nat) (s : Spot), L[i]? = some s → (sc L)[i * 2]? = some (.int .i64 s.1)
  | [], i, s, h => by simp at h
  | x :: r, 0, s, h => by simp at h; subst h; rfl
  | x :: r, i + 1, s, h => by
    have := sc_fst r i s (by simpa using h)
    rw [show (i + 1) * 2 = i * 2 + 1 + 1 from by omega]
    simpa [sc] using this
theorem sc_snd : ∀ (L : List Spot) (i : Nat) (s : Spot), L[i]? = some s → (sc L)[i * 2 + 1]? = some (.int .i64 s.2)
  | [], i, s, h => by simp at h
  | x :: r, 0, s, h => by simp at h; subst h; rfl
  | x :: r, i + 1, s, h => by
    have := sc_snd r i s (by simpa using h)
    rw [show (i + 1) * 2 + 1 = i * 2 + 1 + 1 + 1 from by omega]
    simpa [sc] using this
theorem sc_append : ∀ L M : List Spot, sc (L ++ M) = sc L ++ sc M
  | [], M => rfl
  | s :: r, M => by simp [sc, sc_append r M]
theorem sc_one : ∀ (L : List Spot), ∀ u ∈ sc L, u.oneCell' = true
  | [], u, h => by simp [sc] at h
  | s :: r, u, h => by
    simp only [sc, List.mem_cons] at h
    rcases h with rfl | rfl | h
    · rfl
    · rfl
    · exact sc_one r u h

/-- v is the call's own slice of just these spots. -/
def Ord (w : World) (v : Value) (L : List Spot) : Prop := w.ownsRow 0 66 2 v L.length (sc L)
theorem Ord.kept {w w' : World} {v : Value} {L : List Spot} {row : Option Nat} (h : Ord w v L) (hg : w.grownBy w' row) (hne : v.ownBlock = none ∨ v.ownBlock ≠ row) : Ord w' v L := World.ownsRow.kept h hg hne
theorem Ord.below {w w' : World} {v : Value} {L : List Spot} (h : Ord w v L) (hb : Below w.heap.size w w') : Ord w' v L :=
  Fr.own (F := fun _ => False) (Fr.of_below hb) h (fun _ _ => id)
theorem Ord.form {w : World} {v : Value} {L : List Spot} (h : Ord w v L) :
    (v = .slice none 0 0 ∧ L = []) ∨ ∃ g cap, v = .slice (some ⟨g, 0, none⟩) L.length cap ∧ L.length ≤ cap ∧ cap ≤ maxLen ∧ g < w.heap.size ∧
      ∀ i s, L[i]? = some s → w.cell? ⟨g, i * 2, none⟩ = some (.int .i64 s.1) ∧ w.cell? ⟨g, i * 2 + 1, none⟩ = some (.int .i64 s.2) := by
  have hc := @World.ownsRow.cells _ _ _ _ _ _ _ h
  rcases h.2 with ⟨rfl, h0⟩ | ⟨g, cap, cur, rfl, _, hg, h1, h2, _⟩
  · exact .inl ⟨rfl, List.eq_nil_of_length_eq_zero h0⟩
  · refine .inr ⟨g, cap, rfl, h1, h2, (Array.getElem?_eq_some_iff.1 hg).1, fun i s hi => ?_⟩
    have hadd : ∀ j, (⟨g, 0, none⟩ : Addr).add j = ⟨g, j, none⟩ := fun j => by unfold Addr.add; split <;> simp_all
    have a1 := hc (g := g) rfl (i * 2) _ (sc_fst L i s hi)
    have a2 := hc (g := g) rfl (i * 2 + 1) _ (sc_snd L i s hi)
    rw [hadd] at a1 a2
    exact ⟨a1, a2⟩

/-- where a spot stands -/
def pos (s : Spot) (L : List Spot) : Int := if s ∈ L then ((L.idxOf s : Nat) : Int) else -1
theorem pos_at {s : Spot} {L : List Spot} {i : Nat} (hi : L[i]? = some s) (h : ∀ j, j < i → L[j]? ≠ some s) : pos s L = i := by
  have hm : s ∈ L := List.mem_of_getElem? hi
  have hlt : L.idxOf s < L.length := List.idxOf_lt_length_iff.2 hm
  have hat : L[L.idxOf s]? = some s := by rw [List.getElem?_eq_getElem hlt]; exact congrArg some (List.getElem_idxOf hlt)
  have h1 : i ≤ L.idxOf s := by
    rcases Nat.lt_or_ge (L.idxOf s) i with hl | hg
    · exact absurd hat (h _ hl)
    · exact hg
  have h2 : L.idxOf s ≤ i := by
    rcases Nat.lt_or_ge i (L.idxOf s) with hl | hg
    · have := List.not_of_lt_findIdx (p := (· == s)) hl
      obtain ⟨hi', e⟩ := List.getElem?_eq_some_iff.1 hi
      simp [e] at this
    · exact hg
  unfold pos
  rw [if_pos hm]
  omega
theorem pos_not {s : Spot} {L : List Spot} (h : ∀ j, j < L.length → L[j]? ≠ some s) : pos s L = -1 := by
  unfold pos
  refine if_neg (fun hm => ?_)
  obtain ⟨i, hi⟩ := List.mem_iff_getElem?.1 hm
  exact h i (List.getElem?_eq_some_iff.1 hi).1 hi

end Go.Proofs.Ytheilnaommcjjaa
