/-
  The plain law of CacheLast; contracts in the form 'what is not the cache's stays'; an op read out of the script.
-/
import Derived.Test.YtheilnaommcjjaaEq
import Derived.Test.YtheilnaommcjjaaDrop
namespace Go.Proofs.Ytheilnaommcjjaa
open Go.RowKit
open Go.Maps (Keyed)

/-! ### the calls, what is not the cache's staying as it is -/
section
variable {a m q : Nat} {v : Value} {L : List Ln} {w : World}
theorem grow_of {v' : Value} {w' : World} (h : Fr (Fm a m v) w w') (hn : Near w v v') : Grow (Fm a m v) (Fm a m v') w w' :=
  ⟨h, fun k hk => by
    rcases hk with hk | hk | hk
    · exact .inl (.inl hk)
    · exact .inl (.inr (.inl hk))
    · exact (hn k hk).elim (fun h => .inl (.inr (.inr h))) .inr⟩
theorem get_g (s : Spot) (hs : ok64 s.1 ∧ ok64 s.2) (hst : St w a m v q L) :
    Calls Try.prog 10 #[.pointer (some ⟨a, 0, none⟩), .int .i64 s.1, .int .i64 s.2] w fun e w' => ∃ v', e = .returned (.tuple #[.agg (lnA ((findLn L s).getD zeroLn)), .bool (findLn L s).isSome]) ∧ St w' a m v' q (touch L s) ∧ Grow (Fm a m v) (Fm a m v') w w' :=
  (get_any a m v q L s hs w hst).mono fun _ _ ⟨v', h1, h2, h3, h4⟩ => ⟨v', h1, h2, grow_of h3 h4⟩
theorem put_g (l : Ln) (hs : ok64 l.u ∧ ok64 l.b) (hst : St w a m v q L) :
    Calls Try.prog 11 #[.pointer (some ⟨a, 0, none⟩), .agg (lnA l)] w fun e w' => ∃ v', e = .returned (errV (putOK q L l)) ∧ St w' a m v' q (putL q L l) ∧ Grow (Fm a m v) (Fm a m v') w w' :=
  (put_any a m v q L l hs w hst).mono fun _ _ ⟨v', h1, h2, h3, h4⟩ => ⟨v', h1, h2, grow_of h3 h4⟩
theorem clean_g (hst : St w a m v q L) :
    Calls Try.prog 15 #[.pointer (some ⟨a, 0, none⟩)] w fun e w' => e = .returned (.int .i64 (dirtyOf L).length) ∧ St w' a m v q (L.map cleanLn) ∧ Grow (Fm a m v) (Fm a m v) w w' :=
  (clean_any a m v q L w hst).mono fun _ _ ⟨h1, h2, h3⟩ => ⟨h1, h2, h3.weak (fun _ h => .inr (.inl h)), fun _ h => .inl h⟩
theorem drop_g (u : Int) (hst : St w a m v q L) :
    Calls Try.prog 16 #[.pointer (some ⟨a, 0, none⟩), .int .i64 u] w fun e w' => ∃ v', e = .returned (.int .i64 ((L.length : Int) - ((dropL u L).length : Nat))) ∧ St w' a m v' q (dropL u L) ∧ Grow (Fm a m v) (Fm a m v') w w' :=
  (drop_any a m v q L u w hst).mono fun _ _ ⟨v', h1, h2, h3, h4⟩ => ⟨v', h1, h2, grow_of h3 h4⟩
theorem lines_g (hst : St w a m v q L) :
    Calls Try.prog 12 #[.pointer (some ⟨a, 0, none⟩)] w fun e w' => ∃ A c, e = .returned (.slice A L.length c) ∧ Lns w' w.heap.size (.slice A L.length c) L ∧ Below w.heap.size w w' :=
  (lines_any a m v q L w hst).mono fun e w' ⟨rv, he, hl, hb⟩ => by
    obtain ⟨A, c, rfl⟩ : ∃ A c, rv = .slice A L.length c := by
      rcases hl.2 with ⟨rfl, h0⟩ | ⟨g, cap, cur, rfl, _⟩
      · exact ⟨none, 0, by rw [h0]⟩
      · exact ⟨_, _, rfl⟩
    exact ⟨A, c, he, hl, hb⟩
theorem dirty_g (most : Nat) (hm : most ≤ 1000) (hst : St w a m v q L) :
    Calls Try.prog 13 #[.pointer (some ⟨a, 0, none⟩), .int .i64 most] w fun e w' => ∃ A c, e = .returned (.slice A ((dirtyOf L).take most).length c) ∧ Lns w' w.heap.size (.slice A ((dirtyOf L).take most).length c) ((dirtyOf L).take most) ∧ Below w.heap.size w w' :=
  dirty_any (some ⟨a, 0, none⟩) L (by have h1 := hst.len; have h2 := hst.q8; omega) most hm w (fun W hW => lines_g (hst.below hW))
theorem St.fm_lt (hst : St w a m v q L) {k : Nat} (hk : Fm a m v k) : k < w.heap.size := by
  rcases hk with e | e | e
  · rw [e]; exact hst.blk.lt
  · obtain ⟨f, hm, _⟩ := hst.map
    rw [e]; exact hm.lt
  · exact (hst.ord.lt k e).2
end
theorem Grow.step {G G' : Nat → Prop} {S : Nat} {w0 w w' : World} (hg : Grow G G' w w') (hb : Below S w0 w) (hS : S ≤ w.heap.size) (hG : ∀ k, G k → S ≤ k) : Below S w0 w' ∧ S ≤ w'.heap.size ∧ ∀ k, G' k → S ≤ k :=
  ⟨hb.trans (hg.1.below hS hG), Nat.le_trans hS hg.1.size, fun k hk => (hg.2 k hk).elim (hG k) (fun h => Nat.le_trans hS h)⟩
/-- what is not the cache's, and lies there, goes on not being the cache's -/
theorem Grow.out {G G' : Nat → Prop} {w w' : World} (hg : Grow G G' w w') {k : Nat} (hk : ¬ G k) (hl : k < w.heap.size) : ¬ G' k := fun h => (hg.2 k h).elim hk (fun h => by omega)

/-! ### [2]int as a key -/
theorem row48 : (48 : TypeId) < Try.prog.types.size := of_decide_eq_true (by kernel_rfl)
theorem wide48 : (match Try.prog.underlying 48 with | some (.array _ _) | some (.struct _) => true | _ => false) = true := by kernel_rfl
theorem pair_keyed : Keyed Try.prog 48 := Keyed.of_law (deep_law_laid laidOut (m := 2) (by omega) row48 (by kernel_rfl) wide48)
theorem pair_key (s : Spot) (h1 : ok64 s.1) (h2 : ok64 s.2) : ∃ l, keyOf Try.prog 48 (spotV s) = some l := by
  have hs : Try.prog.types.size = (Try.prog.types.size - 1) + 1 := by kernel_rfl
  have hc : Try.prog.cellsOf 48 = 2 := by kernel_rfl
  have hc3 : Try.prog.cellsOf 3 = 1 := by kernel_rfl
  have hk : Try.prog.keyType 48 = true := by kernel_rfl
  unfold keyOf
  rw [Try.underlying48]
  simp only [hk, spotV, spotA, Value.formed, Try.underlying48, Value.cells, hc]
  rw [hs]
  simp only [Program.keyLits, Try.underlying48, hc, hc3]
  simp [show List.range 2 = [0, 1] from rfl, wf64 h1, wf64 h2, Try.underlying3]

/-! ### the plain law -/
def LastOk (L : List Ln) (g : Value → Option Value) : Prop := ∀ l ∈ L, g (spotV l.spot) = some (.agg (cellA l.c))
theorem touch_mem {L : List Ln} {s : Spot} {l : Ln} (h : l ∈ touch L s) : l ∈ L := by
  unfold touch at h
  rcases hf : findLn L s with _ | x
  · rw [hf] at h; exact h
  · rw [hf] at h
    rcases List.mem_append.1 h with h | h
    · exact (List.mem_filter.1 h).1
    · rw [List.mem_singleton.1 h]; exact (findLn_some hf).1
theorem LastOk.touch {L : List Ln} {g : Value → Option Value} (h : LastOk L g) (s : Spot) : LastOk (touch L s) g := fun l hl => h l (touch_mem hl)
theorem LastOk.drop {L : List Ln} {g : Value → Option Value} (h : LastOk L g) (u : Int) : LastOk (dropL u L) g := fun l hl => h l (List.mem_filter.1 hl).1
theorem LastOk.clean {L : List Ln} {g : Value → Option Value} (h : LastOk L g) : LastOk (L.map cleanLn) g := fun l hl => by
  obtain ⟨x, hx, rfl⟩ := List.mem_map.1 hl
  exact h x hx
theorem roomL_mem {q : Nat} {L : List Ln} {l : Ln} (h : l ∈ roomL q L) : l ∈ L := by
  unfold roomL at h
  split at h
  · exact h
  · exact List.mem_of_mem_eraseIdx h
theorem putL_no {q : Nat} {L : List Ln} {l : Ln} (h : putOK q L l = false) : putL q L l = L := by
  unfold putOK at h
  rw [Bool.or_eq_false_iff] at h
  have h1 : findLn L l.spot = none := by
    rcases hf : findLn L l.spot with _ | x
    · rfl
    · rw [hf] at h; simp at h
  unfold putL
  rw [h1]
  show (if roomB q L then _ else _) = _
  rw [h.2]
  show roomL q L = L
  have h2 := h.2
  unfold roomB at h2
  rw [Bool.or_eq_false_iff] at h2
  unfold roomL
  rw [if_neg (of_decide_eq_false h2.1)]
  have hfn : firstClean L = L.length := List.findIdx_eq_length.2 (fun x hx => by
    cases hd : x.d
    · have := List.any_eq_false.1 h2.2 x hx
      rw [hd] at this
      exact absurd rfl this
    · rfl)
  rw [hfn, List.eraseIdx_of_length_le (Nat.le_refl _)]
/-- behind a put that went well: the line put, and old ones -/
theorem putL_yes {q : Nat} {L : List Ln} {l : Ln} (h : putOK q L l = true) : ∃ R d, putL q L l = without R l.spot ++ [⟨l.u, l.b, l.c, d⟩] ∧ (l.d = true → d = true) ∧ (∀ x ∈ R, x ∈ L) := by
  unfold putL
  rcases hf : findLn L l.spot with _ | was
  · unfold putOK at h
    rw [hf] at h
    have h2 : roomB q L = true := by simpa using h
    refine ⟨roomL q L, l.d, ?_, id, fun x hx => roomL_mem hx⟩
    show (if roomB q L then _ else _) = _
    rw [h2]
    rfl
  · exact ⟨L, l.d || was.d, rfl, fun h => by rw [h]; rfl, fun x hx => hx⟩
theorem find_last (R : List Ln) (l : Ln) : findLn (without R l.spot ++ [l]) l.spot = some l := by
  unfold findLn
  rw [List.find?_append]
  have h1 : (without R l.spot).find? (fun x => decide (x.spot = l.spot)) = none := by
    rw [List.find?_eq_none]
    intro x hx
    have := of_decide_eq_true (List.mem_filter.1 hx).2
    simp [this]
  rw [h1]
  simp
theorem touch_last (R : List Ln) (l : Ln) : touch (without R l.spot ++ [l]) l.spot = without R l.spot ++ [l] := by
  unfold touch
  rw [find_last]
  show without (without R l.spot ++ [l]) l.spot ++ [l] = _
  unfold without
  rw [List.filter_append, List.filter_filter]
  simp
theorem find_drop (u b : Int) (L : List Ln) : findLn (dropL u L) (u, b) = none := by
  unfold findLn
  rw [List.find?_eq_none]
  intro x hx
  have h1 := of_decide_eq_true (List.mem_filter.1 hx).2
  simp only [decide_eq_true_eq]
  intro he
  exact h1 (by rw [show x.u = x.spot.1 from rfl, he])
theorem dirty_clean (L : List Ln) : dirtyOf (L.map cleanLn) = [] := by
  unfold dirtyOf
  rw [List.filter_eq_nil_iff]
  intro l hl
  obtain ⟨x, _, rfl⟩ := List.mem_map.1 hl
  simp [cleanLn]
theorem LastOk.put {q : Nat} {L : List Ln} {l : Ln} {g g' : Value → Option Value} (h : LastOk L g) (hok : putOK q L l = true) (h1 : g' (spotV l.spot) = some (.agg (cellA l.c))) (h2 : ∀ y, y ≠ spotV l.spot → g' y = g y) : LastOk (putL q L l) g' := by
  obtain ⟨R, d, hR, _, hm⟩ := putL_yes hok
  rw [hR]
  intro x hx
  rcases List.mem_append.1 hx with hx | hx
  · obtain ⟨h3, h4⟩ := List.mem_filter.1 hx
    have h5 := of_decide_eq_true h4
    rw [h2 _ (fun he => h5 (spotV_inj he))]
    exact h x (hm x h3)
  · rw [List.mem_singleton.1 hx]
    exact h1

/-! ### an op of the script -/
theorem load_op {w : World} {ad : Addr} {o : OpD} (h : ∀ j, j < 5 → w.cell? (ad.add j) = some (opE o j)) : (loadVar 42 ad).run Try.prog w = .ok (.agg (opA o)) w := by
  have hl : (loadCells ad 5).run Try.prog w = .ok (opA o) w := by
    have := run_loadCells_list (P := Try.prog) w ad (opA o).toList (fun j v hv => by
      have hj : j < 5 := (List.getElem?_eq_some_iff.1 hv).1
      rw [h j hj]
      rw [Array.getElem?_toList, opA_at o j hj] at hv
      exact hv)
    exact this
  have hq : Try.prog.info? 42 = some (Try.prog.info? 42).get! := by kernel_rfl
  have hs : (Try.prog.info? 42).get!.size = 5 := by kernel_rfl
  have hagg : (isAgg 42).run Try.prog w = .ok true w := by
    unfold isAgg
    rw [Sem.run_bind, run_underlying Try.underlying42 w]
    rfl
  simp only [loadVar, Sem.run_bind, hagg, sizeOf, typeInfo, run_program, Result.andThen_ok, if_true]
  rw [hq]
  simp only [Sem.run_pure, Result.andThen_ok, hs, hl]
section
variable {P : Program} {ops : Array Oper} {rest : List Oper} {o : Oper} {a : Act} {w : World} {Q : Exit → Act → World → Prop}
theorem loadW (hgd : o.guard = none) (ty : TypeId) (x : Operand) (ho : o.op = .load ty x) (ad : Addr) (hx : a.eval x = .pointer (some ad)) (v : Value) (hl : (loadVar ty ad).run P w = .ok v w)
    (h : wpList P ops Q rest (a.put o.dst v) w) : wpList P ops Q (o :: rest) a w :=
  wpList_plain hgd fun K hK => by
    unfold Oper.wp execOp
    simp only [ho, hx, Instr.loadAt, Instr.sureAddr, Sem.run_bind, Sem.run_pure, Result.andThen_ok, hl]
    exact hK _ _ h
end
end Go.Proofs.Ytheilnaommcjjaa
