import Derived.Test.YtheilnaommcjjaaPut
import Derived.Test.YtheilnaommcjjaaLines
namespace Go.Proofs.Ytheilnaommcjjaa
open Go.RowKit
open Go.Maps (Keyed)

set_option maxHeartbeats 1000000 in
theorem new_any (q : Nat) (h1 : 1 ≤ q) (h8 : q ≤ 8) (w : World) :
    Calls Try.prog 9 #[.int .i64 q] w fun e w' => ∃ a m, e = .returned (.tuple #[.pointer (some ⟨a, 0, none⟩), .nilIface]) ∧ St w' a m (.slice none 0 0) q [] ∧ Below w.heap.size w w' ∧ w.heap.size ≤ a ∧ w.heap.size ≤ m := by
  have hmm := @run_makeMap Try.prog
  have i1 : (1 : Int) ≤ (q : Int) := by omega
  have i2 : (q : Int) ≤ 8 := by omega
  go_enter Try.func9, Try.ntmps9
  go_wp2
  go_ret2
  have hb := ((Below.refl w.heap.size w).alloc (Nat.le_refl _) (.map #[] 0)).alloc (by simp) (.cells #[.int .i64 q, .slice none 0 0, .map (some w.heap.size)] 64)
  refine ⟨w.heap.size + 1, w.heap.size, rfl, ⟨?_, World.ownsRow_nil _ 0 66 2, ⟨fun _ => none, (MapF.made w).alloc _, ⟨by simp, fun _ _ => rfl⟩⟩, by simp, by simp, Nat.zero_le _, h8⟩, hb, by omega, Nat.le_refl _⟩
  have := Blk.new (w.alloc (.map #[] 0)) #[.int .i64 q, .slice none 0 0, .map (some w.heap.size)] 64
  simpa using this
theorem num_full (w : World) : Calls Try.prog 20 #[full] w fun e w' => e = .returned (.int .i64 7) ∧ w' = w := by
  have hta : ∀ w, (Instr.typeAssert (.iface 52 (.int .i64 7)) 27 52 true).run Try.prog w = .ok (.tuple #[.int .i64 7, .bool true]) w := fun w => by kernel_rfl
  unfold full
  go_enter Try.func20, Try.ntmps20
  go_wp2
  go_ret
  exact ⟨rfl, rfl⟩
theorem num_nil (w : World) : Calls Try.prog 20 #[.nilIface] w fun e w' => e = .returned (.int .i64 0) ∧ w' = w := by
  go_enter Try.func20, Try.ntmps20
  go_wp2
  go_ret
  exact ⟨rfl, rfl⟩
theorem is_full (w : World) : Calls Try.prog 17 #[full, .int .i64 7] w fun e w' => e = .returned (.bool true) ∧ w' = w := by
  go_enter Try.func17, Try.ntmps17
  go_wp2_with fail
  refine (num_full w).mono ?_
  rintro e w1 ⟨rfl, rfl⟩
  go_wp2
  go_ret
  exact ⟨rfl, rfl⟩

/-! ### the fixed fact -/
/-- a cache all of whose blocks are younger than B -/
def Mine (B : Nat) (w0 w : World) (a m q : Nat) (L : List Ln) : Prop := ∃ v, St w a m v q L ∧ (∀ k, Fm a m v k → B ≤ k) ∧ Below B w0 w ∧ B ≤ w.heap.size
theorem mine_step {B : Nat} {w0 w w' : World} {a m q : Nat} {v v' : Value} {L' : List Ln} (hF : ∀ k, Fm a m v k → B ≤ k) (hb : Below B w0 w) (hB : B ≤ w.heap.size) (st' : St w' a m v' q L') (hfr : Fr (Fm a m v) w w') (hn : Near w v v') : Mine B w0 w' a m q L' := by
  refine ⟨v', st', fun k hk => ?_, hb.trans (hfr.below hB hF), Nat.le_trans hB hfr.size⟩
  rcases hk with h | h | h
  · exact hF k (.inl h)
  · exact hF k (.inr (.inl h))
  · rcases hn k h with h | h
    · exact hF k (.inr (.inr h))
    · omega
theorem Mine.below {B : Nat} {w0 w w' : World} {a m q : Nat} {L : List Ln} (h : Mine B w0 w a m q L) (hb : Below w.heap.size w w') : Mine B w0 w' a m q L := by
  obtain ⟨v, st, hF, hb0, hB⟩ := h
  exact ⟨v, st.below hb, hF, hb0.trans (hb.mono hB), Nat.le_trans hB hb.size⟩
theorem put_mine {B : Nat} {w0 w : World} {a m q : Nat} {L : List Ln} (l : Ln) (hs : ok64 l.u ∧ ok64 l.b) (h : Mine B w0 w a m q L) :
    Calls Try.prog 11 #[.pointer (some ⟨a, 0, none⟩), .agg (lnA l)] w fun e w' => e = .returned (errV (putOK q L l)) ∧ Mine B w0 w' a m q (putL q L l) := by
  obtain ⟨v, st, hF, hb0, hB⟩ := h
  exact (put_any a m v q L l hs w st).mono fun e w' ⟨v', he, st', hfr, hn⟩ => ⟨he, mine_step hF hb0 hB st' hfr hn⟩
theorem get_mine {B : Nat} {w0 w : World} {a m q : Nat} {L : List Ln} (s : Spot) (hs : ok64 s.1 ∧ ok64 s.2) (h : Mine B w0 w a m q L) :
    Calls Try.prog 10 #[.pointer (some ⟨a, 0, none⟩), .int .i64 s.1, .int .i64 s.2] w fun e w' => e = .returned (.tuple #[.agg (lnA ((findLn L s).getD zeroLn)), .bool (findLn L s).isSome]) ∧ Mine B w0 w' a m q (touch L s) := by
  obtain ⟨v, st, hF, hb0, hB⟩ := h
  exact (get_any a m v q L s hs w st).mono fun e w' ⟨v', he, st', hfr, hn⟩ => ⟨he, mine_step hF hb0 hB st' hfr hn⟩
theorem lines_mine {B : Nat} {w0 w : World} {a m q : Nat} {L : List Ln} (h : Mine B w0 w a m q L) :
    Calls Try.prog 12 #[.pointer (some ⟨a, 0, none⟩)] w fun e w' => ∃ A c, e = .returned (.slice A L.length c) ∧ Lns w' w.heap.size (.slice A L.length c) L ∧ Mine B w0 w' a m q L := by
  obtain ⟨v, st, hF, hb0, hB⟩ := h
  refine (lines_any a m v q L w st).mono fun e w' ⟨rv, he, hl, hb⟩ => ?_
  have hform : ∃ A c, rv = .slice A L.length c := by
    rcases hl.2 with ⟨rfl, h0⟩ | ⟨g, cap, cur, rfl, _⟩
    · exact ⟨none, 0, by rw [h0]⟩
    · exact ⟨_, _, rfl⟩
  obtain ⟨A, c, rfl⟩ := hform
  exact ⟨A, c, he, hl, v, st.below hb, hF, hb0.trans (hb.mono hB), Nat.le_trans hB hb.size⟩

theorem ln_set_b (b : Int) : (lnA zeroLn).setIfInBounds 1 (.int .i64 b) = lnA ⟨0, b, 0, false⟩ := by
  unfold lnA
  rw [row_set]
  refine row_congr (fun j _ => ?_)
  unfold upd lnE
  by_cases h : j = 1
  · subst h; rfl
  · rw [if_neg h]
    by_cases h0 : j = 0
    · rw [if_pos h0, if_pos h0]; rfl
    rw [if_neg h0, if_neg h0, if_neg h, if_neg h]
    rfl
theorem ok_small (n : Nat) (h : n < 100) : ok64 (n : Int) := by unfold ok64; omega

set_option maxHeartbeats 2000000 in
set_option maxRecDepth 20000 in
theorem alive_any (w : World) : Calls Try.prog 8 #[] w fun e w' => e = .returned (.bool true) ∧ Below w.heap.size w w' := by
  have hb1 := ln_set_b
  have hb2 := ln_set
  have hb3 := lnA_size
  have hz := lnA_zero
  go_enter Try.func8, Try.ntmps8
  go_wp2_with fail
  refine (new_any 2 (by omega) (by omega) w).mono ?_
  rintro e w1 ⟨a, m, rfl, st, hb, ha, hm⟩
  have M0 : Mine w.heap.size w w1 a m 2 [] := ⟨.slice none 0 0, st, fun k hk => (by
    rcases hk with h | h | h
    · omega
    · omega
    · cases h), hb, hb.size⟩
  clear st hb ha hm
  go_wp2_with fail
  refine (put_mine ⟨0, 1, 0, true⟩ ⟨ok_small 0 (by omega), ok_small 1 (by omega)⟩ M0).mono ?_
  rintro e x0 ⟨rfl, M1⟩
  rw [show errV (putOK 2 [] ⟨0, 1, 0, true⟩) = .nilIface from rfl]
  replace M1 : Mine w.heap.size w x0 a m 2 [⟨0, 1, 0, true⟩] := M1
  clear M0
  go_wp2_with fail
  refine (put_mine ⟨0, 2, 0, false⟩ ⟨ok_small 0 (by omega), ok_small 2 (by omega)⟩ M1).mono ?_
  rintro e x1 ⟨rfl, M2⟩
  rw [show errV (putOK 2 [⟨0, 1, 0, true⟩] ⟨0, 2, 0, false⟩) = .nilIface from rfl]
  replace M2 : Mine w.heap.size w x1 a m 2 [⟨0, 1, 0, true⟩, ⟨0, 2, 0, false⟩] := M2
  clear M1
  go_wp2_with fail
  refine (put_mine ⟨0, 3, 0, false⟩ ⟨ok_small 0 (by omega), ok_small 3 (by omega)⟩ M2).mono ?_
  rintro e x2 ⟨rfl, M3⟩
  rw [show errV (putOK 2 [⟨0, 1, 0, true⟩, ⟨0, 2, 0, false⟩] ⟨0, 3, 0, false⟩) = .nilIface from rfl]
  replace M3 : Mine w.heap.size w x2 a m 2 [⟨0, 1, 0, true⟩, ⟨0, 3, 0, false⟩] := M3
  clear M2
  go_wp2_with fail
  refine (get_mine (0, 2) ⟨ok_small 0 (by omega), ok_small 2 (by omega)⟩ M3).mono ?_
  rintro e x3 ⟨rfl, M4⟩
  rw [show (findLn [⟨0, 1, 0, true⟩, ⟨0, 3, 0, false⟩] (0, 2)) = none from rfl]
  replace M4 : Mine w.heap.size w x3 a m 2 [⟨0, 1, 0, true⟩, ⟨0, 3, 0, false⟩] := M4
  clear M3
  have hbx : Below x3.heap.size x3 ((x3.alloc (.cells (lnA zeroLn) 33)).setRow x3.heap.size (lnA zeroLn)) := below_setRow ((Below.refl _ _).alloc (Nat.le_refl _) _) (Nat.le_refl _) _
  have M5 := M4.below hbx
  clear hbx M4
  go_wp2_with (first | (refine store_lnW rfl _ _ rfl x3.heap.size zeroLn rfl rfl zeroLn (Blk.new x3 _ _) ?_) | fail)
  generalize (x3.alloc (.cells (lnA zeroLn) 33)).setRow x3.heap.size (lnA zeroLn) = y3 at *
  refine (put_mine ⟨0, 4, 0, true⟩ ⟨ok_small 0 (by omega), ok_small 4 (by omega)⟩ M5).mono ?_
  rintro e x5 ⟨rfl, M6⟩
  rw [show errV (putOK 2 [⟨0, 1, 0, true⟩, ⟨0, 3, 0, false⟩] ⟨0, 4, 0, true⟩) = .nilIface from rfl]
  replace M6 : Mine w.heap.size w x5 a m 2 [⟨0, 1, 0, true⟩, ⟨0, 4, 0, true⟩] := M6
  clear M5
  go_wp2_with fail
  refine (put_mine ⟨0, 5, 0, false⟩ ⟨ok_small 0 (by omega), ok_small 5 (by omega)⟩ M6).mono ?_
  rintro e x6 ⟨rfl, M7⟩
  rw [show errV (putOK 2 [⟨0, 1, 0, true⟩, ⟨0, 4, 0, true⟩] ⟨0, 5, 0, false⟩) = full from rfl]
  replace M7 : Mine w.heap.size w x6 a m 2 [⟨0, 1, 0, true⟩, ⟨0, 4, 0, true⟩] := M7
  clear M6
  go_wp2_with fail
  refine (is_full x6).mono ?_
  rintro e x7 ⟨rfl, rfl⟩
  go_wp2_with fail
  refine (lines_mine M7).mono ?_
  rintro e x8 ⟨A, c, rfl, hl, M8⟩
  go_wp2
  go_ret
  obtain ⟨v8, _, _, hb8, _⟩ := M8
  exact ⟨rfl, hb8⟩
end Go.Proofs.Ytheilnaommcjjaa
