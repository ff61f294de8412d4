/-
  The document's disk: a crash.
-/
import Derived.Test.YthfhilinajemhaaRef7
namespace Go.Proofs.Ythfhilinajemhaa
open Go.RowKit
open Go.Maps (Keyed int_keyed)
set_option linter.unusedVariables false

def inL (L : List Int) (x : Int) : Bool := decide (x ∈ L)
theorem Dk.settled_skip {d : Dk} (h : d.ok) (L : List Int) (x : Int) (hx : ¬ (0 ≤ x ∧ x < d.n)) : d.settled (inL (L ++ [x])) = d.settled (inL L) := by
  have ho : d.op x = none := by
    cases e : d.op x with
    | none => rfl
    | some c => have := h.2.2 x c e; exact absurd ⟨this.1, this.2.1⟩ hx
  have h1 : setOp d (inL (L ++ [x])) = setOp d (inL L) := by
    funext i
    unfold setOp inL
    by_cases e : i = x
    · rw [e, ho]; simp
    · simp [e]
  have h2 : setS d (inL (L ++ [x])) = setS d (inL L) := by
    funext i
    unfold setS inL
    by_cases e : (i : Int) = x
    · rw [e, ho]; simp
    · simp [e]
  unfold Dk.settled
  rw [h1, h2]
theorem Dk.settled_more (d : Dk) (L : List Int) (x : Nat) : (d.settled (inL L)).settled (only x) = d.settled (inL (L ++ [(x : Int)])) := by
  rw [Dk.settled_two]
  congr 1
  funext i
  unfold inL only
  rw [Bool.eq_iff_iff]
  simp
theorem Dk.settled_nil (d : Dk) : d.settled (inL []) = d := by
  have : inL [] = fun _ => false := by
    funext i
    unfold inL
    simp
  rw [this, Dk.settled_none]
/-- the lists of the first j sectors thrown away -/
def Dk.clr (d : Dk) (j : Nat) : Dk := { d with op := fun x => if x < (j : Int) then none else d.op x }
def Dk.out1 (d : Dk) (i : Nat) : Dk := { d with op := fun x => if x = (i : Int) then none else d.op x }
theorem Dk.clr_zero {d : Dk} (h : d.ok) : d.clr 0 = d := by
  have : (fun x => if x < ((0 : Nat) : Int) then none else d.op x) = d.op := by
    funext x
    split
    · rename_i hx
      cases e : d.op x with
      | none => rfl
      | some c => have := h.2.2 x c e; omega
    · rfl
  show { d with op := fun x => if x < ((0 : Nat) : Int) then none else d.op x } = d
  rw [this]
theorem Dk.clr_succ (d : Dk) (j : Nat) : (d.clr j).out1 j = d.clr (j + 1) := by
  show { d with op := fun x => if x = (j : Int) then none else if x < (j : Int) then none else d.op x } = { d with op := fun x => if x < ((j + 1 : Nat) : Int) then none else d.op x }
  congr 1
  funext x
  by_cases e : x = (j : Int)
  · rw [if_pos e, if_pos (by omega)]
  · rw [if_neg e]
    by_cases e' : x < (j : Int)
    · rw [if_pos e', if_pos (by omega)]
    · rw [if_neg e', if_neg (by omega)]
theorem Dk.clr_all {d : Dk} (h : d.ok) : (d.clr d.n).op = fun _ => none := by
  funext x
  show (if x < (d.n : Int) then none else d.op x) = none
  split
  · rfl
  · cases e : d.op x with
    | none => rfl
    | some c => have := h.2.2 x c e; omega
section
variable {w w' : World} {r gs gn gk B : Nat} {v : Nat → Value} {d : Dk} {sn : Nat → List (Array Value)} {lf : Int}
theorem RSt.nilled (h : RSt w r gs gn gk B v d sn lf) (i : Nat) (hn : Blk w' gn (row (upd v i (.slice none 0 0)) d.n) 74) (hf : Fr (fun k => k = gn) w w') :
    RSt w' r gs gn gk B (upd v i (.slice none 0 0)) (d.out1 i) (updN sn i []) lf := by
  refine ⟨hf.blk h.hr h.d_rn, hf.blk h.hs h.d_sn, hn, hf.blk h.hc (fun e => h.d_nk e.symm), ?_, ?_, ?_, ?_, ?_, h.low, h.left, ?_, ?_⟩
  · intro j
    unfold upd updN
    by_cases e : j = i
    · subst e
      rw [if_pos rfl, if_pos rfl]
      exact World.ownsRow_nil _ _ _ _
    · rw [if_neg e, if_neg e]
      exact Fr.own hf (h.own j) (fun k hk hF => h.ne_n j (hF ▸ hk))
  · intro j k b hj hk
    unfold upd at hj hk
    by_cases e : j = i
    · rw [if_pos e] at hj; cases hj
    · by_cases e' : k = i
      · rw [if_pos e'] at hk; cases hk
      · rw [if_neg e] at hj; rw [if_neg e'] at hk; exact h.apart j k b hj hk
  · intro j
    unfold upd
    by_cases e : j = i
    · rw [if_pos e]; exact fun e => by cases e
    · rw [if_neg e]; exact h.off j
  · intro j c hc
    unfold updN at hc
    by_cases e : j = i
    · rw [if_pos e] at hc; cases hc
    · rw [if_neg e] at hc; exact h.cel j c hc
  · intro j
    show (if (j : Int) = (i : Int) then none else d.op (j : Int)) = _
    unfold updN
    by_cases e : j = i
    · subst e; simp
    · rw [if_neg (by omega), if_neg e]; exact h.last j
  · intro j
    show ((updN sn i [] j).length : Int) ≤ d.st
    unfold updN
    have := h.len j
    by_cases e : j = i
    · rw [if_pos e, List.length_nil]; omega
    · rw [if_neg e]; exact this
  · refine ⟨h.ok.1, h.ok.2.1, fun j c' hj => ?_⟩
    have hj' : (if j = (i : Int) then none else d.op j) = some c' := hj
    split at hj'
    · cases hj'
    · exact h.ok.2.2 j c' hj'
theorem RTo.nilled {W : World} (h : RTo w r gs gn gk B v d lf W) (i : Nat) (hi : i < d.n) : RTo w r gs gn gk B v (d.out1 i) lf (W.setCell ⟨gn, i, none⟩ (.slice none 0 0)) := by
  obtain ⟨v1, sn1, h, hg⟩ := h
  have hf := Fr.cell W gn i (.slice none 0 0)
  have hn := h.hn.set i (.slice none 0 0)
  rw [row_set] at hn
  refine ⟨_, _, h.nilled i hn hf, hg.1.trans hf (fun k e => (hg.2 k (.inr (.inr (.inl e))))), fun k hk => hg.2 k (rl_upd hk)⟩
theorem RTo.fuse {W W' : World} (h : RTo w r gs gn gk B v d lf W) {ar dn : Bool} {lf' dlf : Int} (hb : Blk W' r (rfA (.slice (some ⟨gs, 0, none⟩) d.n d.n) (.slice (some ⟨gn, 0, none⟩) d.n d.n) (.slice (some ⟨gk, 0, none⟩) d.k d.k) d.st ar lf' dn) 77) (hf : Fr (fun k => k = r) W W') (hl : ar = true → lf' = dlf) :
    RTo w r gs gn gk B v (d.set ar dlf dn d.st) lf' W' := by
  obtain ⟨v1, sn1, h, hg⟩ := h
  exact ⟨v1, sn1, h.moved hb hf hl (Int.le_refl _), hg.1.trans hf (fun k e => hg.2 k (.inl e)), hg.2⟩
set_option maxHeartbeats 2000000 in
theorem rcrash (h : RSt w r gs gn gk B v d sn lf) (A : Option Addr) (c : Nat) (L : List Int) (hL : L.length ≤ 100000) (hst : d.st ≤ 100000) (S : Nat) (hS : S ≤ w.heap.size) (hSB : S ≤ B) (hR : RI w S A L) : Calls Try.prog 37 #[.pointer (some ⟨r, 0, none⟩), .slice A L.length c] w (RAns w r gs gn gk B v (.tuple #[]) (d.crashed L) lf) := by
  have H := Lib.hid h
  have HR := Lib.hid hR
  have hn2 := h.ok.1
  have HO := Lib.hid h.ok
  have T0 := Lib.hid (RTo.refl h)
  clear h hR
  go_enter Try.func37, Try.ntmps37
  go_wp2
  go_loopw [4] (fun i wr => ∃ k : Nat, k ≤ L.length ∧ i = .int .i64 k ∧ RTo w r gs gn gk B v (d.settled (inL (L.take k))) lf wr) (fun i _ => (L.length - (Lib.intOf i).toNat))
  case atStart => exact ⟨0, by omega, rfl, by rw [List.take_zero, Dk.settled_nil]; exact T0.out⟩
  case round =>
    obtain ⟨k, hk, rfl, v1, sn1, h1, hg⟩ := hrel
    by_cases hlt : k < L.length
    · obtain ⟨ad, hA, _, hc⟩ := (HR.out.fr hg.1 hS (fun j hj => Nat.le_trans hSB (H.out.lt hj).1)) k L[k] (List.getElem?_eq_getElem hlt)
      subst hA
      have htk := Lib.hid (show L.take (k + 1) = L.take k ++ [L[k]] from by rw [List.take_succ_eq_append_getElem hlt])
      generalize L[k] = x at *
      have hk0 : (0 : Int) ≤ (k : Int) := by omega
      have hkl : (k : Int) < (L.length : Int) := by omega
      have y0 : wr.cell? ⟨r, 0, none⟩ = some (.slice (some ⟨gs, 0, none⟩) d.n d.n) := rf0 h1.hr
      by_cases hx : 0 ≤ x ∧ x < d.n
      · obtain ⟨j, rfl⟩ : ∃ j : Nat, x = j := ⟨x.toNat, by omega⟩
        have hx1 := hx.1
        have hx2 := hx.2
        have HG := Lib.hid hg
        have H1 := Lib.hid h1
        clear hx h1 hg
        go_wp2_with fail
        go_quiet (fail)
        have hbq : Below wr.heap.size wr (wr.drewN nq) := Below.drewN (Below.refl _ _) nq
        have C := Lib.hid ((rsettle (H1.out.below hbq) j (by show j < d.n; omega) hst).mono RSettled.to)
        have G2 := Lib.hid (show Grow (Rl r gs gn gk v) (Rl r gs gn gk v1) w (wr.drewN nq) from ⟨HG.out.1.trans (Fr.of_below hbq : Fr (fun _ => False) _ _) (fun _ h => h.elim), HG.out.2⟩)
        clear hbq
        go_wp2_with (first | (go_at_call 53; refine C.out.mono ?_; rintro e0 W3 ⟨rfl, T3⟩; have T3' := Lib.hid (RTo.trans G2.out T3); clear T3) | fail)
        go_roundw
        case rel => exact ⟨k + 1, by omega, by go_num, by rw [htk.out, ← Dk.settled_more]; exact T3'.out⟩
        case measure => simp [Lib.intOf]; omega
      · have hbq : ∀ nq, RTo w r gs gn gk B v (d.settled (inL (L.take k ++ [x]))) lf (wr.drewN nq) := fun nq => by
          rw [Dk.settled_skip HO.out _ _ hx]
          have hbq : Below wr.heap.size wr (wr.drewN nq) := Below.drewN (Below.refl _ _) nq
          exact ⟨v1, sn1, h1.below hbq, hg.1.trans (Fr.of_below hbq : Fr (fun _ => False) _ _) (fun _ h => h.elim), hg.2⟩
        have HQ := Lib.hid hbq
        clear h1 hg hbq
        by_cases hx0 : 0 ≤ x
        · have hx2 : (d.n : Int) ≤ x := by omega
          have hx3 : decide (x < (d.n : Int)) = false := decide_eq_false (by omega)
          clear hx
          go_wp2_with fail
          go_quiet (fail)
          go_wp2
          go_roundw
          case rel => exact ⟨k + 1, by omega, by go_num, by rw [htk.out]; exact HQ.out nq⟩
          case measure => simp [Lib.intOf]; omega
        · have hx3 : decide (0 ≤ x) = false := decide_eq_false hx0
          clear hx
          go_wp2_with fail
          go_quiet (fail)
          go_wp2
          go_roundw
          case rel => exact ⟨k + 1, by omega, by go_num, by rw [htk.out]; exact HQ.out nq⟩
          case measure => simp [Lib.intOf]; omega
    · obtain rfl : k = L.length := by omega
      have T1 : Hid (RTo w r gs gn gk B v ((d.settled (inL L)).clr 0) lf wr) := by
        rw [Dk.clr_zero (Dk.settled_ok HO.out _)]
        rw [List.take_length] at h1
        exact ⟨v1, sn1, h1, hg⟩
      have hok2 := Lib.hid (Dk.settled_ok HO.out (inL L))
      clear h1 hg
      go_wp2
      go_loopw [5] (fun i wr => ∃ k : Nat, k ≤ d.n ∧ i = .int .i64 k ∧ RTo w r gs gn gk B v ((d.settled (inL L)).clr k) lf wr) (fun i _ => (d.n - (Lib.intOf i).toNat))
      case atStart => exact ⟨0, by omega, rfl, T1.out⟩
      case round =>
        obtain ⟨k, hk, rfl, T2⟩ := hrel
        obtain ⟨v3, b1, b2, b3, b4⟩ := T2.rf
        have y1 : wr.cell? ⟨r, 1, none⟩ = some (.slice (some ⟨gn, 0, none⟩) d.n d.n) := rf1 b1
        have B1 := Lib.hid b1
        have B3 := Lib.hid b3
        clear b1 b2 b3 b4
        by_cases hlt : k < d.n
        · have i1 : (k : Int) < (d.n : Int) := by omega
          have i2 : (0 : Int) ≤ (k : Int) := by omega
          have y3 : wr.cell? ⟨gn, k, none⟩ = some (v3 k) := B3.out.cell (row_at v3 d.n k hlt)
          have y4 : wr.frozen? ⟨gn, k, none⟩ = false := B3.out.frozen k
          have T3 := Lib.hid (T2.nilled k hlt)
          clear T2
          go_wp2
          go_roundw
          case rel => exact ⟨k + 1, by omega, by go_num, by rw [← Dk.clr_succ]; exact T3.out⟩
          case measure => simp [Lib.intOf]; omega
        · obtain rfl : k = d.n := by omega
          have z6 := B1.out.frozen 6
          have BA := B1.out.set 6 (.bool false)
          have z4 := BA.frozen 4
          have y6 := rf6 B1.out
          have y4 : (wr.setCell ⟨r, 6, none⟩ (.bool false)).cell? ⟨r, 4, none⟩ = some (.bool d.ar) := BA.cell (j := 4) rfl
          have BC := Lib.hid (BA.set 4 (.bool false))
          have FF := Lib.hid ((Fr.cell wr r 6 (.bool false)).trans (Fr.cell (wr.setCell ⟨r, 6, none⟩ (.bool false)) r 4 (.bool false)) (fun i hi => .inl hi))
          have T3 := Lib.hid T2
          clear T2 BA
          go_wp2
          go_end0
          have T4 := T3.out.fuse (ar := false) (dn := false) (lf' := lf) (dlf := 0) BC.out FF.out (fun e => by cases e)
          have ed : ((d.settled (inL L)).clr d.n).set false 0 false d.st = d.crashed L := by
            have := Dk.clr_all hok2.out
            show ({ n := d.n, s := setS d (inL L), op := ((d.settled (inL L)).clr d.n).op, k := d.k, ct := d.ct, ar := false, lf := 0, dn := false, st := d.st } : Dk) = _
            rw [show ((d.settled (inL L)).clr d.n).op = fun _ => none from this]
            rfl
          rw [← ed]
          exact ⟨rfl, T4⟩
end
end Go.Proofs.Ythfhilinajemhaa
