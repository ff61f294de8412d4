/-
  The document's disk: sectors flushed.
-/
import Derived.Test.YthfhilinajemhaaRef5
namespace Go.Proofs.Ythfhilinajemhaa
open Go.RowKit
open Go.Maps (Keyed int_keyed)
set_option linter.unusedVariables false

theorem Dk.settled_none (d : Dk) : d.settled (fun _ => false) = d := by
  unfold Dk.settled
  have h1 : setOp d (fun _ => false) = d.op := by funext i; unfold setOp; simp
  have h2 : setS d (fun _ => false) = d.s := by funext i; unfold setS; simp
  rw [h1, h2]
theorem Dk.settled_two (d : Dk) (p q : Int → Bool) : (d.settled p).settled q = d.settled (fun i => p i || q i) := by
  have h1 : setOp (d.settled p) q = setOp d (fun i => p i || q i) := by
    funext i
    show (if q i = true then none else (if p i = true then none else d.op i)) = (if (p i || q i) = true then none else d.op i)
    cases q i <;> cases p i <;> simp
  have h2 : setS (d.settled p) q = setS d (fun i => p i || q i) := by
    funext i
    show (if q i = true then (if p i = true then none else d.op i).getD (if p i = true then (d.op i).getD (d.s i) else d.s i) else (if p i = true then (d.op i).getD (d.s i) else d.s i)) = (if (p i || q i) = true then (d.op i).getD (d.s i) else d.s i)
    cases q i <;> cases p i <;> simp
  show { (d.settled p) with op := setOp (d.settled p) q, s := setS (d.settled p) q } = { d with op := setOp d (fun i => p i || q i), s := setS d (fun i => p i || q i) }
  rw [h1, h2]
  rfl
theorem Dk.settled_zero (d : Dk) (a : Int) : d.settled (inR a 0) = d := by
  have : inR a 0 = fun _ => false := by
    funext i
    unfold inR
    rw [decide_eq_false (by omega)]
  rw [this, Dk.settled_none]
theorem Dk.settled_succ (d : Dk) (a : Int) (k : Nat) : (d.settled (inR a k)).settled (fun x => decide (x = a + k)) = d.settled (inR a ((k + 1 : Nat) : Int)) := by
  rw [Dk.settled_two]
  congr 1
  funext i
  unfold inR
  rw [Bool.eq_iff_iff]
  simp only [Bool.or_eq_true, decide_eq_true_eq]
  omega
theorem only_add {a k e : Nat} (h : a + k = e) : only e = fun x => decide (x = (a : Int) + k) := by
  funext x
  unfold only
  congr 1
  rw [← h]; simp
section
variable {w w' : World} {r gs gn gk B : Nat} {v : Nat → Value} {d : Dk} {sn : Nat → List (Array Value)} {lf : Int}
theorem RTo.trans {W W2 : World} {v1 : Nat → Value} {d' : Dk} {lf2 : Int} (hg : Grow (Rl r gs gn gk v) (Rl r gs gn gk v1) w W) (h2 : RTo W r gs gn gk B v1 d' lf2 W2) : RTo w r gs gn gk B v d' lf2 W2 := by
  obtain ⟨v2, sn2, h, hg2⟩ := h2
  exact ⟨v2, sn2, h, hg.trans hg2⟩
theorem rflush_no (h : RSt w r gs gn gk B v d sn lf) (a n : Int) (ha64 : ok64 a) (hn64 : ok64 n) (hi : ¬ (0 ≤ a ∧ 0 ≤ n ∧ n ≤ d.n - a)) : Calls Try.prog 30 #[.pointer (some ⟨r, 0, none⟩), .int .i64 a, .int .i64 n] w (RAns w r gs gn gk B v (.int .i64 1) d lf) := by
  have y0 := rf0 h.hr
  have hn2 := h.ok.1
  have H := Lib.hid (RTo.refl h)
  clear h
  by_cases h1 : a < 0
  · go_enter Try.func30, Try.ntmps30
    go_wp2
    go_ret
    exact ⟨rfl, H.out⟩
  by_cases h2 : n < 0
  · clear hi
    go_enter Try.func30, Try.ntmps30
    go_wp2
    go_ret
    exact ⟨rfl, H.out⟩
  by_cases h3 : (d.n : Int) < a
  · clear hi
    go_enter Try.func30, Try.ntmps30
    go_wp2
    go_ret
    exact ⟨rfl, H.out⟩
  have h4 : (d.n : Int) - a < n := by omega
  have e4 : IntKind.i64.wrap ((d.n : Int) - a) = (d.n : Int) - a := wrap_ok ⟨by omega, by omega⟩
  clear hi
  go_enter Try.func30, Try.ntmps30
  go_wp2
  go_ret
  exact ⟨rfl, H.out⟩
theorem rflush_down (h : RSt w r gs gn gk B v d sn lf) (a n : Int) (ha64 : ok64 a) (hn64 : ok64 n) (h1 : 0 ≤ a) (h2 : 0 ≤ n) (h3 : n ≤ d.n - a) (ho : d.off) : Calls Try.prog 30 #[.pointer (some ⟨r, 0, none⟩), .int .i64 a, .int .i64 n] w (RAns w r gs gn gk B v (.int .i64 5) d.downed lf) := by
  have y0 := rf0 h.hr
  have hn2 := h.ok.1
  have HN := Lib.hid (rstep_off h ho)
  have e4 : IntKind.i64.wrap ((d.n : Int) - a) = (d.n : Int) - a := wrap_ok ⟨by omega, by omega⟩
  clear h
  go_enter Try.func30, Try.ntmps30
  go_wp2_with (first | (go_at_call 52; refine HN.out.mono ?_; rintro e W2 ⟨rfl, T2⟩; have TT := Lib.hid T2; clear T2) | fail)
  go_loop [8] (fun i => i = .int .i64 a) (fun _ => 0)
  case atStart => rfl
  case round =>
    obtain rfl := hrel
    go_wp2
    go_ret
    exact ⟨rfl, TT.out⟩
set_option maxHeartbeats 1000000 in
theorem rflush_yes (h : RSt w r gs gn gk B v d sn lf) (a n : Nat) (hn : a + n ≤ d.n) (ho : ¬ d.off) (hr : d.room) (hst : d.st ≤ 90000) : Calls Try.prog 30 #[.pointer (some ⟨r, 0, none⟩), .int .i64 a, .int .i64 n] w (RAns w r gs gn gk B v (.int .i64 0) (d.stepped.settled (inR a n)) (lfS d lf)) := by
  have y0 := rf0 h.hr
  have hn2 := h.ok.1
  have HN := Lib.hid (rstep_on h ho hr)
  have e4 : IntKind.i64.wrap ((d.n : Int) - a) = (d.n : Int) - a := wrap_ok ⟨by omega, by omega⟩
  have e5 : IntKind.i64.wrap ((a : Int) + n) = (a : Int) + n := wrap_ok ⟨by omega, by omega⟩
  have i1 : ¬ (d.n : Int) < (a : Int) := by omega
  have i2 : ¬ (d.n : Int) - a < (n : Int) := by omega
  clear h
  go_enter Try.func30, Try.ntmps30
  go_wp2_with (first | (go_at_call 52; refine HN.out.mono ?_; rintro e W2 ⟨rfl, T2⟩; have TT := Lib.hid T2; clear T2) | fail)
  go_loopw [8] (fun i wr => ∃ k : Nat, k ≤ n ∧ i = .int .i64 ((a + k : Nat) : Int) ∧ RTo w r gs gn gk B v (d.stepped.settled (inR a k)) (lfS d lf) wr) (fun i _ => (a + n - intOf i).toNat)
  case atStart => exact ⟨0, by omega, rfl, by rw [show ((0 : Nat) : Int) = 0 from rfl, Dk.settled_zero]; exact TT.out⟩
  case round =>
    obtain ⟨k, hk, rfl, v1, sn1, h1, hg⟩ := hrel
    generalize hak : a + k = e at *
    by_cases hlt : k < n
    · have C := Lib.hid ((rsettle h1 e (by show e < d.n; omega) (by show d.st + 1 ≤ 100000; omega)).mono RSettled.to)
      have hlt2 : (e : Int) < (a : Int) + n := by omega
      have he : e + 1 ≤ 2048 := by omega
      have HG := Lib.hid hg
      have HK := Lib.hid hak
      clear h1 hg hak
      go_wp2_with (first | (go_at_call 53; refine C.out.mono ?_; rintro e0 W3 ⟨rfl, T3⟩; have T3' := Lib.hid (RTo.trans HG.out T3); clear T3) | fail)
      go_roundw
      case rel => exact ⟨k + 1, by omega, by rw [← HK.out]; go_num, by rw [← Dk.settled_succ, ← only_add HK.out]; exact T3'.out⟩
      case measure => simp [intOf]; omega
    · obtain rfl : k = n := by omega
      have hlt2 : (a : Int) + k ≤ (e : Int) := by omega
      have HH : Hid (RTo w r gs gn gk B v (d.stepped.settled (inR a k)) (lfS d lf) wr) := ⟨v1, sn1, h1, hg⟩
      clear h1 hg hak
      go_wp2
      go_ret
      exact ⟨rfl, HH.out⟩
end
end Go.Proofs.Ythfhilinajemhaa
