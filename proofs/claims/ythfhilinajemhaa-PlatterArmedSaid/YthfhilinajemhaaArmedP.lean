/-
  PlatterArmed: for every number and every list of kinds the law returns true and leaves its arguments alone. No condition.
-/
import Derived.Test.YthfhilinajemhaaExample
import Derived.Test.YthfhilinajemhaaOpen
namespace Go.Proofs.Ythfhilinajemhaa
open Go.ChangeShapes Go.WideShapes Go.ChangeAt Go.RowKit
open Go.Maps (Keyed)
set_option linter.unusedVariables false

theorem raise_m {S : Nat} {w0 w : World} {p m g gc : Nat} {d : Dk} (h : Mine S w0 w p m g gc d) (i : Nat) (x : Int) (hi : i < d.k) (hx : d.ct i ≤ x) (ho : ¬ d.off) (hr : d.room) : Calls Try.prog 13 #[.pointer (some ⟨p, 0, none⟩), .int .i64 i, .int .i64 x] w (LeftF S w0 w p m g gc .nilIface (d.stepped.raised i x)) :=
  (raised_yes h.disk i x hi hx ho hr).mono fun _ _ ⟨he, hd, hf⟩ => ⟨he, h.step hd hf (fun _ h => dl_pc h), hf.weak (fun _ h => dl_pc h)⟩
theorem raise_m_down {S : Nat} {w0 w : World} {p m g gc : Nat} {d : Dk} (h : Mine S w0 w p m g gc d) (i : Nat) (x : Int) (hi : i < d.k) (hx : d.ct i ≤ x) (ho : d.off) : Calls Try.prog 13 #[.pointer (some ⟨p, 0, none⟩), .int .i64 i, .int .i64 x] w (LeftF S w0 w p m g gc (errP 5) d.downed) :=
  (raised_down h.disk i x hi hx ho).mono fun _ _ ⟨he, hd, hf⟩ => ⟨he, h.step hd hf (fun _ h => dl_p h), hf.weak (fun _ h => dl_p h)⟩
theorem arm_m {S : Nat} {w0 w : World} {p m g gc : Nat} {d : Dk} (h : Mine S w0 w p m g gc d) (n : Int) (hn : 0 ≤ n) : Calls Try.prog 17 #[.pointer (some ⟨p, 0, none⟩), .int .i64 n] w (LeftF S w0 w p m g gc .nilIface (d.set true n d.dn d.st)) :=
  (armd_yes h.disk n hn).mono fun _ _ ⟨he, hd, hf⟩ => ⟨he, h.step hd hf (fun _ h => dl_p h), hf.weak (fun _ h => dl_p h)⟩
theorem cel_set (x : Int) : Cel (zc.setIfInBounds 0 (.int .u8 x)) := by rw [one_set]; exact Cel.one x
theorem run_min3 (i j k : Int) (w : World) (h : (if j < i then j else i) = k) : (Builtin.min_ #[3, 3] 3 #[.int .i64 i, .int .i64 j]).run Try.prog w = .ok (.int .i64 k) w := by
  simp [Builtin.min_, Builtin.min2, h]
theorem quiet_min {o : Oper} {a : Act} {C : World → Prop} {K : Act → Prop} (x y : Operand) (ho : o.op = .call { callee := .builtin .min, args := #[x, y], argTypes := #[3, 3] }) (hty : o.type = 3) (i j k : Int) (hx : a.eval x = .int .i64 i) (hy : a.eval y = .int .i64 j) (hv : (if j < i then j else i) = k)
    (hk : K (a.put o.dst (.int .i64 k))) : o.quiet Try.prog a C K :=
  quiet_value (fun w _ => by
    have h1 := run_min3 i j k w hv
    unfold execOp
    simp only [ho, hty]
    show Sem.run Try.prog (do
      let r ← (do pure (Next.value (← Builtin.min_ #[3, 3] 3 (#[x, y].map a.eval))))
      pure r) w = _
    have : (#[x, y].map a.eval) = #[.int .i64 i, .int .i64 j] := by simp [hx, hy]
    rw [this]
    simp only [Sem.run_bind, h1, Result.andThen_ok, Sem.run_pure]) hk
/-- what holds between two rounds: m steps armed, k rounds over -/
structure AInv (w0 W : World) (p m g gc : Nat) (a k : Nat) (d : Dk) : Prop where
  mine : Mine w0.heap.size w0 W p m g gc d
  n : d.n = 4
  kk : d.k = 2
  ar : d.ar = true
  dn : d.dn = decide (a < k)
  st : d.st = ((min k a : Nat) : Int)
  lf : d.lf = (a : Int) - (min k a : Nat)
  ct : d.ct 1 ≤ k
theorem AInv.on {w0 W : World} {p m g gc a k : Nat} {d : Dk} (h : AInv w0 W p m g gc a k d) (hk : k < a) : ¬ d.off := by
  unfold Dk.off
  rw [h.dn, h.lf, h.ar]
  rintro (h1 | ⟨_, h1⟩)
  · rw [decide_eq_true_iff] at h1; omega
  · omega
theorem AInv.gone {w0 W : World} {p m g gc a k : Nat} {d : Dk} (h : AInv w0 W p m g gc a k d) (hk : a ≤ k) : d.off := by
  unfold Dk.off
  rw [h.dn, h.lf, h.ar]
  by_cases hk2 : a < k
  · left; exact decide_eq_true hk2
  · right; exact ⟨rfl, by omega⟩
theorem AInv.room {w0 W : World} {p m g gc a k : Nat} {d : Dk} (h : AInv w0 W p m g gc a k d) (ha : a ≤ 1000) : d.room :=
  room_of h.st h.lf (by omega)
theorem AInv.step {w0 W W' : World} {p m g gc a k : Nat} {d d' : Dk} (h : AInv w0 W p m g gc a k d) (hk : k < a) (hm : Mine w0.heap.size w0 W' p m g gc d') (h1 : d'.n = d.n) (h2 : d'.k = d.k) (h3 : d'.ar = d.ar) (h4 : d'.dn = d.dn) (h5 : d'.st = d.st + 1) (h6 : d'.lf = d.lf - 1) (h7 : d'.ct 1 ≤ k + 1) : AInv w0 W' p m g gc a (k + 1) d' :=
  ⟨hm, h1.trans h.n, h2.trans h.kk, h3.trans h.ar, by rw [h4, h.dn, decide_eq_false (by omega), decide_eq_false (by omega)], by rw [h5, h.st]; omega, by rw [h6, h.lf]; omega, by omega⟩
theorem AInv.down {w0 W W' : World} {p m g gc a k : Nat} {d : Dk} (h : AInv w0 W p m g gc a k d) (hk : a ≤ k) (hm : Mine w0.heap.size w0 W' p m g gc d.downed) : AInv w0 W' p m g gc a (k + 1) d.downed :=
  ⟨hm, h.n, h.kk, h.ar, (decide_eq_true (by omega)).symm, by show d.st = _; rw [h.st]; omega, by show d.lf = _; rw [h.lf]; omega, by have := h.ct; show d.ct 1 ≤ _; omega⟩
theorem um50 (a0 : Int) : ∃ a : Nat, a < 50 ∧ wrap64 ((IntKind.u64.wrap a0).tmod 50) = a := by
  have h : IntKind.u64.wrap a0 = a0 % 18446744073709551616 := by simp [IntKind.wrap, IntKind.bits, IntKind.signed]
  have h0 := Int.emod_nonneg a0 (show (18446744073709551616 : Int) ≠ 0 by decide)
  rw [h, Int.tmod_eq_emod_of_nonneg h0]
  have h1 := Int.emod_nonneg (a0 % 18446744073709551616) (show (50 : Int) ≠ 0 by decide)
  have h2 := Int.emod_lt_of_pos (a0 % 18446744073709551616) (show (0 : Int) < 50 by decide)
  refine ⟨(a0 % 18446744073709551616 % 50).toNat, by omega, ?_⟩
  have e : wrap64 (a0 % 18446744073709551616 % 50) = a0 % 18446744073709551616 % 50 := by unfold wrap64; omega
  rw [e]; omega
theorem um3 (a0 : Int) : (IntKind.u64.wrap a0).tmod 3 = 0 ∨ (IntKind.u64.wrap a0).tmod 3 = 1 ∨ (IntKind.u64.wrap a0).tmod 3 = 2 := by
  have h : IntKind.u64.wrap a0 = a0 % 18446744073709551616 := by simp [IntKind.wrap, IntKind.bits, IntKind.signed]
  have h0 := Int.emod_nonneg a0 (show (18446744073709551616 : Int) ≠ 0 by decide)
  rw [h, Int.tmod_eq_emod_of_nonneg h0]
  omega
set_option maxHeartbeats 4000000 in
set_option maxRecDepth 20000 in
theorem platterArmed_walk (a0 : Int) (ha0 : ok64 a0) (A : Option Addr) (n c : Nat) (zs : List Int) (hz : zs.length = n) (_ : n ≤ c) (hcm : c ≤ maxLen) (w : World) (hr : RI w w.heap.size A zs) (hok : ∀ z ∈ zs, ok64 z) :
    Calls Try.prog 5 #[.int .i64 a0, .slice A n c] w fun e w' => e = .returned (.bool true) ∧ Below w.heap.size w w' := by
  subst hz
  clear hcm
  unfold ok64 at ha0
  obtain ⟨ha1, ha2⟩ := ha0
  by_cases hbig : (300 : Int) < (zs.length : Int)
  · go_enter Try.func5, Try.ntmps5
    go_wp2_with fail
    refine (alive_any w).mono ?_
    rintro e w1 ⟨rfl, hb1⟩
    go_wp2
    go_ret
    exact ⟨rfl, hb1⟩
  have HR := Lib.hid hr
  have HOK := Lib.hid hok
  clear hr hok
  go_enter Try.func5, Try.ntmps5
  go_wp2_with fail
  refine (alive_any w).mono ?_
  rintro e w1 ⟨rfl, hb1⟩
  go_wp2_with fail
  refine (new_m 4 2 (by omega) (by omega) hb1 hb1.size).mono ?_
  rintro e w2 ⟨p, m, g, gc, rfl, M0, hb2, hd2⟩
  clear hb2 hd2 hb1
  go_wp2_with fail
  obtain ⟨a, ha, hea⟩ := um50 a0
  rw [hea]
  clear hea
  refine (arm_m M0 (a : Int) (by omega)).mono ?_
  rintro e w3 ⟨rfl, M1, _⟩
  have I0 : Hid (AInv w w3 p m g gc a 0 ((d0 4 2).set true a (d0 4 2).dn (d0 4 2).st)) := Lib.hid ⟨M1, rfl, rfl, rfl, (decide_eq_false (by omega)).symm, by show (0 : Int) = _; simp, by show (a : Int) = _; simp, by show (0 : Int) ≤ _; simp⟩
  clear M0 M1
  go_wp2_with fail
  have hlen : zs.length ≤ 300 := by omega
  have hz := zc_zero
  have hs := zc_size
  have hne := zc_ne
  have D := isC_any 5 5 (by omega) (by omega)
  unfold errP at D
  have HDD := Lib.hid D
  clear D
  go_loopw [31] (fun i wr => ∃ (k : Nat) (d : Dk), k ≤ zs.length ∧ i = .int .i64 k ∧ Hid (AInv w wr p m g gc a k d)) (fun i _ => zs.length - (Lib.intOf i).toNat)
  case atStart => exact ⟨0, _, Nat.zero_le _, rfl, I0⟩
  case round =>
    obtain ⟨k, d, hk, rfl, hI⟩ := hrel
    by_cases hlt : k < zs.length
    · obtain ⟨ad, hA, hS, hcell0⟩ := HR.out k zs[k] (List.getElem?_eq_getElem hlt)
      subst hA
      have hcell : wr.cell? (ad.add k) = some (.int .i64 zs[k]) := (hI.out.mine.bel.cell (p := ad.add k) (by rw [addr_add_block]; exact hS)).trans hcell0
      clear hcell0 hS
      generalize zs[k] = x at *
      have hkk : 1 < d.k := by rw [hI.out.kk]; omega
      have HKK := Lib.hid hkk
      have hrm := Lib.hid (hI.out.room (by omega))
      have hk0 : (0 : Int) ≤ (k : Int) := by omega
      have hct := Lib.hid hI.out.ct
      have hn4 := Lib.hid hI.out.n
      clear hkk
      by_cases hka : (k : Int) < (a : Int)
      · have hof := Lib.hid (hI.out.on (by omega))
        have fin : ∀ d' w', Hid (Mine w.heap.size w w' p m g gc d') → d'.n = d.n → d'.k = d.k → d'.ar = d.ar → d'.dn = d.dn → d'.st = d.st + 1 → d'.lf = d.lf - 1 → d'.ct 1 ≤ k + 1 → Hid (AInv w w' p m g gc a (k + 1) d') := fun d' w' h h1 h2 h3 h4 h5 h6 h7 => Lib.hid (hI.out.step (by omega) h.out h1 h2 h3 h4 h5 h6 h7)
        have FIN := Lib.hid fin
        clear fin
        rcases um3 x with hm | hm | hm
        · go_wp2_with (first
            | (go_at_call 18; refine (write_m hI.out.mine _ _ (cel_set _) ⟨by omega, by rw [hn4.out]; omega⟩ hof.out hrm.out).mono ?_; rintro e w4 ⟨rfl, M4, _⟩; have HM4 := Lib.hid M4; clear M4)
            | fail)
          go_roundw
          case rel => exact ⟨k + 1, _, by omega, by go_num, FIN.out _ _ HM4 rfl rfl rfl rfl rfl rfl (by have := hct.out; show d.ct 1 ≤ _; omega)⟩
          case measure => simp [Lib.intOf]; omega
        · go_wp2_with (first
            | (go_at_call 19; refine (flush_m hI.out.mine 0 4 ⟨by omega, by omega⟩ ⟨by omega, by omega⟩ ⟨by omega, by omega, by rw [hn4.out]; omega⟩ hof.out hrm.out).mono ?_; rintro e w4 ⟨rfl, M4, _⟩; have HM4 := Lib.hid M4; clear M4)
            | fail)
          go_roundw
          case rel => exact ⟨k + 1, _, by omega, by go_num, FIN.out _ _ HM4 rfl rfl rfl rfl rfl rfl (by have := hct.out; show d.ct 1 ≤ _; omega)⟩
          case measure => simp [Lib.intOf]; omega
        · have C : Calls Try.prog 13 #[.pointer (some ⟨p, 0, none⟩), .int .i64 1, .int .i64 k] wr (LeftF w.heap.size w wr p m g gc .nilIface (d.stepped.raised 1 k)) := raise_m hI.out.mine 1 k HKK.out hct.out hof.out hrm.out
          have HC := Lib.hid C
          clear C
          go_wp2_with (first
            | (go_at_call 13; refine HC.out.mono ?_; rintro e w4 ⟨rfl, M4, _⟩; have HM4 := Lib.hid M4; clear M4)
            | fail)
          go_roundw
          case rel => exact ⟨k + 1, _, by omega, by go_num, FIN.out _ _ HM4 rfl rfl rfl rfl rfl rfl (by show (k : Int) ≤ _; omega)⟩
          case measure => simp [Lib.intOf]; omega
      · have hof := Lib.hid (hI.out.gone (by omega))
        have fin : ∀ w', Hid (Mine w.heap.size w w' p m g gc d.downed) → Hid (AInv w w' p m g gc a (k + 1) d.downed) := fun w' h => Lib.hid (hI.out.down (by omega) h.out)
        have FIN := Lib.hid fin
        clear fin
        rcases um3 x with hm | hm | hm
        · go_wp2_with (first
            | (go_at_call 18; refine (write_m_down hI.out.mine _ _ (cel_set _) ⟨by omega, by rw [hn4.out]; omega⟩ hof.out).mono ?_; unfold errP; rintro e w4 ⟨rfl, M4, _⟩; have HM4 := Lib.hid M4; clear M4)
            | (go_at_call 14; refine (HDD.out _).mono ?_; rintro e w5 ⟨rfl, rfl⟩)
            | fail)
          go_roundw
          case rel => exact ⟨k + 1, _, by omega, by go_num, FIN.out _ HM4⟩
          case measure => simp [Lib.intOf]; omega
        · go_wp2_with (first
            | (go_at_call 19; refine (flush_m_down hI.out.mine 0 4 ⟨by omega, by omega⟩ ⟨by omega, by omega⟩ ⟨by omega, by omega, by rw [hn4.out]; omega⟩ hof.out).mono ?_; unfold errP; rintro e w4 ⟨rfl, M4, _⟩; have HM4 := Lib.hid M4; clear M4)
            | (go_at_call 14; refine (HDD.out _).mono ?_; rintro e w5 ⟨rfl, rfl⟩)
            | fail)
          go_roundw
          case rel => exact ⟨k + 1, _, by omega, by go_num, FIN.out _ HM4⟩
          case measure => simp [Lib.intOf]; omega
        · have C : Calls Try.prog 13 #[.pointer (some ⟨p, 0, none⟩), .int .i64 1, .int .i64 k] wr (LeftF w.heap.size w wr p m g gc (errP 5) d.downed) := raise_m_down hI.out.mine 1 k HKK.out hct.out hof.out
          unfold errP at C
          have HC := Lib.hid C
          clear C
          go_wp2_with (first
            | (go_at_call 13; refine HC.out.mono ?_; rintro e w4 ⟨rfl, M4, _⟩; have HM4 := Lib.hid M4; clear M4)
            | (go_at_call 14; refine (HDD.out _).mono ?_; rintro e w5 ⟨rfl, rfl⟩)
            | fail)
          go_roundw
          case rel => exact ⟨k + 1, _, by omega, by go_num, FIN.out _ HM4⟩
          case measure => simp [Lib.intOf]; omega
    · obtain rfl : zs.length = k := by omega
      have hst := hI.out.st
      have hdn := hI.out.dn
      have hn4 := hI.out.n
      clear hlt hk
      by_cases hfin : (a : Int) < (zs.length : Int)
      · have hmn : (if (zs.length : Int) < (a : Int) then (zs.length : Int) else (a : Int)) = a := by rw [if_neg (by omega)]
        have HST := Lib.hid (show d.st = (a : Int) by rw [hst]; omega)
        have HDN := Lib.hid (show d.dn = true by rw [hdn]; exact decide_eq_true (by omega))
        have HMN := Lib.hid hmn
        clear hst hdn hmn
        go_wp2_with (first
          | (go_at_call 20; refine (read_m_down hI.out.mine 0 ⟨by omega, by rw [hn4]; omega⟩ HDN.out).mono ?_; unfold errP; rintro e w4 ⟨rfl, M4, _⟩; have HM4 := Lib.hid M4; clear M4)
          | fail)
        have C1 : ∀ j, Calls Try.prog 21 #[.pointer (some ⟨p, 0, none⟩)] (w4.drewN j) fun e w' => e = .returned (.int .i64 a) ∧ w' = w4.drewN j := fun j => by have := stepsd (HM4.out.disk.drewN j); rw [HST.out] at this; exact this
        have C2 : ∀ j, Calls Try.prog 22 #[.pointer (some ⟨p, 0, none⟩)] (w4.drewN j) fun e w' => e = .returned (.bool true) ∧ w' = w4.drewN j := fun j => by have := downd (HM4.out.disk.drewN j); rw [HDN.out] at this; exact this
        have HC1 := Lib.hid C1
        have HC2 := Lib.hid C2
        clear C1 C2
        have hdec : decide ((a : Int) < (zs.length : Int)) = true := decide_eq_true (by omega)
        refine wp_region_quiet_lit (by kernel_rfl) (by kernel_rfl) ?_
        repeat (first | go_big_quiet_skip | (go_big_quiet_want; first | (refine quiet_min (.tmp 78) (.tmp 80) rfl rfl _ _ _ rfl rfl HMN.out ?_; go_simp; go_big_quiet_on) | (go_big_quiet_op; first | go_big_quiet_on | go_big_quiet_call ((first | (go_at_call 21; exact Calls.quiet_of_same (HC1.out _)) | (go_at_call 22; exact Calls.quiet_of_same (HC2.out _))))) ))
        refine wpQuiet_nil ?_
        rintro _ ⟨nq, rfl⟩
        go_wp2
        go_ret
        exact ⟨rfl, Below.drewN HM4.out.bel _⟩
      · have hmn : (if (zs.length : Int) < (a : Int) then (zs.length : Int) else (a : Int)) = zs.length := by split <;> omega
        have HST := Lib.hid (show d.st = (zs.length : Int) by rw [hst]; omega)
        have HDN := Lib.hid (show d.dn = false by rw [hdn]; exact decide_eq_false (by omega))
        have HMN := Lib.hid hmn
        clear hst hdn hmn
        have hcn := (Dk.now_cel hI.out.mine.disk.ok 0).size
        have HR5 := Lib.hid (read_m hI.out.mine 0 ⟨by omega, by rw [hn4]; omega⟩ HDN.out)
        generalize d.now 0 = cn at *
        go_wp2_with (first
          | (go_at_call 20; refine HR5.out.mono ?_; rintro e w4 ⟨rfl, M4, _⟩; have HM4 := Lib.hid M4; clear M4)
          | fail)
        have C1 : ∀ j, Calls Try.prog 21 #[.pointer (some ⟨p, 0, none⟩)] (w4.drewN j) fun e w' => e = .returned (.int .i64 zs.length) ∧ w' = w4.drewN j := fun j => by have := stepsd (HM4.out.disk.drewN j); rw [HST.out] at this; exact this
        have C2 : ∀ j, Calls Try.prog 22 #[.pointer (some ⟨p, 0, none⟩)] (w4.drewN j) fun e w' => e = .returned (.bool false) ∧ w' = w4.drewN j := fun j => by have := downd (HM4.out.disk.drewN j); rw [HDN.out] at this; exact this
        have HC1 := Lib.hid C1
        have HC2 := Lib.hid C2
        clear C1 C2
        have hdec : decide ((a : Int) < (zs.length : Int)) = false := decide_eq_false (by omega)
        have hdec2 : decide ((zs.length : Int) ≤ (a : Int)) = true := decide_eq_true (by omega)
        have hdec3 : decide (zs.length ≤ a) = true := decide_eq_true (by omega)
        have hdec4 : decide (a < zs.length) = false := decide_eq_false (by omega)
        refine wp_region_quiet_lit (by kernel_rfl) (by kernel_rfl) ?_
        repeat (first | go_big_quiet_skip | (go_big_quiet_want; first | (refine quiet_min (.tmp 78) (.tmp 80) rfl rfl _ _ _ rfl rfl HMN.out ?_; go_simp; go_big_quiet_on) | (go_big_quiet_op; first | go_big_quiet_on | go_big_quiet_call ((first | (go_at_call 21; exact Calls.quiet_of_same (HC1.out _)) | (go_at_call 22; exact Calls.quiet_of_same (HC2.out _))))) ))
        refine wpQuiet_nil ?_
        rintro _ ⟨nq, rfl⟩
        go_wp2
        go_ret
        exact ⟨rfl, Below.drewN HM4.out.bel _⟩
/-! ### the row's frame -/
theorem platterArmed_own : ownKnob Try.prog.godebug = none := by kernel_rfl
theorem platterArmed_laid : laidOutB Try.prog = true := by kernel_rfl
set_option maxRecDepth 100000 in
theorem platterArmed_lifted (os : Os) (started : os.Started) (H : Type) (enc : TypeId × Value → H) :
    ReturnsInHanded {} Try.checked os 5 .any (Rows.platterArmedSpec.pre6 enc Try.prog Try.f5 Rows.platterArmedRow.domain false) (Rows.platterArmedSpec.post enc Try.prog Try.f5 false true false false) := by
  refine returnsInHanded_of_change (C := Try.checked) platterArmed_own started (by kernel_rfl) Try.func5
    (ChangeSpec.witness6 (enc := enc) (C := Try.checked) false ⟨#[], #[.int .i64 0, .slice none 0 0], []⟩ 8 (by kernel_rfl) (by kernel_rfl) (by kernel_rfl) (by kernel_rfl)) ?_
  intro W base args ds gs before hval0 hW hcnd _
  have hval : ∀ (j : Nat) t v, Try.f5.params[j]? = some t → args[j]? = some v → Value.okWide Try.prog W .any base t v := hval0
  have hW' := hW
  obtain ⟨p, q, hA0, hV, rfl, hfz, hnd⟩ := hW
  have hlt0 : ∀ x ∈ p, x.block < W.heap.size := fun x hx => hW'.lt x (List.mem_append.2 (.inl hx))
  have hA : DataW.TrodAll enc Try.prog W 0 (fun _ => true) true Try.f5.params.toList args.toList ds p := hA0
  rw [Try.params5] at hA hval
  obtain ⟨v0, vs0, d0, ds0, p0, q0, hargs, rfl, rfl, h0, r0⟩ := trodAll_cons hA
  obtain ⟨v1, vs1, d1, ds1, p1, q1, rfl, rfl, rfl, h1, r1⟩ := trodAll_cons r0
  obtain ⟨rfl, rfl, rfl⟩ := trodAll_nil r1
  obtain rfl : args = #[v0, v1] := by cases args; simp_all
  obtain ⟨rfl, rfl⟩ := trodVars_none hV
  have k0 := h0
  have lt0 : ∀ x ∈ p0, x.block < W.heap.size := fun x hx => hlt0 x (by simp [hx])
  have k1 := h1
  have lt1 : ∀ x ∈ p1, x.block < W.heap.size := fun x hx => hlt0 x (by simp [hx])
  obtain ⟨a0, rfl, rfl, rfl, w0⟩ := open_int Try.underlying3 (hval 0 3 v0 rfl rfl) h0
  obtain ⟨A1, n1, c1, zs1, rfl, hl1, hn1, hm1, hr1, hk1⟩ := ints_of (hval 1 27 v1 rfl rfl) h1
  clear hA0 hval0
  refine (platterArmed_walk a0 (ok64_of w0) A1 n1 c1 zs1 hl1 hn1 hm1 W hr1 hk1).mono fun e W' ⟨he, bel⟩ => ?_
  subst he
  exact ⟨_, rfl, _, _, _, [], _, [], hW', trodAll_mk1 (shut_bool Try.underlying4 _), (trodAll_cons_mk (Below.trod platterArmed_laid (by kernel_rfl) (of_decide_eq_true (by kernel_rfl)) k0 bel lt0) (trodAll_cons_mk (Below.trod platterArmed_laid (by kernel_rfl) (of_decide_eq_true (by kernel_rfl)) k1 bel lt1) trodAll_mk0)), rfl, bel.frame _, fun h => by cases h⟩

theorem platterArmed_proved : Rows.PlatterArmedSaid :=
  OpenClaim.holds_of_wide 5 Try.f5 rfl rfl rfl rfl rfl rfl rfl ⟨rfl, rfl, rfl, rfl, rfl⟩ rfl rfl rfl rfl rfl (by kernel_rfl) Try.func5 (by kernel_rfl)
    (of_decide_eq_true (by kernel_rfl)) (by unfold Func.isWrapper; rw [if_neg (of_decide_eq_false (by kernel_rfl))]; exact ⟨rfl, rfl⟩)
    (fun os started H enc _ => platterArmed_lifted os started H enc)
#print axioms platterArmed_proved

end Go.Proofs.Ythfhilinajemhaa
