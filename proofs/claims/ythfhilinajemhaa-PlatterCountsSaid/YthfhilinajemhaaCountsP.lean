/-
  PlatterCounts: for every list of numbers and every list of kept sectors the law returns true and leaves its arguments alone. No condition.
-/
import Derived.Test.YthfhilinajemhaaExample
import Derived.Test.YthfhilinajemhaaOpen
namespace Go.Proofs.Ythfhilinajemhaa
open Go.ChangeShapes Go.WideShapes Go.ChangeAt Go.RowKit
open Go.Maps (Keyed)
set_option linter.unusedVariables false

/-- what holds between two rounds -/
structure CInv (w0 W : World) (p m g gc : Nat) (k : Nat) (d : Dk) : Prop where
  mine : Mine w0.heap.size w0 W p m g gc d
  n : d.n = 1
  kk : d.k = 1
  dn : d.dn = false
  ar : d.ar = false
  st : 0 ≤ d.st ∧ d.st ≤ k
  lf : -(k : Int) ≤ d.lf ∧ d.lf ≤ 0
theorem CInv.of {w0 W W' : World} {p m g gc k : Nat} {d d' : Dk} (h : CInv w0 W p m g gc k d) (hm : Mine w0.heap.size w0 W' p m g gc d') (h1 : d'.n = d.n) (h2 : d'.k = d.k) (h3 : d'.dn = false) (h4 : d'.ar = false) (h5 : 0 ≤ d'.st ∧ d'.st ≤ d.st + 1) (h6 : d.lf - 1 ≤ d'.lf ∧ d'.lf ≤ 0) : CInv w0 W' p m g gc (k + 1) d' :=
  ⟨hm, h1.trans h.n, h2.trans h.kk, h3, h4, by have := h.st; omega, by have := h.lf; omega⟩
theorem CInv.room {w0 W : World} {p m g gc k : Nat} {d : Dk} (h : CInv w0 W p m g gc k d) (hk : k ≤ 1000) : d.room := room_of rfl rfl (by have := h.st; have := h.lf; omega)
theorem raise_m {S : Nat} {w0 w : World} {p m g gc : Nat} {d : Dk} (h : Mine S w0 w p m g gc d) (i : Nat) (x : Int) (hi : i < d.k) (hx : d.ct i ≤ x) (ho : ¬ d.off) (hr : d.room) : Calls Try.prog 13 #[.pointer (some ⟨p, 0, none⟩), .int .i64 i, .int .i64 x] w (LeftF S w0 w p m g gc .nilIface (d.stepped.raised i x)) :=
  (raised_yes h.disk i x hi hx ho hr).mono fun _ _ ⟨he, hd, hf⟩ => ⟨he, h.step hd hf (fun _ h => dl_pc h), hf.weak (fun _ h => dl_pc h)⟩
theorem counter0 {S : Nat} {w0 w : World} {p m g gc : Nat} {d : Dk} {x : Int} (h : Mine S w0 w p m g gc d) (hk : 0 < d.k) (hx : d.ct 0 = x) : Calls Try.prog 16 #[.pointer (some ⟨p, 0, none⟩), .int .i64 0] w fun e w' => e = .returned (.tuple #[.int .i64 x, .nilIface]) ∧ w' = w := by
  have := counterd_any h.disk 0 hk
  rw [hx] at this
  exact this
set_option maxHeartbeats 4000000 in
set_option maxRecDepth 20000 in
theorem platterCounts_walk (A : Option Addr) (n c : Nat) (zs : List Int) (hz : zs.length = n) (_ : n ≤ c) (hcm : c ≤ maxLen) (w : World) (hr : RI w w.heap.size A zs) (hok : ∀ z ∈ zs, ok64 z) (A1 : Option Addr) (n1 c1 : Nat) (zs1 : List Int) (hz1 : zs1.length = n1) (hnc1 : n1 ≤ c1) (hcm1 : c1 ≤ maxLen) (hr1 : RI w w.heap.size A1 zs1) (_ : ∀ z ∈ zs1, ok64 z) :
    Calls Try.prog 4 #[.slice A n c, .slice A1 n1 c1] w fun e w' => e = .returned (.bool true) ∧ Below w.heap.size w w' := by
  subst hz
  subst hz1
  have hL1 : zs1.length ≤ maxLen := Nat.le_trans hnc1 hcm1
  have HL1 := Lib.hid hL1
  clear hcm hcm1 hL1 hnc1
  by_cases hbig : (200 : Int) < (zs.length : Int)
  · go_enter Try.func4, Try.ntmps4
    go_wp2_with fail
    refine (alive_any w).mono ?_
    rintro e w1 ⟨rfl, hb1⟩
    go_wp2
    go_ret
    exact ⟨rfl, hb1⟩
  have HR := Lib.hid hr
  have HR1 := Lib.hid hr1
  have HOK := Lib.hid hok
  clear hr hr1 hok
  go_enter Try.func4, Try.ntmps4
  go_wp2_with fail
  refine (alive_any w).mono ?_
  rintro e w1 ⟨rfl, hb1⟩
  go_wp2_with fail
  refine (new_m 1 1 (by omega) (by omega) hb1 hb1.size).mono ?_
  rintro e w2 ⟨p, m, g, gc, rfl, M0, hb2, hd2⟩
  have I0 : Hid (CInv w w2 p m g gc 0 (d0 1 1)) := Lib.hid ⟨M0, rfl, rfl, rfl, rfl, ⟨by decide, by decide⟩, ⟨by decide, by decide⟩⟩
  clear M0 hb2 hd2 hb1
  go_wp2_with fail
  have hlen : zs.length ≤ 200 := by omega
  go_loopw [7, 26] (fun last i wr => ∃ (k : Nat) (d : Dk), k ≤ zs.length ∧ i = .int .i64 k ∧ last = .int .i64 (d.ct 0) ∧ Hid (ok64 (d.ct 0)) ∧ Hid (CInv w wr p m g gc k d)) (fun _ i _ => zs.length - (Lib.intOf i).toNat)
  case atStart => exact ⟨0, d0 1 1, Nat.zero_le _, rfl, rfl, Lib.hid ⟨by decide, by decide⟩, I0⟩
  case round =>
    obtain ⟨k, d, hk, rfl, rfl, hlo, hI⟩ := hrel
    by_cases hlt : k < zs.length
    · obtain ⟨ad, hA, hS, hcell0⟩ := HR.out k zs[k] (List.getElem?_eq_getElem hlt)
      subst hA
      have hcell : wr.cell? (ad.add k) = some (.int .i64 zs[k]) := (hI.out.mine.bel.cell (p := ad.add k) (by rw [addr_add_block]; exact hS)).trans hcell0
      have HX := Lib.hid (HOK.out zs[k] (List.getElem_mem hlt))
      clear hcell0 hS
      generalize zs[k] = x at *
      have hkk : 0 < d.k := by rw [hI.out.kk]; omega
      have hrm := Lib.hid (hI.out.room (by omega))
      have hof := Lib.hid (off_of hI.out.dn hI.out.ar)
      have hk0 : (0 : Int) ≤ (k : Int) := by omega
      by_cases hge : d.ct 0 ≤ x
      · have C : Calls Try.prog 13 #[.pointer (some ⟨p, 0, none⟩), .int .i64 0, .int .i64 x] wr (LeftF w.heap.size w wr p m g gc .nilIface (d.stepped.raised 0 x)) := raise_m hI.out.mine 0 x hkk hge hof.out hrm.out
        have HC := Lib.hid C
        clear C
        have hmax : max (d.ct 0) x = x := by omega
        have hct : (d.stepped.raised 0 x).ct 0 = x := rfl
        have HCT := Lib.hid hct
        have HKK := Lib.hid hkk
        clear hct
        have fin : ∀ w', Hid (Mine w.heap.size w w' p m g gc (d.stepped.raised 0 x)) → Hid (CInv w w' p m g gc (k + 1) (d.stepped.raised 0 x)) := fun w' h => Lib.hid (hI.out.of h.out rfl rfl hI.out.dn hI.out.ar ⟨by show 0 ≤ d.st + 1; have := hI.out.st; omega, Int.le_refl _⟩ ⟨Int.le_refl _, by show d.lf - 1 ≤ 0; have := hI.out.lf; omega⟩)
        have fin2 : ∀ w', Hid (Mine w.heap.size w w' p m g gc ((d.stepped.raised 0 x).crashed zs1)) → Hid (CInv w w' p m g gc (k + 1) ((d.stepped.raised 0 x).crashed zs1)) := fun w' h => Lib.hid (hI.out.of h.out rfl rfl rfl rfl ⟨by show 0 ≤ d.st + 1; have := hI.out.st; omega, Int.le_refl _⟩ ⟨by show d.lf - 1 ≤ 0; have := hI.out.lf; omega, Int.le_refl _⟩)
        have FIN := Lib.hid fin
        have FIN2 := Lib.hid fin2
        clear fin fin2
        by_cases h3 : k % 3 = 2
        · go_wp2_with (first
            | (go_at_call 13; refine HC.out.mono ?_; rintro e w3 ⟨rfl, M3, _⟩; have HM3 := Lib.hid M3; clear M3)
            | (go_at_call 15; refine (crash_m HM3.out A1 c1 zs1 HL1.out w.heap.size HM3.out.siz (HR1.out.below HM3.out.bel) (fun ad h hlt hd => absurd (HM3.out.own _ hd) (Nat.not_le_of_lt hlt))).mono ?_; rintro e w4 ⟨rfl, M4, _⟩; have HM4 := Lib.hid M4; clear M4)
            | (go_at_call 16; refine (counter0 HM4.out HKK.out HCT.out).mono ?_; rintro e w5 ⟨rfl, rfl⟩)
            | fail)
          go_roundw
          case rel => exact ⟨k + 1, _, by omega, by go_num, rfl, HX, FIN2.out _ HM4⟩
          case measure => simp [Lib.intOf]; omega
        · go_wp2_with (first
            | (go_at_call 13; refine HC.out.mono ?_; rintro e w3 ⟨rfl, M3, _⟩; have HM3 := Lib.hid M3; clear M3)
            | (go_at_call 16; refine (counter0 HM3.out HKK.out HCT.out).mono ?_; rintro e w5 ⟨rfl, rfl⟩)
            | fail)
          go_roundw
          case rel => exact ⟨k + 1, _, by omega, by go_num, rfl, HX, FIN.out _ HM3⟩
          case measure => simp [Lib.intOf]; omega
      · have hlow : x < d.ct 0 := by omega
        have C : Calls Try.prog 13 #[.pointer (some ⟨p, 0, none⟩), .int .i64 0, .int .i64 x] wr fun e w' => e = .returned (errP 1) ∧ w' = wr := raised_low hI.out.mine.disk 0 x hkk hlow
        unfold errP at C
        have HC := Lib.hid C
        have D := isC_any 1 1 (by omega) (by omega)
        unfold errP at D
        have HDD := Lib.hid D
        clear C D
        have hmax : max (d.ct 0) x = d.ct 0 := by omega
        have HKK := Lib.hid hkk
        have fin : ∀ w', Hid (Mine w.heap.size w w' p m g gc d) → Hid (CInv w w' p m g gc (k + 1) d) := fun w' h => Lib.hid (hI.out.of h.out rfl rfl hI.out.dn hI.out.ar ⟨by have := hI.out.st; omega, by omega⟩ ⟨by omega, by have := hI.out.lf; omega⟩)
        have fin2 : ∀ w', Hid (Mine w.heap.size w w' p m g gc (d.crashed zs1)) → Hid (CInv w w' p m g gc (k + 1) (d.crashed zs1)) := fun w' h => Lib.hid (hI.out.of h.out rfl rfl rfl rfl ⟨by show 0 ≤ d.st; have := hI.out.st; omega, by show d.st ≤ d.st + 1; omega⟩ ⟨by show d.lf - 1 ≤ 0; have := hI.out.lf; omega, Int.le_refl _⟩)
        have FIN := Lib.hid fin
        have FIN2 := Lib.hid fin2
        have HM3 := Lib.hid hI.out.mine
        clear fin fin2
        by_cases h3 : k % 3 = 2
        · go_wp2_with (first
            | (go_at_call 13; refine HC.out.mono ?_; rintro e w3 ⟨rfl, rfl⟩)
            | (go_at_call 14; refine (HDD.out _).mono ?_; rintro e w3 ⟨rfl, rfl⟩)
            | (go_at_call 15; refine (crash_m HM3.out A1 c1 zs1 HL1.out w.heap.size HM3.out.siz (HR1.out.below HM3.out.bel) (fun ad h hlt hd => absurd (HM3.out.own _ hd) (Nat.not_le_of_lt hlt))).mono ?_; rintro e w4 ⟨rfl, M4, _⟩; have HM4 := Lib.hid M4; clear M4)
            | (go_at_call 16; refine (counter0 (x := d.ct 0) HM4.out HKK.out rfl).mono ?_; rintro e w5 ⟨rfl, rfl⟩)
            | fail)
          go_roundw
          case rel => exact ⟨k + 1, d.crashed zs1, by omega, by go_num, rfl, hlo, FIN2.out _ HM4⟩
          case measure => simp [Lib.intOf]; omega
        · go_wp2_with (first
            | (go_at_call 13; refine HC.out.mono ?_; rintro e w3 ⟨rfl, rfl⟩)
            | (go_at_call 14; refine (HDD.out _).mono ?_; rintro e w3 ⟨rfl, rfl⟩)
            | (go_at_call 16; refine (counter0 (x := d.ct 0) HM3.out HKK.out rfl).mono ?_; rintro e w5 ⟨rfl, rfl⟩)
            | fail)
          go_roundw
          case rel => exact ⟨k + 1, _, by omega, by go_num, rfl, hlo, FIN.out _ HM3⟩
          case measure => simp [Lib.intOf]; omega
    · go_wp2
      go_ret
      exact ⟨rfl, hI.out.mine.bel⟩
/-! ### the row's frame -/
theorem platterCounts_own : ownKnob Try.prog.godebug = none := by kernel_rfl
theorem platterCounts_laid : laidOutB Try.prog = true := by kernel_rfl
set_option maxRecDepth 100000 in
theorem platterCounts_lifted (os : Os) (started : os.Started) (H : Type) (enc : TypeId × Value → H) :
    ReturnsInHanded {} Try.checked os 4 .any (Rows.platterCountsSpec.pre6 enc Try.prog Try.f4 Rows.platterCountsRow.domain false) (Rows.platterCountsSpec.post enc Try.prog Try.f4 false true false false) := by
  refine returnsInHanded_of_change (C := Try.checked) platterCounts_own started (by kernel_rfl) Try.func4
    (ChangeSpec.witness6 (enc := enc) (C := Try.checked) false ⟨#[], #[.slice none 0 0, .slice none 0 0], []⟩ 8 (by kernel_rfl) (by kernel_rfl) (by kernel_rfl) (by kernel_rfl)) ?_
  intro W base args ds gs before hval0 hW hcnd _
  have hval : ∀ (j : Nat) t v, Try.f4.params[j]? = some t → args[j]? = some v → Value.okWide Try.prog W .any base t v := hval0
  have hW' := hW
  obtain ⟨p, q, hA0, hV, rfl, hfz, hnd⟩ := hW
  have hlt0 : ∀ x ∈ p, x.block < W.heap.size := fun x hx => hW'.lt x (List.mem_append.2 (.inl hx))
  have hA : DataW.TrodAll enc Try.prog W 0 (fun _ => true) true Try.f4.params.toList args.toList ds p := hA0
  rw [Try.params4] at hA hval
  obtain ⟨v0, vs0, d0, ds0, p0, q0, hargs, rfl, rfl, h0, r0⟩ := trodAll_cons hA
  obtain ⟨v1, vs1, d1, ds1, p1, q1, rfl, rfl, rfl, h1, r1⟩ := trodAll_cons r0
  obtain ⟨rfl, rfl, rfl⟩ := trodAll_nil r1
  obtain rfl : args = #[v0, v1] := by cases args; simp_all
  obtain ⟨rfl, rfl⟩ := trodVars_none hV
  have k0 := h0
  have lt0 : ∀ x ∈ p0, x.block < W.heap.size := fun x hx => hlt0 x (by simp [hx])
  have k1 := h1
  have lt1 : ∀ x ∈ p1, x.block < W.heap.size := fun x hx => hlt0 x (by simp [hx])
  obtain ⟨A0, n0, c0, zs0, rfl, hl0, hn0, hm0, hr0, hk0⟩ := ints_of (hval 0 27 v0 rfl rfl) h0
  obtain ⟨A1, n1, c1, zs1, rfl, hl1, hn1, hm1, hr1, hk1⟩ := ints_of (hval 1 27 v1 rfl rfl) h1
  clear hA0 hval0
  refine (platterCounts_walk A0 n0 c0 zs0 hl0 hn0 hm0 W hr0 hk0 A1 n1 c1 zs1 hl1 hn1 hm1 hr1 hk1).mono fun e W' ⟨he, bel⟩ => ?_
  subst he
  exact ⟨_, rfl, _, _, _, [], _, [], hW', trodAll_mk1 (shut_bool Try.underlying4 _), (trodAll_cons_mk (Below.trod platterCounts_laid (by kernel_rfl) (of_decide_eq_true (by kernel_rfl)) k0 bel lt0) (trodAll_cons_mk (Below.trod platterCounts_laid (by kernel_rfl) (of_decide_eq_true (by kernel_rfl)) k1 bel lt1) trodAll_mk0)), rfl, bel.frame _, fun h => by cases h⟩

theorem platterCounts_proved : Rows.PlatterCountsSaid :=
  OpenClaim.holds_of_wide 4 Try.f4 rfl rfl rfl rfl rfl rfl rfl ⟨rfl, rfl, rfl, rfl, rfl⟩ rfl rfl rfl rfl rfl (by kernel_rfl) Try.func4 (by kernel_rfl)
    (of_decide_eq_true (by kernel_rfl)) (by unfold Func.isWrapper; rw [if_neg (of_decide_eq_false (by kernel_rfl))]; exact ⟨rfl, rfl⟩)
    (fun os started H enc _ => platterCounts_lifted os started H enc)
#print axioms platterCounts_proved

end Go.Proofs.Ythfhilinajemhaa
