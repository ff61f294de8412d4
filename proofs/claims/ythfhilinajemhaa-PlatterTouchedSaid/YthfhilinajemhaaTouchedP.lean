/-
  PlatterTouched: for every sector's bytes, every other bytes and either answer the law returns true and leaves its arguments alone. No condition.
-/
import Derived.Test.YthfhilinajemhaaExample
import Derived.Test.YthfhilinajemhaaOpen2
import Derived.Test.YthfhilinajemhaaTamper
import Derived.Test.YthfhilinajemhaaEqG
namespace Go.Proofs.Ythfhilinajemhaa
open Go.ChangeShapes Go.WideShapes Go.ChangeAt Go.RowKit
open Go.Maps (Keyed)
set_option linter.unusedVariables false

theorem RB.mono {w : World} {S S' : Nat} {A : Option Addr} {R : List Int} (h : RB w S A R) (hS : S ≤ S') : RB w S' A R := fun i x hx => by
  obtain ⟨ad, h1, h2, h3⟩ := h i x hx
  exact ⟨ad, h1, by omega, h3⟩
theorem cell_m {w0 w : World} {A : Option Addr} {c : Nat} {R : List Int} (hr : RB w0 w0.heap.size A R) (hb : Below w0.heap.size w0 w) : Calls Try.prog 23 #[.slice A R.length c] w fun e w' => e = .returned (.agg (cellOf R)) ∧ Below w.heap.size w w' :=
  cell_any A c R w ((hr.below hb).mono hb.size)
theorem tamper_m_none {S : Nat} {w0 w : World} {p m g gc : Nat} {d : Dk} (h : Mine S w0 w p m g gc d) (i : Nat) (hi : i < d.n) (A : Option Addr) (c : Nat) (R : List Int) (hR : R.length ≤ 128) (T : Nat) (hT : T ≤ w.heap.size) (hr : RB w T A R) (hA : ∀ ad, A = some ad → ad.block < T → ¬ Dl p m g gc ad.block) :
    Calls Try.prog 33 #[.pointer (some ⟨p, 0, none⟩), .int .i64 i, .slice A R.length c] w (LeftF S w0 w p m g gc .nilIface (d.tampered i R)) := by
  have hw : ∀ k, (k = m ∨ k = g) → Dl p m g gc k := fun k h => h.elim (fun h => .inr (.inl h)) (fun h => .inr (.inr (.inl h)))
  cases ho : d.op i with
  | none => exact (tamper_none h.disk i hi A c R hR T hT hr hA ho).mono fun _ _ ⟨he, hd, hf⟩ => ⟨he, h.step hd hf hw, hf.weak hw⟩
  | some b => exact (tamper_open h.disk i hi A c R hR T hT hr hA b ho).mono fun _ _ ⟨he, hd, hf⟩ => ⟨he, h.step hd hf hw, hf.weak hw⟩
def dT1 (s : List Int) : Dk := (d0 2 1).stepped.put 0 (cellOf s)
def dT2 (s : List Int) : Dk := (dT1 s).stepped.settled (inR 0 1)
def dT3 (s n : List Int) : Dk := (dT2 s).stepped.put 0 (cellOf n)
def dT4 (s n b : List Int) : Dk := (dT3 s n).tampered 0 b
theorem now3 (s n : List Int) : (dT3 s n).now 0 = cellOf n := rfl
theorem now4 (s n b : List Int) : (dT4 s n b).now 0 = overC (cellOf n) b := rfl
theorem now3k (s n : List Int) : ((dT3 s n).crashed [0]).now 0 = cellOf n := rfl
theorem now4k (s n b : List Int) : ((dT4 s n b).crashed [0]).now 0 = overC (cellOf n) b := rfl
theorem now3d (s n : List Int) : ((dT3 s n).crashed []).now 0 = cellOf s := rfl
theorem now4d (s n b : List Int) : ((dT4 s n b).crashed []).now 0 = overC (cellOf s) b := rfl
theorem now3z (s n : List Int) (L : List Int) (h : ¬ (1 : Int) ∈ L) : ((dT3 s n).crashed L).now 1 = zc := by
  show (if decide ((1 : Int) ∈ L) = true then _ else _) = zc
  rw [decide_eq_false h]; rfl
theorem now4z (s n b : List Int) (L : List Int) (h : ¬ (1 : Int) ∈ L) : ((dT4 s n b).crashed L).now 1 = zc := by
  show (if decide ((1 : Int) ∈ L) = true then _ else _) = zc
  rw [decide_eq_false h]; rfl
theorem two_cells (w : World) (a b : Array Value) (ha : a.size = 128) (hb : b.size = 128) :
    Blk ((((w.alloc (.cells zc 45)).alloc (.cells zc 45)).setRow w.heap.size a).setRow (w.heap.size + 1) b) w.heap.size a 45 ∧ Blk ((((w.alloc (.cells zc 45)).alloc (.cells zc 45)).setRow w.heap.size a).setRow (w.heap.size + 1) b) (w.heap.size + 1) b 45 ∧
    Below w.heap.size w ((((w.alloc (.cells zc 45)).alloc (.cells zc 45)).setRow w.heap.size a).setRow (w.heap.size + 1) b) ∧ Blk (((w.alloc (.cells zc 45)).alloc (.cells zc 45)).setRow w.heap.size a) (w.heap.size + 1) zc 45 ∧ Blk ((w.alloc (.cells zc 45)).alloc (.cells zc 45)) w.heap.size zc 45 := by
  have h1 := (Blk.new w zc 45).alloc (.cells zc 45)
  have h2 : Blk ((w.alloc (.cells zc 45)).alloc (.cells zc 45)) (w.heap.size + 1) zc 45 := by simpa using Blk.new (w.alloc (.cells zc 45)) zc 45
  refine ⟨(h1.setRow a).setRow_other b (by omega), (h2.setRow_other a (by omega)).setRow b, below_setRow (below_setRow (((Below.refl _ _).alloc (Nat.le_refl _) _).alloc (by simp) _) (Nat.le_refl _) _) (by omega) _, h2.setRow_other a (by omega), h1⟩
set_option maxHeartbeats 8000000 in
set_option maxRecDepth 20000 in
theorem touched_walk (A1 : Option Addr) (c1 : Nat) (z1 : List Int) (A2 : Option Addr) (c2 : Nat) (z2 : List Int) (A3 : Option Addr) (c3 : Nat) (z3 : List Int) (kp : Bool) (w : World) (hr1 : RB w w.heap.size A1 z1) (hr2 : RB w w.heap.size A2 z2) (hr3 : RB w w.heap.size A3 z3) :
    Calls Try.prog 10 #[.slice A1 z1.length c1, .slice A2 z2.length c2, .slice A3 z3.length c3, .bool kp] w fun e w' => e = .returned (.bool true) ∧ Below w.heap.size w w' := by
  have HR1 := Lib.hid hr1
  have HR2 := Lib.hid hr2
  have HR3 := Lib.hid hr3
  have hz := zc_zero
  have hs := zc_size
  have hne := zc_ne
  have hN := (Cel.of z2).size
  have hS := (Cel.of z1).size
  clear hr1 hr2 hr3
  go_enter Try.func10, Try.ntmps10
  go_wp2_with fail
  refine (alive_any w).mono ?_
  rintro e w1 ⟨rfl, hb1⟩
  go_wp2_with fail
  refine (new_m 2 1 (by omega) (by omega) hb1 hb1.size).mono ?_
  rintro e w2 ⟨p, m, g, gc, rfl, M0, hb2, hd2⟩
  clear hb2 hd2 hb1
  go_wp2_with fail
  refine (cell_m HR1.out M0.bel).mono ?_
  rintro e x1 ⟨rfl, hbx⟩
  replace M0 := M0.below hbx
  clear hbx
  go_wp2_with fail
  refine (write_m M0 0 (cellOf z1) (Cel.of z1) ⟨by decide, by decide⟩ (off_of rfl rfl) (room_of (a := 0) (b := 0) rfl rfl (by omega))).mono ?_
  rintro e x2 ⟨rfl, M1, _⟩
  clear M0
  replace M1 : Mine w.heap.size w x2 p m g gc (dT1 z1) := M1
  go_wp2_with fail
  refine (flush_m M1 0 1 ⟨by decide, by decide⟩ ⟨by decide, by decide⟩ ⟨by decide, by decide, by show (1 : Int) ≤ 2 - 0; decide⟩ (off_of rfl rfl) (room_of (a := 1) (b := -1) rfl rfl (by omega))).mono ?_
  rintro e x3 ⟨rfl, M2, _⟩
  clear M1
  replace M2 : Mine w.heap.size w x3 p m g gc (dT2 z1) := M2
  go_wp2_with fail
  refine (cell_m HR2.out M2.bel).mono ?_
  rintro e x4 ⟨rfl, hbx⟩
  replace M2 := M2.below hbx
  clear hbx
  go_wp2_with fail
  refine (write_m M2 0 (cellOf z2) (Cel.of z2) ⟨by decide, by show (0 : Int) < 2; decide⟩ (off_of rfl rfl) (room_of (a := 2) (b := -2) rfl rfl (by omega))).mono ?_
  rintro e x5 ⟨rfl, M3, _⟩
  clear M2
  replace M3 : Mine w.heap.size w x5 p m g gc (dT3 z1 z2) := M3
  go_wp2_with fail
  by_cases hl : (128 : Int) < (z3.length : Int)
  · have C : Calls Try.prog 33 #[.pointer (some ⟨p, 0, none⟩), .int .i64 0, .slice A3 z3.length c3] x5 fun e w' => e = .returned (errP 1) ∧ w' = x5 := tamper_long M3.disk 0 ⟨by decide, by show (0 : Int) < 2; decide⟩ A3 z3.length c3 hl
    unfold errP at C
    have HC := Lib.hid C
    have D := isC_any 1 1 (by omega) (by omega)
    unfold errP at D
    have HDD := Lib.hid D
    clear C D
    have cN := Cel.of z2
    have cS := Cel.of z1
    go_wp2_with (first
      | (go_at_call 33; refine HC.out.mono ?_; rintro e x6 ⟨rfl, rfl⟩)
      | fail)
    refine (cell_m HR1.out M3.bel).mono ?_
    rintro e x7 ⟨rfl, hbx⟩
    replace M3 := M3.below hbx
    clear hbx HC
    go_wp2_with fail
    refine (cell_m HR2.out M3.bel).mono ?_
    rintro e x8 ⟨rfl, hbx⟩
    replace M3 := M3.below hbx
    clear hbx
    obtain ⟨Ya0, Yg0, hby, q1, q2⟩ := two_cells x8 (cellOf z1) (cellOf z2) cS.size cN.size
    have M4 := Lib.hid (M3.below hby)
    have Ya := Lib.hid Ya0
    have Yg := Lib.hid Yg0
    have hna : ¬ Dl p m g gc x8.heap.size := fun h => Nat.lt_irrefl _ (M3.disk.lt h)
    have hng : ¬ Dl p m g gc (x8.heap.size + 1) := fun h => by have := M3.disk.lt h; omega
    have hlo : w.heap.size ≤ x8.heap.size := M3.siz
    clear hby M3 Ya0 Yg0
    go_wp2_with (first
      | ((with_reducible refine at_st 45 _ _ rfl ?_); refine store_cW rfl _ _ rfl x8.heap.size (cellOf z1) rfl rfl zc q2 zc_size cS.size cS.all ?_)
      | ((with_reducible refine at_st 45 _ _ rfl ?_); refine store_cW rfl _ _ rfl (x8.heap.size + 1) (cellOf z2) rfl rfl zc q1 zc_size cN.size cN.all ?_)
      | (go_at_call 14; refine (HDD.out _).mono ?_; rintro e x9 ⟨rfl, rfl⟩)
      | fail)
    generalize hWy : (((x8.alloc (.cells zc 45)).alloc (.cells zc 45)).setRow x8.heap.size (cellOf z1)).setRow (x8.heap.size + 1) (cellOf z2) = y at *
    have M4' := M4.out
    have Ya := Ya.out
    have Yg := Yg.out
    clear hWy q1 q2 M4
    generalize x8.heap.size + 1 = Bg at *
    generalize x8.heap.size = Ba at *
    refine (read_m M4' 0 ⟨by decide, by show (0 : Int) < 2; decide⟩ rfl).mono ?_
    rintro e v1 ⟨rfl, M5, hf1⟩
    clear M4'
    cases kp
    · have cF := cS
      rw [now3 z1 z2]
      have hf1a := hf1.blk Ya hna
      have hf1g := hf1.blk Yg hng
      clear Ya Yg hf1
      have hbx : Below v1.heap.size v1 ((v1.alloc (.cells zc 45)).setRow v1.heap.size (cellOf z2)) := below_setRow ((Below.refl _ _).alloc (Nat.le_refl _) _) (Nat.le_refl _) _
      have HX := Lib.hid (Blk.new v1 zc 45)
      have HYc : Hid (Blk ((v1.alloc (.cells zc 45)).setRow v1.heap.size (cellOf z2)) v1.heap.size (cellOf z2) 45) := Lib.hid (Blk.setRow (Blk.new _ _ _) _)
      have HYa := Lib.hid (hf1a.below hbx hf1a.lt)
      have HYg := Lib.hid (hf1g.below hbx hf1g.lt)
      have M5' := M5.below hbx
      have HST := Lib.hid (show (Calls Try.prog 21 #[.pointer (some ⟨p, 0, none⟩)] ((v1.alloc (.cells zc 45)).setRow v1.heap.size (cellOf z2)) fun e w' => e = .returned (.int .i64 3) ∧ ((v1.alloc (.cells zc 45)).setRow v1.heap.size (cellOf z2)) = w') from (stepsd M5'.disk).mono fun _ _ h => ⟨h.1, h.2.symm⟩)
      have HM5 := Lib.hid M5'
      clear hbx hf1a hf1g M5 M5'
      go_wp2_with (first | ((with_reducible refine at_st 45 _ _ rfl ?_); refine store_cW rfl _ _ rfl v1.heap.size (cellOf z2) rfl rfl zc HX.out zc_size cN.size cN.all ?_) | ((with_reducible refine at_ld 45 (.tmp 14) rfl ?_); refine loadG (by kernel_rfl) (.tmp 14) rfl v1.heap.size rfl (cellOf z2) cN.size HYc.out ?_) | ((with_reducible refine at_ld 45 (.tmp 13) rfl ?_); refine loadG (by kernel_rfl) (.tmp 13) rfl Bg rfl (cellOf z2) cN.size HYg.out ?_) | ((with_reducible refine at_neq (.tmp 73) (.tmp 74) rfl ?_); refine neqG (by kernel_rfl) (.tmp 73) (.tmp 74) rfl (cellOf z2) (cellOf z2) rfl rfl true (cel_same cN _) ?_) | (go_at_call 21; refine HST.out.mono ?_; rintro e v3 ⟨rfl, rfl⟩) | fail)
      have Ya := HYa.out
      have Yg := HYg.out
      have M5 := HM5.out
      clear HX HYc HYa HYg HST HM5
      generalize (v1.alloc (.cells zc 45)).setRow v1.heap.size (cellOf z2) = v2 at *
      have C := Lib.hid (crash_m M5 none 0 [] (Nat.zero_le _) v2.heap.size (Nat.le_refl _) (fun i x h => by simp at h) (fun ad h => by cases h))
      have Ya2 := Ya
      have Yg2 := Yg
      clear Ya Yg M5
      refine C.out.mono ?_
      rintro e v4 ⟨rfl, M6, hf6⟩
      have Ya6 := hf6.blk Ya2 hna
      have Yg6 := hf6.blk Yg2 hng
      clear C Ya2 Yg2 hf6
      have M7 := M6
      have Ya7 := Ya6
      clear M6 Ya6 Yg6
      go_wp2_with fail
      refine (read_m M7 0 ⟨by decide, by show (0 : Int) < 2; decide⟩ rfl).mono ?_
      rintro e v6 ⟨rfl, M8, hf8⟩
      rw [now3d z1 z2]
      have Ya8 := hf8.blk Ya7 hna
      clear Ya7 hf8 M7
      go_wp2_with (first | ((with_reducible refine at_st 45 _ _ rfl ?_); refine store_cW rfl _ _ rfl v6.heap.size (cellOf z1) rfl rfl zc (Blk.new v6 _ _) zc_size cF.size cF.all ?_) | fail)
      have hbx : Below v6.heap.size v6 ((v6.alloc (.cells zc 45)).setRow v6.heap.size (cellOf z1)) := below_setRow ((Below.refl _ _).alloc (Nat.le_refl _) _) (Nat.le_refl _) _
      have Yd : Blk ((v6.alloc (.cells zc 45)).setRow v6.heap.size (cellOf z1)) v6.heap.size (cellOf z1) 45 := Blk.setRow (Blk.new _ _ _) _
      have hnd : ¬ Dl p m g gc v6.heap.size := fun h => Nat.lt_irrefl _ (M8.disk.lt h)
      have Ya9 := Ya8.below hbx Ya8.lt
      replace M8 := M8.below hbx
      clear hbx Ya8
      generalize (v6.alloc (.cells zc 45)).setRow v6.heap.size (cellOf z1) = v7 at *
      refine (read_m M8 1 ⟨by decide, by show (1 : Int) < 2; decide⟩ rfl).mono ?_
      rintro e v8 ⟨rfl, M9, hf9⟩
      rw [now3z z1 z2 _ (by simp)]
      have Ya10 := hf9.blk Ya9 hna
      have Yd10 := hf9.blk Yd hnd
      clear Ya9 Yd hf9 M8
      have hbx : Below v8.heap.size v8 ((v8.alloc (.cells zc 45)).setRow v8.heap.size zc) := below_setRow ((Below.refl _ _).alloc (Nat.le_refl _) _) (Nat.le_refl _) _
      have HX := Lib.hid (Blk.new v8 zc 45)
      have Ye : Hid (Blk ((v8.alloc (.cells zc 45)).setRow v8.heap.size zc) v8.heap.size zc 45) := Lib.hid (Blk.setRow (Blk.new _ _ _) _)
      have Ya11 := Lib.hid (Ya10.below hbx Ya10.lt)
      have Yd11 := Lib.hid (Yd10.below hbx Yd10.lt)
      have M10 := Lib.hid (M9.below hbx)
      clear hbx Ya10 Yd10 M9
      go_wp2_with (first
        | ((with_reducible refine at_st 45 _ _ rfl ?_); refine store_cW rfl _ _ rfl v8.heap.size zc rfl rfl zc HX.out zc_size zc_size (Cel.zero).all ?_)
        | ((with_reducible refine at_ld 45 (.tmp 16) rfl ?_); refine loadG (by kernel_rfl) (.tmp 16) rfl v6.heap.size rfl (cellOf z1) cF.size Yd11.out ?_)
        | ((with_reducible refine at_ld 45 (.tmp 12) rfl ?_); refine loadG (by kernel_rfl) (.tmp 12) rfl Ba rfl (cellOf z1) cF.size Ya11.out ?_)
        | ((with_reducible refine at_ld 45 (.tmp 17) rfl ?_); refine loadG (by kernel_rfl) (.tmp 17) rfl v8.heap.size rfl zc zc_size Ye.out ?_)
        | ((with_reducible refine at_eql (.tmp 106) (.tmp 107) rfl ?_); refine eqlG (by kernel_rfl) (.tmp 106) (.tmp 107) rfl (cellOf z1) (cellOf z1) rfl rfl true (cel_same cF _) ?_)
        | ((with_reducible refine at_eql (.tmp 111) (.tmp 112) rfl ?_); refine eqlG (by kernel_rfl) (.tmp 111) (.tmp 112) rfl zc zc rfl rfl true (cel_same Cel.zero _) ?_)
        | fail)
      go_ret
      exact ⟨rfl, M10.out.bel⟩
    · have cF := cN
      rw [now3 z1 z2]
      have hf1a := hf1.blk Ya hna
      have hf1g := hf1.blk Yg hng
      clear Ya Yg hf1
      have hbx : Below v1.heap.size v1 ((v1.alloc (.cells zc 45)).setRow v1.heap.size (cellOf z2)) := below_setRow ((Below.refl _ _).alloc (Nat.le_refl _) _) (Nat.le_refl _) _
      have HX := Lib.hid (Blk.new v1 zc 45)
      have HYc : Hid (Blk ((v1.alloc (.cells zc 45)).setRow v1.heap.size (cellOf z2)) v1.heap.size (cellOf z2) 45) := Lib.hid (Blk.setRow (Blk.new _ _ _) _)
      have HYa := Lib.hid (hf1a.below hbx hf1a.lt)
      have HYg := Lib.hid (hf1g.below hbx hf1g.lt)
      have M5' := M5.below hbx
      have HST := Lib.hid (show (Calls Try.prog 21 #[.pointer (some ⟨p, 0, none⟩)] ((v1.alloc (.cells zc 45)).setRow v1.heap.size (cellOf z2)) fun e w' => e = .returned (.int .i64 3) ∧ ((v1.alloc (.cells zc 45)).setRow v1.heap.size (cellOf z2)) = w') from (stepsd M5'.disk).mono fun _ _ h => ⟨h.1, h.2.symm⟩)
      have HM5 := Lib.hid M5'
      clear hbx hf1a hf1g M5 M5'
      have hbs := buildS_one 0
      go_wp2_with (first | ((with_reducible refine at_st 45 _ _ rfl ?_); refine store_cW rfl _ _ rfl v1.heap.size (cellOf z2) rfl rfl zc HX.out zc_size cN.size cN.all ?_) | ((with_reducible refine at_ld 45 (.tmp 14) rfl ?_); refine loadG (by kernel_rfl) (.tmp 14) rfl v1.heap.size rfl (cellOf z2) cN.size HYc.out ?_) | ((with_reducible refine at_ld 45 (.tmp 13) rfl ?_); refine loadG (by kernel_rfl) (.tmp 13) rfl Bg rfl (cellOf z2) cN.size HYg.out ?_) | ((with_reducible refine at_neq (.tmp 73) (.tmp 74) rfl ?_); refine neqG (by kernel_rfl) (.tmp 73) (.tmp 74) rfl (cellOf z2) (cellOf z2) rfl rfl true (cel_same cN _) ?_) | (go_at_call 21; refine HST.out.mono ?_; rintro e v3 ⟨rfl, rfl⟩) | fail)
      have Ya := HYa.out
      have Yg := HYg.out
      have M5 := HM5.out
      have hsz : ((v1.alloc (.cells zc 45)).setRow v1.heap.size (cellOf z2)).heap.size = v1.heap.size + 1 := by rw [size_setRow, World.size_alloc]
      have HSZ := Lib.hid hsz
      clear HX HYc HYa HYg HST HM5 hsz
      generalize (v1.alloc (.cells zc 45)).setRow v1.heap.size (cellOf z2) = v2 at *
      have hR := ri_one (S := (v2.alloc (.cells #[.int .i64 0] 3)).heap.size) (Blk.new v2 #[.int .i64 0] 3) (by simp)
      have hba := (Below.refl v2.heap.size v2).alloc (Nat.le_refl _) (.cells #[.int .i64 0] 3)
      have C0 := crash_m (M5.below hba) (some ⟨v2.heap.size, 0, none⟩) 1 [0] (by unfold maxLen; simp) _ (Nat.le_refl _) hR (fun ad h _ hd => by cases h; exact Nat.lt_irrefl _ (M5.disk.lt hd))
      rw [HSZ.out] at C0
      have C := Lib.hid C0
      clear C0
      have Ya2 := Ya.below hba Ya.lt
      have Yg2 := Yg.below hba Yg.lt
      clear hR Ya Yg M5 hba
      refine C.out.mono ?_
      rintro e v4 ⟨rfl, M6, hf6⟩
      have Ya6 := hf6.blk Ya2 hna
      have Yg6 := hf6.blk Yg2 hng
      clear C Ya2 Yg2 hf6
      go_wp2_with (first | ((with_reducible refine at_ld 45 _ rfl ?_); refine load_cW rfl _ rfl Bg rfl (cellOf z2) cN.size Yg6 ?_) | ((with_reducible refine at_st 45 _ _ rfl ?_); refine store_cW rfl _ _ rfl Ba (cellOf z2) rfl rfl (cellOf z1) Ya6 cS.size cN.size cN.all ?_) | fail)
      have fa : Fr (fun k => k = Ba) v4 (v4.setRow Ba (cellOf z2)) := by
        have hb := below_setRow (Below.refl 0 v4) (Nat.zero_le Ba) (cellOf z2)
        exact ⟨hb.os, hb.tape, hb.output, hb.size, fun k hk hn => Go.setRow_other v4 Ba k _ hn⟩
      have M7 := M6.keep fa (fun k (hk : k = Ba) => ⟨by rw [hk]; exact hna, by rw [hk]; exact hlo⟩)
      have Ya7 := Ya6.setRow (cellOf z2)
      clear fa M6 Ya6 Yg6
      generalize v4.setRow Ba (cellOf z2) = v5 at *
      refine (read_m M7 0 ⟨by decide, by show (0 : Int) < 2; decide⟩ rfl).mono ?_
      rintro e v6 ⟨rfl, M8, hf8⟩
      rw [now3k z1 z2]
      have Ya8 := hf8.blk Ya7 hna
      clear Ya7 hf8 M7
      go_wp2_with (first | ((with_reducible refine at_st 45 _ _ rfl ?_); refine store_cW rfl _ _ rfl v6.heap.size (cellOf z2) rfl rfl zc (Blk.new v6 _ _) zc_size cF.size cF.all ?_) | fail)
      have hbx : Below v6.heap.size v6 ((v6.alloc (.cells zc 45)).setRow v6.heap.size (cellOf z2)) := below_setRow ((Below.refl _ _).alloc (Nat.le_refl _) _) (Nat.le_refl _) _
      have Yd : Blk ((v6.alloc (.cells zc 45)).setRow v6.heap.size (cellOf z2)) v6.heap.size (cellOf z2) 45 := Blk.setRow (Blk.new _ _ _) _
      have hnd : ¬ Dl p m g gc v6.heap.size := fun h => Nat.lt_irrefl _ (M8.disk.lt h)
      have Ya9 := Ya8.below hbx Ya8.lt
      replace M8 := M8.below hbx
      clear hbx Ya8
      generalize (v6.alloc (.cells zc 45)).setRow v6.heap.size (cellOf z2) = v7 at *
      refine (read_m M8 1 ⟨by decide, by show (1 : Int) < 2; decide⟩ rfl).mono ?_
      rintro e v8 ⟨rfl, M9, hf9⟩
      rw [now3z z1 z2 _ (by simp)]
      have Ya10 := hf9.blk Ya9 hna
      have Yd10 := hf9.blk Yd hnd
      clear Ya9 Yd hf9 M8
      have hbx : Below v8.heap.size v8 ((v8.alloc (.cells zc 45)).setRow v8.heap.size zc) := below_setRow ((Below.refl _ _).alloc (Nat.le_refl _) _) (Nat.le_refl _) _
      have HX := Lib.hid (Blk.new v8 zc 45)
      have Ye : Hid (Blk ((v8.alloc (.cells zc 45)).setRow v8.heap.size zc) v8.heap.size zc 45) := Lib.hid (Blk.setRow (Blk.new _ _ _) _)
      have Ya11 := Lib.hid (Ya10.below hbx Ya10.lt)
      have Yd11 := Lib.hid (Yd10.below hbx Yd10.lt)
      have M10 := Lib.hid (M9.below hbx)
      clear hbx Ya10 Yd10 M9
      go_wp2_with (first
        | ((with_reducible refine at_st 45 _ _ rfl ?_); refine store_cW rfl _ _ rfl v8.heap.size zc rfl rfl zc HX.out zc_size zc_size (Cel.zero).all ?_)
        | ((with_reducible refine at_ld 45 (.tmp 16) rfl ?_); refine loadG (by kernel_rfl) (.tmp 16) rfl v6.heap.size rfl (cellOf z2) cF.size Yd11.out ?_)
        | ((with_reducible refine at_ld 45 (.tmp 12) rfl ?_); refine loadG (by kernel_rfl) (.tmp 12) rfl Ba rfl (cellOf z2) cF.size Ya11.out ?_)
        | ((with_reducible refine at_ld 45 (.tmp 17) rfl ?_); refine loadG (by kernel_rfl) (.tmp 17) rfl v8.heap.size rfl zc zc_size Ye.out ?_)
        | ((with_reducible refine at_eql (.tmp 106) (.tmp 107) rfl ?_); refine eqlG (by kernel_rfl) (.tmp 106) (.tmp 107) rfl (cellOf z2) (cellOf z2) rfl rfl true (cel_same cF _) ?_)
        | ((with_reducible refine at_eql (.tmp 111) (.tmp 112) rfl ?_); refine eqlG (by kernel_rfl) (.tmp 111) (.tmp 112) rfl zc zc rfl rfl true (cel_same Cel.zero _) ?_)
        | fail)
      go_ret
      exact ⟨rfl, M10.out.bel⟩
  · have hl2 : z3.length ≤ 128 := by omega
    have C : Calls Try.prog 33 #[.pointer (some ⟨p, 0, none⟩), .int .i64 0, .slice A3 z3.length c3] x5 (LeftF w.heap.size w x5 p m g gc .nilIface (dT4 z1 z2 z3)) := tamper_m_none M3 0 (by show 0 < 2; omega) A3 c3 z3 hl2 _ M3.siz (HR3.out.below M3.bel) (fun ad h hlt hd => absurd (M3.own _ hd) (Nat.not_le_of_lt hlt))
    have HC := Lib.hid C
    clear C
    have cN := (Cel.of z2).over hl2
    have cS := (Cel.of z1).over hl2
    have cN0 := Cel.of z2
    have cS0 := Cel.of z1
    clear M3
    go_wp2_with fail
    refine HC.out.mono ?_
    rintro e x6 ⟨rfl, M3, _⟩
    clear HC
    go_wp2_with fail
    refine (cell_m HR1.out M3.bel).mono ?_
    rintro e x7 ⟨rfl, hbx⟩
    replace M3 := M3.below hbx
    clear hbx
    go_wp2_with fail
    refine (cell_m HR2.out M3.bel).mono ?_
    rintro e x8 ⟨rfl, hbx⟩
    replace M3 := M3.below hbx
    clear hbx
    obtain ⟨Ya0, Yg0, hby, q1, q2⟩ := two_cells x8 (cellOf z1) (cellOf z2) cS0.size cN0.size
    have M4 := Lib.hid (M3.below hby)
    have YA := Lib.hid Ya0
    have YG := Lib.hid Yg0
    have hna : ¬ Dl p m g gc x8.heap.size := fun h => Nat.lt_irrefl _ (M3.disk.lt h)
    have hng : ¬ Dl p m g gc (x8.heap.size + 1) := fun h => by have := M3.disk.lt h; omega
    have hlo : w.heap.size ≤ x8.heap.size := M3.siz
    have hf1 : 0 + z3.length ≤ (cellOf z1).size := by rw [cS0.size]; omega
    have hf2 : 0 + z3.length ≤ (cellOf z2).size := by rw [cN0.size]; omega
    have HR3' := Lib.hid (HR3.out.below M4.out.bel)
    clear hby M3 Ya0 Yg0
    go_wp2_with (first
      | ((with_reducible refine at_st 45 _ _ rfl ?_); refine store_cW rfl _ _ rfl x8.heap.size (cellOf z1) rfl rfl zc q2 zc_size cS0.size cS0.all ?_)
      | ((with_reducible refine at_st 45 _ _ rfl ?_); refine store_cW rfl _ _ rfl (x8.heap.size + 1) (cellOf z2) rfl rfl zc q1 zc_size cN0.size cN0.all ?_)
      | (refine copyW rfl (.tmp 59) (.tmp 60) rfl rfl rfl YA.out HR3'.out hl2 hf1 ?_; intro y1 hya hfa; have Ya1 := Lib.hid hya; have FA := Lib.hid hfa; have Yg1 := Lib.hid (hfa.blk YG.out (by omega)); have M41 := Lib.hid (M4.out.keep hfa (fun k (hk : k = x8.heap.size) => ⟨by rw [hk]; exact hna, by rw [hk]; exact hlo⟩)); have HR3'' := Lib.hid (HR3'.out.fr' M4.out.siz hfa (fun ad h hl (hk : ad.block = x8.heap.size) => by omega)); clear hya hfa)
      | (refine copyW rfl (.tmp 62) (.tmp 63) rfl rfl rfl Yg1.out HR3''.out hl2 hf2 ?_; intro y2 hyg hfg; have Yg2 := Lib.hid hyg; have Ya2 := Lib.hid (hfg.blk Ya1.out (by omega)); have M42 := Lib.hid (M41.out.keep hfg (fun k (hk : k = x8.heap.size + 1) => ⟨by rw [hk]; exact hng, by rw [hk]; omega⟩)); clear hyg hfg)
      | fail)
    have M4' := M42.out
    have Ya : Blk y2 x8.heap.size (overC (cellOf z1) z3) 45 := Ya2.out
    have Yg : Blk y2 (x8.heap.size + 1) (overC (cellOf z2) z3) 45 := Yg2.out
    clear YA YG q1 q2 M4 M41 M42 Ya1 Ya2 Yg1 Yg2 HR3' HR3'' FA hf1 hf2
    generalize x8.heap.size + 1 = Bg at *
    generalize x8.heap.size = Ba at *
    refine (read_m M4' 0 ⟨by decide, by show (0 : Int) < 2; decide⟩ rfl).mono ?_
    rintro e v1 ⟨rfl, M5, hf1⟩
    clear M4'
    cases kp
    · have cF := cS
      rw [now4 z1 z2 z3]
      have hf1a := hf1.blk Ya hna
      have hf1g := hf1.blk Yg hng
      clear Ya Yg hf1
      have hbx : Below v1.heap.size v1 ((v1.alloc (.cells zc 45)).setRow v1.heap.size (overC (cellOf z2) z3)) := below_setRow ((Below.refl _ _).alloc (Nat.le_refl _) _) (Nat.le_refl _) _
      have HX := Lib.hid (Blk.new v1 zc 45)
      have HYc : Hid (Blk ((v1.alloc (.cells zc 45)).setRow v1.heap.size (overC (cellOf z2) z3)) v1.heap.size (overC (cellOf z2) z3) 45) := Lib.hid (Blk.setRow (Blk.new _ _ _) _)
      have HYa := Lib.hid (hf1a.below hbx hf1a.lt)
      have HYg := Lib.hid (hf1g.below hbx hf1g.lt)
      have M5' := M5.below hbx
      have HST := Lib.hid (show (Calls Try.prog 21 #[.pointer (some ⟨p, 0, none⟩)] ((v1.alloc (.cells zc 45)).setRow v1.heap.size (overC (cellOf z2) z3)) fun e w' => e = .returned (.int .i64 3) ∧ ((v1.alloc (.cells zc 45)).setRow v1.heap.size (overC (cellOf z2) z3)) = w') from (stepsd M5'.disk).mono fun _ _ h => ⟨h.1, h.2.symm⟩)
      have HM5 := Lib.hid M5'
      clear hbx hf1a hf1g M5 M5'
      go_wp2_with (first | ((with_reducible refine at_st 45 _ _ rfl ?_); refine store_cW rfl _ _ rfl v1.heap.size (overC (cellOf z2) z3) rfl rfl zc HX.out zc_size cN.size cN.all ?_) | ((with_reducible refine at_ld 45 (.tmp 14) rfl ?_); refine loadG (by kernel_rfl) (.tmp 14) rfl v1.heap.size rfl (overC (cellOf z2) z3) cN.size HYc.out ?_) | ((with_reducible refine at_ld 45 (.tmp 13) rfl ?_); refine loadG (by kernel_rfl) (.tmp 13) rfl Bg rfl (overC (cellOf z2) z3) cN.size HYg.out ?_) | ((with_reducible refine at_neq (.tmp 73) (.tmp 74) rfl ?_); refine neqG (by kernel_rfl) (.tmp 73) (.tmp 74) rfl (overC (cellOf z2) z3) (overC (cellOf z2) z3) rfl rfl true (cel_same cN _) ?_) | (go_at_call 21; refine HST.out.mono ?_; rintro e v3 ⟨rfl, rfl⟩) | fail)
      have Ya := HYa.out
      have Yg := HYg.out
      have M5 := HM5.out
      clear HX HYc HYa HYg HST HM5
      generalize (v1.alloc (.cells zc 45)).setRow v1.heap.size (overC (cellOf z2) z3) = v2 at *
      have C := Lib.hid (crash_m M5 none 0 [] (Nat.zero_le _) v2.heap.size (Nat.le_refl _) (fun i x h => by simp at h) (fun ad h => by cases h))
      have Ya2 := Ya
      have Yg2 := Yg
      clear Ya Yg M5
      refine C.out.mono ?_
      rintro e v4 ⟨rfl, M6, hf6⟩
      have Ya6 := hf6.blk Ya2 hna
      have Yg6 := hf6.blk Yg2 hng
      clear C Ya2 Yg2 hf6
      have M7 := M6
      have Ya7 := Ya6
      clear M6 Ya6 Yg6
      go_wp2_with fail
      refine (read_m M7 0 ⟨by decide, by show (0 : Int) < 2; decide⟩ rfl).mono ?_
      rintro e v6 ⟨rfl, M8, hf8⟩
      rw [now4d z1 z2 z3]
      have Ya8 := hf8.blk Ya7 hna
      clear Ya7 hf8 M7
      go_wp2_with (first | ((with_reducible refine at_st 45 _ _ rfl ?_); refine store_cW rfl _ _ rfl v6.heap.size (overC (cellOf z1) z3) rfl rfl zc (Blk.new v6 _ _) zc_size cF.size cF.all ?_) | fail)
      have hbx : Below v6.heap.size v6 ((v6.alloc (.cells zc 45)).setRow v6.heap.size (overC (cellOf z1) z3)) := below_setRow ((Below.refl _ _).alloc (Nat.le_refl _) _) (Nat.le_refl _) _
      have Yd : Blk ((v6.alloc (.cells zc 45)).setRow v6.heap.size (overC (cellOf z1) z3)) v6.heap.size (overC (cellOf z1) z3) 45 := Blk.setRow (Blk.new _ _ _) _
      have hnd : ¬ Dl p m g gc v6.heap.size := fun h => Nat.lt_irrefl _ (M8.disk.lt h)
      have Ya9 := Ya8.below hbx Ya8.lt
      replace M8 := M8.below hbx
      clear hbx Ya8
      generalize (v6.alloc (.cells zc 45)).setRow v6.heap.size (overC (cellOf z1) z3) = v7 at *
      refine (read_m M8 1 ⟨by decide, by show (1 : Int) < 2; decide⟩ rfl).mono ?_
      rintro e v8 ⟨rfl, M9, hf9⟩
      rw [now4z z1 z2 z3 _ (by simp)]
      have Ya10 := hf9.blk Ya9 hna
      have Yd10 := hf9.blk Yd hnd
      clear Ya9 Yd hf9 M8
      have hbx : Below v8.heap.size v8 ((v8.alloc (.cells zc 45)).setRow v8.heap.size zc) := below_setRow ((Below.refl _ _).alloc (Nat.le_refl _) _) (Nat.le_refl _) _
      have HX := Lib.hid (Blk.new v8 zc 45)
      have Ye : Hid (Blk ((v8.alloc (.cells zc 45)).setRow v8.heap.size zc) v8.heap.size zc 45) := Lib.hid (Blk.setRow (Blk.new _ _ _) _)
      have Ya11 := Lib.hid (Ya10.below hbx Ya10.lt)
      have Yd11 := Lib.hid (Yd10.below hbx Yd10.lt)
      have M10 := Lib.hid (M9.below hbx)
      clear hbx Ya10 Yd10 M9
      go_wp2_with (first
        | ((with_reducible refine at_st 45 _ _ rfl ?_); refine store_cW rfl _ _ rfl v8.heap.size zc rfl rfl zc HX.out zc_size zc_size (Cel.zero).all ?_)
        | ((with_reducible refine at_ld 45 (.tmp 16) rfl ?_); refine loadG (by kernel_rfl) (.tmp 16) rfl v6.heap.size rfl (overC (cellOf z1) z3) cF.size Yd11.out ?_)
        | ((with_reducible refine at_ld 45 (.tmp 12) rfl ?_); refine loadG (by kernel_rfl) (.tmp 12) rfl Ba rfl (overC (cellOf z1) z3) cF.size Ya11.out ?_)
        | ((with_reducible refine at_ld 45 (.tmp 17) rfl ?_); refine loadG (by kernel_rfl) (.tmp 17) rfl v8.heap.size rfl zc zc_size Ye.out ?_)
        | ((with_reducible refine at_eql (.tmp 106) (.tmp 107) rfl ?_); refine eqlG (by kernel_rfl) (.tmp 106) (.tmp 107) rfl (overC (cellOf z1) z3) (overC (cellOf z1) z3) rfl rfl true (cel_same cF _) ?_)
        | ((with_reducible refine at_eql (.tmp 111) (.tmp 112) rfl ?_); refine eqlG (by kernel_rfl) (.tmp 111) (.tmp 112) rfl zc zc rfl rfl true (cel_same Cel.zero _) ?_)
        | fail)
      go_ret
      exact ⟨rfl, M10.out.bel⟩
    · have cF := cN
      rw [now4 z1 z2 z3]
      have hf1a := hf1.blk Ya hna
      have hf1g := hf1.blk Yg hng
      clear Ya Yg hf1
      have hbx : Below v1.heap.size v1 ((v1.alloc (.cells zc 45)).setRow v1.heap.size (overC (cellOf z2) z3)) := below_setRow ((Below.refl _ _).alloc (Nat.le_refl _) _) (Nat.le_refl _) _
      have HX := Lib.hid (Blk.new v1 zc 45)
      have HYc : Hid (Blk ((v1.alloc (.cells zc 45)).setRow v1.heap.size (overC (cellOf z2) z3)) v1.heap.size (overC (cellOf z2) z3) 45) := Lib.hid (Blk.setRow (Blk.new _ _ _) _)
      have HYa := Lib.hid (hf1a.below hbx hf1a.lt)
      have HYg := Lib.hid (hf1g.below hbx hf1g.lt)
      have M5' := M5.below hbx
      have HST := Lib.hid (show (Calls Try.prog 21 #[.pointer (some ⟨p, 0, none⟩)] ((v1.alloc (.cells zc 45)).setRow v1.heap.size (overC (cellOf z2) z3)) fun e w' => e = .returned (.int .i64 3) ∧ ((v1.alloc (.cells zc 45)).setRow v1.heap.size (overC (cellOf z2) z3)) = w') from (stepsd M5'.disk).mono fun _ _ h => ⟨h.1, h.2.symm⟩)
      have HM5 := Lib.hid M5'
      clear hbx hf1a hf1g M5 M5'
      have hbs := buildS_one 0
      go_wp2_with (first | ((with_reducible refine at_st 45 _ _ rfl ?_); refine store_cW rfl _ _ rfl v1.heap.size (overC (cellOf z2) z3) rfl rfl zc HX.out zc_size cN.size cN.all ?_) | ((with_reducible refine at_ld 45 (.tmp 14) rfl ?_); refine loadG (by kernel_rfl) (.tmp 14) rfl v1.heap.size rfl (overC (cellOf z2) z3) cN.size HYc.out ?_) | ((with_reducible refine at_ld 45 (.tmp 13) rfl ?_); refine loadG (by kernel_rfl) (.tmp 13) rfl Bg rfl (overC (cellOf z2) z3) cN.size HYg.out ?_) | ((with_reducible refine at_neq (.tmp 73) (.tmp 74) rfl ?_); refine neqG (by kernel_rfl) (.tmp 73) (.tmp 74) rfl (overC (cellOf z2) z3) (overC (cellOf z2) z3) rfl rfl true (cel_same cN _) ?_) | (go_at_call 21; refine HST.out.mono ?_; rintro e v3 ⟨rfl, rfl⟩) | fail)
      have Ya := HYa.out
      have Yg := HYg.out
      have M5 := HM5.out
      have hsz : ((v1.alloc (.cells zc 45)).setRow v1.heap.size (overC (cellOf z2) z3)).heap.size = v1.heap.size + 1 := by rw [size_setRow, World.size_alloc]
      have HSZ := Lib.hid hsz
      clear HX HYc HYa HYg HST HM5 hsz
      generalize (v1.alloc (.cells zc 45)).setRow v1.heap.size (overC (cellOf z2) z3) = v2 at *
      have hR := ri_one (S := (v2.alloc (.cells #[.int .i64 0] 3)).heap.size) (Blk.new v2 #[.int .i64 0] 3) (by simp)
      have hba := (Below.refl v2.heap.size v2).alloc (Nat.le_refl _) (.cells #[.int .i64 0] 3)
      have C0 := crash_m (M5.below hba) (some ⟨v2.heap.size, 0, none⟩) 1 [0] (by unfold maxLen; simp) _ (Nat.le_refl _) hR (fun ad h _ hd => by cases h; exact Nat.lt_irrefl _ (M5.disk.lt hd))
      rw [HSZ.out] at C0
      have C := Lib.hid C0
      clear C0
      have Ya2 := Ya.below hba Ya.lt
      have Yg2 := Yg.below hba Yg.lt
      clear hR Ya Yg M5 hba
      refine C.out.mono ?_
      rintro e v4 ⟨rfl, M6, hf6⟩
      have Ya6 := hf6.blk Ya2 hna
      have Yg6 := hf6.blk Yg2 hng
      clear C Ya2 Yg2 hf6
      go_wp2_with (first | ((with_reducible refine at_ld 45 _ rfl ?_); refine load_cW rfl _ rfl Bg rfl (overC (cellOf z2) z3) cN.size Yg6 ?_) | ((with_reducible refine at_st 45 _ _ rfl ?_); refine store_cW rfl _ _ rfl Ba (overC (cellOf z2) z3) rfl rfl (overC (cellOf z1) z3) Ya6 cS.size cN.size cN.all ?_) | fail)
      have fa : Fr (fun k => k = Ba) v4 (v4.setRow Ba (overC (cellOf z2) z3)) := by
        have hb := below_setRow (Below.refl 0 v4) (Nat.zero_le Ba) (overC (cellOf z2) z3)
        exact ⟨hb.os, hb.tape, hb.output, hb.size, fun k hk hn => Go.setRow_other v4 Ba k _ hn⟩
      have M7 := M6.keep fa (fun k (hk : k = Ba) => ⟨by rw [hk]; exact hna, by rw [hk]; exact hlo⟩)
      have Ya7 := Ya6.setRow (overC (cellOf z2) z3)
      clear fa M6 Ya6 Yg6
      generalize v4.setRow Ba (overC (cellOf z2) z3) = v5 at *
      refine (read_m M7 0 ⟨by decide, by show (0 : Int) < 2; decide⟩ rfl).mono ?_
      rintro e v6 ⟨rfl, M8, hf8⟩
      rw [now4k z1 z2 z3]
      have Ya8 := hf8.blk Ya7 hna
      clear Ya7 hf8 M7
      go_wp2_with (first | ((with_reducible refine at_st 45 _ _ rfl ?_); refine store_cW rfl _ _ rfl v6.heap.size (overC (cellOf z2) z3) rfl rfl zc (Blk.new v6 _ _) zc_size cF.size cF.all ?_) | fail)
      have hbx : Below v6.heap.size v6 ((v6.alloc (.cells zc 45)).setRow v6.heap.size (overC (cellOf z2) z3)) := below_setRow ((Below.refl _ _).alloc (Nat.le_refl _) _) (Nat.le_refl _) _
      have Yd : Blk ((v6.alloc (.cells zc 45)).setRow v6.heap.size (overC (cellOf z2) z3)) v6.heap.size (overC (cellOf z2) z3) 45 := Blk.setRow (Blk.new _ _ _) _
      have hnd : ¬ Dl p m g gc v6.heap.size := fun h => Nat.lt_irrefl _ (M8.disk.lt h)
      have Ya9 := Ya8.below hbx Ya8.lt
      replace M8 := M8.below hbx
      clear hbx Ya8
      generalize (v6.alloc (.cells zc 45)).setRow v6.heap.size (overC (cellOf z2) z3) = v7 at *
      refine (read_m M8 1 ⟨by decide, by show (1 : Int) < 2; decide⟩ rfl).mono ?_
      rintro e v8 ⟨rfl, M9, hf9⟩
      rw [now4z z1 z2 z3 _ (by simp)]
      have Ya10 := hf9.blk Ya9 hna
      have Yd10 := hf9.blk Yd hnd
      clear Ya9 Yd hf9 M8
      have hbx : Below v8.heap.size v8 ((v8.alloc (.cells zc 45)).setRow v8.heap.size zc) := below_setRow ((Below.refl _ _).alloc (Nat.le_refl _) _) (Nat.le_refl _) _
      have HX := Lib.hid (Blk.new v8 zc 45)
      have Ye : Hid (Blk ((v8.alloc (.cells zc 45)).setRow v8.heap.size zc) v8.heap.size zc 45) := Lib.hid (Blk.setRow (Blk.new _ _ _) _)
      have Ya11 := Lib.hid (Ya10.below hbx Ya10.lt)
      have Yd11 := Lib.hid (Yd10.below hbx Yd10.lt)
      have M10 := Lib.hid (M9.below hbx)
      clear hbx Ya10 Yd10 M9
      go_wp2_with (first
        | ((with_reducible refine at_st 45 _ _ rfl ?_); refine store_cW rfl _ _ rfl v8.heap.size zc rfl rfl zc HX.out zc_size zc_size (Cel.zero).all ?_)
        | ((with_reducible refine at_ld 45 (.tmp 16) rfl ?_); refine loadG (by kernel_rfl) (.tmp 16) rfl v6.heap.size rfl (overC (cellOf z2) z3) cF.size Yd11.out ?_)
        | ((with_reducible refine at_ld 45 (.tmp 12) rfl ?_); refine loadG (by kernel_rfl) (.tmp 12) rfl Ba rfl (overC (cellOf z2) z3) cF.size Ya11.out ?_)
        | ((with_reducible refine at_ld 45 (.tmp 17) rfl ?_); refine loadG (by kernel_rfl) (.tmp 17) rfl v8.heap.size rfl zc zc_size Ye.out ?_)
        | ((with_reducible refine at_eql (.tmp 106) (.tmp 107) rfl ?_); refine eqlG (by kernel_rfl) (.tmp 106) (.tmp 107) rfl (overC (cellOf z2) z3) (overC (cellOf z2) z3) rfl rfl true (cel_same cF _) ?_)
        | ((with_reducible refine at_eql (.tmp 111) (.tmp 112) rfl ?_); refine eqlG (by kernel_rfl) (.tmp 111) (.tmp 112) rfl zc zc rfl rfl true (cel_same Cel.zero _) ?_)
        | fail)
      go_ret
      exact ⟨rfl, M10.out.bel⟩
set_option maxHeartbeats 1000000 in
theorem platterTouched_walk (A1 : Option Addr) (c1 : Nat) (z1 : List Int) (A2 : Option Addr) (c2 : Nat) (z2 : List Int) (A3 : Option Addr) (c3 : Nat) (z3 : List Int) (kp : Bool) (w : World) (hr1 : RB w w.heap.size A1 z1) (hr2 : RB w w.heap.size A2 z2) (hr3 : RB w w.heap.size A3 z3) :
    Calls Try.prog 3 #[.agg #[.slice A1 z1.length c1, .slice A2 z2.length c2, .slice A3 z3.length c3, .bool kp]] w fun e w' => e = .returned (.bool true) ∧ Below w.heap.size w w' := by
  have hb : Below w.heap.size w (w.alloc (.cells #[.slice A1 z1.length c1, .slice A2 z2.length c2, .slice A3 z3.length c3, .bool kp] 24)) := (Below.refl _ _).alloc (Nat.le_refl _) _
  have hB := Blk.new w #[.slice A1 z1.length c1, .slice A2 z2.length c2, .slice A3 z3.length c3, .bool kp] 24
  have x0 := hB.cell (j := 0) rfl
  have x1 := hB.cell (j := 1) rfl
  have x2 := hB.cell (j := 2) rfl
  have x3 := hB.cell (j := 3) rfl
  have HC := Lib.hid (touched_walk A1 c1 z1 A2 c2 z2 A3 c3 z3 kp _ ((hr1.below hb).mono hb.size) ((hr2.below hb).mono hb.size) ((hr3.below hb).mono hb.size))
  have HB := Lib.hid hb
  clear hr1 hr2 hr3 hb hB
  go_enter Try.func3, Try.ntmps3
  go_wp2_with (first
    | (go_at_call 10; refine HC.out.mono ?_; rintro e w2 ⟨rfl, hb2⟩)
    | fail)
  go_ret
  exact ⟨rfl, HB.out.trans (hb2.mono HB.out.size)⟩
/-! ### the row's frame -/
theorem platterTouched_own : ownKnob Try.prog.godebug = none := by kernel_rfl
theorem platterTouched_laid : laidOutB Try.prog = true := by kernel_rfl
set_option maxRecDepth 100000 in
theorem platterTouched_lifted (os : Os) (started : os.Started) (H : Type) (enc : TypeId × Value → H) :
    ReturnsInHanded {} Try.checked os 3 .any (Rows.platterTouchedSpec.pre6 enc Try.prog Try.f3 Rows.platterTouchedRow.domain false) (Rows.platterTouchedSpec.post enc Try.prog Try.f3 false true false false) := by
  refine returnsInHanded_of_change (C := Try.checked) platterTouched_own started (by kernel_rfl) Try.func3
    (ChangeSpec.witness6 (enc := enc) (C := Try.checked) false ⟨#[], #[.agg #[.slice none 0 0, .slice none 0 0, .slice none 0 0, .bool false]], []⟩ 8 (by kernel_rfl) (by kernel_rfl) (by kernel_rfl) (by kernel_rfl)) ?_
  intro W base args ds gs before hval0 hW hcnd _
  have hval : ∀ (j : Nat) t v, Try.f3.params[j]? = some t → args[j]? = some v → Value.okWide Try.prog W .any base t v := hval0
  have hW' := hW
  obtain ⟨p, q, hA0, hV, rfl, hfz, hnd⟩ := hW
  have hlt0 : ∀ x ∈ p, x.block < W.heap.size := fun x hx => hW'.lt x (List.mem_append.2 (.inl hx))
  have hA : DataW.TrodAll enc Try.prog W 0 (fun _ => true) true Try.f3.params.toList args.toList ds p := hA0
  rw [Try.params3] at hA hval
  obtain ⟨v0, vs0, d0, ds0, p0, q0, hargs, rfl, rfl, h0, r0⟩ := trodAll_cons hA
  obtain ⟨rfl, rfl, rfl⟩ := trodAll_nil r0
  obtain rfl : args = #[v0] := by cases args; simp_all
  obtain ⟨rfl, rfl⟩ := trodVars_none hV
  have k0 := h0
  have lt0 : ∀ x ∈ p0, x.block < W.heap.size := fun x hx => hlt0 x (by simp [hx])
  obtain ⟨A0, c0, z0, B0, e0, y0, C0, f0, x0, kp0, rfl, hr0, hs0, ht0⟩ := tampered_of (hval 0 24 v0 rfl rfl) h0
  clear hA0 hval0
  refine (platterTouched_walk A0 c0 z0 B0 e0 y0 C0 f0 x0 kp0 W hr0 hs0 ht0).mono fun e W' ⟨he, bel⟩ => ?_
  subst he
  exact ⟨_, rfl, _, _, _, [], _, [], hW', trodAll_mk1 (shut_bool Try.underlying4 _), (trodAll_cons_mk (Below.trod platterTouched_laid (by kernel_rfl) (of_decide_eq_true (by kernel_rfl)) k0 bel lt0) trodAll_mk0), rfl, bel.frame _, fun h => by cases h⟩

theorem platterTouched_proved : Rows.PlatterTouchedSaid :=
  OpenClaim.holds_of_wide 3 Try.f3 rfl rfl rfl rfl rfl rfl rfl ⟨rfl, rfl, rfl, rfl, rfl⟩ rfl rfl rfl rfl rfl (by kernel_rfl) Try.func3 (by kernel_rfl)
    (of_decide_eq_true (by kernel_rfl)) (by unfold Func.isWrapper; rw [if_neg (of_decide_eq_false (by kernel_rfl))]; exact ⟨rfl, rfl⟩)
    (fun os started H enc _ => platterTouched_lifted os started H enc)
#print axioms platterTouched_proved

end Go.Proofs.Ythfhilinajemhaa
