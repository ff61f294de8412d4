/-
  PlatterNone: for every sector, every number and every bytes the law returns true and leaves its arguments alone. No condition.
-/
import Derived.Test.YthfhilinajemhaaExample
import Derived.Test.YthfhilinajemhaaOpen2
import Derived.Test.YthfhilinajemhaaTamper
import Derived.Test.YthfhilinajemhaaColl
namespace Go.Proofs.Ythfhilinajemhaa
open Go.ChangeShapes Go.WideShapes Go.ChangeAt Go.RowKit
open Go.Maps (Keyed)
set_option linter.unusedVariables false

theorem is42 (w : World) : Calls Try.prog 42 #[errP 1] w fun e w' => e = .returned (.bool true) ∧ w' = w := by
  have D := isC_any 1 1 (by omega) (by omega) w
  unfold errP at D ⊢
  have HD := Lib.hid D
  clear D
  go_enter Try.func42, Try.ntmps42
  go_wp2_with (first | (go_at_call 14; refine HD.out.mono ?_; rintro e w' ⟨rfl, rfl⟩) | fail)
  go_ret
  exact ⟨rfl, rfl⟩
set_option maxHeartbeats 4000000 in
set_option maxRecDepth 20000 in
theorem platterNone_walk (a0 : Int) (ha0 : ok64 a0) (a1 : Int) (ha1 : ok64 a1) (A : Option Addr) (n c : Nat) (w : World) :
    Calls Try.prog 9 #[.int .i64 a0, .int .i64 a1, .slice A n c] w fun e w' => e = .returned (.bool true) ∧ Below w.heap.size w w' := by
  have hbs := buildS_one a0
  have hz := zc_zero
  have hs := zc_size
  have hne := zc_ne
  have H42 := Lib.hid is42
  unfold errP at H42
  go_enter Try.func9, Try.ntmps9
  go_wp2_with fail
  refine (alive_any w).mono ?_
  rintro e w1 ⟨rfl, hb1⟩
  go_wp2_with fail
  refine (crash_nil _ _ _ _).mono ?_
  rintro e w2 ⟨rfl, hb2⟩
  have B2 : Hid (Below w.heap.size w w2) := Lib.hid ((hb1.alloc hb1.size _).trans (hb2.mono (by have := hb1.size; simp; omega)))
  clear hb1 hb2
  go_wp2_with fail
  refine (read_nil _ _).mono ?_
  rintro e w3 ⟨rfl, hb3⟩
  have B3 : Hid (Below w.heap.size w w3) := Lib.hid (B2.out.trans (hb3.mono B2.out.size))
  clear hb3 B2
  unfold errP
  go_wp2_with (first | (refine store_cW rfl _ _ rfl w3.heap.size zc rfl rfl zc (Blk.new w3 _ _) zc_size zc_size (Cel.zero).all ?_) | fail)
  have hbx : Below w3.heap.size w3 ((w3.alloc (.cells zc 45)).setRow w3.heap.size zc) := below_setRow ((Below.refl _ _).alloc (Nat.le_refl _) _) (Nat.le_refl _) _
  have B4 := Lib.hid (B3.out.trans (hbx.mono B3.out.size))
  clear hbx B3
  generalize (w3.alloc (.cells zc 45)).setRow w3.heap.size zc = w4 at *
  refine (counter_nil _ _).mono ?_
  unfold errP
  rintro e w5 ⟨rfl, rfl⟩
  go_wp2_with (first
    | (go_at_call 42; refine (H42.out _).mono ?_; rintro e w6 ⟨rfl, rfl⟩)
    | fail)
  refine (write_nil _ zc zc_size _).mono ?_
  unfold errP
  rintro e w6 ⟨rfl, hb6⟩
  have B6 := Lib.hid (B4.out.trans (hb6.mono B4.out.size))
  clear hb6 B4
  go_wp2_with (first
    | (go_at_call 42; refine (H42.out _).mono ?_; rintro e w7 ⟨rfl, rfl⟩)
    | fail)
  refine (flush_nil _ _ _).mono ?_
  unfold errP
  rintro e w8 ⟨rfl, hb8⟩
  have B8 := Lib.hid (B6.out.trans (hb8.mono B6.out.size))
  clear hb8 B6
  go_wp2_with (first
    | (go_at_call 42; refine (H42.out _).mono ?_; rintro e w9 ⟨rfl, rfl⟩)
    | (go_at_call 13; refine (raise_nil _ _ _).mono ?_; unfold errP; rintro e w9 ⟨rfl, rfl⟩)
    | (go_at_call 33; refine (tamper_nil _ _ _ _ _).mono ?_; unfold errP; rintro e w9 ⟨rfl, rfl⟩)
    | (go_at_call 17; refine (arm_nil _ _).mono ?_; unfold errP; rintro e w9 ⟨rfl, rfl⟩)
    | fail)
  have C : ∀ w, Calls Try.prog 24 #[.pointer none, .int .i64 9] w (OpenOut w []) := fun w => opened_nil 9 (by omega) w
  refine (C _).mono ?_
  rintro e w10 ⟨A', c', rfl, _, hb10⟩
  have B10 := Lib.hid (B8.out.trans (hb10.mono B8.out.size))
  clear hb10 B8 C
  rw [List.length_nil]
  go_wp2_with (first
    | (go_at_call 43; refine (size_nil _).mono ?_; rintro e w11 ⟨rfl, rfl⟩)
    | (go_at_call 21; refine (steps_nil _).mono ?_; rintro e w11 ⟨rfl, rfl⟩)
    | (go_at_call 22; refine (down_nil _).mono ?_; rintro e w11 ⟨rfl, rfl⟩)
    | fail)
  go_ret
  exact ⟨rfl, B10.out⟩
/-! ### the row's frame -/
theorem platterNone_own : ownKnob Try.prog.godebug = none := by kernel_rfl
theorem platterNone_laid : laidOutB Try.prog = true := by kernel_rfl
set_option maxRecDepth 100000 in
theorem platterNone_lifted (os : Os) (started : os.Started) (H : Type) (enc : TypeId × Value → H) :
    ReturnsInHanded {} Try.checked os 9 .any (Rows.platterNoneSpec.pre6 enc Try.prog Try.f9 Rows.platterNoneRow.domain false) (Rows.platterNoneSpec.post enc Try.prog Try.f9 false true false false) := by
  refine returnsInHanded_of_change (C := Try.checked) platterNone_own started (by kernel_rfl) Try.func9
    (ChangeSpec.witness6 (enc := enc) (C := Try.checked) false ⟨#[], #[.int .i64 0, .int .i64 0, .slice none 0 0], []⟩ 8 (by kernel_rfl) (by kernel_rfl) (by kernel_rfl) (by kernel_rfl)) ?_
  intro W base args ds gs before hval0 hW hcnd _
  have hval : ∀ (j : Nat) t v, Try.f9.params[j]? = some t → args[j]? = some v → Value.okWide Try.prog W .any base t v := hval0
  have hW' := hW
  obtain ⟨p, q, hA0, hV, rfl, hfz, hnd⟩ := hW
  have hlt0 : ∀ x ∈ p, x.block < W.heap.size := fun x hx => hW'.lt x (List.mem_append.2 (.inl hx))
  have hA : DataW.TrodAll enc Try.prog W 0 (fun _ => true) true Try.f9.params.toList args.toList ds p := hA0
  rw [Try.params9] at hA hval
  obtain ⟨v0, vs0, d0, ds0, p0, q0, hargs, rfl, rfl, h0, r0⟩ := trodAll_cons hA
  obtain ⟨v1, vs1, d1, ds1, p1, q1, rfl, rfl, rfl, h1, r1⟩ := trodAll_cons r0
  obtain ⟨v2, vs2, d2, ds2, p2, q2, rfl, rfl, rfl, h2, r2⟩ := trodAll_cons r1
  obtain ⟨rfl, rfl, rfl⟩ := trodAll_nil r2
  obtain rfl : args = #[v0, v1, v2] := by cases args; simp_all
  obtain ⟨rfl, rfl⟩ := trodVars_none hV
  have k0 := h0
  have lt0 : ∀ x ∈ p0, x.block < W.heap.size := fun x hx => hlt0 x (by simp [hx])
  have k1 := h1
  have lt1 : ∀ x ∈ p1, x.block < W.heap.size := fun x hx => hlt0 x (by simp [hx])
  have k2 := h2
  have lt2 : ∀ x ∈ p2, x.block < W.heap.size := fun x hx => hlt0 x (by simp [hx])
  obtain ⟨a0, rfl, rfl, rfl, w0⟩ := open_int Try.underlying3 (hval 0 3 v0 rfl rfl) h0
  obtain ⟨a1, rfl, rfl, rfl, w1⟩ := open_int Try.underlying3 (hval 1 3 v1 rfl rfl) h1
  obtain ⟨A2, n2, c2, zs2, rfl, hl2, hn2, hm2, hr2, hk2⟩ := bytes_of (hval 2 22 v2 rfl rfl) h2
  clear hA0 hval0
  refine (platterNone_walk a0 (ok64_of w0) a1 (ok64_of w1) A2 n2 c2 W).mono fun e W' ⟨he, bel⟩ => ?_
  subst he
  exact ⟨_, rfl, _, _, _, [], _, [], hW', trodAll_mk1 (shut_bool Try.underlying4 _), (trodAll_cons_mk (Below.trod platterNone_laid (by kernel_rfl) (of_decide_eq_true (by kernel_rfl)) k0 bel lt0) (trodAll_cons_mk (Below.trod platterNone_laid (by kernel_rfl) (of_decide_eq_true (by kernel_rfl)) k1 bel lt1) (trodAll_cons_mk (Below.trod platterNone_laid (by kernel_rfl) (of_decide_eq_true (by kernel_rfl)) k2 bel lt2) trodAll_mk0))), rfl, bel.frame _, fun h => by cases h⟩

theorem platterNone_proved : Rows.PlatterNoneSaid :=
  OpenClaim.holds_of_wide 9 Try.f9 rfl rfl rfl rfl rfl rfl rfl ⟨rfl, rfl, rfl, rfl, rfl⟩ rfl rfl rfl rfl rfl (by kernel_rfl) Try.func9 (by kernel_rfl)
    (of_decide_eq_true (by kernel_rfl)) (by unfold Func.isWrapper; rw [if_neg (of_decide_eq_false (by kernel_rfl))]; exact ⟨rfl, rfl⟩)
    (fun os started H enc _ => platterNone_lifted os started H enc)
#print axioms platterNone_proved

end Go.Proofs.Ythfhilinajemhaa
