/-
  FieldRing: for every three bytes the law returns true. No condition.
-/
import Derived.Test.YtlcfaejomblnjaaRows
import Derived.Test.YtlcfaejomblnjaaBytes
import Derived.ProofKit
import Derived.OpenShut
import Derived.ChangeOld
import Derived.Below
namespace Go.Proofs.Ytlcfaejomblnjaa
open Go.ChangeShapes Go.WideShapes Go.ChangeAt Go.RowKit
set_option linter.unusedVariables false

theorem byte_of {a : Int} (w : (Lit.int .u8 a).wf = true) : ∃ b : Nat, a = (b : Int) ∧ b < 256 := by
  have := bounds_u8 w
  exact ⟨a.toNat, by omega, by omega⟩

theorem mul_23 (w : World) : Calls Try.prog 17 #[.int .u8 2, .int .u8 3] w fun e w' => e = .returned (.int .u8 6) ∧ w' = w := mul_any 2 3 (by decide) (by decide) w
theorem mul_a1 (a : Nat) (ha : a < 256) (w : World) : Calls Try.prog 17 #[.int .u8 a, .int .u8 1] w fun e w' => e = .returned (.int .u8 a) ∧ w' = w := by
  have := mul_any a 1 ha (by decide) w
  rw [Nums.mul_one a ha] at this
  exact this

set_option maxHeartbeats 1000000 in
theorem fieldRing_walk (a : Nat) (ha : a < 256) (b : Nat) (hb : b < 256) (c : Nat) (hc : c < 256) (w : World) :
    Calls Try.prog 6 #[.int .u8 a, .int .u8 b, .int .u8 c] w fun e w' => e = .returned (.bool true) ∧ Below w.heap.size w w' := by
  have l1 := mul_any a b ha hb
  have l2 := mul_any b a hb ha
  rw [Nums.mul_comm b a hb ha] at l2
  have l3 := mul_any (Nums.mul a b) c (Nums.mul_lt a b ha) hc
  have l4 := mul_any b c hb hc
  have l5 := mul_any a (Nums.mul b c) ha (Nums.mul_lt b c hb)
  rw [Nums.mul_assoc a b c ha hb hc] at l3
  have l6 := mul_any a (b ^^^ c) ha (Nums.lt_xor hb hc)
  rw [Nums.mul_xor2] at l6
  have l7 := mul_any a c ha hc
  have ha1 := mul_a1 a ha
  have e1 := u8_xor_nat b c hb hc
  have e2 := u8_xor_nat (Nums.mul a b) (Nums.mul a c) (Nums.mul_lt _ _ ha) (Nums.mul_lt _ _ ha)
  generalize Nums.mul a b = ab at *
  generalize Nums.mul b c = bc at *
  generalize Nums.mul a c = ac at *
  generalize Nums.mul a bc = abc at *
  have L1 := Lib.hid l1
  have L2 := Lib.hid l2
  have L3 := Lib.hid l3
  have L4 := Lib.hid l4
  have L5 := Lib.hid l5
  have L6 := Lib.hid l6
  have L7 := Lib.hid l7
  have LA := Lib.hid ha1
  have E1 := Lib.hid e1
  have E2 := Lib.hid e2
  clear l1 l2 l3 l4 l5 l6 l7 ha1 e1 e2
  go_enter Try.func6, Try.ntmps6
  go_wp2_with fail
  refine (mul_23 _).mono ?_
  rintro e w' ⟨rfl, rfl⟩
  go_wp2_with fail
  refine (L1.out _).mono ?_
  rintro e w' ⟨rfl, rfl⟩
  go_wp2_with fail
  refine (L2.out _).mono ?_
  rintro e w' ⟨rfl, rfl⟩
  go_wp2_with fail
  refine (L1.out _).mono ?_
  rintro e w' ⟨rfl, rfl⟩
  go_wp2_with fail
  refine (L3.out _).mono ?_
  rintro e w' ⟨rfl, rfl⟩
  go_wp2_with fail
  refine (L4.out _).mono ?_
  rintro e w' ⟨rfl, rfl⟩
  go_wp2_with fail
  refine (L5.out _).mono ?_
  rintro e w' ⟨rfl, rfl⟩
  go_wp2_with fail
  rw [E1.out]
  refine (L6.out _).mono ?_
  rintro e w' ⟨rfl, rfl⟩
  go_wp2_with fail
  refine (L1.out _).mono ?_
  rintro e w' ⟨rfl, rfl⟩
  go_wp2_with fail
  refine (L7.out _).mono ?_
  rintro e w' ⟨rfl, rfl⟩
  have e2 := E2.out
  go_wp2_with fail
  refine (LA.out _).mono ?_
  rintro e w' ⟨rfl, rfl⟩
  go_wp2
  go_ret
  exact ⟨rfl, Below.refl _ _⟩

/-! ### the row's frame -/
theorem fieldRing_own : ownKnob Try.prog.godebug = none := by kernel_rfl
theorem fieldRing_laid : laidOutB Try.prog = true := by kernel_rfl
set_option maxRecDepth 100000 in
theorem fieldRing_lifted (os : Os) (started : os.Started) (H : Type) (enc : TypeId × Value → H) :
    ReturnsInHanded {} Try.checked os 6 .any (Rows.fieldRingSpec.pre6 enc Try.prog Try.f6 Rows.fieldRingRow.domain false) (Rows.fieldRingSpec.post enc Try.prog Try.f6 false true false false) := by
  refine returnsInHanded_of_change (C := Try.checked) fieldRing_own started (by kernel_rfl) Try.func6
    (ChangeSpec.witness6 (enc := enc) (C := Try.checked) false ⟨#[], #[.int .u8 0, .int .u8 0, .int .u8 0], []⟩ 8 (by kernel_rfl) (by kernel_rfl) (by kernel_rfl) (by kernel_rfl)) ?_
  intro W base args ds gs before hval0 hW hcnd _
  have hval : ∀ (j : Nat) t v, Try.f6.params[j]? = some t → args[j]? = some v → Value.okWide Try.prog W .any base t v := hval0
  have hW' := hW
  obtain ⟨p, q, hA0, hV, rfl, hfz, hnd⟩ := hW
  have hA : DataW.TrodAll enc Try.prog W 0 (fun _ => true) true Try.f6.params.toList args.toList ds p := hA0
  rw [Try.params6] at hA hval
  obtain ⟨v0, vs0, d0, ds0, p0, q0, hargs, rfl, rfl, h0, r0⟩ := trodAll_cons hA
  obtain ⟨v1, vs1, d1, ds1, p1, q1, rfl, rfl, rfl, h1, r1⟩ := trodAll_cons r0
  obtain ⟨v2, vs2, d2, ds2, p2, q2, rfl, rfl, rfl, h2, r2⟩ := trodAll_cons r1
  obtain ⟨rfl, rfl, rfl⟩ := trodAll_nil r2
  obtain rfl : args = #[v0, v1, v2] := by cases args; simp_all
  obtain ⟨rfl, rfl⟩ := trodVars_none hV
  have k0 := h0
  have lt0 : ∀ x ∈ p0, x.block < W.heap.size := by obtain ⟨m, hm⟩ := k0; exact DataW.trod_lt m _ _ _ hm
  have k1 := h1
  have lt1 : ∀ x ∈ p1, x.block < W.heap.size := by obtain ⟨m, hm⟩ := k1; exact DataW.trod_lt m _ _ _ hm
  have k2 := h2
  have lt2 : ∀ x ∈ p2, x.block < W.heap.size := by obtain ⟨m, hm⟩ := k2; exact DataW.trod_lt m _ _ _ hm
  obtain ⟨a0, rfl, rfl, rfl, w0⟩ := open_int Try.underlying5 (hval 0 5 v0 rfl rfl) h0
  obtain ⟨b0, rfl, hb0⟩ := byte_of w0
  obtain ⟨a1, rfl, rfl, rfl, w1⟩ := open_int Try.underlying5 (hval 1 5 v1 rfl rfl) h1
  obtain ⟨b1, rfl, hb1⟩ := byte_of w1
  obtain ⟨a2, rfl, rfl, rfl, w2⟩ := open_int Try.underlying5 (hval 2 5 v2 rfl rfl) h2
  obtain ⟨b2, rfl, hb2⟩ := byte_of w2
  clear hA0 hval0
  refine (fieldRing_walk b0 hb0 b1 hb1 b2 hb2 W).mono fun e W' ⟨he, bel⟩ => ?_
  subst he
  exact ⟨_, rfl, _, _, _, [], _, [], hW', trodAll_mk1 (shut_bool Try.underlying4 _), (trodAll_cons_mk (Below.trod fieldRing_laid (by kernel_rfl) (of_decide_eq_true (by kernel_rfl)) k0 bel lt0) (trodAll_cons_mk (Below.trod fieldRing_laid (by kernel_rfl) (of_decide_eq_true (by kernel_rfl)) k1 bel lt1) (trodAll_cons_mk (Below.trod fieldRing_laid (by kernel_rfl) (of_decide_eq_true (by kernel_rfl)) k2 bel lt2) trodAll_mk0))), rfl, bel.frame _, fun h => by cases h⟩

theorem fieldRing_proved : Rows.FieldRingSaid :=
  OpenClaim.holds_of_wide 6 Try.f6 rfl rfl rfl rfl rfl rfl rfl ⟨rfl, rfl, rfl, rfl, rfl⟩ rfl rfl rfl rfl rfl (by kernel_rfl) Try.func6 (by kernel_rfl)
    (of_decide_eq_true (by kernel_rfl)) (by unfold Func.isWrapper; rw [if_neg (of_decide_eq_false (by kernel_rfl))]; exact ⟨rfl, rfl⟩)
    (fun os started H enc _ => fieldRing_lifted os started H enc)
#print axioms fieldRing_proved

end Go.Proofs.Ytlcfaejomblnjaa
