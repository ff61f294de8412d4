/-
  FieldDouble: for every block the law returns true. No condition.
-/
import Derived.Test.YtlcfaejomblnjaaRows
import Derived.Test.YtlcfaejomblnjaaBytes
import Derived.Test.YtlcfaejomblnjaaRDbl
import Derived.Test.YtlcfaejomblnjaaOpen
import Derived.ProofKit
import Derived.OpenShut
import Derived.ChangeOld
import Derived.Below
namespace Go.Proofs.Ytlcfaejomblnjaa
open Go.ChangeShapes Go.WideShapes Go.ChangeAt Go.RowKit
set_option linter.unusedVariables false
theorem key_top : keyA (2 ^ 127) = #[.int .u8 0, .int .u8 0, .int .u8 0, .int .u8 0, .int .u8 0, .int .u8 0, .int .u8 0, .int .u8 0, .int .u8 0, .int .u8 0, .int .u8 0, .int .u8 0, .int .u8 0, .int .u8 0, .int .u8 0, .int .u8 128] := by
  unfold keyA row
  rw [show List.range 16 = [0, 1, 2, 3, 4, 5, 6, 7, 8, 9, 10, 11, 12, 13, 14, 15] from rfl]
  simp [byteV, kb]
theorem double_top (w : World) : Calls Try.prog 20 #[.agg #[.int .u8 0, .int .u8 0, .int .u8 0, .int .u8 0, .int .u8 0, .int .u8 0, .int .u8 0, .int .u8 0, .int .u8 0, .int .u8 0, .int .u8 0, .int .u8 0, .int .u8 0, .int .u8 0, .int .u8 0, .int .u8 128]] w fun e w' => e = .returned (.agg #[.int .u8 135, .int .u8 0, .int .u8 0, .int .u8 0, .int .u8 0, .int .u8 0, .int .u8 0, .int .u8 0, .int .u8 0, .int .u8 0, .int .u8 0, .int .u8 0, .int .u8 0, .int .u8 0, .int .u8 0, .int .u8 0]) ∧ Below w.heap.size w w' := by
  have := double_any (2 ^ 127) (by decide) w
  rw [show Nums.dbl (2 ^ 127) = 135 from by decide +kernel, key_top, show keyA 135 = #[.int .u8 135, .int .u8 0, .int .u8 0, .int .u8 0, .int .u8 0, .int .u8 0, .int .u8 0, .int .u8 0, .int .u8 0, .int .u8 0, .int .u8 0, .int .u8 0, .int .u8 0, .int .u8 0, .int .u8 0, .int .u8 0] from by simp [keyA, row, byteV, kb, List.range_succ]] at this
  exact this
theorem eq_87 (w : World) : (Op.equalIn 10000 26 (.agg #[.int .u8 135, .int .u8 0, .int .u8 0, .int .u8 0, .int .u8 0, .int .u8 0, .int .u8 0, .int .u8 0, .int .u8 0, .int .u8 0, .int .u8 0, .int .u8 0, .int .u8 0, .int .u8 0, .int .u8 0, .int .u8 0]) (.agg #[.int .u8 135, .int .u8 0, .int .u8 0, .int .u8 0, .int .u8 0, .int .u8 0, .int .u8 0, .int .u8 0, .int .u8 0, .int .u8 0, .int .u8 0, .int .u8 0, .int .u8 0, .int .u8 0, .int .u8 0, .int .u8 0])).run Try.prog w = .ok true w := by
  have := key_eqs 135 135 (by decide) (by decide) w
  rw [show keyA 135 = #[.int .u8 135, .int .u8 0, .int .u8 0, .int .u8 0, .int .u8 0, .int .u8 0, .int .u8 0, .int .u8 0, .int .u8 0, .int .u8 0, .int .u8 0, .int .u8 0, .int .u8 0, .int .u8 0, .int .u8 0, .int .u8 0] from by simp [keyA, row, byteV, kb, List.range_succ]] at this
  simpa using this

set_option maxHeartbeats 1000000 in
theorem fieldDouble_walk (a : Nat) (ha : a < 2 ^ 128) (w : World) :
    Calls Try.prog 8 #[.agg (keyA a)] w fun e w' => e = .returned (.bool true) ∧ Below w.heap.size w w' := by
  have h87 := eq_87
  have hq := key_eqs (Nums.dbl a) (Nums.dbl a) (Nums.dbl_lt a ha) (Nums.dbl_lt a ha)
  simp only [decide_true] at hq
  have c2 := double_any a ha
  have c3 := rdouble_any a ha
  generalize Nums.dbl a = x at *
  have C2 := Lib.hid c2
  have C3 := Lib.hid c3
  clear c2 c3
  obtain ⟨n1, n2, nb⟩ := two_new w (keyA a) (keyA (2 ^ 127)) 26
  go_enter Try.func8, Try.ntmps8
  go_wp2
  rw [key_top] at n1 n2 nb
  have hsz : ((w.alloc (.cells (keyA a) 26)).alloc (.cells #[.int .u8 0, .int .u8 0, .int .u8 0, .int .u8 0, .int .u8 0, .int .u8 0, .int .u8 0, .int .u8 0, .int .u8 0, .int .u8 0, .int .u8 0, .int .u8 0, .int .u8 0, .int .u8 0, .int .u8 0, .int .u8 128] 26)).heap.size = w.heap.size + 2 := by simp
  generalize (w.alloc (.cells (keyA a) 26)).alloc (.cells #[.int .u8 0, .int .u8 0, .int .u8 0, .int .u8 0, .int .u8 0, .int .u8 0, .int .u8 0, .int .u8 0, .int .u8 0, .int .u8 0, .int .u8 0, .int .u8 0, .int .u8 0, .int .u8 0, .int .u8 0, .int .u8 128] 26) = W at *
  have N1 := Lib.hid n1
  rw [← key_top] at n2
  have N2 := Lib.hid n2
  have NB := Lib.hid nb
  have HSZ := Lib.hid hsz
  clear n1 n2 nb hsz
  refine wp_region_class (Cls W.heap.size W) (by kernel_rfl) (by kernel_rfl) (Cls.drew _ _) ?_
  go_big_quiet_want; refine quiet_load_key _ rfl _ rfl (2 ^ 127) (cls_blk N2.out (by rw [HSZ.out]; omega)) ?_; rw [key_top]; go_simp; go_big_quiet_on
  go_big_quiet_want; go_big_quiet_op; refine ⟨_, cls_call (Nat.le_refl _) double_top, ?_⟩; go_big_quiet_on
  go_big_quiet_want; go_big_quiet_op; refine ⟨_, fun _ _ => rfl, ?_⟩; go_big_quiet_on
  go_big_quiet_want; go_big_quiet_op; refine ⟨_, fun _ _ => rfl, ?_⟩; go_big_quiet_on
  go_big_quiet_want; go_big_quiet_op; go_big_quiet_on
  go_big_quiet_want; refine quiet_load_key _ rfl _ rfl a (cls_blk N1.out (by rw [HSZ.out]; omega)) ?_; go_simp; go_big_quiet_on
  go_big_quiet_want; go_big_quiet_op; refine ⟨_, cls_call (Nat.le_refl _) C2.out, ?_⟩; go_big_quiet_on
  go_big_quiet_want; refine quiet_load_key _ rfl _ rfl a (cls_blk N1.out (by rw [HSZ.out]; omega)) ?_; go_simp; go_big_quiet_on
  go_big_quiet_want; go_big_quiet_op; refine ⟨_, cls_call (Nat.le_refl _) C3.out, ?_⟩; go_big_quiet_on
  go_big_quiet_want; go_big_quiet_op; refine ⟨_, fun _ _ => rfl, ?_⟩; go_big_quiet_on
  go_big_quiet_want; go_big_quiet_op; refine ⟨_, fun _ _ => rfl, ?_⟩; go_big_quiet_on
  go_big_quiet_want; go_big_quiet_op; go_big_quiet_on
  refine wpQuiet_nil ?_
  intro w' hw'
  have hb' := NB.out.trans (hw'.out.mono (by rw [HSZ.out]; omega))
  go_wp2
  go_ret
  exact ⟨rfl, hb'⟩

/-! ### the row's frame -/
theorem fieldDouble_own : ownKnob Try.prog.godebug = none := by kernel_rfl
theorem fieldDouble_laid : laidOutB Try.prog = true := by kernel_rfl
set_option maxRecDepth 100000 in
theorem fieldDouble_lifted (os : Os) (started : os.Started) (H : Type) (enc : TypeId × Value → H) :
    ReturnsInHanded {} Try.checked os 8 .any (Rows.fieldDoubleSpec.pre6 enc Try.prog Try.f8 Rows.fieldDoubleRow.domain false) (Rows.fieldDoubleSpec.post enc Try.prog Try.f8 false true false false) := by
  refine returnsInHanded_of_change (C := Try.checked) fieldDouble_own started (by kernel_rfl) Try.func8
    (ChangeSpec.witness6 (enc := enc) (C := Try.checked) false ⟨#[], #[.agg #[.int .u8 0, .int .u8 0, .int .u8 0, .int .u8 0, .int .u8 0, .int .u8 0, .int .u8 0, .int .u8 0, .int .u8 0, .int .u8 0, .int .u8 0, .int .u8 0, .int .u8 0, .int .u8 0, .int .u8 0, .int .u8 0]], []⟩ 8 (by kernel_rfl) (by kernel_rfl) (by kernel_rfl) (by kernel_rfl)) ?_
  intro W base args ds gs before hval0 hW hcnd _
  have hval : ∀ (j : Nat) t v, Try.f8.params[j]? = some t → args[j]? = some v → Value.okWide Try.prog W .any base t v := hval0
  have hW' := hW
  obtain ⟨p, q, hA0, hV, rfl, hfz, hnd⟩ := hW
  have hA : DataW.TrodAll enc Try.prog W 0 (fun _ => true) true Try.f8.params.toList args.toList ds p := hA0
  rw [Try.params8] at hA hval
  obtain ⟨v0, vs0, d0, ds0, p0, q0, hargs, rfl, rfl, h0, r0⟩ := trodAll_cons hA
  obtain ⟨rfl, rfl, rfl⟩ := trodAll_nil r0
  obtain rfl : args = #[v0] := by cases args; simp_all
  obtain ⟨rfl, rfl⟩ := trodVars_none hV
  have k0 := h0
  have lt0 : ∀ x ∈ p0, x.block < W.heap.size := by obtain ⟨m, hm⟩ := k0; exact DataW.trod_lt m _ _ _ hm
  obtain ⟨b0, rfl, hb0⟩ := key_of (hval 0 26 v0 rfl rfl) h0
  clear hA0 hval0
  refine (fieldDouble_walk b0 hb0 W).mono fun e W' ⟨he, bel⟩ => ?_
  subst he
  exact ⟨_, rfl, _, _, _, [], _, [], hW', trodAll_mk1 (shut_bool Try.underlying4 _), (trodAll_cons_mk (Below.trod fieldDouble_laid (by kernel_rfl) (of_decide_eq_true (by kernel_rfl)) k0 bel lt0) trodAll_mk0), rfl, bel.frame _, fun h => by cases h⟩

theorem fieldDouble_proved : Rows.FieldDoubleSaid :=
  OpenClaim.holds_of_wide 8 Try.f8 rfl rfl rfl rfl rfl rfl rfl ⟨rfl, rfl, rfl, rfl, rfl⟩ rfl rfl rfl rfl rfl (by kernel_rfl) Try.func8 (by kernel_rfl)
    (of_decide_eq_true (by kernel_rfl)) (by unfold Func.isWrapper; rw [if_neg (of_decide_eq_false (by kernel_rfl))]; exact ⟨rfl, rfl⟩)
    (fun os started H enc _ => fieldDouble_lifted os started H enc)
#print axioms fieldDouble_proved

end Go.Proofs.Ytlcfaejomblnjaa
