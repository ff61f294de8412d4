/-
  FieldXor: for every two blocks the law returns true. No condition.
-/
import Derived.Test.YtlcfaejomblnjaaRows
import Derived.Test.YtlcfaejomblnjaaBytes
import Derived.Test.YtlcfaejomblnjaaXor
import Derived.Test.YtlcfaejomblnjaaOpen
import Derived.ProofKit
import Derived.OpenShut
import Derived.ChangeOld
import Derived.Below
namespace Go.Proofs.Ytlcfaejomblnjaa
open Go.ChangeShapes Go.WideShapes Go.ChangeAt Go.RowKit
set_option linter.unusedVariables false

theorem xor_35 (w : World) : Calls Try.prog 15 #[.agg #[.int .u8 3, .int .u8 0, .int .u8 0, .int .u8 0, .int .u8 0, .int .u8 0, .int .u8 0, .int .u8 0, .int .u8 0, .int .u8 0, .int .u8 0, .int .u8 0, .int .u8 0, .int .u8 0, .int .u8 0, .int .u8 0], .agg #[.int .u8 5, .int .u8 0, .int .u8 0, .int .u8 0, .int .u8 0, .int .u8 0, .int .u8 0, .int .u8 0, .int .u8 0, .int .u8 0, .int .u8 0, .int .u8 0, .int .u8 0, .int .u8 0, .int .u8 0, .int .u8 0]] w fun e w' => e = .returned (.agg #[.int .u8 6, .int .u8 0, .int .u8 0, .int .u8 0, .int .u8 0, .int .u8 0, .int .u8 0, .int .u8 0, .int .u8 0, .int .u8 0, .int .u8 0, .int .u8 0, .int .u8 0, .int .u8 0, .int .u8 0, .int .u8 0]) ∧ Below w.heap.size w w' := by
  have := xor_any 3 5 w
  rw [show (3 ^^^ 5 : Nat) = 6 from rfl, show keyA 3 = #[.int .u8 3, .int .u8 0, .int .u8 0, .int .u8 0, .int .u8 0, .int .u8 0, .int .u8 0, .int .u8 0, .int .u8 0, .int .u8 0, .int .u8 0, .int .u8 0, .int .u8 0, .int .u8 0, .int .u8 0, .int .u8 0] from by simp [keyA, row, byteV, kb, List.range_succ], show keyA 5 = #[.int .u8 5, .int .u8 0, .int .u8 0, .int .u8 0, .int .u8 0, .int .u8 0, .int .u8 0, .int .u8 0, .int .u8 0, .int .u8 0, .int .u8 0, .int .u8 0, .int .u8 0, .int .u8 0, .int .u8 0, .int .u8 0] from by simp [keyA, row, byteV, kb, List.range_succ], show keyA 6 = #[.int .u8 6, .int .u8 0, .int .u8 0, .int .u8 0, .int .u8 0, .int .u8 0, .int .u8 0, .int .u8 0, .int .u8 0, .int .u8 0, .int .u8 0, .int .u8 0, .int .u8 0, .int .u8 0, .int .u8 0, .int .u8 0] from by simp [keyA, row, byteV, kb, List.range_succ]] at this
  exact this
theorem eq_6 (w : World) : (Op.equalIn 10000 26 (.agg #[.int .u8 6, .int .u8 0, .int .u8 0, .int .u8 0, .int .u8 0, .int .u8 0, .int .u8 0, .int .u8 0, .int .u8 0, .int .u8 0, .int .u8 0, .int .u8 0, .int .u8 0, .int .u8 0, .int .u8 0, .int .u8 0]) (.agg #[.int .u8 6, .int .u8 0, .int .u8 0, .int .u8 0, .int .u8 0, .int .u8 0, .int .u8 0, .int .u8 0, .int .u8 0, .int .u8 0, .int .u8 0, .int .u8 0, .int .u8 0, .int .u8 0, .int .u8 0, .int .u8 0])).run Try.prog w = .ok true w := by
  have := key_eqs 6 6 (by decide) (by decide) w
  rw [show keyA 6 = #[.int .u8 6, .int .u8 0, .int .u8 0, .int .u8 0, .int .u8 0, .int .u8 0, .int .u8 0, .int .u8 0, .int .u8 0, .int .u8 0, .int .u8 0, .int .u8 0, .int .u8 0, .int .u8 0, .int .u8 0, .int .u8 0] from by simp [keyA, row, byteV, kb, List.range_succ]] at this
  simpa using this

set_option maxHeartbeats 1000000 in
theorem fieldXor_walk (a : Nat) (ha : a < 2 ^ 128) (b : Nat) (hb : b < 2 ^ 128) (w : World) :
    Calls Try.prog 4 #[.agg (keyA a), .agg (keyA b)] w fun e w' => e = .returned (.bool true) ∧ Below w.heap.size w w' := by
  have hx : a ^^^ b < 2 ^ 128 := Nat.xor_lt_two_pow ha hb
  have h6 := eq_6
  have hq := key_eqs (a ^^^ b) (a ^^^ b) hx hx
  simp only [decide_true] at hq
  have HA := xor_any a b
  have HB := rxor_any a b
  generalize a ^^^ b = x at *
  go_enter Try.func4, Try.ntmps4
  go_wp2
  obtain ⟨W, hW⟩ : ∃ W, W = (w.alloc (.cells (keyA a) 26)).alloc (.cells (keyA b) 26) := ⟨_, rfl⟩
  rw [← hW]
  have b0 : Blk W w.heap.size (keyA a) 26 := by rw [hW]; exact (Blk.new _ _ _).alloc _
  have b1 : Blk W (w.heap.size + 1) (keyA b) 26 := by rw [hW]; have := Blk.new (w.alloc (.cells (keyA a) 26)) (keyA b) 26; simpa using this
  have bw : Below w.heap.size w W := by rw [hW]; exact ((Below.refl _ _).alloc (Nat.le_refl _) _).alloc (by simp) _
  have hsz : W.heap.size = w.heap.size + 1 + 1 := by rw [hW]; simp
  clear hW
  refine wp_region_class (fun w' => Below W.heap.size W w') (by kernel_rfl) (by kernel_rfl) (Below.refl _ _).drew ?_
  have cA : ∀ w', Below W.heap.size W w' → Blk w' w.heap.size (keyA a) 26 := fun w' h => b0.below h (by omega)
  have cB : ∀ w', Below W.heap.size W w' → Blk w' (w.heap.size + 1) (keyA b) 26 := fun w' h => b1.below h (by omega)
  have c1 := class_call (Nat.le_refl W.heap.size) xor_35
  have c2 := class_call (Nat.le_refl W.heap.size) HA
  have c3 := class_call (Nat.le_refl W.heap.size) HB
  have bW : ∀ w', Below W.heap.size W w' → Below w.heap.size w w' := fun w' h => bw.trans (h.mono (by omega))
  generalize hC : (fun w' => Below W.heap.size W w') = C
  replace cA : ∀ w', C w' → Blk w' w.heap.size (keyA a) 26 := by rw [← hC]; exact cA
  replace cB : ∀ w', C w' → Blk w' (w.heap.size + 1) (keyA b) 26 := by rw [← hC]; exact cB
  have D1 : ∀ w, C w → Calls Try.prog 15 #[.agg #[.int .u8 3, .int .u8 0, .int .u8 0, .int .u8 0, .int .u8 0, .int .u8 0, .int .u8 0, .int .u8 0, .int .u8 0, .int .u8 0, .int .u8 0, .int .u8 0, .int .u8 0, .int .u8 0, .int .u8 0, .int .u8 0], .agg #[.int .u8 5, .int .u8 0, .int .u8 0, .int .u8 0, .int .u8 0, .int .u8 0, .int .u8 0, .int .u8 0, .int .u8 0, .int .u8 0, .int .u8 0, .int .u8 0, .int .u8 0, .int .u8 0, .int .u8 0, .int .u8 0]] w fun e w' => e = .returned (.agg #[.int .u8 6, .int .u8 0, .int .u8 0, .int .u8 0, .int .u8 0, .int .u8 0, .int .u8 0, .int .u8 0, .int .u8 0, .int .u8 0, .int .u8 0, .int .u8 0, .int .u8 0, .int .u8 0, .int .u8 0, .int .u8 0]) ∧ C w' := by rw [← hC]; exact c1
  have D2 : ∀ w, C w → Calls Try.prog 15 #[.agg (keyA a), .agg (keyA b)] w fun e w' => e = .returned (.agg (keyA x)) ∧ C w' := by rw [← hC]; exact c2
  have D3 : ∀ w, C w → Calls Try.prog 16 #[.agg (keyA a), .agg (keyA b)] w fun e w' => e = .returned (.agg (keyA x)) ∧ C w' := by rw [← hC]; exact c3
  clear c1 c2 c3 HA HB hC b0 b1 bw hsz
  have E1 := Lib.hid D1
  have E2 := Lib.hid D2
  have E3 := Lib.hid D3
  have EA := Lib.hid cA
  have EB := Lib.hid cB
  have EW := Lib.hid bW
  clear D1 D2 D3 cA cB bW
  iterate 2 (go_big_quiet_want; go_big_quiet_op; refine ⟨_, fun _ _ => rfl, ?_⟩; go_big_quiet_on)
  go_big_quiet_want; go_big_quiet_op; refine ⟨_, E1.out, ?_⟩; go_big_quiet_on
  iterate 2 (go_big_quiet_want; go_big_quiet_op; refine ⟨_, fun _ _ => rfl, ?_⟩; go_big_quiet_on)
  go_big_quiet_want; go_big_quiet_op; go_big_quiet_on
  go_big_quiet_want; refine quiet_load_key _ rfl _ rfl a EA.out ?_; go_simp; go_big_quiet_on
  go_big_quiet_want; refine quiet_load_key _ rfl _ rfl b EB.out ?_; go_simp; go_big_quiet_on
  go_big_quiet_want; go_big_quiet_op; refine ⟨_, E2.out, ?_⟩; go_big_quiet_on
  go_big_quiet_want; refine quiet_load_key _ rfl _ rfl a EA.out ?_; go_simp; go_big_quiet_on
  go_big_quiet_want; refine quiet_load_key _ rfl _ rfl b EB.out ?_; go_simp; go_big_quiet_on
  go_big_quiet_want; go_big_quiet_op; refine ⟨_, E3.out, ?_⟩; go_big_quiet_on
  repeat (go_big_quiet_want; go_big_quiet_op; first | go_big_quiet_on | (refine ⟨_, fun _ _ => rfl, ?_⟩; go_big_quiet_on))
  refine wpQuiet_nil ?_
  intro w' hw'
  have hb' := EW.out w' hw'
  go_wp2
  go_ret
  exact ⟨rfl, hb'⟩

/-! ### the row's frame -/
theorem fieldXor_own : ownKnob Try.prog.godebug = none := by kernel_rfl
theorem fieldXor_laid : laidOutB Try.prog = true := by kernel_rfl
set_option maxRecDepth 100000 in
theorem fieldXor_lifted (os : Os) (started : os.Started) (H : Type) (enc : TypeId × Value → H) :
    ReturnsInHanded {} Try.checked os 4 .any (Rows.fieldXorSpec.pre6 enc Try.prog Try.f4 Rows.fieldXorRow.domain false) (Rows.fieldXorSpec.post enc Try.prog Try.f4 false true false false) := by
  refine returnsInHanded_of_change (C := Try.checked) fieldXor_own started (by kernel_rfl) Try.func4
    (ChangeSpec.witness6 (enc := enc) (C := Try.checked) false ⟨#[], #[.agg #[.int .u8 0, .int .u8 0, .int .u8 0, .int .u8 0, .int .u8 0, .int .u8 0, .int .u8 0, .int .u8 0, .int .u8 0, .int .u8 0, .int .u8 0, .int .u8 0, .int .u8 0, .int .u8 0, .int .u8 0, .int .u8 0], .agg #[.int .u8 0, .int .u8 0, .int .u8 0, .int .u8 0, .int .u8 0, .int .u8 0, .int .u8 0, .int .u8 0, .int .u8 0, .int .u8 0, .int .u8 0, .int .u8 0, .int .u8 0, .int .u8 0, .int .u8 0, .int .u8 0]], []⟩ 8 (by kernel_rfl) (by kernel_rfl) (by kernel_rfl) (by kernel_rfl)) ?_
  intro W base args ds gs before hval0 hW hcnd _
  have hval : ∀ (j : Nat) t v, Try.f4.params[j]? = some t → args[j]? = some v → Value.okWide Try.prog W .any base t v := hval0
  have hW' := hW
  obtain ⟨p, q, hA0, hV, rfl, hfz, hnd⟩ := hW
  have hA : DataW.TrodAll enc Try.prog W 0 (fun _ => true) true Try.f4.params.toList args.toList ds p := hA0
  rw [Try.params4] at hA hval
  obtain ⟨v0, vs0, d0, ds0, p0, q0, hargs, rfl, rfl, h0, r0⟩ := trodAll_cons hA
  obtain ⟨v1, vs1, d1, ds1, p1, q1, rfl, rfl, rfl, h1, r1⟩ := trodAll_cons r0
  obtain ⟨rfl, rfl, rfl⟩ := trodAll_nil r1
  obtain rfl : args = #[v0, v1] := by cases args; simp_all
  obtain ⟨rfl, rfl⟩ := trodVars_none hV
  have k0 := h0
  have lt0 : ∀ x ∈ p0, x.block < W.heap.size := by obtain ⟨m, hm⟩ := k0; exact DataW.trod_lt m _ _ _ hm
  have k1 := h1
  have lt1 : ∀ x ∈ p1, x.block < W.heap.size := by obtain ⟨m, hm⟩ := k1; exact DataW.trod_lt m _ _ _ hm
  obtain ⟨b0, rfl, hb0⟩ := key_of (hval 0 26 v0 rfl rfl) h0
  obtain ⟨b1, rfl, hb1⟩ := key_of (hval 1 26 v1 rfl rfl) h1
  clear hA0 hval0
  refine (fieldXor_walk b0 hb0 b1 hb1 W).mono fun e W' ⟨he, bel⟩ => ?_
  subst he
  exact ⟨_, rfl, _, _, _, [], _, [], hW', trodAll_mk1 (shut_bool Try.underlying4 _), (trodAll_cons_mk (Below.trod fieldXor_laid (by kernel_rfl) (of_decide_eq_true (by kernel_rfl)) k0 bel lt0) (trodAll_cons_mk (Below.trod fieldXor_laid (by kernel_rfl) (of_decide_eq_true (by kernel_rfl)) k1 bel lt1) trodAll_mk0)), rfl, bel.frame _, fun h => by cases h⟩

theorem fieldXor_proved : Rows.FieldXorSaid :=
  OpenClaim.holds_of_wide 4 Try.f4 rfl rfl rfl rfl rfl rfl rfl ⟨rfl, rfl, rfl, rfl, rfl⟩ rfl rfl rfl rfl rfl (by kernel_rfl) Try.func4 (by kernel_rfl)
    (of_decide_eq_true (by kernel_rfl)) (by unfold Func.isWrapper; rw [if_neg (of_decide_eq_false (by kernel_rfl))]; exact ⟨rfl, rfl⟩)
    (fun os started H enc _ => fieldXor_lifted os started H enc)
#print axioms fieldXor_proved

end Go.Proofs.Ytlcfaejomblnjaa
