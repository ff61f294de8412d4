/-
  FieldHalve: for every two blocks the law returns true. No condition.
-/
import Derived.Test.YtlcfaejomblnjaaRows
import Derived.Test.YtlcfaejomblnjaaBytes
import Derived.Test.YtlcfaejomblnjaaRDbl
import Derived.Test.YtlcfaejomblnjaaOpen
import Derived.ProofKit
import Derived.OpenShut
import Derived.ChangeOld
import Derived.Below
namespace Go.Proofs.Ytlcfaejomblnjaa
open Go.ChangeShapes Go.WideShapes Go.ChangeAt Go.RowKit
set_option linter.unusedVariables false

theorem double_1 (w : World) : Calls Try.prog 20 #[.agg #[.int .u8 1, .int .u8 0, .int .u8 0, .int .u8 0, .int .u8 0, .int .u8 0, .int .u8 0, .int .u8 0, .int .u8 0, .int .u8 0, .int .u8 0, .int .u8 0, .int .u8 0, .int .u8 0, .int .u8 0, .int .u8 0]] w fun e w' => e = .returned (.agg #[.int .u8 2, .int .u8 0, .int .u8 0, .int .u8 0, .int .u8 0, .int .u8 0, .int .u8 0, .int .u8 0, .int .u8 0, .int .u8 0, .int .u8 0, .int .u8 0, .int .u8 0, .int .u8 0, .int .u8 0, .int .u8 0]) ∧ Below w.heap.size w w' := by
  have := double_any 1 (by decide) w
  rw [show Nums.dbl 1 = 2 from by decide +kernel, show keyA 1 = #[.int .u8 1, .int .u8 0, .int .u8 0, .int .u8 0, .int .u8 0, .int .u8 0, .int .u8 0, .int .u8 0, .int .u8 0, .int .u8 0, .int .u8 0, .int .u8 0, .int .u8 0, .int .u8 0, .int .u8 0, .int .u8 0] from by simp [keyA, row, byteV, kb, List.range_succ], show keyA 2 = #[.int .u8 2, .int .u8 0, .int .u8 0, .int .u8 0, .int .u8 0, .int .u8 0, .int .u8 0, .int .u8 0, .int .u8 0, .int .u8 0, .int .u8 0, .int .u8 0, .int .u8 0, .int .u8 0, .int .u8 0, .int .u8 0] from by simp [keyA, row, byteV, kb, List.range_succ]] at this
  exact this
theorem eq_2 (w : World) : (Op.equalIn 10000 26 (.agg #[.int .u8 2, .int .u8 0, .int .u8 0, .int .u8 0, .int .u8 0, .int .u8 0, .int .u8 0, .int .u8 0, .int .u8 0, .int .u8 0, .int .u8 0, .int .u8 0, .int .u8 0, .int .u8 0, .int .u8 0, .int .u8 0]) (.agg #[.int .u8 2, .int .u8 0, .int .u8 0, .int .u8 0, .int .u8 0, .int .u8 0, .int .u8 0, .int .u8 0, .int .u8 0, .int .u8 0, .int .u8 0, .int .u8 0, .int .u8 0, .int .u8 0, .int .u8 0, .int .u8 0])).run Try.prog w = .ok true w := by
  have := key_eqs 2 2 (by decide) (by decide) w
  rw [show keyA 2 = #[.int .u8 2, .int .u8 0, .int .u8 0, .int .u8 0, .int .u8 0, .int .u8 0, .int .u8 0, .int .u8 0, .int .u8 0, .int .u8 0, .int .u8 0, .int .u8 0, .int .u8 0, .int .u8 0, .int .u8 0, .int .u8 0] from by simp [keyA, row, byteV, kb, List.range_succ]] at this
  simpa using this
theorem key_eq_self (a : Nat) (ha : a < 2 ^ 128) (w : World) : (Op.equalIn 10000 26 (.agg (keyA a)) (.agg (keyA a))).run Try.prog w = .ok true w := by
  have := key_eqs a a ha ha w
  simpa using this

set_option maxHeartbeats 4000000 in
theorem fieldHalve_walk (a : Nat) (ha : a < 2 ^ 128) (b : Nat) (hb : b < 2 ^ 128) (w : World) :
    Calls Try.prog 9 #[.agg (keyA a), .agg (keyA b)] w fun e w' => e = .returned (.bool true) ∧ Below w.heap.size w w' := by
  have hx : a ^^^ b < 2 ^ 128 := Nat.xor_lt_two_pow ha hb
  have h2 := eq_2
  have q1 := key_eq_self a ha
  have q2 := key_eq_self _ (Nums.dbl_lt _ hx)
  have q3 := key_eq_self _ (Nums.hlv_lt _ hx)
  have c1 := double_any a ha
  have c2 := halve_any _ (Nums.dbl_lt a ha)
  rw [Nums.hlv_dbl a ha] at c2
  have c3 := halve_any a ha
  have c4 := double_any _ (Nums.hlv_lt a ha)
  rw [Nums.dbl_hlv a ha] at c4
  have c5 := xor_any a b
  have c6 := double_any _ hx
  have c7 := double_any b hb
  have c8 := xor_any (Nums.dbl a) (Nums.dbl b)
  rw [← Nums.dbl_xor a b ha hb] at c8
  have c9 := halve_any _ hx
  have c10 := halve_any b hb
  have c11 := xor_any (Nums.hlv a) (Nums.hlv b)
  rw [← Nums.hlv_xor a b ha hb] at c11
  generalize Nums.dbl (a ^^^ b) = dx at *
  generalize Nums.hlv (a ^^^ b) = hx at *
  generalize a ^^^ b = x at *
  generalize Nums.dbl a = da at *
  generalize Nums.dbl b = db at *
  generalize Nums.hlv a = Ha at *
  generalize Nums.hlv b = Hb at *
  have CDa := Lib.hid c1
  have CHDa := Lib.hid c2
  have CHa := Lib.hid c3
  have CDHa := Lib.hid c4
  have CX := Lib.hid c5
  have CDX := Lib.hid c6
  have CDb := Lib.hid c7
  have CXD := Lib.hid c8
  have CHX := Lib.hid c9
  have CHb := Lib.hid c10
  have CXH := Lib.hid c11
  clear c1 c2 c3 c4 c5 c6 c7 c8 c9 c10 c11
  obtain ⟨n1, n2, nb⟩ := two_new w (keyA a) (keyA b) 26
  go_enter Try.func9, Try.ntmps9
  go_wp2
  have hsz : ((w.alloc (.cells (keyA a) 26)).alloc (.cells (keyA b) 26)).heap.size = w.heap.size + 2 := by simp
  generalize (w.alloc (.cells (keyA a) 26)).alloc (.cells (keyA b) 26) = W at *
  have N1 := Lib.hid n1
  have N2 := Lib.hid n2
  have NB := Lib.hid nb
  have HSZ := Lib.hid hsz
  clear n1 n2 nb hsz
  refine wp_region_class (Cls W.heap.size W) (by kernel_rfl) (by kernel_rfl) (Cls.drew _ _) ?_
  go_big_quiet_want; go_big_quiet_op; go_big_quiet_on
  go_big_quiet_want; go_big_quiet_op; refine ⟨_, fun _ _ => rfl, ?_⟩; go_big_quiet_on
  go_big_quiet_want; go_big_quiet_op; refine ⟨_, cls_call (Nat.le_refl _) double_1, ?_⟩; go_big_quiet_on
  go_big_quiet_want; go_big_quiet_op; refine ⟨_, fun _ _ => rfl, ?_⟩; go_big_quiet_on
  go_big_quiet_want; go_big_quiet_op; refine ⟨_, fun _ _ => rfl, ?_⟩; go_big_quiet_on
  go_big_quiet_want; go_big_quiet_op; go_big_quiet_on
  go_big_quiet_want; go_big_quiet_op; go_big_quiet_on
  go_big_quiet_want; go_big_quiet_op; go_big_quiet_on
  go_big_quiet_want; refine quiet_load_key _ rfl _ rfl a (cls_blk N1.out (by rw [HSZ.out]; omega)) ?_; go_simp; go_big_quiet_on
  as_aux_lemma =>
    go_big_quiet_want; go_big_quiet_op; refine ⟨_, cls_call (Nat.le_refl _) CDa.out, ?_⟩; go_big_quiet_on
    go_big_quiet_want; go_big_quiet_op; refine ⟨_, cls_call (Nat.le_refl _) CHDa.out, ?_⟩; go_big_quiet_on
    go_big_quiet_want; refine quiet_load_key _ rfl _ rfl a (cls_blk N1.out (by rw [HSZ.out]; omega)) ?_; go_simp; go_big_quiet_on
    go_big_quiet_want; go_big_quiet_op; refine ⟨_, fun _ _ => rfl, ?_⟩; go_big_quiet_on
    go_big_quiet_want; go_big_quiet_op; refine ⟨_, fun _ _ => rfl, ?_⟩; go_big_quiet_on
    go_big_quiet_want; go_big_quiet_op; go_big_quiet_on
    go_big_quiet_want; go_big_quiet_op; go_big_quiet_on
    go_big_quiet_want; go_big_quiet_op; go_big_quiet_on
    go_big_quiet_want; refine quiet_load_key _ rfl _ rfl a (cls_blk N1.out (by rw [HSZ.out]; omega)) ?_; go_simp; go_big_quiet_on
    as_aux_lemma =>
      go_big_quiet_want; go_big_quiet_op; refine ⟨_, cls_call (Nat.le_refl _) CHa.out, ?_⟩; go_big_quiet_on
      go_big_quiet_want; go_big_quiet_op; refine ⟨_, cls_call (Nat.le_refl _) CDHa.out, ?_⟩; go_big_quiet_on
      go_big_quiet_want; refine quiet_load_key _ rfl _ rfl a (cls_blk N1.out (by rw [HSZ.out]; omega)) ?_; go_simp; go_big_quiet_on
      go_big_quiet_want; go_big_quiet_op; refine ⟨_, fun _ _ => rfl, ?_⟩; go_big_quiet_on
      go_big_quiet_want; go_big_quiet_op; refine ⟨_, fun _ _ => rfl, ?_⟩; go_big_quiet_on
      go_big_quiet_want; go_big_quiet_op; go_big_quiet_on
      go_big_quiet_want; go_big_quiet_op; go_big_quiet_on
      go_big_quiet_want; go_big_quiet_op; go_big_quiet_on
      go_big_quiet_want; refine quiet_load_key _ rfl _ rfl a (cls_blk N1.out (by rw [HSZ.out]; omega)) ?_; go_simp; go_big_quiet_on
      as_aux_lemma =>
        go_big_quiet_want; refine quiet_load_key _ rfl _ rfl b (cls_blk N2.out (by rw [HSZ.out]; omega)) ?_; go_simp; go_big_quiet_on
        go_big_quiet_want; go_big_quiet_op; refine ⟨_, cls_call (Nat.le_refl _) CX.out, ?_⟩; go_big_quiet_on
        go_big_quiet_want; go_big_quiet_op; refine ⟨_, cls_call (Nat.le_refl _) CDX.out, ?_⟩; go_big_quiet_on
        go_big_quiet_want; go_big_quiet_op; go_big_quiet_on
        go_big_quiet_want; go_big_quiet_op; go_big_quiet_on
        go_big_quiet_want; refine quiet_load_key _ rfl _ rfl a (cls_blk N1.out (by rw [HSZ.out]; omega)) ?_; go_simp; go_big_quiet_on
        go_big_quiet_want; go_big_quiet_op; refine ⟨_, cls_call (Nat.le_refl _) CDa.out, ?_⟩; go_big_quiet_on
        go_big_quiet_want; go_big_quiet_op; go_big_quiet_on
        go_big_quiet_want; refine quiet_load_key _ rfl _ rfl b (cls_blk N2.out (by rw [HSZ.out]; omega)) ?_; go_simp; go_big_quiet_on
        as_aux_lemma =>
          go_big_quiet_want; go_big_quiet_op; refine ⟨_, cls_call (Nat.le_refl _) CDb.out, ?_⟩; go_big_quiet_on
          go_big_quiet_want; go_big_quiet_op; refine ⟨_, cls_call (Nat.le_refl _) CXD.out, ?_⟩; go_big_quiet_on
          go_big_quiet_want; go_big_quiet_op; refine ⟨_, fun _ _ => rfl, ?_⟩; go_big_quiet_on
          go_big_quiet_want; go_big_quiet_op; refine ⟨_, fun _ _ => rfl, ?_⟩; go_big_quiet_on
          go_big_quiet_want; go_big_quiet_op; go_big_quiet_on
          go_big_quiet_want; go_big_quiet_op; go_big_quiet_on
          go_big_quiet_want; go_big_quiet_op; go_big_quiet_on
          go_big_quiet_want; refine quiet_load_key _ rfl _ rfl a (cls_blk N1.out (by rw [HSZ.out]; omega)) ?_; go_simp; go_big_quiet_on
          go_big_quiet_want; refine quiet_load_key _ rfl _ rfl b (cls_blk N2.out (by rw [HSZ.out]; omega)) ?_; go_simp; go_big_quiet_on
          as_aux_lemma =>
            go_big_quiet_want; go_big_quiet_op; refine ⟨_, cls_call (Nat.le_refl _) CX.out, ?_⟩; go_big_quiet_on
            go_big_quiet_want; go_big_quiet_op; refine ⟨_, cls_call (Nat.le_refl _) CHX.out, ?_⟩; go_big_quiet_on
            go_big_quiet_want; go_big_quiet_op; go_big_quiet_on
            go_big_quiet_want; go_big_quiet_op; go_big_quiet_on
            go_big_quiet_want; refine quiet_load_key _ rfl _ rfl a (cls_blk N1.out (by rw [HSZ.out]; omega)) ?_; go_simp; go_big_quiet_on
            go_big_quiet_want; go_big_quiet_op; refine ⟨_, cls_call (Nat.le_refl _) CHa.out, ?_⟩; go_big_quiet_on
            go_big_quiet_want; go_big_quiet_op; go_big_quiet_on
            go_big_quiet_want; refine quiet_load_key _ rfl _ rfl b (cls_blk N2.out (by rw [HSZ.out]; omega)) ?_; go_simp; go_big_quiet_on
            go_big_quiet_want; go_big_quiet_op; refine ⟨_, cls_call (Nat.le_refl _) CHb.out, ?_⟩; go_big_quiet_on
            as_aux_lemma =>
              go_big_quiet_want; go_big_quiet_op; refine ⟨_, cls_call (Nat.le_refl _) CXH.out, ?_⟩; go_big_quiet_on
              go_big_quiet_want; go_big_quiet_op; refine ⟨_, fun _ _ => rfl, ?_⟩; go_big_quiet_on
              go_big_quiet_want; go_big_quiet_op; refine ⟨_, fun _ _ => rfl, ?_⟩; go_big_quiet_on
              go_big_quiet_want; go_big_quiet_op; go_big_quiet_on
              as_aux_lemma =>
                refine wpQuiet_nil ?_
                intro w' hw'
                have hb' := NB.out.trans (hw'.out.mono (by rw [HSZ.out]; omega))
                go_wp2
                go_ret
                exact ⟨rfl, hb'⟩


/-! ### the row's frame -/
theorem fieldHalve_own : ownKnob Try.prog.godebug = none := by kernel_rfl
theorem fieldHalve_laid : laidOutB Try.prog = true := by kernel_rfl
set_option maxRecDepth 100000 in
theorem fieldHalve_lifted (os : Os) (started : os.Started) (H : Type) (enc : TypeId × Value → H) :
    ReturnsInHanded {} Try.checked os 9 .any (Rows.fieldHalveSpec.pre6 enc Try.prog Try.f9 Rows.fieldHalveRow.domain false) (Rows.fieldHalveSpec.post enc Try.prog Try.f9 false true false false) := by
  refine returnsInHanded_of_change (C := Try.checked) fieldHalve_own started (by kernel_rfl) Try.func9
    (ChangeSpec.witness6 (enc := enc) (C := Try.checked) false ⟨#[], #[.agg #[.int .u8 0, .int .u8 0, .int .u8 0, .int .u8 0, .int .u8 0, .int .u8 0, .int .u8 0, .int .u8 0, .int .u8 0, .int .u8 0, .int .u8 0, .int .u8 0, .int .u8 0, .int .u8 0, .int .u8 0, .int .u8 0], .agg #[.int .u8 0, .int .u8 0, .int .u8 0, .int .u8 0, .int .u8 0, .int .u8 0, .int .u8 0, .int .u8 0, .int .u8 0, .int .u8 0, .int .u8 0, .int .u8 0, .int .u8 0, .int .u8 0, .int .u8 0, .int .u8 0]], []⟩ 8 (by kernel_rfl) (by kernel_rfl) (by kernel_rfl) (by kernel_rfl)) ?_
  intro W base args ds gs before hval0 hW hcnd _
  have hval : ∀ (j : Nat) t v, Try.f9.params[j]? = some t → args[j]? = some v → Value.okWide Try.prog W .any base t v := hval0
  have hW' := hW
  obtain ⟨p, q, hA0, hV, rfl, hfz, hnd⟩ := hW
  have hA : DataW.TrodAll enc Try.prog W 0 (fun _ => true) true Try.f9.params.toList args.toList ds p := hA0
  rw [Try.params9] at hA hval
  obtain ⟨v0, vs0, d0, ds0, p0, q0, hargs, rfl, rfl, h0, r0⟩ := trodAll_cons hA
  obtain ⟨v1, vs1, d1, ds1, p1, q1, rfl, rfl, rfl, h1, r1⟩ := trodAll_cons r0
  obtain ⟨rfl, rfl, rfl⟩ := trodAll_nil r1
  obtain rfl : args = #[v0, v1] := by cases args; simp_all
  obtain ⟨rfl, rfl⟩ := trodVars_none hV
  have k0 := h0
  have lt0 : ∀ x ∈ p0, x.block < W.heap.size := by obtain ⟨m, hm⟩ := k0; exact DataW.trod_lt m _ _ _ hm
  have k1 := h1
  have lt1 : ∀ x ∈ p1, x.block < W.heap.size := by obtain ⟨m, hm⟩ := k1; exact DataW.trod_lt m _ _ _ hm
  obtain ⟨b0, rfl, hb0⟩ := key_of (hval 0 26 v0 rfl rfl) h0
  obtain ⟨b1, rfl, hb1⟩ := key_of (hval 1 26 v1 rfl rfl) h1
  clear hA0 hval0
  refine (fieldHalve_walk b0 hb0 b1 hb1 W).mono fun e W' ⟨he, bel⟩ => ?_
  subst he
  exact ⟨_, rfl, _, _, _, [], _, [], hW', trodAll_mk1 (shut_bool Try.underlying4 _), (trodAll_cons_mk (Below.trod fieldHalve_laid (by kernel_rfl) (of_decide_eq_true (by kernel_rfl)) k0 bel lt0) (trodAll_cons_mk (Below.trod fieldHalve_laid (by kernel_rfl) (of_decide_eq_true (by kernel_rfl)) k1 bel lt1) trodAll_mk0)), rfl, bel.frame _, fun h => by cases h⟩

theorem fieldHalve_proved : Rows.FieldHalveSaid :=
  OpenClaim.holds_of_wide 9 Try.f9 rfl rfl rfl rfl rfl rfl rfl ⟨rfl, rfl, rfl, rfl, rfl⟩ rfl rfl rfl rfl rfl (by kernel_rfl) Try.func9 (by kernel_rfl)
    (of_decide_eq_true (by kernel_rfl)) (by unfold Func.isWrapper; rw [if_neg (of_decide_eq_false (by kernel_rfl))]; exact ⟨rfl, rfl⟩)
    (fun os started H enc _ => fieldHalve_lifted os started H enc)
#print axioms fieldHalve_proved

end Go.Proofs.Ytlcfaejomblnjaa
