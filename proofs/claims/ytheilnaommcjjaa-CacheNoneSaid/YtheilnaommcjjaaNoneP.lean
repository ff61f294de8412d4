/-
  CacheNone: for every op the law returns true and leaves its argument alone. No condition.
-/
import Derived.Test.YtheilnaommcjjaaNil
import Derived.Test.YtheilnaommcjjaaOpen
namespace Go.Proofs.Ytheilnaommcjjaa
open Go.ChangeShapes Go.WideShapes Go.ChangeAt Go.RowKit
set_option linter.unusedVariables false

theorem eq_zero (w : World) : (Op.equalIn 10000 33 (.agg (lnA zeroLn)) (.agg (lnA zeroLn))).run Try.prog w = .ok true w := by kernel_rfl

set_option maxHeartbeats 2000000 in
set_option maxRecDepth 20000 in
theorem cacheNone_walk (o : OpD) (ho : o.ok) (w : World) : Calls Try.prog 7 #[.agg (opA o)] w fun e w' => e = .returned (.bool true) ∧ Below w.heap.size w w' := by
  have hz := lnA_zero
  have hfs := lnA_size
  have heq := eq_zero
  unfold opA
  go_enter Try.func7, Try.ntmps7
  go_wp2_with fail
  have hB := Blk.new w (opA o) 42
  have hb := (Below.refl w.heap.size w).alloc (Nat.le_refl _) (.cells (opA o) 42)
  unfold opA at hB hb
  generalize w.alloc (.cells #[.int .i64 o.k, .int .i64 o.u, .int .i64 o.b, .int .u8 o.c, .bool o.d] 42) = w0 at *
  refine (alive_any w0).mono ?_
  rintro e w1 ⟨rfl, hb1⟩
  have hB1 := hB.below hb1 hB.lt
  have hbb := hb.trans (hb1.mono hb.size)
  clear hB hb hb1
  clear w0
  have c1 := hB1.cell (j := 1) rfl
  have c2 := hB1.cell (j := 2) rfl
  go_wp2_with fail
  refine (get_nil o.u o.b w1).mono ?_
  rintro e w2 ⟨rfl, hb2⟩
  clear c1 c2
  have hB2 := hB1.below hb2 hB1.lt
  have hbb2 := hbb.trans (hb2.mono hbb.size)
  clear hB1 hbb hb2
  have hN := Blk.new w2 (lnA zeroLn) 33
  have hN3 : Blk ((w2.alloc (.cells (lnA zeroLn) 33)).setRow w2.heap.size (lnA zeroLn)) w2.heap.size (lnA zeroLn) 33 := hN.setRow _
  have hb3 : Below w2.heap.size w2 ((w2.alloc (.cells (lnA zeroLn) 33)).setRow w2.heap.size (lnA zeroLn)) := below_setRow ((Below.refl _ _).alloc (Nat.le_refl _) _) (Nat.le_refl _) _
  have hB3 := hB2.below hb3 hB2.lt
  have hbb3 := hbb2.trans (hb3.mono hbb2.size)
  have Hst := Lib.hid (show (storeCells ⟨w2.heap.size, 0, none⟩ (lnA zeroLn).toList).run Try.prog (w2.alloc (.cells (lnA zeroLn) 33)) = _ from store_ln zeroLn zeroLn _ _ hN)
  generalize hW3 : (w2.alloc (.cells (lnA zeroLn) 33)).setRow w2.heap.size (lnA zeroLn) = w3 at *
  have HW3 := Lib.hid hW3
  clear hW3 hB2 hbb2 hb3
  have c0 := hB3.cell (j := 0) rfl
  have c1 := hB3.cell (j := 1) rfl
  have c2 := hB3.cell (j := 2) rfl
  have c3 := hB3.cell (j := 3) rfl
  have c4 := hB3.cell (j := 4) rfl
  go_wp2_with (first | (refine store_lnW rfl _ _ rfl w2.heap.size zeroLn rfl rfl zeroLn hN ?_; rw [HW3.out]) | (refine load_lnW rfl _ rfl w2.heap.size rfl _ hN3 ?_) | fail)
  refine (quota_nil w3).mono ?_
  rintro e w' ⟨rfl, rfl⟩
  go_wp2_with fail
  refine (line_any o w').mono ?_
  rintro e w4 ⟨rfl, hb4⟩
  have hB4 := hB3.below hb4 hB3.lt
  have hbb4 := hbb3.trans (hb4.mono hbb3.size)
  clear hN3 hB3 hbb3 hb4 c0 c1 c2 c3 c4 Hst HW3
  go_wp2_with fail
  refine (put_nil o.ln w4).mono ?_
  rintro e w5 ⟨rfl, hb5⟩
  have hB5 := hB4.below hb5 hB4.lt
  have hbb5 := hbb4.trans (hb5.mono hbb4.size)
  clear hB4 hbb4 hb5
  go_wp2_with fail
  refine (is_full w5).mono ?_
  rintro e w6 ⟨rfl, rfl⟩
  go_wp2_with fail
  refine (clean_nil w6).mono ?_
  rintro e w7 ⟨rfl, hb7⟩
  have hB7 := hB5.below hb7 hB5.lt
  have hbb7 := hbb5.trans (hb7.mono hbb5.size)
  clear hB5 hbb5 hb7
  have c2 := hB7.cell (j := 1) rfl
  go_wp2_with fail
  refine (drop_nil o.u w7).mono ?_
  rintro e w8 ⟨rfl, hb8⟩
  have hbb8 := hbb7.trans (hb8.mono hbb7.size)
  clear hB7 hbb7 hb8 c2
  go_wp2_with fail
  refine (lines_nil w8).mono ?_
  rintro e w9 ⟨rfl, rfl⟩
  go_wp2_with fail
  refine (dirty_nil 9 (by omega) w9).mono ?_
  rintro e w10 ⟨A, c, rfl, hb10⟩
  go_wp2
  go_ret
  exact ⟨rfl, hbb8.trans (hb10.mono hbb8.size)⟩
/-! ### the row's frame -/
theorem cacheNone_own : ownKnob Try.prog.godebug = none := by kernel_rfl
theorem cacheNone_laid : laidOutB Try.prog = true := by kernel_rfl
set_option maxRecDepth 100000 in
theorem cacheNone_lifted (os : Os) (started : os.Started) (H : Type) (enc : TypeId × Value → H) :
    ReturnsInHanded {} Try.checked os 7 .any (Rows.cacheNoneSpec.pre6 enc Try.prog Try.f7 Rows.cacheNoneRow.domain false) (Rows.cacheNoneSpec.post enc Try.prog Try.f7 false true false false) := by
  refine returnsInHanded_of_change (C := Try.checked) cacheNone_own started (by kernel_rfl) Try.func7
    (ChangeSpec.witness6 (enc := enc) (C := Try.checked) false ⟨#[], #[.agg #[.int .i64 0, .int .i64 0, .int .i64 0, .int .u8 0, .bool false]], []⟩ 8 (by kernel_rfl) (by kernel_rfl) (by kernel_rfl) (by kernel_rfl)) ?_
  intro W base args ds gs before hval0 hW hcnd _
  have hval : ∀ (j : Nat) t v, Try.f7.params[j]? = some t → args[j]? = some v → Value.okWide Try.prog W .any base t v := hval0
  have hW' := hW
  obtain ⟨p, q, hA0, hV, rfl, hfz, hnd⟩ := hW
  have hlt0 : ∀ x ∈ p, x.block < W.heap.size := fun x hx => hW'.lt x (List.mem_append.2 (.inl hx))
  have hA : DataW.TrodAll enc Try.prog W 0 (fun _ => true) true Try.f7.params.toList args.toList ds p := hA0
  rw [Try.params7] at hA hval
  obtain ⟨v0, vs0, d0, ds0, p0, q0, hargs, rfl, rfl, h0, r0⟩ := trodAll_cons hA
  obtain ⟨rfl, rfl, rfl⟩ := trodAll_nil r0
  obtain rfl : args = #[v0] := by cases args; simp_all
  obtain ⟨rfl, rfl⟩ := trodVars_none hV
  have k0 := h0
  have lt0 : ∀ x ∈ p0, x.block < W.heap.size := fun x hx => hlt0 x (by simp [hx])
  obtain ⟨o0, rfl, ho0⟩ := op_of (hval 0 42 v0 rfl rfl) h0
  clear hA0 hval0
  refine (cacheNone_walk o0 ho0 W).mono fun e W' ⟨he, bel⟩ => ?_
  subst he
  exact ⟨_, rfl, _, _, _, [], _, [], hW', trodAll_mk1 (shut_bool Try.underlying4 _), (trodAll_cons_mk (Below.trod cacheNone_laid (by kernel_rfl) (of_decide_eq_true (by kernel_rfl)) k0 bel lt0) trodAll_mk0), rfl, bel.frame _, fun h => by cases h⟩

theorem cacheNone_proved : Rows.CacheNoneSaid :=
  OpenClaim.holds_of_wide 7 Try.f7 rfl rfl rfl rfl rfl rfl rfl ⟨rfl, rfl, rfl, rfl, rfl⟩ rfl rfl rfl rfl rfl (by kernel_rfl) Try.func7 (by kernel_rfl)
    (of_decide_eq_true (by kernel_rfl)) (by unfold Func.isWrapper; rw [if_neg (of_decide_eq_false (by kernel_rfl))]; exact ⟨rfl, rfl⟩)
    (fun os started H enc _ => cacheNone_lifted os started H enc)
#print axioms cacheNone_proved

end Go.Proofs.Ytheilnaommcjjaa
