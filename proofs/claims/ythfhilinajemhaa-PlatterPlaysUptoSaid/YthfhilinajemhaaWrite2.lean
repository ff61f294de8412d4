/-
  Write: written.
-/
import Derived.Test.YthfhilinajemhaaWrite
namespace Go.Proofs.Ythfhilinajemhaa
open Go.RowKit
open Go.Maps (Keyed int_keyed)
set_option linter.unusedVariables false
theorem load_c (c : Array Value) (hc : c.size = 128) (w : World) (B : Nat) (h : Blk w B c 45) : (loadVar 45 ⟨B, 0, none⟩).run Try.prog w = .ok (.agg c) w :=
  run_loadVar_row w B 45 45 c (0, 0) _ h Try.underlying45 rfl (by rw [hc]; kernel_rfl)
theorem keyed3 : Keyed Try.prog 3 := int_keyed Try.underlying3
theorem key_int (i : Int) (h : ok64 i) : ∃ l, keyOf Try.prog 3 (.int .i64 i) = some l := by
  have hw : (Lit.int .i64 i).wf = true := by
    unfold ok64 at h
    simp [Lit.wf, IntKind.min, IntKind.max, IntKind.bits, IntKind.signed]
    omega
  unfold keyOf
  rw [Try.underlying3]
  simp [mapKey, hw, Try.underlying3]
theorem still_load_c {ops : Array Oper} {w : World} {Q : Act → Prop} {a : Act} {o : Oper} {rest : List Oper} (hgd : o.guard = none) (x : Operand) (ho : o.op = .load 45 x) (B : Nat) (hx : a.eval x = .pointer (some ⟨B, 0, none⟩)) (c : Array Value) (hc : c.size = 128) (hB : Blk w B c 45)
    (h : wpStill Try.prog ops w Q rest (a.put o.dst (.agg c))) : wpStill Try.prog ops w Q (o :: rest) a := by
  refine wpStill_step (fun K hK => ?_)
  have hw : Region.wanted o (yielded ops a.tmps) = true := by simp [Region.wanted, hgd]
  rw [if_pos hw]
  unfold Oper.still execOp
  simp only [ho, hx, Instr.loadAt, Instr.sureAddr, Sem.run_bind, Sem.run_pure, Result.andThen_ok, load_c c hc w B hB, Oper.stillUpon_value]
  exact hK _ h
theorem upd_fun (f : Value → Option Value) (x v : Value) : ∃ g : Value → Option Value, g x = some v ∧ ∀ y, y ≠ x → g y = f y := by
  classical
  exact ⟨fun y => if y = x then some v else f y, if_pos rfl, fun y h => if_neg h⟩
set_option maxRecDepth 20000 in
theorem write_yes {w : World} {p m n z : Nat} {ar : Bool} {lf st : Int} {cv : Value} {A : Option Addr} {f : Value → Option Value} (i : Int) (hi64 : ok64 i) (c : Array Value) (hc : c.size = 128) (hi : 0 ≤ i ∧ i < n) (h : Blk w p (plA ar lf false (.slice A n z) (.map (some m)) cv st) 90) (hf : MapF Try.prog 3 w m f)
    (hd : ¬ (ar = true ∧ lf = 0)) (hs64 : 0 ≤ st ∧ st < 1000000) (hl64 : ok64 (lf - 1)) : Calls Try.prog 18 #[.pointer (some ⟨p, 0, none⟩), .int .i64 i, .agg c] w fun e w' => e = .returned .nilIface ∧ Blk w' p (plA ar (lf - 1) false (.slice A n z) (.map (some m)) cv (st + 1)) 90 ∧
      (∃ g, MapF Try.prog 3 w' m g ∧ g (.int .i64 i) = some (.agg c) ∧ ∀ y, y ≠ .int .i64 i → g y = f y) ∧ Fr (fun k => k = p ∨ k = m) w w' := by
  have hb : Fr (fun k => k = p ∨ k = m) w (w.alloc (.cells c 45)) := Fr.of_below ((Below.refl _ _).alloc (Nat.le_refl _) _)
  have C0 := has_any i (h.alloc (.cells c 45))
  rw [decide_eq_true hi] at C0
  have C := Lib.hid C0
  clear C0
  have D := Lib.hid (step_yes (h.alloc (.cells c 45)) hd hs64 hl64)
  have HB := Lib.hid hb
  have hB := Blk.new w c 45
  have hM := hf.alloc (.cells c 45)
  have lp := h.lt
  have hmp : p ≠ m := by
    rintro rfl
    obtain ⟨es, ck, h1, _⟩ := hf
    unfold Blk at h
    rw [h] at h1
    cases h1
  obtain ⟨l, hl⟩ := key_int i hi64
  have Hl := Lib.hid hl
  clear hi h hd hb hf hl
  go_enter Try.func18, Try.ntmps18
  go_wp2_with fail
  generalize w.alloc (.cells c 45) = W at *
  refine C.out.mono ?_
  rintro e w' ⟨rfl, rfl⟩
  go_wp2_with fail
  refine D.out.mono ?_
  rintro e w2 ⟨rfl, hb2, hf2⟩
  have hB2 := hf2.blk hB (by omega)
  have hM2 := hf2.map hM (fun e => hmp e.symm)
  obtain ⟨w3, hu, hg, hmap⟩ := (MapF.drew hM2).update keyed3 Try.underlying86 Hl.out (.agg c)
  obtain ⟨g, g1, g2⟩ := upd_fun f (.int .i64 i) (.agg c)
  have hm3 := hmap g g1 g2
  have hb3 : Blk w3 p (plA ar (lf - 1) false (.slice A n z) (.map (some m)) cv (st + 1)) 90 := by
    unfold Blk; rw [hg.block p hb2.lt (fun e => hmp (Option.some.inj e))]; exact hb2
  have H3 := Lib.hid hb3
  have HM3 := Lib.hid hm3
  have HF := Lib.hid ((HB.out.trans (hf2.weak (F' := fun k => k = p ∨ k = m) (fun _ h => Or.inl h)) (fun i hi => Or.inl hi)).trans (Fr.of_grown (F := fun k => k = p ∨ k = m) (w := w2) (w' := w3) (row := some m) ⟨hg.os, hg.tape, hg.output, hg.size, hg.block⟩ (fun k hk => Or.inr (Option.some.inj hk).symm)) (fun i hi => Or.inl hi))
  have G1 := Lib.hid g1
  have G2 := Lib.hid g2
  have y4 := pl4 hb2
  clear hb3 hm3 hmap hg g1 g2 hf2 hb2
  go_wp2_with fail
  refine wp_region_still_tail 6 (by kernel_rfl) (by kernel_rfl) ?_
  change wpStill _ _ w2.drew _ _ _
  simp only [List.take_succ_cons, List.take_zero, List.drop_succ_cons, List.drop_zero]
  iterate 5 (refine wpStill_step (fun K hK => ?_); go_simp; (try go_ints); (try go_simp); refine hK _ ?_; clear hK K)
  refine still_load_c rfl (.tmp 5) rfl w.heap.size rfl c hc (Blk.drew hB2) ?_
  go_simp
  refine wpStill_nil ?_
  change wpList _ _ _ _ _ w2.drew
  go_wp2
  go_ret
  exact ⟨rfl, H3.out, ⟨g, HM3.out, G1.out, G2.out⟩, HF.out⟩
end Go.Proofs.Ythfhilinajemhaa
