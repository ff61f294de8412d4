/-
  CacheLast: for every quota and every script the law returns true and leaves its arguments alone. No condition.
-/
import Derived.Test.YtheilnaommcjjaaLastLaw
import Derived.Test.YtheilnaommcjjaaOpen
namespace Go.Proofs.Ytheilnaommcjjaa
open Go.ChangeShapes Go.WideShapes Go.ChangeAt Go.RowKit
open Go.Maps (Keyed)
set_option linter.unusedVariables false

theorem quiet_loadv {o : Oper} {a : Act} {C : World → Prop} {K : Act → Prop} (t : TypeId) (x : Operand) (ho : o.op = .load t x) (ad : Addr) (hx : a.eval x = .pointer (some ad)) (v : Value)
    (hl : ∀ w, C w → (loadVar t ad).run Try.prog w = .ok v w) (hk : K (a.put o.dst v)) : o.quiet Try.prog a C K :=
  quiet_value (fun w hw => by
    unfold execOp
    simp only [ho, hx, Instr.loadAt, Instr.sureAddr, Sem.run_bind, Sem.run_pure, Result.andThen_ok, hl w hw]) hk
section
variable {P : Program} {o : Oper} {a : Act} {w : World} {K : Act → World → Prop} {Q : Exit → Act → World → Prop}
theorem loadO (ty : TypeId) (x : Operand) (ho : o.op = .load ty x) (ad : Addr) (hx : a.eval x = .pointer (some ad)) (v : Value) (hl : (loadVar ty ad).run P w = .ok v w) (h : K (a.put o.dst v) w) : o.wp P a w K Q := by
  unfold Oper.wp execOp
  simp only [ho, hx, Instr.loadAt, Instr.sureAddr, Sem.run_bind, Sem.run_pure, Result.andThen_ok, hl]
  exact h
theorem buildO (t : TypeId) (parts : Array (Nat × Operand)) (ho : o.op = .build t parts) (vs : Array (Nat × Value)) (hvs : (parts.map fun (i, x) => (i, a.eval x)) = vs) (v : Value) (hr : (Instr.build t vs).run P w = .ok v w) (h : K (a.put o.dst v) w) : o.wp P a w K Q := by
  unfold Oper.wp execOp
  simp only [ho, hvs, Sem.run_bind, hr, Result.andThen_ok, Sem.run_pure]
  exact h
end
theorem cell_set (c : Nat) : (cellA 0).setIfInBounds 0 (.int .u8 c) = cellA c := by
  rw [cellA_row, cellA_row, row_set]
  refine row_congr (fun j _ => ?_)
  unfold upd cellE
  by_cases h : j = 0
  · subst h; rfl
  · rw [if_neg h, if_neg h, if_neg h]
theorem cell_ne (c : Nat) : ¬ cellA c = #[] := fun h => by
  have := cellA_size c
  rw [h] at this
  simp at this
/-- what holds between two rounds -/
structure LInv (w0 W : World) (a m ml q : Nat) (v : Value) (L : List Ln) : Prop where
  st : St W a m v q L
  bel : Below w0.heap.size w0 W
  siz : w0.heap.size ≤ W.heap.size
  own : ∀ k, Fm a m v k → w0.heap.size ≤ k
  lst : ∃ g, MapF Try.prog 48 W ml g ∧ LastOk L g
  mlo : w0.heap.size ≤ ml
  out : ¬ Fm a m v ml
theorem LInv.step {w0 W W' : World} {a m ml q : Nat} {v v' : Value} {L L' : List Ln} (h : LInv w0 W a m ml q v L) (hst : St W' a m v' q L') (hg : Grow (Fm a m v) (Fm a m v') W W') (hL : ∀ g, LastOk L g → LastOk L' g) : LInv w0 W' a m ml q v' L' := by
  obtain ⟨g, h1, h2⟩ := h.lst
  obtain ⟨s1, s2, s3⟩ := hg.step h.bel h.siz h.own
  exact ⟨hst, s1, s2, s3, ⟨g, hg.1.map h1 h.out, hL g h2⟩, h.mlo, hg.out h.out h1.lt⟩
theorem LInv.below {w0 W W' : World} {a m ml q : Nat} {v : Value} {L : List Ln} (h : LInv w0 W a m ml q v L) (hb : Below W.heap.size W W') : LInv w0 W' a m ml q v L :=
  h.step (h.st.below hb) (Grow.below hb) (fun _ h => h)

theorem LInv.upd {w0 W W' : World} {a m ml q : Nat} {v : Value} {L L' : List Ln} (h : LInv w0 W a m ml q v L) (hg : W.grownBy W' (some ml)) {g' : Value → Option Value} (hm : MapF Try.prog 48 W' ml g') (hL : LastOk L g') : LInv w0 W' a m ml q v L := by
  have hf : Fr (fun k => k = ml) W W' := Fr.of_grown hg (fun k hk => (Option.some.inj hk).symm)
  exact ⟨h.st.fr hf (fun k (hk : k = ml) hc => h.out (by rw [← hk]; exact hc)), h.bel.trans (hf.below h.siz (fun k (hk : k = ml) => by rw [hk]; exact h.mlo)), Nat.le_trans h.siz hf.size, h.own, ⟨g', hm, hL⟩, h.mlo, h.out⟩

set_option maxHeartbeats 4000000 in
set_option maxRecDepth 20000 in
theorem cacheLast_walk (a0 : Int) (_ : ok64 a0) (A : Option Addr) (n c : Nat) (zs : List OpD) (hz : zs.length = n) (_ : n ≤ c) (_ : c ≤ maxLen) (w : World) (hr : RO w w.heap.size A zs) (hok : ∀ z ∈ zs, z.ok) :
    Calls Try.prog 5 #[.int .i64 a0, .slice A n c] w fun e w' => e = .returned (.bool true) ∧ Below w.heap.size w w' := by
  subst hz
  by_cases hbig : (400 : Int) < (zs.length : Int)
  · go_enter Try.func5, Try.ntmps5
    go_wp2_with fail
    refine (alive_any w).mono ?_
    rintro e w1 ⟨rfl, hb1⟩
    go_wp2
    go_ret
    exact ⟨rfl, hb1⟩
  by_cases hlo : a0 < 1
  · go_enter Try.func5, Try.ntmps5
    go_wp2_with fail
    refine (alive_any w).mono ?_
    rintro e w1 ⟨rfl, hb1⟩
    go_wp2
    go_ret
    exact ⟨rfl, hb1⟩
  by_cases hhi : 8 < a0
  · go_enter Try.func5, Try.ntmps5
    go_wp2_with fail
    refine (alive_any w).mono ?_
    rintro e w1 ⟨rfl, hb1⟩
    go_wp2
    go_ret
    exact ⟨rfl, hb1⟩
  obtain ⟨q, rfl⟩ : ∃ q : Nat, a0 = (q : Int) := ⟨a0.toNat, by omega⟩
  have hq1 : 1 ≤ q := by omega
  have hq8 : q ≤ 8 := by omega
  have hmm := @run_makeMap Try.prog
  go_enter Try.func5, Try.ntmps5
  go_wp2_with fail
  refine (alive_any w).mono ?_
  rintro e w1 ⟨rfl, hb1⟩
  go_wp2_with fail
  refine (new_any q hq1 hq8 w1).mono ?_
  rintro e w2 ⟨a, m, rfl, st, hb2, ha, hm⟩
  go_wp2_with fail
  have hI : LInv w (w2.alloc (.map #[] 0)) a m w2.heap.size q (.slice none 0 0) [] :=
    ⟨st.below ((Below.refl _ _).alloc (Nat.le_refl _) _), (hb1.trans (hb2.mono hb1.size)).alloc (Nat.le_trans hb1.size hb2.size) _, by rw [World.size_alloc]; have := hb1.size; have := hb2.size; omega, fun k hk => (by
      rcases hk with h | h | h
      · have := hb1.size; omega
      · have := hb1.size; omega
      · cases h), ⟨_, MapF.made w2, fun l hl => by simp at hl⟩, Nat.le_trans hb1.size hb2.size, fun hk => by
      have := st.fm_lt hk
      omega⟩
  have HI := Lib.hid hI
  clear hI
  have hz := lnA_zero
  have hfs := lnA_size
  generalize hml : w2.heap.size = ml at *
  generalize w2.alloc (.map #[] 0) = w3 at *
  have Hml := Lib.hid hml
  clear hml st hb2 ha hm
  go_loopw [39] (fun i wr => ∃ (k : Nat) (L : List Ln) (v : Value), k ≤ zs.length ∧ i = .int .i64 k ∧ Hid (LInv w wr a m ml q v L)) (fun i _ => (zs.length - intOf i).toNat)
  case atStart => exact ⟨0, [], _, Nat.zero_le _, rfl, HI.out⟩
  case round =>
    obtain ⟨k, L, v, hk, rfl, HR⟩ := hrel
    by_cases hlt : (k : Int) < (zs.length : Int)
    · obtain ⟨o, ho⟩ : ∃ o, zs[k]? = some o := ⟨zs[k]'(by omega), List.getElem?_eq_getElem (by omega)⟩
      have hoo := hok o (List.mem_of_getElem? ho)
      obtain ⟨ad, rfl, had, hco⟩ := (hr.below HR.out.bel) k o ho
      have Hld := Lib.hid (load_op hco)
      have Ho := Lib.hid ho
      clear hco ho
      have hbx : Below wr.heap.size wr (wr.alloc (.cells (opA o) 42)) := (Below.refl _ _).alloc (Nat.le_refl _) _
      have hB := Blk.new wr (opA o) 42
      have HR1 := Lib.hid (HR.out.below hbx)
      have hnf : ¬ Fm a m v wr.heap.size := fun h => by have := HR.out.st.fm_lt h; omega
      have hlm : ml < wr.heap.size := by obtain ⟨g, h1, _⟩ := HR.out.lst; exact h1.lt
      clear hbx HR
      unfold opA at hB Hld HR1
      by_cases hk0 : o.k = 0
      · have hk0t : (o.k == 0) = true := by rw [beq_iff_eq]; exact hk0
        have HK := Lib.hid hk0
        clear hk0
        go_wp2_with (first | (refine loadW rfl 42 _ rfl (ad.add (k * 5)) rfl _ Hld.out ?_) | fail)
        obtain ⟨W, hW⟩ : ∃ W, W = wr.alloc (.cells #[.int .i64 o.k, .int .i64 o.u, .int .i64 o.b, .int .u8 o.c, .bool o.d] 42) := ⟨_, rfl⟩
        have hsz : wr.heap.size < W.heap.size := by rw [hW, World.size_alloc]; omega
        rw [← hW] at hB HR1 ⊢
        clear hW
        have hs2 : ok64 o.u ∧ ok64 o.b := ⟨hoo.2.1, hoo.2.2.1⟩
        refine (get_g (o.u, o.b) hs2 HR1.out.st).mono ?_
        rintro e w4 ⟨v4, rfl, st4, gr4⟩
        have HR4 := Lib.hid (HR1.out.step st4 gr4 (fun g h => h.touch _))
        have hB4 := gr4.1.blk hB hnf
        have hnf4 := gr4.out hnf hsz
        obtain ⟨g, hm4, hg4⟩ := HR4.out.lst
        obtain ⟨kl, hkl⟩ := pair_key (o.u, o.b) hs2.1 hs2.2
        have hfm := fun l hl => findLn_some (L := L) (s := (o.u, o.b)) (l := l) hl
        have hLg : ∀ l, findLn L (o.u, o.b) = some l → g (spotV (o.u, o.b)) = some (.agg (cellA l.c)) := fun l hl => by
          have h1 := hg4 l (by
            unfold touch; rw [hl]; simp)
          rw [(hfm l hl).2] at h1
          exact h1
        clear hfm st4 gr4 hB HR1
        generalize findLn L (o.u, o.b) = fl at *
        have hbx : Below w4.heap.size w4 ((w4.alloc (.cells (lnA zeroLn) 33)).setRow w4.heap.size (lnA (fl.getD zeroLn))) := below_setRow ((Below.refl _ _).alloc (Nat.le_refl _) _) (Nat.le_refl _) _
        have hX : Blk ((w4.alloc (.cells (lnA zeroLn) 33)).setRow w4.heap.size (lnA (fl.getD zeroLn))) w4.heap.size (lnA (fl.getD zeroLn)) 33 := Blk.setRow (Blk.new _ _ _) _
        have HR5 := Lib.hid (HR4.out.below hbx)
        have hB5 := hB4.below hbx hB4.lt
        have hm5 := hm4.kept' (hbx.block ml hm4.lt)
        clear hbx HR4 hm4 hB4
        have hN := Blk.new w4 (lnA zeroLn) 33
        go_wp2_with (first | (refine store_lnW rfl _ _ rfl w4.heap.size _ rfl rfl zeroLn hN ?_) | fail)
        generalize (w4.alloc (.cells (lnA zeroLn) 33)).setRow w4.heap.size (lnA (fl.getD zeroLn)) = W5 at *
        have x1 := hB5.cell (j := 1) rfl
        have x2 := hB5.cell (j := 2) rfl
        have hz31 : ∀ w, (zeroValue 31).run Try.prog w = .ok (.agg (cellA 0)) w := fun w => by kernel_rfl
        have ce := cell_eq
        have le := ln_eq
        rcases fl with _ | l
        · have le2 := fun w => ln_eq zeroLn zeroLn w
          rw [eqLn_self] at le2
          clear le ce hz31
          simp only [Option.isSome_none]
          refine wp_region_quiet_lit (by kernel_rfl) (by kernel_rfl) ?_
          repeat (first | go_big_quiet_skip | (go_big_quiet_want; (first | (refine quiet_loadv 33 _ rfl ⟨w4.heap.size, 0, none⟩ rfl _ (fun w hw => by obtain ⟨n, rfl⟩ := hw; exact load_ln zeroLn _ _ (hX.drewN n)) ?_; go_simp) | go_big_quiet_op); go_big_quiet_on))
          refine wpQuiet_nil ?_
          rintro _ ⟨nq, rfl⟩
          go_wp2
          refine ⟨⟨k + 1, _, v4, by omega, rfl, HR5.out.below (Below.drewN (Below.refl _ _) nq)⟩, by simp only [intOf]; omega⟩
        · have hlk : ∀ n, (Instr.lookup 50 (.map (some ml)) (.agg #[.int .i64 o.u, .int .i64 o.b]) false).run Try.prog (W5.drewN n) = .ok (.agg (cellA l.c)) (W5.drewN n) := fun n => by
            have h := (MapF.drewN hm5 n).lookup pair_keyed Try.underlying50 (hz31 _) hkl
            rw [hLg l rfl] at h
            exact h
          have ce2 := fun w => cell_eq l.c l.c w
          rw [decide_eq_true rfl] at ce2
          have Hz31 := Lib.hid hz31
          have HLg := Lib.hid hLg
          have Hkl := Lib.hid hkl
          clear le ce hz31 hLg hkl
          simp only [Option.isSome_some]
          refine wp_region_quiet_lit (by kernel_rfl) (by kernel_rfl) ?_
          repeat (first | go_big_quiet_skip | (go_big_quiet_want; (first | (refine quiet_loadv 31 _ rfl ⟨w4.heap.size, 2, none⟩ rfl _ (fun w hw => by obtain ⟨n, rfl⟩ := hw; exact loadVar_cell l _ _ (hX.drewN n)) ?_; go_simp) | go_big_quiet_op); go_big_quiet_on))
          refine wpQuiet_nil ?_
          rintro _ ⟨nq, rfl⟩
          go_wp2
          refine ⟨⟨k + 1, _, v4, by omega, rfl, HR5.out.below (Below.drewN (Below.refl _ _) nq)⟩, by simp only [intOf]; omega⟩
      by_cases hk1 : o.k = 1
      · have hk0f : (o.k == 0) = false := beq_eq_false_iff_ne.2 hk0
        have hk1t : (o.k == 1) = true := by rw [beq_iff_eq]; exact hk1
        have HK := Lib.hid hk1
        clear hk0 hk1
        have c0 := hB.cell (j := 0) rfl
        have c1 := hB.cell (j := 1) rfl
        have c2 := hB.cell (j := 2) rfl
        have c3 := hB.cell (j := 3) rfl
        have c4 := hB.cell (j := 4) rfl
        go_wp2_with (first | (refine loadW rfl 42 _ rfl (ad.add (k * 5)) rfl _ Hld.out ?_) | fail)
        clear c0 c1 c2 c3 c4
        obtain ⟨W, hW⟩ : ∃ W, W = wr.alloc (.cells #[.int .i64 o.k, .int .i64 o.u, .int .i64 o.b, .int .u8 o.c, .bool o.d] 42) := ⟨_, rfl⟩
        have hsz : wr.heap.size < W.heap.size := by rw [hW, World.size_alloc]; omega
        rw [← hW] at hB HR1 ⊢
        clear hW
        have hs2 : ok64 o.u ∧ ok64 o.b := ⟨hoo.2.1, hoo.2.2.1⟩
        have lo := Lib.hid (line_any o W)
        unfold opA at lo
        refine lo.out.mono ?_
        rintro e W2 ⟨rfl, hb2⟩
        have HR2 := Lib.hid (HR1.out.below hb2)
        have hB2 := hB.below hb2 hB.lt
        have hsz2 := Nat.lt_of_lt_of_le hsz hb2.size
        clear hb2 HR1 hB lo
        go_wp2_with fail
        refine (put_g o.ln hs2 HR2.out.st).mono ?_
        rintro e W3 ⟨v3, rfl, st3, gr3⟩
        have hB3 := gr3.1.blk hB2 hnf
        have hnf3 := gr3.out hnf hsz2
        have hsz3 := Nat.lt_of_lt_of_le hsz2 gr3.1.size
        have d1 := hB3.cell (j := 1) rfl
        have d2 := hB3.cell (j := 2) rfl
        have d3 := hB3.cell (j := 3) rfl
        cases hpo : putOK q L o.ln
        · have HR3 := Lib.hid (HR2.out.step st3 gr3 (fun g h => by rw [putL_no hpo]; exact h))
          clear st3 gr3 HR2 hB2
          have HP := Lib.hid hpo
          clear hpo
          rw [show errV false = full from rfl]
          unfold full
          go_wp2
          exact ⟨⟨k + 1, _, v3, by omega, rfl, HR3.out⟩, by simp only [intOf]; omega⟩
        · obtain ⟨g2, hm2, hg2⟩ := HR2.out.lst
          have hm3 := gr3.1.map hm2 HR2.out.out
          obtain ⟨kl, hkl⟩ := pair_key (o.u, o.b) hs2.1 hs2.2
          obtain ⟨W4, hup0, hgr4, hmap4⟩ := hm3.update pair_keyed Try.underlying50 hkl (.agg (cellA o.c))
          have hup : (Instr.mapUpdate 50 (.map (some ml)) (.agg #[.int .i64 o.u, .int .i64 o.b]) (.agg (cellA o.c))).run Try.prog W3 = .ok () W4 := hup0
          obtain ⟨g4, hf1, hf2⟩ := upd_fun g2 (spotV (o.u, o.b)) (.agg (cellA o.c))
          have hL4 : LastOk (putL q L o.ln) g4 := hg2.put hpo hf1 hf2
          obtain ⟨s1, s2, s3⟩ := gr3.step HR2.out.bel HR2.out.siz HR2.out.own
          have hf4 : Fr (fun k => k = ml) W3 W4 := Fr.of_grown hgr4 (fun k hk => (Option.some.inj hk).symm)
          have out3 := gr3.out HR2.out.out hm2.lt
          have HR4 : Hid (LInv w W4 a m ml q v3 (putL q L o.ln)) :=
            ⟨st3.fr hf4 (fun k (hk : k = ml) hc => out3 (by rw [← hk]; exact hc)), s1.trans (hf4.below s2 (fun k (hk : k = ml) => by rw [hk]; exact HR2.out.mlo)), Nat.le_trans s2 hf4.size, s3, ⟨g4, hmap4 g4 hf1 hf2, hL4⟩, HR2.out.mlo, out3⟩
          have hB4 := hf4.blk hB3 (by omega)
          have hsz4 := Nat.lt_of_lt_of_le hsz3 hf4.size
          obtain ⟨R, d, hR, hRd, _⟩ := putL_yes hpo
          have hfind : findLn (putL q L o.ln) (o.u, o.b) = some ⟨o.u, o.b, o.c, d⟩ := by
            rw [hR]; exact find_last R ⟨o.u, o.b, o.c, d⟩
          have Hhf := Lib.hid hfind
          have HRd := Lib.hid hRd
          have Hup := Lib.hid hup
          clear hup0 hmap4 hf1 hf2 hL4 hgr4 hR hfind hRd st3 gr3 HR2 hB2 hm2 hg2 hm3 hkl s1 s2 s3 hf4 out3 hpo
          rw [show errV true = .nilIface from rfl]
          have e1 := hB4.cell (j := 1) rfl
          have e2 := hB4.cell (j := 2) rfl
          clear hup
          have hup := Hup.out
          clear Hup
          go_wp2_with (first | (refine buildW rfl 31 #[(0, .tmp 106)] rfl #[(0, .int .u8 o.c)] (by simp [Act.eval]) (.agg (cellA o.c)) (build_cell o.c _) ?_) | fail)
          refine (get_g (o.u, o.b) hs2 HR4.out.st).mono ?_
          rintro e w5 ⟨v5, rfl, st5, gr5⟩
          rw [Hhf.out]
          simp only [Option.isSome_some, Option.getD_some]
          have HR5 := Lib.hid (HR4.out.step st5 gr5 (fun g h => h.touch _))
          have hB5 := gr5.1.blk hB4 hnf3
          clear st5 gr5 hB4 HR4 hup e1 e2 d1 d2 d3
          have hbx : Below w5.heap.size w5 ((w5.alloc (.cells (lnA zeroLn) 33)).setRow w5.heap.size (lnA ⟨o.u, o.b, o.c, d⟩)) := below_setRow ((Below.refl _ _).alloc (Nat.le_refl _) _) (Nat.le_refl _) _
          have hX : Blk ((w5.alloc (.cells (lnA zeroLn) 33)).setRow w5.heap.size (lnA ⟨o.u, o.b, o.c, d⟩)) w5.heap.size (lnA ⟨o.u, o.b, o.c, d⟩) 33 := Blk.setRow (Blk.new _ _ _) _
          have HR6 := Lib.hid (HR5.out.below hbx)
          have hB6 := hB5.below hbx hB5.lt
          have hN := Blk.new w5 (lnA zeroLn) 33
          clear hbx HR5 hB5
          have Hst : Hid ((storeCells ⟨w5.heap.size, 0, none⟩ (lnA ⟨o.u, o.b, o.c, d⟩).toList).run Try.prog (w5.alloc (.cells (lnA zeroLn) 33)) = .ok () ((w5.alloc (.cells (lnA zeroLn) 33)).setRow w5.heap.size (lnA ⟨o.u, o.b, o.c, d⟩))) := store_ln _ zeroLn _ _ hN
          obtain ⟨W6, hW6⟩ : ∃ W6, (w5.alloc (.cells (lnA zeroLn) 33)).setRow w5.heap.size (lnA ⟨o.u, o.b, o.c, d⟩) = W6 := ⟨_, rfl⟩
          rw [hW6] at hX HR6 hB6
          have HW6 := Lib.hid hW6
          clear hW6 Hst
          have x3 := hB6.cell (j := 3) rfl
          have x4 := hB6.cell (j := 4) rfl
          have x5 := hX.cell (lnA_at _ 130 (by omega))
          rw [show lnE ⟨o.u, o.b, o.c, d⟩ 130 = .bool d from rfl] at x5
          have ce2 := fun w => cell_eq o.c o.c w
          rw [decide_eq_true rfl] at ce2
          have hz31 : ∀ w, (zeroValue 31).run Try.prog w = .ok (.agg (cellA 0)) w := fun w => by kernel_rfl
          have hcz := cellA_size
          have hcs := cell_set
          have hcn := cell_ne
          cases hod : o.d
          · rw [hod] at x4
            have HOD := Lib.hid hod
            clear hod
            go_wp2_with (first | (refine store_lnW rfl _ _ rfl w5.heap.size _ rfl rfl zeroLn hN ?_; rw [HW6.out]) | fail)
            refine loadO 31 (.tmp 120) rfl ⟨w5.heap.size, 2, none⟩ rfl (.agg (cellA o.c)) (loadVar_cell _ _ _ hX) ?_
            go_wp2
            exact ⟨⟨k + 1, _, v5, by omega, rfl, HR6.out⟩, by simp only [intOf]; omega⟩
          · rw [hod] at x4
            obtain rfl := HRd.out hod
            have HOD := Lib.hid hod
            clear hod
            go_wp2_with (first | (refine store_lnW rfl _ _ rfl w5.heap.size _ rfl rfl zeroLn hN ?_; rw [HW6.out]) | fail)
            refine loadO 31 (.tmp 120) rfl ⟨w5.heap.size, 2, none⟩ rfl (.agg (cellA o.c)) (loadVar_cell _ _ _ hX) ?_
            go_wp2
            exact ⟨⟨k + 1, _, v5, by omega, rfl, HR6.out⟩, by simp only [intOf]; omega⟩
      by_cases hk2 : o.k = 2
      · have hk0f : (o.k == 0) = false := beq_eq_false_iff_ne.2 hk0
        have hk1f : (o.k == 1) = false := beq_eq_false_iff_ne.2 hk1
        have hk2t : (o.k == 2) = true := by rw [beq_iff_eq]; exact hk2
        have HK := Lib.hid hk2
        clear hk0 hk1 hk2
        go_wp2_with (first | (refine loadW rfl 42 _ rfl (ad.add (k * 5)) rfl _ Hld.out ?_) | fail)
        refine (clean_g HR1.out.st).mono ?_
        rintro e W2 ⟨rfl, st2, gr2⟩
        have HR2 := Lib.hid (HR1.out.step st2 gr2 (fun g h => h.clean))
        clear st2 gr2 HR1 hB
        go_wp2_with fail
        refine (dirty_g 9 (by omega) HR2.out.st).mono ?_
        rintro e W3 ⟨A3, c3, rfl, hl3, hb3⟩
        rw [dirty_clean]
        simp only [List.take_nil, List.length_nil]
        have HR3 := Lib.hid (HR2.out.below hb3)
        clear hl3 hb3 HR2
        go_wp2
        exact ⟨⟨k + 1, _, v, by omega, rfl, HR3.out⟩, by simp only [intOf]; omega⟩
      · have hk0f : (o.k == 0) = false := beq_eq_false_iff_ne.2 hk0
        have hk1f : (o.k == 1) = false := beq_eq_false_iff_ne.2 hk1
        have hk2f : (o.k == 2) = false := beq_eq_false_iff_ne.2 hk2
        clear hk0 hk1 hk2
        go_wp2_with (first | (refine loadW rfl 42 _ rfl (ad.add (k * 5)) rfl _ Hld.out ?_) | fail)
        obtain ⟨W, hW⟩ : ∃ W, W = wr.alloc (.cells #[.int .i64 o.k, .int .i64 o.u, .int .i64 o.b, .int .u8 o.c, .bool o.d] 42) := ⟨_, rfl⟩
        have hsz : wr.heap.size < W.heap.size := by rw [hW, World.size_alloc]; omega
        rw [← hW] at hB HR1 ⊢
        clear hW
        have hs2 : ok64 o.u ∧ ok64 o.b := ⟨hoo.2.1, hoo.2.2.1⟩
        refine (drop_g o.u HR1.out.st).mono ?_
        rintro e W2 ⟨v2, rfl, st2, gr2⟩
        have HR2 := Lib.hid (HR1.out.step st2 gr2 (fun g h => h.drop _))
        have hB2 := gr2.1.blk hB hnf
        have hnf2 := gr2.out hnf hsz
        clear st2 gr2 HR1 hB
        have d1 := hB2.cell (j := 1) rfl
        have d2 := hB2.cell (j := 2) rfl
        go_wp2_with fail
        refine (get_g (o.u, o.b) hs2 HR2.out.st).mono ?_
        rintro e W3 ⟨v3, rfl, st3, gr3⟩
        rw [find_drop]
        simp only [Option.isSome_none, Option.getD_none]
        have HR3 := Lib.hid (HR2.out.step st3 gr3 (fun g h => h.touch _))
        clear st3 gr3 HR2 hB2 d1 d2
        have hbx : Below W3.heap.size W3 ((W3.alloc (.cells (lnA zeroLn) 33)).setRow W3.heap.size (lnA zeroLn)) := below_setRow ((Below.refl _ _).alloc (Nat.le_refl _) _) (Nat.le_refl _) _
        have HR4 := Lib.hid (HR3.out.below hbx)
        have hN := Blk.new W3 (lnA zeroLn) 33
        clear hbx HR3
        go_wp2_with (first | (refine store_lnW rfl _ _ rfl W3.heap.size _ rfl rfl zeroLn hN ?_) | fail)
        exact ⟨⟨k + 1, _, v3, by omega, rfl, HR4.out⟩, by simp only [intOf]; omega⟩
    · obtain rfl : k = zs.length := by omega
      go_wp2
      go_ret
      exact ⟨rfl, HR.out.bel⟩
/-! ### the row's frame -/
theorem cacheLast_own : ownKnob Try.prog.godebug = none := by kernel_rfl
theorem cacheLast_laid : laidOutB Try.prog = true := by kernel_rfl
set_option maxRecDepth 100000 in
theorem cacheLast_lifted (os : Os) (started : os.Started) (H : Type) (enc : TypeId × Value → H) :
    ReturnsInHanded {} Try.checked os 5 .any (Rows.cacheLastSpec.pre6 enc Try.prog Try.f5 Rows.cacheLastRow.domain false) (Rows.cacheLastSpec.post enc Try.prog Try.f5 false true false false) := by
  refine returnsInHanded_of_change (C := Try.checked) cacheLast_own started (by kernel_rfl) Try.func5
    (ChangeSpec.witness6 (enc := enc) (C := Try.checked) false ⟨#[], #[.int .i64 0, .slice none 0 0], []⟩ 8 (by kernel_rfl) (by kernel_rfl) (by kernel_rfl) (by kernel_rfl)) ?_
  intro W base args ds gs before hval0 hW hcnd _
  have hval : ∀ (j : Nat) t v, Try.f5.params[j]? = some t → args[j]? = some v → Value.okWide Try.prog W .any base t v := hval0
  have hW' := hW
  obtain ⟨p, q, hA0, hV, rfl, hfz, hnd⟩ := hW
  have hlt0 : ∀ x ∈ p, x.block < W.heap.size := fun x hx => hW'.lt x (List.mem_append.2 (.inl hx))
  have hA : DataW.TrodAll enc Try.prog W 0 (fun _ => true) true Try.f5.params.toList args.toList ds p := hA0
  rw [Try.params5] at hA hval
  obtain ⟨v0, vs0, d0, ds0, p0, q0, hargs, rfl, rfl, h0, r0⟩ := trodAll_cons hA
  obtain ⟨v1, vs1, d1, ds1, p1, q1, rfl, rfl, rfl, h1, r1⟩ := trodAll_cons r0
  obtain ⟨rfl, rfl, rfl⟩ := trodAll_nil r1
  obtain rfl : args = #[v0, v1] := by cases args; simp_all
  obtain ⟨rfl, rfl⟩ := trodVars_none hV
  have k0 := h0
  have lt0 : ∀ x ∈ p0, x.block < W.heap.size := fun x hx => hlt0 x (by simp [hx])
  have k1 := h1
  have lt1 : ∀ x ∈ p1, x.block < W.heap.size := fun x hx => hlt0 x (by simp [hx])
  obtain ⟨a0, rfl, rfl, rfl, w0⟩ := open_int Try.underlying3 (hval 0 3 v0 rfl rfl) h0
  obtain ⟨A1, n1, c1, zs1, rfl, hl1, hn1, hm1, hr1, hk1⟩ := ops_of (hval 1 40 v1 rfl rfl) h1
  clear hA0 hval0
  refine (cacheLast_walk a0 (ok64_of w0) A1 n1 c1 zs1 hl1 hn1 hm1 W hr1 hk1).mono fun e W' ⟨he, bel⟩ => ?_
  subst he
  exact ⟨_, rfl, _, _, _, [], _, [], hW', trodAll_mk1 (shut_bool Try.underlying4 _), (trodAll_cons_mk (Below.trod cacheLast_laid (by kernel_rfl) (of_decide_eq_true (by kernel_rfl)) k0 bel lt0) (trodAll_cons_mk (Below.trod cacheLast_laid (by kernel_rfl) (of_decide_eq_true (by kernel_rfl)) k1 bel lt1) trodAll_mk0)), rfl, bel.frame _, fun h => by cases h⟩

theorem cacheLast_proved : Rows.CacheLastSaid :=
  OpenClaim.holds_of_wide 5 Try.f5 rfl rfl rfl rfl rfl rfl rfl ⟨rfl, rfl, rfl, rfl, rfl⟩ rfl rfl rfl rfl rfl (by kernel_rfl) Try.func5 (by kernel_rfl)
    (of_decide_eq_true (by kernel_rfl)) (by unfold Func.isWrapper; rw [if_neg (of_decide_eq_false (by kernel_rfl))]; exact ⟨rfl, rfl⟩)
    (fun os started H enc _ => cacheLast_lifted os started H enc)
#print axioms cacheLast_proved

end Go.Proofs.Ytheilnaommcjjaa
