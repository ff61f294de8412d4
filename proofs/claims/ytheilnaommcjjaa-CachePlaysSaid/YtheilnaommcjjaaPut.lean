import Derived.Test.YtheilnaommcjjaaGet
namespace Go.Proofs.Ytheilnaommcjjaa
open Go.RowKit
open Go.Maps (Keyed)

def putOK (q : Nat) (L : List Ln) (l : Ln) : Bool := (findLn L l.spot).isSome || roomB q L
def putL (q : Nat) (L : List Ln) (l : Ln) : List Ln :=
  match findLn L l.spot with
  | some was => without L l.spot ++ [{ l with d := l.d || was.d }]
  | none => if roomB q L then without (roomL q L) l.spot ++ [l] else roomL q L
def full : Value := .iface 52 (.int .i64 7)
def errV (b : Bool) : Value := if b then .nilIface else full

theorem still_load_ln {ops : Array Oper} {w : World} {Q : Act → Prop} {a : Act} {o : Oper} {rest : List Oper} (hgd : o.guard = none) (x : Operand) (ho : o.op = .load 33 x) (B : Nat) (hx : a.eval x = .pointer (some ⟨B, 0, none⟩)) (l : Ln) (hB : Blk w B (lnA l) 33)
    (h : wpStill Try.prog ops w Q rest (a.put o.dst (.agg (lnA l)))) : wpStill Try.prog ops w Q (o :: rest) a := by
  refine wpStill_step (fun K hK => ?_)
  have hw : Region.wanted o (yielded ops a.tmps) = true := by simp [Region.wanted, hgd]
  rw [if_pos hw]
  unfold Oper.still execOp
  simp only [ho, hx, Instr.loadAt, Instr.sureAddr, Sem.run_bind, Sem.run_pure, Result.andThen_ok, load_ln l w B hB, Oper.stillUpon_value]
  exact hK _ h
theorem roomL_lt {q : Nat} {L : List Ln} (h : roomB q L = true) (hl : L.length ≤ q) : (roomL q L).length < q := by
  unfold roomL
  split
  · assumption
  · rename_i hn
    unfold roomB at h
    rw [decide_eq_false hn, Bool.false_or] at h
    have hi : firstClean L < L.length := List.findIdx_lt_length.2 (by
      obtain ⟨x, hx, hd⟩ := List.any_eq_true.1 h
      exact ⟨x, hx, hd⟩)
    rw [List.length_eraseIdx_of_lt hi]
    omega
theorem ln_set (l : Ln) (x : Bool) : (lnA l).setIfInBounds 130 (.bool x) = lnA ⟨l.u, l.b, l.c, x⟩ := by
  unfold lnA
  rw [row_set]
  refine row_congr (fun j _ => ?_)
  unfold upd lnE
  by_cases h : j = 130
  · subst h; rfl
  · rw [if_neg h]
    by_cases h0 : j = 0
    · rw [if_pos h0, if_pos h0]
    rw [if_neg h0, if_neg h0]
    by_cases h1 : j = 1
    · rw [if_pos h1, if_pos h1]
    rw [if_neg h1, if_neg h1]
    by_cases h2 : j = 2
    · rw [if_pos h2, if_pos h2]
    rw [if_neg h2, if_neg h2, if_neg h, if_neg h]
theorem ln_cells (l : Ln) (w : World) (B : Nat) (h : Blk w B (lnA l) 33) : (loadCells ⟨B, 0, none⟩ 131).run Try.prog w = .ok (lnA l) w := by
  have := run_loadCells_list (P := Try.prog) w ⟨B, 0, none⟩ (lnA l).toList (fun j v hv => by
    have hadd : (⟨B, 0, none⟩ : Addr).add j = ⟨B, j, none⟩ := by unfold Addr.add; split <;> simp_all
    rw [hadd]
    exact h.cell (by simpa using hv))
  rw [Array.length_toList, lnA_size] at this
  simpa using this
open Classical in
theorem upd_fun (f : Value → Option Value) (x v : Value) : ∃ g : Value → Option Value, g x = some v ∧ ∀ y, y ≠ x → g y = f y :=
  ⟨fun y => if y = x then some v else f y, if_pos rfl, fun _ hy => if_neg hy⟩

set_option maxHeartbeats 1000000 in
set_option maxRecDepth 20000 in
theorem put_any (a m : Nat) (v : Value) (q : Nat) (L : List Ln) (l : Ln) (hs : ok64 l.u ∧ ok64 l.b) (w : World) (hst : St w a m v q L) :
    Calls Try.prog 11 #[.pointer (some ⟨a, 0, none⟩), .agg (lnA l)] w fun e w' => ∃ v', e = .returned (errV (putOK q L l)) ∧ St w' a m v' q (putL q L l) ∧ Fr (Fm a m v) w w' ∧ Near w v v' := by
  have hz := lnA_zero
  have b0 := (Blk.new w (lnA l) 33).cell (lnA_at l 0 (by omega))
  have b1 := (Blk.new w (lnA l) 33).cell (lnA_at l 1 (by omega))
  rw [show lnE l 0 = .int .i64 l.u from rfl] at b0
  rw [show lnE l 1 = .int .i64 l.b from rfl] at b1
  go_enter Try.func11, Try.ntmps11
  go_wp2
  clear b0 b1
  have hsz : Hid (((w.alloc (.cells (lnA l) 33)).alloc (.cells #[.int .i64 l.u, .int .i64 l.b] 66)).heap.size = w.heap.size + 2) := by show _ = _; simp
  have hb0 := ((Below.refl w.heap.size w).alloc (Nat.le_refl _) (.cells (lnA l) 33)).alloc (by simp) (.cells #[.int .i64 l.u, .int .i64 l.b] 66)
  have hx1 : Blk ((w.alloc (.cells (lnA l) 33)).alloc (.cells #[.int .i64 l.u, .int .i64 l.b] 66)) w.heap.size (lnA l) 33 := (Blk.new _ _ _).alloc _
  have hx2 : Blk ((w.alloc (.cells (lnA l) 33)).alloc (.cells #[.int .i64 l.u, .int .i64 l.b] 66)) (w.heap.size + 1) #[.int .i64 l.u, .int .i64 l.b] 66 := by
    have := Blk.new (w.alloc (.cells (lnA l) 33)) #[.int .i64 l.u, .int .i64 l.b] 66
    simpa using this
  have st0 := hst.below hb0
  have l2 := hst.blk.lt
  generalize ((w.alloc (.cells (lnA l) 33)).alloc (.cells #[.int .i64 l.u, .int .i64 l.b] 66)) = W at *
  obtain ⟨f, hm, hF⟩ := st0.map
  obtain ⟨kl, hkl⟩ := spot_key l.spot hs.1 hs.2
  have hbx := st0.blk
  have c2 := hbx.cell (j := 2) rfl
  have d0 := hx2.cell (j := 0) rfl
  have d1 := hx2.cell (j := 1) rfl
  have c2' := (hbx.alloc (.cells (lnA zeroLn) 33)).cell (j := 2) rfl
  have d0' := (hx2.alloc (.cells (lnA zeroLn) 33)).cell (j := 0) rfl
  have d1' := (hx2.alloc (.cells (lnA zeroLn) 33)).cell (j := 1) rfl
  have hff := findLn_f hF l.spot
  have hlk1 : (Instr.lookup 61 (.map (some m)) (.agg #[.int .i64 l.u, .int .i64 l.b]) true).run Try.prog W.drew = .ok (.tuple #[.agg (lnA ((findLn L l.spot).getD zeroLn)), .bool (findLn L l.spot).isSome]) W.drew := by
    have := (MapF.drew hm).lookup_ok spot_keyed Try.underlying61 (lnA_zero W.drew) hkl
    rw [hff] at this
    revert this
    rcases findLn L l.spot with _ | _ <;> exact fun h => h
  have hlk2 : (Instr.lookup 61 (.map (some m)) (.agg #[.int .i64 l.u, .int .i64 l.b]) true).run Try.prog (W.alloc (.cells (lnA zeroLn) 33)).drew = .ok (.tuple #[.agg (lnA ((findLn L l.spot).getD zeroLn)), .bool (findLn L l.spot).isSome]) (W.alloc (.cells (lnA zeroLn) 33)).drew := by
    have := (MapF.drew (hm.alloc (.cells (lnA zeroLn) 33))).lookup_ok spot_keyed Try.underlying61 (lnA_zero _) hkl
    rw [hff] at this
    revert this
    rcases findLn L l.spot with _ | _ <;> exact fun h => h
  have Hkl := Lib.hid hkl
  have Hff := Lib.hid hff
  clear hkl hff
  have hls : ∀ x, (lnA x).size = 131 := lnA_size
  generalize hfl : findLn L l.spot = fl at *
  have hsc : (storeCells ⟨W.heap.size, 0, none⟩ (lnA (fl.getD zeroLn)).toList).run Try.prog (W.alloc (.cells (lnA zeroLn) 33)).drew = .ok () ((W.alloc (.cells (lnA zeroLn) 33)).drew.setRow W.heap.size (lnA (fl.getD zeroLn))) := store_ln _ zeroLn _ _ (Blk.drew (Blk.new W _ _))
  have Hfl := Lib.hid hfl
  clear hfl
  go_region
  have hy1 : Blk ((W.alloc (.cells (lnA zeroLn) 33)).drew.setRow W.heap.size (lnA (fl.getD zeroLn))) W.heap.size (lnA (fl.getD zeroLn)) 33 := Blk.setRow (Blk.drew (Blk.new W _ _)) _
  have hbW : Below W.heap.size W ((W.alloc (.cells (lnA zeroLn) 33)).drew.setRow W.heap.size (lnA (fl.getD zeroLn))) := below_setRow ((Below.refl _ _).alloc (Nat.le_refl _) _).drew (Nat.le_refl _) _
  have hy2 := hx1.below hbW hx1.lt
  have hy3 := hx2.below hbW hx2.lt
  have hbw := hb0.trans (hbW.mono hb0.size)
  have st1 := st0.below hbW
  have hne : W.heap.size ≠ w.heap.size := by rw [hsz.out]; omega
  generalize (W.alloc (.cells (lnA zeroLn) 33)).drew.setRow W.heap.size (lnA (fl.getD zeroLn)) = W1 at *
  generalize W.heap.size = B at *
  clear c2 c2' d0 d1 d0' d1' hlk1 hlk2 hsc hm hbx st0 hb0 hx1 hx2 hbW
  clear W
  have hvlt : ∀ k, v.ownBlock = some k → k < w.heap.size := fun k hk => (hst.ord.lt k hk).2
  have hmlt : m < w.heap.size := by
    obtain ⟨f0, hm0, _⟩ := hst.map
    exact hm0.lt
  have HNF0 : Hid (∀ k, w.heap.size ≤ k → ¬ Fm a m v k) := fun k hk h => by
    rcases h with h | h | h
    · omega
    · omega
    · have := hvlt k h; omega
  clear hvlt
  obtain ⟨SZ, hSZ⟩ : ∃ SZ, W1.heap.size = SZ := ⟨_, rfl⟩
  have hS1 : w.heap.size < SZ := by rw [← hSZ]; exact hy2.lt
  have hS2 : w.heap.size + 1 < SZ := by rw [← hSZ]; exact hy3.lt
  have HSZ := Lib.hid hSZ
  clear hSZ
  rcases fl with _ | was
  · go_wp2_with fail
    refine (room_any a m v q L W1 st1).mono ?_
    rintro e w2 ⟨v2, rfl, st2, hfr2, hnear2⟩
    have hW1s : w.heap.size < W1.heap.size := hy2.lt
    have hBw : w.heap.size ≤ B := by rw [hsz.out]; omega
    have hz1 := hfr2.blk hy1 (HNF0.out B hBw)
    have hz2 := hfr2.blk hy2 (HNF0.out _ (Nat.le_refl _))
    have hz3 := hfr2.blk hy3 (HNF0.out _ (Nat.le_succ _))
    have hfrw : Fr (Fm a m v) w w2 := (Fr.of_below hbw).trans hfr2 (fun k h => .inl h)
    have hnw : Near w v v2 := fun k hk => (hnear2 k hk).elim .inl (fun h => .inr (by omega))
    have HNF : Hid (∀ k, w.heap.size ≤ k → k < SZ → ¬ Fm a m v2 k) := by
      intro k hk hk2 h
      rcases h with h | h | h
      · omega
      · omega
      · rcases hnear2 k h with h | h
        · exact HNF0.out k hk (.inr (.inr h))
        · have := HSZ.out
          omega
    cases hrb : roomB q L
    · go_wp2
      go_ret
      refine ⟨v2, ?_, ?_, hfrw, hnw⟩
      · unfold putOK; rw [Hfl.out, hrb]; rfl
      · unfold putL; rw [Hfl.out, hrb]; exact st2
    · have hlen : Hid (∀ y : Ln, (without (roomL q L) l.spot ++ [y]).length ≤ q) := by
        have h1 := roomL_lt hrb hst.len
        intro y
        have h2 : (without (roomL q L) l.spot).length ≤ (roomL q L).length := List.length_filter_le _ _
        simp only [List.length_append, List.length_cons, List.length_nil]
        omega
      have Hrb := Lib.hid hrb
      have Hnw := Lib.hid hnw
      clear hrb hnw hnear2 hfr2 hy1 hy2 hy3 st1 hbw hW1s HNF0 HSZ
      clear W1
      cases hld : l.d
      · have Hfin : Hid (putL q L l = without (roomL q L) l.spot ++ [⟨l.u, l.b, l.c, false⟩] ∧ putOK q L l = true) := by
          refine ⟨?_, ?_⟩
          · have hll : (⟨l.u, l.b, l.c, false⟩ : Ln) = l := by rw [← hld]
            unfold putL; rw [Hfl.out, Hrb.out, hll]; rfl
          · unfold putOK; rw [Hfl.out, Hrb.out]; rfl
        have ln7 : ∀ k, w.heap.size ≤ k → k < SZ → ¬ Fm a m v2 k := HNF.out
        have p130 : w2.cell? ⟨w.heap.size, 130, none⟩ = some (.bool l.d) := hz2.cell (lnA_at l 130 (by omega))
        have q130 := hz1.cell (lnA_at _ 130 (by omega))
        rw [show ∀ y : Ln, lnE y 130 = .bool y.d from fun _ => rfl] at q130
        rw [hld] at p130
        replace q130 : w2.cell? ⟨B, 130, none⟩ = some (Value.bool false) := q130
        have hp2 : Blk (w2.setCell ⟨w.heap.size, 130, none⟩ (.bool false)) w.heap.size (lnA ⟨l.u, l.b, l.c, false⟩) 33 := by
          have h := hz2.set 130 (.bool false)
          rw [ln_set] at h
          exact h
        have hp3 := hz3.other (a := ⟨w.heap.size, 130, none⟩) (by show w.heap.size ≠ w.heap.size + 1; omega) (.bool false)
        have hset : Fr (fun k => k = w.heap.size) w2 (w2.setCell ⟨w.heap.size, 130, none⟩ (.bool false)) := ⟨rfl, rfl, rfl, by simp [World.setCell], fun k _ hk => Below.heap_setCell _ _ _ _ hk⟩
        have st7 := st2.fr hset (fun k hk => by subst hk; exact ln7 _ (Nat.le_refl _) hS1)
        have fr7 : Fr (Fm a m v) w (w2.setCell ⟨w.heap.size, 130, none⟩ (.bool false)) := hfrw.trans hset (fun k hk => .inr (by omega))
        have fz := hz2.frozen
        have Hst7 := Lib.hid st7
        have Hfr7 := Lib.hid fr7
        have Hp2 := Lib.hid hp2
        have Hp3 := Lib.hid hp3
        clear st7 fr7 hp2 hp3 hset
        go_wp2
        generalize w2.setCell ⟨w.heap.size, 130, none⟩ (.bool false) = W7 at *
        have st7 := Hst7.out
        have fr7 := Hfr7.out
        have hp2 := Hp2.out
        have hp3 := Hp3.out
        have h8 := st7.blk
        obtain ⟨f7, hm7, hF7⟩ := st7.map
        have c2 := h8.cell (j := 2) rfl
        have d0 := hp3.cell (j := 0) rfl
        have d1 := hp3.cell (j := 1) rfl
        have hlv := load_ln _ W7.drew _ (Blk.drew hp2)
        have hlc : (loadCells ⟨w.heap.size, 0, none⟩ 131).run Try.prog W7.drew = .ok (lnA ⟨l.u, l.b, l.c, false⟩) W7.drew := ln_cells _ _ _ (Blk.drew hp2)
        obtain ⟨W8, hmu, hgr8, hmap8⟩ := (MapF.drew hm7).update spot_keyed Try.underlying61 Hkl.out (.agg (lnA ⟨l.u, l.b, l.c, false⟩))
        have hmu' : (Instr.mapUpdate 61 (.map (some m)) (.agg #[.int .i64 l.u, .int .i64 l.b]) (.agg (lnA ⟨l.u, l.b, l.c, false⟩))).run Try.prog W7.drew = .ok () W8 := hmu
        clear hmu
        obtain ⟨f8, k1, k2⟩ := upd_fun f7 (spotV l.spot) (.agg (lnA ⟨l.u, l.b, l.c, false⟩))
        have hm8 := hmap8 f8 k1 k2
        have hma : a ≠ m := hm7.ne h8
        have hvm := hm7.ne_ord st7.ord
        have hgr8' : W7.grownBy W8 (some m) := ⟨hgr8.os, hgr8.tape, hgr8.output, hgr8.size, hgr8.block⟩
        have hb8 : Blk W8 a #[.int .i64 q, v2, .map (some m)] 64 := by
          unfold Blk; rw [hgr8.block a h8.lt (fun h => hma (Option.some.inj h))]; exact h8
        have hmw : m ≠ w.heap.size + 1 := fun h => HNF.out _ (by omega) hS2 (.inr (.inl h.symm))
        have hb83 : Blk W8 (w.heap.size + 1) #[.int .i64 l.u, .int .i64 l.b] 66 := by
          unfold Blk; rw [hgr8.block _ hp3.lt (fun h => hmw (Option.some.inj h).symm)]; exact hp3
        have ho8 := st7.ord.kept hgr8' (.inr hvm)
        have fr8 : Fr (Fm a m v) w W8 := fr7.trans (Fr.of_grown (F := Fm a m v) hgr8' (fun k hk => .inr (.inl (Option.some.inj hk).symm))) (fun _ h => .inl h)
        have hlen7 : (((roomL q L)).map Ln.spot).length ≤ 100 := by
          have h1 := st7.len
          have h2 := st7.q8
          rw [List.length_map]
          omega
        have Cu := Lib.hid (use_any a q (.map (some m)) v2 (((roomL q L)).map Ln.spot) l.spot W8 hb8 ho8 hlen7)
        have Hk1 := Lib.hid k1
        have Hk2 := Lib.hid k2
        clear k1 k2 hmap8 hgr8 hgr8'
        refine wp_region_still_tail 6 (by kernel_rfl) (by kernel_rfl) ?_
        change wpStill _ _ W7.drew _ _ _
        simp only [List.take_succ_cons, List.take_zero, List.drop_succ_cons, List.drop_zero]
        repeat (refine wpStill_step (fun K hK => ?_); go_simp; (try go_ints); (try go_simp); refine hK _ ?_; clear hK K)
        refine still_load_ln rfl (.tmp 3) rfl w.heap.size rfl _ (Blk.drew hp2) ?_
        go_simp
        refine wpStill_nil ?_
        change wpList _ _ _ _ _ W7.drew
        have e0 := hb83.cell (j := 0) rfl
        have e1 := hb83.cell (j := 1) rfl
        go_wp2_with fail
        refine Cu.out.mono ?_
        rintro e w9 ⟨rfl, v9, hbk, ho9, hfr9, hnear9⟩
        go_wp2
        go_ret
        have hm9 := hfr9.map hm8 (fun h => h.elim (fun h => hma h.symm) (fun h => hvm h))
        refine ⟨v9, ?_, ?_, fr8.trans hfr9 (fun k h => ?_), fun k hk => ?_⟩
        · rw [Hfin.out.2]; rfl
        · rw [Hfin.out.1]
          exact St.of_use (l := ⟨l.u, l.b, l.c, false⟩) hbk ho9 hm9 (hF7.put ⟨l.u, l.b, l.c, false⟩ Hk1.out Hk2.out) st7.nodup st7.ok hs (hlen.out _) st7.q8
        · rcases h with h | h
          · exact .inl (.inl h)
          · exact (Hnw.out k h).elim (fun h => .inl (.inr (.inr h))) .inr
        · rcases hnear9 k hk with h | h
          · exact Hnw.out k h
          · exact .inr (Nat.le_trans fr8.size h)
      · have Hfin : Hid (putL q L l = without (roomL q L) l.spot ++ [⟨l.u, l.b, l.c, true⟩] ∧ putOK q L l = true) := by
          refine ⟨?_, ?_⟩
          · have hll : (⟨l.u, l.b, l.c, true⟩ : Ln) = l := by rw [← hld]
            unfold putL; rw [Hfl.out, Hrb.out, hll]; rfl
          · unfold putOK; rw [Hfl.out, Hrb.out]; rfl
        have ln7 : ∀ k, w.heap.size ≤ k → k < SZ → ¬ Fm a m v2 k := HNF.out
        have p130 : w2.cell? ⟨w.heap.size, 130, none⟩ = some (.bool l.d) := hz2.cell (lnA_at l 130 (by omega))
        have q130 := hz1.cell (lnA_at _ 130 (by omega))
        rw [show ∀ y : Ln, lnE y 130 = .bool y.d from fun _ => rfl] at q130
        rw [hld] at p130
        replace q130 : w2.cell? ⟨B, 130, none⟩ = some (Value.bool false) := q130
        have hp2 : Blk (w2.setCell ⟨w.heap.size, 130, none⟩ (.bool true)) w.heap.size (lnA ⟨l.u, l.b, l.c, true⟩) 33 := by
          have h := hz2.set 130 (.bool true)
          rw [ln_set] at h
          exact h
        have hp3 := hz3.other (a := ⟨w.heap.size, 130, none⟩) (by show w.heap.size ≠ w.heap.size + 1; omega) (.bool true)
        have hset : Fr (fun k => k = w.heap.size) w2 (w2.setCell ⟨w.heap.size, 130, none⟩ (.bool true)) := ⟨rfl, rfl, rfl, by simp [World.setCell], fun k _ hk => Below.heap_setCell _ _ _ _ hk⟩
        have st7 := st2.fr hset (fun k hk => by subst hk; exact ln7 _ (Nat.le_refl _) hS1)
        have fr7 : Fr (Fm a m v) w (w2.setCell ⟨w.heap.size, 130, none⟩ (.bool true)) := hfrw.trans hset (fun k hk => .inr (by omega))
        have fz := hz2.frozen
        have Hst7 := Lib.hid st7
        have Hfr7 := Lib.hid fr7
        have Hp2 := Lib.hid hp2
        have Hp3 := Lib.hid hp3
        clear st7 fr7 hp2 hp3 hset
        go_wp2
        generalize w2.setCell ⟨w.heap.size, 130, none⟩ (.bool true) = W7 at *
        have st7 := Hst7.out
        have fr7 := Hfr7.out
        have hp2 := Hp2.out
        have hp3 := Hp3.out
        have h8 := st7.blk
        obtain ⟨f7, hm7, hF7⟩ := st7.map
        have c2 := h8.cell (j := 2) rfl
        have d0 := hp3.cell (j := 0) rfl
        have d1 := hp3.cell (j := 1) rfl
        have hlv := load_ln _ W7.drew _ (Blk.drew hp2)
        have hlc : (loadCells ⟨w.heap.size, 0, none⟩ 131).run Try.prog W7.drew = .ok (lnA ⟨l.u, l.b, l.c, true⟩) W7.drew := ln_cells _ _ _ (Blk.drew hp2)
        obtain ⟨W8, hmu, hgr8, hmap8⟩ := (MapF.drew hm7).update spot_keyed Try.underlying61 Hkl.out (.agg (lnA ⟨l.u, l.b, l.c, true⟩))
        have hmu' : (Instr.mapUpdate 61 (.map (some m)) (.agg #[.int .i64 l.u, .int .i64 l.b]) (.agg (lnA ⟨l.u, l.b, l.c, true⟩))).run Try.prog W7.drew = .ok () W8 := hmu
        clear hmu
        obtain ⟨f8, k1, k2⟩ := upd_fun f7 (spotV l.spot) (.agg (lnA ⟨l.u, l.b, l.c, true⟩))
        have hm8 := hmap8 f8 k1 k2
        have hma : a ≠ m := hm7.ne h8
        have hvm := hm7.ne_ord st7.ord
        have hgr8' : W7.grownBy W8 (some m) := ⟨hgr8.os, hgr8.tape, hgr8.output, hgr8.size, hgr8.block⟩
        have hb8 : Blk W8 a #[.int .i64 q, v2, .map (some m)] 64 := by
          unfold Blk; rw [hgr8.block a h8.lt (fun h => hma (Option.some.inj h))]; exact h8
        have hmw : m ≠ w.heap.size + 1 := fun h => HNF.out _ (by omega) hS2 (.inr (.inl h.symm))
        have hb83 : Blk W8 (w.heap.size + 1) #[.int .i64 l.u, .int .i64 l.b] 66 := by
          unfold Blk; rw [hgr8.block _ hp3.lt (fun h => hmw (Option.some.inj h).symm)]; exact hp3
        have ho8 := st7.ord.kept hgr8' (.inr hvm)
        have fr8 : Fr (Fm a m v) w W8 := fr7.trans (Fr.of_grown (F := Fm a m v) hgr8' (fun k hk => .inr (.inl (Option.some.inj hk).symm))) (fun _ h => .inl h)
        have hlen7 : (((roomL q L)).map Ln.spot).length ≤ 100 := by
          have h1 := st7.len
          have h2 := st7.q8
          rw [List.length_map]
          omega
        have Cu := Lib.hid (use_any a q (.map (some m)) v2 (((roomL q L)).map Ln.spot) l.spot W8 hb8 ho8 hlen7)
        have Hk1 := Lib.hid k1
        have Hk2 := Lib.hid k2
        clear k1 k2 hmap8 hgr8 hgr8'
        refine wp_region_still_tail 6 (by kernel_rfl) (by kernel_rfl) ?_
        change wpStill _ _ W7.drew _ _ _
        simp only [List.take_succ_cons, List.take_zero, List.drop_succ_cons, List.drop_zero]
        repeat (refine wpStill_step (fun K hK => ?_); go_simp; (try go_ints); (try go_simp); refine hK _ ?_; clear hK K)
        refine still_load_ln rfl (.tmp 3) rfl w.heap.size rfl _ (Blk.drew hp2) ?_
        go_simp
        refine wpStill_nil ?_
        change wpList _ _ _ _ _ W7.drew
        have e0 := hb83.cell (j := 0) rfl
        have e1 := hb83.cell (j := 1) rfl
        go_wp2_with fail
        refine Cu.out.mono ?_
        rintro e w9 ⟨rfl, v9, hbk, ho9, hfr9, hnear9⟩
        go_wp2
        go_ret
        have hm9 := hfr9.map hm8 (fun h => h.elim (fun h => hma h.symm) (fun h => hvm h))
        refine ⟨v9, ?_, ?_, fr8.trans hfr9 (fun k h => ?_), fun k hk => ?_⟩
        · rw [Hfin.out.2]; rfl
        · rw [Hfin.out.1]
          exact St.of_use (l := ⟨l.u, l.b, l.c, true⟩) hbk ho9 hm9 (hF7.put ⟨l.u, l.b, l.c, true⟩ Hk1.out Hk2.out) st7.nodup st7.ok hs (hlen.out _) st7.q8
        · rcases h with h | h
          · exact .inl (.inl h)
          · exact (Hnw.out k h).elim (fun h => .inl (.inr (.inr h))) .inr
        · rcases hnear9 k hk with h | h
          · exact Hnw.out k h
          · exact .inr (Nat.le_trans fr8.size h)
  · have HNF : Hid (∀ k, w.heap.size ≤ k → k < SZ → ¬ Fm a m v k) := fun k h _ => HNF0.out k h
    have hlt1 := without_lt (findLn_some Hfl.out).1
    rw [(findLn_some Hfl.out).2] at hlt1
    have hlen : Hid (∀ y : Ln, (without L l.spot ++ [y]).length ≤ q) := by
      have := hst.len
      intro y
      simp only [List.length_append, List.length_cons, List.length_nil]
      omega
    have frw : Fr (Fm a m v) w W1 := Fr.of_below hbw
    have hnr : Hid (Near w v v) := fun k hk => .inl hk
    cases hld : l.d
    · have Hfin : Hid (putL q L l = without L l.spot ++ [⟨l.u, l.b, l.c, was.d⟩] ∧ putOK q L l = true) := by
        refine ⟨?_, ?_⟩
        · unfold putL; rw [Hfl.out, hld]; rfl
        · unfold putOK; rw [Hfl.out]; rfl
      have ln7 : ∀ k, w.heap.size ≤ k → k < SZ → ¬ Fm a m v k := HNF.out
      have p130 : W1.cell? ⟨w.heap.size, 130, none⟩ = some (.bool l.d) := hy2.cell (lnA_at l 130 (by omega))
      have q130 := hy1.cell (lnA_at _ 130 (by omega))
      rw [show ∀ y : Ln, lnE y 130 = .bool y.d from fun _ => rfl] at q130
      rw [hld] at p130
      have hp2 : Blk (W1.setCell ⟨w.heap.size, 130, none⟩ (.bool was.d)) w.heap.size (lnA ⟨l.u, l.b, l.c, was.d⟩) 33 := by
        have h := hy2.set 130 (.bool was.d)
        rw [ln_set] at h
        exact h
      have hp3 := hy3.other (a := ⟨w.heap.size, 130, none⟩) (by show w.heap.size ≠ w.heap.size + 1; omega) (.bool was.d)
      have hset : Fr (fun k => k = w.heap.size) W1 (W1.setCell ⟨w.heap.size, 130, none⟩ (.bool was.d)) := ⟨rfl, rfl, rfl, by simp [World.setCell], fun k _ hk => Below.heap_setCell _ _ _ _ hk⟩
      have st7 := st1.fr hset (fun k hk => by subst hk; exact ln7 _ (Nat.le_refl _) hS1)
      have fr7 : Fr (Fm a m v) w (W1.setCell ⟨w.heap.size, 130, none⟩ (.bool was.d)) := frw.trans hset (fun k hk => .inr (by omega))
      have fz := hy2.frozen
      have Hst7 := Lib.hid st7
      have Hfr7 := Lib.hid fr7
      have Hp2 := Lib.hid hp2
      have Hp3 := Lib.hid hp3
      clear st7 fr7 hp2 hp3 hset
      go_wp2
      generalize W1.setCell ⟨w.heap.size, 130, none⟩ (.bool was.d) = W7 at *
      have st7 := Hst7.out
      have fr7 := Hfr7.out
      have hp2 := Hp2.out
      have hp3 := Hp3.out
      have h8 := st7.blk
      obtain ⟨f7, hm7, hF7⟩ := st7.map
      have c2 := h8.cell (j := 2) rfl
      have d0 := hp3.cell (j := 0) rfl
      have d1 := hp3.cell (j := 1) rfl
      have hlv := load_ln _ W7.drew _ (Blk.drew hp2)
      have hlc : (loadCells ⟨w.heap.size, 0, none⟩ 131).run Try.prog W7.drew = .ok (lnA ⟨l.u, l.b, l.c, was.d⟩) W7.drew := ln_cells _ _ _ (Blk.drew hp2)
      obtain ⟨W8, hmu, hgr8, hmap8⟩ := (MapF.drew hm7).update spot_keyed Try.underlying61 Hkl.out (.agg (lnA ⟨l.u, l.b, l.c, was.d⟩))
      have hmu' : (Instr.mapUpdate 61 (.map (some m)) (.agg #[.int .i64 l.u, .int .i64 l.b]) (.agg (lnA ⟨l.u, l.b, l.c, was.d⟩))).run Try.prog W7.drew = .ok () W8 := hmu
      clear hmu
      obtain ⟨f8, k1, k2⟩ := upd_fun f7 (spotV l.spot) (.agg (lnA ⟨l.u, l.b, l.c, was.d⟩))
      have hm8 := hmap8 f8 k1 k2
      have hma : a ≠ m := hm7.ne h8
      have hvm := hm7.ne_ord st7.ord
      have hgr8' : W7.grownBy W8 (some m) := ⟨hgr8.os, hgr8.tape, hgr8.output, hgr8.size, hgr8.block⟩
      have hb8 : Blk W8 a #[.int .i64 q, v, .map (some m)] 64 := by
        unfold Blk; rw [hgr8.block a h8.lt (fun h => hma (Option.some.inj h))]; exact h8
      have hmw : m ≠ w.heap.size + 1 := fun h => HNF.out _ (by omega) hS2 (.inr (.inl h.symm))
      have hb83 : Blk W8 (w.heap.size + 1) #[.int .i64 l.u, .int .i64 l.b] 66 := by
        unfold Blk; rw [hgr8.block _ hp3.lt (fun h => hmw (Option.some.inj h).symm)]; exact hp3
      have ho8 := st7.ord.kept hgr8' (.inr hvm)
      have fr8 : Fr (Fm a m v) w W8 := fr7.trans (Fr.of_grown (F := Fm a m v) hgr8' (fun k hk => .inr (.inl (Option.some.inj hk).symm))) (fun _ h => .inl h)
      have hlen7 : ((L).map Ln.spot).length ≤ 100 := by
        have h1 := st7.len
        have h2 := st7.q8
        rw [List.length_map]
        omega
      have Cu := Lib.hid (use_any a q (.map (some m)) v ((L).map Ln.spot) l.spot W8 hb8 ho8 hlen7)
      have Hk1 := Lib.hid k1
      have Hk2 := Lib.hid k2
      clear k1 k2 hmap8 hgr8 hgr8'
      refine wp_region_still_tail 6 (by kernel_rfl) (by kernel_rfl) ?_
      change wpStill _ _ W7.drew _ _ _
      simp only [List.take_succ_cons, List.take_zero, List.drop_succ_cons, List.drop_zero]
      repeat (refine wpStill_step (fun K hK => ?_); go_simp; (try go_ints); (try go_simp); refine hK _ ?_; clear hK K)
      refine still_load_ln rfl (.tmp 3) rfl w.heap.size rfl _ (Blk.drew hp2) ?_
      go_simp
      refine wpStill_nil ?_
      change wpList _ _ _ _ _ W7.drew
      have e0 := hb83.cell (j := 0) rfl
      have e1 := hb83.cell (j := 1) rfl
      go_wp2_with fail
      refine Cu.out.mono ?_
      rintro e w9 ⟨rfl, v9, hbk, ho9, hfr9, hnear9⟩
      go_wp2
      go_ret
      have hm9 := hfr9.map hm8 (fun h => h.elim (fun h => hma h.symm) (fun h => hvm h))
      refine ⟨v9, ?_, ?_, fr8.trans hfr9 (fun k h => ?_), fun k hk => ?_⟩
      · rw [Hfin.out.2]; rfl
      · rw [Hfin.out.1]
        exact St.of_use (l := ⟨l.u, l.b, l.c, was.d⟩) hbk ho9 hm9 (hF7.put ⟨l.u, l.b, l.c, was.d⟩ Hk1.out Hk2.out) st7.nodup st7.ok hs (hlen.out _) st7.q8
      · rcases h with h | h
        · exact .inl (.inl h)
        · exact (hnr.out k h).elim (fun h => .inl (.inr (.inr h))) .inr
      · rcases hnear9 k hk with h | h
        · exact hnr.out k h
        · exact .inr (Nat.le_trans fr8.size h)
    · have Hfin : Hid (putL q L l = without L l.spot ++ [⟨l.u, l.b, l.c, true⟩] ∧ putOK q L l = true) := by
        refine ⟨?_, ?_⟩
        · unfold putL; rw [Hfl.out, hld]; rfl
        · unfold putOK; rw [Hfl.out]; rfl
      have ln7 : ∀ k, w.heap.size ≤ k → k < SZ → ¬ Fm a m v k := HNF.out
      have p130 : W1.cell? ⟨w.heap.size, 130, none⟩ = some (.bool l.d) := hy2.cell (lnA_at l 130 (by omega))
      have q130 := hy1.cell (lnA_at _ 130 (by omega))
      rw [show ∀ y : Ln, lnE y 130 = .bool y.d from fun _ => rfl] at q130
      rw [hld] at p130
      have hp2 : Blk (W1.setCell ⟨w.heap.size, 130, none⟩ (.bool true)) w.heap.size (lnA ⟨l.u, l.b, l.c, true⟩) 33 := by
        have h := hy2.set 130 (.bool true)
        rw [ln_set] at h
        exact h
      have hp3 := hy3.other (a := ⟨w.heap.size, 130, none⟩) (by show w.heap.size ≠ w.heap.size + 1; omega) (.bool true)
      have hset : Fr (fun k => k = w.heap.size) W1 (W1.setCell ⟨w.heap.size, 130, none⟩ (.bool true)) := ⟨rfl, rfl, rfl, by simp [World.setCell], fun k _ hk => Below.heap_setCell _ _ _ _ hk⟩
      have st7 := st1.fr hset (fun k hk => by subst hk; exact ln7 _ (Nat.le_refl _) hS1)
      have fr7 : Fr (Fm a m v) w (W1.setCell ⟨w.heap.size, 130, none⟩ (.bool true)) := frw.trans hset (fun k hk => .inr (by omega))
      have fz := hy2.frozen
      have Hst7 := Lib.hid st7
      have Hfr7 := Lib.hid fr7
      have Hp2 := Lib.hid hp2
      have Hp3 := Lib.hid hp3
      clear st7 fr7 hp2 hp3 hset
      go_wp2
      generalize W1.setCell ⟨w.heap.size, 130, none⟩ (.bool true) = W7 at *
      have st7 := Hst7.out
      have fr7 := Hfr7.out
      have hp2 := Hp2.out
      have hp3 := Hp3.out
      have h8 := st7.blk
      obtain ⟨f7, hm7, hF7⟩ := st7.map
      have c2 := h8.cell (j := 2) rfl
      have d0 := hp3.cell (j := 0) rfl
      have d1 := hp3.cell (j := 1) rfl
      have hlv := load_ln _ W7.drew _ (Blk.drew hp2)
      have hlc : (loadCells ⟨w.heap.size, 0, none⟩ 131).run Try.prog W7.drew = .ok (lnA ⟨l.u, l.b, l.c, true⟩) W7.drew := ln_cells _ _ _ (Blk.drew hp2)
      obtain ⟨W8, hmu, hgr8, hmap8⟩ := (MapF.drew hm7).update spot_keyed Try.underlying61 Hkl.out (.agg (lnA ⟨l.u, l.b, l.c, true⟩))
      have hmu' : (Instr.mapUpdate 61 (.map (some m)) (.agg #[.int .i64 l.u, .int .i64 l.b]) (.agg (lnA ⟨l.u, l.b, l.c, true⟩))).run Try.prog W7.drew = .ok () W8 := hmu
      clear hmu
      obtain ⟨f8, k1, k2⟩ := upd_fun f7 (spotV l.spot) (.agg (lnA ⟨l.u, l.b, l.c, true⟩))
      have hm8 := hmap8 f8 k1 k2
      have hma : a ≠ m := hm7.ne h8
      have hvm := hm7.ne_ord st7.ord
      have hgr8' : W7.grownBy W8 (some m) := ⟨hgr8.os, hgr8.tape, hgr8.output, hgr8.size, hgr8.block⟩
      have hb8 : Blk W8 a #[.int .i64 q, v, .map (some m)] 64 := by
        unfold Blk; rw [hgr8.block a h8.lt (fun h => hma (Option.some.inj h))]; exact h8
      have hmw : m ≠ w.heap.size + 1 := fun h => HNF.out _ (by omega) hS2 (.inr (.inl h.symm))
      have hb83 : Blk W8 (w.heap.size + 1) #[.int .i64 l.u, .int .i64 l.b] 66 := by
        unfold Blk; rw [hgr8.block _ hp3.lt (fun h => hmw (Option.some.inj h).symm)]; exact hp3
      have ho8 := st7.ord.kept hgr8' (.inr hvm)
      have fr8 : Fr (Fm a m v) w W8 := fr7.trans (Fr.of_grown (F := Fm a m v) hgr8' (fun k hk => .inr (.inl (Option.some.inj hk).symm))) (fun _ h => .inl h)
      have hlen7 : ((L).map Ln.spot).length ≤ 100 := by
        have h1 := st7.len
        have h2 := st7.q8
        rw [List.length_map]
        omega
      have Cu := Lib.hid (use_any a q (.map (some m)) v ((L).map Ln.spot) l.spot W8 hb8 ho8 hlen7)
      have Hk1 := Lib.hid k1
      have Hk2 := Lib.hid k2
      clear k1 k2 hmap8 hgr8 hgr8'
      refine wp_region_still_tail 6 (by kernel_rfl) (by kernel_rfl) ?_
      change wpStill _ _ W7.drew _ _ _
      simp only [List.take_succ_cons, List.take_zero, List.drop_succ_cons, List.drop_zero]
      repeat (refine wpStill_step (fun K hK => ?_); go_simp; (try go_ints); (try go_simp); refine hK _ ?_; clear hK K)
      refine still_load_ln rfl (.tmp 3) rfl w.heap.size rfl _ (Blk.drew hp2) ?_
      go_simp
      refine wpStill_nil ?_
      change wpList _ _ _ _ _ W7.drew
      have e0 := hb83.cell (j := 0) rfl
      have e1 := hb83.cell (j := 1) rfl
      go_wp2_with fail
      refine Cu.out.mono ?_
      rintro e w9 ⟨rfl, v9, hbk, ho9, hfr9, hnear9⟩
      go_wp2
      go_ret
      have hm9 := hfr9.map hm8 (fun h => h.elim (fun h => hma h.symm) (fun h => hvm h))
      refine ⟨v9, ?_, ?_, fr8.trans hfr9 (fun k h => ?_), fun k hk => ?_⟩
      · rw [Hfin.out.2]; rfl
      · rw [Hfin.out.1]
        exact St.of_use (l := ⟨l.u, l.b, l.c, true⟩) hbk ho9 hm9 (hF7.put ⟨l.u, l.b, l.c, true⟩ Hk1.out Hk2.out) st7.nodup st7.ok hs (hlen.out _) st7.q8
      · rcases h with h | h
        · exact .inl (.inl h)
        · exact (hnr.out k h).elim (fun h => .inl (.inr (.inr h))) .inr
      · rcases hnear9 k hk with h | h
        · exact hnr.out k h
        · exact .inr (Nat.le_trans fr8.size h)
end Go.Proofs.Ytheilnaommcjjaa
