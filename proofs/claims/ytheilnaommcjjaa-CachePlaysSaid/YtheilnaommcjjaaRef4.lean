/-
  The document's cache: Put.
-/
import Derived.Test.YtheilnaommcjjaaRef3
namespace Go.Proofs.Ytheilnaommcjjaa
open Go.RowKit

theorem without_none {L : List Ln} {s : Spot} (h : findLn L s = none) : without L s = L :=
  List.filter_eq_self.2 (fun x hx => decide_eq_true (findLn_none h x hx))
theorem putL_found {q : Nat} {L : List Ln} (hn : (L.map Ln.spot).Nodup) {l was : Ln} {k : Nat} (hf : findLn L l.spot = some was) (hk : L[k]? = some was) :
    putL q L l = L.eraseIdx k ++ [⟨l.u, l.b, l.c, l.d || was.d⟩] ∧ putOK q L l = true := by
  refine ⟨?_, by unfold putOK; rw [hf]; rfl⟩
  unfold putL
  rw [hf, erase_without hn hk, (findLn_some hf).2]
theorem putL_room {q : Nat} {L : List Ln} {l : Ln} (hf : findLn L l.spot = none) (hq : L.length < q) : putL q L l = L ++ [l] ∧ putOK q L l = true := by
  have hr : roomB q L = true := by unfold roomB; rw [decide_eq_true hq]; rfl
  refine ⟨?_, by unfold putOK; rw [hr]; simp⟩
  unfold putL
  rw [hf]
  show (if roomB q L then without (roomL q L) l.spot ++ [l] else _) = _
  rw [hr]
  unfold roomL
  rw [if_pos hq]
  show without L l.spot ++ [l] = _
  rw [without_none hf]
theorem putL_evict {q : Nat} {L : List Ln} {l x : Ln} {k : Nat} (hf : findLn L l.spot = none) (hq : ¬ L.length < q) (hk : L[k]? = some x) (hd : x.d = false) (hb : ∀ j y, j < k → L[j]? = some y → y.d = true) :
    putL q L l = L.eraseIdx k ++ [l] ∧ putOK q L l = true := by
  have hlt := (List.getElem?_eq_some_iff.1 hk).1
  have e := (List.getElem?_eq_some_iff.1 hk).2
  have hfc : firstClean L = k := by
    unfold firstClean
    rw [List.findIdx_eq hlt]
    refine ⟨by rw [e, hd]; rfl, fun j hj => ?_⟩
    rw [hb j _ hj (List.getElem?_eq_getElem (by omega))]
    rfl
  have hr : roomB q L = true := by
    unfold roomB
    rw [Bool.or_eq_true]
    exact .inr (List.any_eq_true.2 ⟨x, List.mem_of_getElem? hk, by rw [hd]; rfl⟩)
  refine ⟨?_, by unfold putOK; rw [hr]; simp⟩
  unfold putL
  rw [hf]
  show (if roomB q L then without (roomL q L) l.spot ++ [l] else _) = _
  rw [hr]
  unfold roomL
  rw [if_neg hq, hfc]
  show without (L.eraseIdx k) l.spot ++ [l] = _
  rw [show without (L.eraseIdx k) l.spot = L.eraseIdx k from List.filter_eq_self.2 (fun y hy => decide_eq_true (findLn_none hf y (List.mem_of_mem_eraseIdx hy)))]
theorem putOK_full {q : Nat} {L : List Ln} {l : Ln} (hf : findLn L l.spot = none) (hq : ¬ L.length < q) (hb : ∀ j y, j < L.length → L[j]? = some y → y.d = true) : putOK q L l = false := by
  unfold putOK roomB
  rw [hf, decide_eq_false hq]
  simp
  intro x hx
  obtain ⟨j, hj⟩ := List.mem_iff_getElem?.1 hx
  exact hb j x (List.getElem?_eq_some_iff.1 hj).1 hj
def putN (q : Nat) (L : List Ln) (l : Ln) : Int := if putOK q L l then 0 else 7

set_option maxHeartbeats 2000000 in
set_option maxRecDepth 20000 in
theorem rput_any (r q c : Nat) (A : Option Addr) (L : List Ln) (hn : (L.map Ln.spot).Nodup) (hL8 : L.length ≤ 8) (_ : q ≤ 8) (l : Ln) (w : World) (h : RSt w 0 r q A c L) :
    Calls Try.prog 21 #[.pointer (some ⟨r, 0, none⟩), .agg (lnA l)] w (RPost w r q A (.int .i64 (putN q L l)) (putL q L l)) := by
  have hz := lnA_zero
  have hfs := lnA_size
  have hb1 : Below w.heap.size w (w.alloc (.cells (lnA l) 33)) := (Below.refl _ _).alloc (Nat.le_refl _) _
  have hN1 := Blk.new w (lnA l) 33
  have H1 := Lib.hid (h.below hb1)
  have hr := h.blk.lt
  have hwr : ¬ Rm r A w.heap.size := fun hc => by have := h.fm_lt hc; omega
  have G1 := Lib.hid (Grow.below (G := Rm r A) hb1)
  have x0 := hN1.cell (lnA_at l 0 (by omega))
  have x1 := hN1.cell (lnA_at l 1 (by omega))
  rw [show lnE l 0 = .int .i64 l.u from rfl] at x0
  rw [show lnE l 1 = .int .i64 l.b from rfl] at x1
  have hs1 : w.heap.size < (w.alloc (.cells (lnA l) 33)).heap.size := by simp
  clear h
  generalize hW1 : w.alloc (.cells (lnA l) 33) = W1 at *
  have HW1 := Lib.hid hW1
  clear hW1 hb1
  go_enter Try.func21, Try.ntmps21
  go_wp2_with fail
  rw [HW1.out]
  go_wp2_with fail
  refine (find_any 0 r q c A L l.spot W1 H1.out).mono ?_
  rintro e w' ⟨rfl, rfl⟩
  clear x0 x1
  rcases hf : findLn L l.spot with _ | was
  · rw [posLn_none hf]
    have Hf := Lib.hid hf
    clear hf
    have b0 := H1.out.blk.cell (j := 0) rfl
    have b1 := H1.out.blk.cell (j := 1) rfl
    by_cases hq : L.length < q
    · obtain ⟨e1, e2⟩ := putL_room Hf.out hq
      have EQ := Lib.hid e1
      have Hok : Hid (putN q L l = 0) := by unfold Hid putN; rw [e2]; rfl
      have hqi : ¬ (q : Int) ≤ (L.length : Int) := by omega
      have hqi2 : (L.length : Int) < (q : Int) := by omega
      have hel : L.length + 1 ≤ 9 := by omega
      clear e1 e2 hq
      go_wp2_with fail
      go_quiet (fail)
      go_wp2_with fail
      have h3 : RSt (w'.drewN nq) 0 r q A c L := H1.out.below (Below.drewN (Below.refl _ _) nq)
      have hX : Blk (w'.drewN nq) w.heap.size (lnA l) 33 := hN1.drewN nq
      have HG : Hid (Grow (Rm r A) (Rm r A) w (w'.drewN nq)) := G1.out.trans (Grow.below (Below.drewN (Below.refl _ _) nq))
      clear b0 b1
      obtain ⟨Wd, hWd⟩ : ∃ Wd, w'.drewN nq = Wd := ⟨_, rfl⟩
      rw [hWd] at h3 hX HG ⊢
      clear hWd
      have hfold := fold_ln l
      have b1 := h3.blk.cell (j := 1) rfl
      have b2 := (h3.blk.alloc (.cells (lnA l) 33)).cell (j := 1) rfl
      have hO2 : Hid (Lns (Wd.alloc (.cells (lnA l) 33)).drew 0 (.slice A (L).length c) (L)) := (lns_below h3.row ((Below.refl _ _).alloc (Nat.le_refl _) (.cells (lnA l) 33)) : Lns (Wd.alloc (.cells (lnA l) 33)) 0 _ _)
      have hB2 : Hid (Blk (Wd.alloc (.cells (lnA l) 33)).drew Wd.heap.size (lnA l) 33) := Blk.new Wd (lnA l) 33
      have H3 : Hid (RSt Wd.drew 0 r q A c (L)) := ⟨h3.blk, h3.row, h3.len⟩
      refine wp_region_any (by kernel_rfl) ?_
      change wpAny _ _ _ _ _ _ _ (World.drew _)
      refine wpAny_take (i := 0) (v := ?_) rfl (by kernel_rfl) (by kernel_rfl) (by kernel_rfl) (fun _ _ _ h => h) (Or.inl ⟨by rfl, ?_⟩) ?_
      rotate_left 1
      · (intro w; go_simp; try with_reducible rfl)
      (try simp only [List.getElem_toArray, List.getElem_cons_zero, Act.put, List.setIfInBounds_toArray, List.set_cons_zero, List.set_cons_succ])
      refine wpAny_take (i := 1) (v := ?_) rfl (by kernel_rfl) (by kernel_rfl) (by kernel_rfl) (fun _ _ _ h => h) (Or.inl ⟨by rfl, ?_⟩) ?_
      rotate_left 1
      · (intro w; go_simp; try with_reducible rfl)
      (try simp only [List.getElem_toArray, List.getElem_cons_zero, List.getElem_cons_succ, Act.put, List.setIfInBounds_toArray, List.set_cons_zero, List.set_cons_succ])
      refine wpAny_take (i := 2) (v := ?_) rfl (by kernel_rfl) (by kernel_rfl) (by kernel_rfl) (fun _ _ _ h => h) (Or.inl ⟨by rfl, ?_⟩) ?_
      rotate_left 1
      · (intro w; go_simp; try with_reducible rfl)
      (try simp only [List.getElem_toArray, List.getElem_cons_zero, List.getElem_cons_succ, Act.put, List.setIfInBounds_toArray, List.set_cons_zero, List.set_cons_succ])
      refine wpAny_take (i := 3) (v := ?_) rfl (by kernel_rfl) (by kernel_rfl) (by kernel_rfl) (fun _ _ _ h => h) (Or.inl ⟨by rfl, ?_⟩) ?_
      rotate_left 1
      · (intro w; go_simp; try with_reducible rfl)
      (try simp only [List.getElem_toArray, List.getElem_cons_zero, List.getElem_cons_succ, Act.put, List.setIfInBounds_toArray, List.set_cons_zero, List.set_cons_succ])
      refine wpAny_ready (rs := [4, 5]) (by kernel_rfl) (by simp) ?_
      refine AllReady.cons rfl (fun K hK => ?_) (AllReady.cons rfl (fun K hK => ?_) AllReady.nil)
      · go_simp
        refine hK _ _ ?_
        clear hK K
        refine wpAny_ready (rs := [5]) (by kernel_rfl) (by simp) ?_
        refine AllReady.cons rfl (fun K hK => ?_) AllReady.nil
        refine step_loadv rfl 33 _ rfl ⟨w.heap.size, 0, none⟩ rfl (.agg (lnA l)) (load_ln l _ _ (Blk.drew hX)) ?_
        go_simp
        refine hK _ _ ?_
        clear hK K
        refine wpAny_ready (rs := [6]) (by kernel_rfl) (by simp) ?_
        refine AllReady.cons rfl (fun K hK => ?_) AllReady.nil
        go_simp
        refine hK _ _ ?_
        clear hK K
        refine wpAny_ready (rs := [7]) (by kernel_rfl) (by simp) ?_
        refine AllReady.cons rfl (fun K hK => ?_) AllReady.nil
        refine step_append_ln rfl _ _ rfl 0 (.slice A (L).length c) (L) rfl hO2.out _ 1 _ rfl hB2.out (by omega) (Nat.zero_le _) (fun g8 cap8 w8 hl8 hgr8 hat8 hlt8 => ?_)
        have hapx := H3.out.appended hl8 hgr8 hat8 (by omega)
        obtain ⟨hap1, hap2, hap3⟩ := hapx
        have Hap1 := Lib.hid hap1
        have Hap2 := Lib.hid hap2
        have z1 := hap3.cell (j := 1) rfl
        have z2 := hap3.frozen 1
        clear hap1 hap2 hl8 hgr8 hat8
        go_simp
        refine hK _ _ ?_
        clear hK K
        refine wpAny_ready (rs := [8]) (by kernel_rfl) (by simp) ?_
        refine AllReady.cons rfl (fun K hK => ?_) AllReady.nil
        go_simp
        refine hK _ _ ?_
        clear hK K
        refine wpAny_ready (rs := [9]) (by kernel_rfl) (by simp) ?_
        refine AllReady.cons rfl (fun K hK => ?_) AllReady.nil
        go_simp
        refine hK _ _ ?_
        clear hK K
        refine wpAny_ready (rs := [10]) (by kernel_rfl) (by simp) ?_
        refine AllReady.cons rfl (fun K hK => ?_) AllReady.nil
        go_simp
        refine hK _ _ ?_
        clear hK K
        refine wpAny_done (by kernel_rfl) ?_ _
        have t1 : Grow (Rm r A) (Rm r A) w Wd.drew := ⟨HG.out.1.drew', HG.out.2⟩
        go_wp2
        go_ret
        refine ⟨some ⟨g8, 0, none⟩, cap8, by rw [Hok.out]; rfl, ?_, t1.trans Hap2.out⟩
        rw [EQ.out]
        exact Hap1.out
      · refine step_loadv rfl 33 _ rfl ⟨w.heap.size, 0, none⟩ rfl (.agg (lnA l)) (load_ln l _ _ (Blk.drew hX)) ?_
        go_simp
        refine hK _ _ ?_
        clear hK K
        refine wpAny_ready (rs := [4, 6]) (by kernel_rfl) (by simp) ?_
        refine AllReady.cons rfl (fun K hK => ?_) (AllReady.cons rfl (fun K hK => ?_) AllReady.nil)
        · go_simp
          refine hK _ _ ?_
          clear hK K
          refine wpAny_ready (rs := [6]) (by kernel_rfl) (by simp) ?_
          refine AllReady.cons rfl (fun K hK => ?_) AllReady.nil
          go_simp
          refine hK _ _ ?_
          clear hK K
          refine wpAny_ready (rs := [7]) (by kernel_rfl) (by simp) ?_
          refine AllReady.cons rfl (fun K hK => ?_) AllReady.nil
          refine step_append_ln rfl _ _ rfl 0 (.slice A (L).length c) (L) rfl hO2.out _ 1 _ rfl hB2.out (by omega) (Nat.zero_le _) (fun g8 cap8 w8 hl8 hgr8 hat8 hlt8 => ?_)
          have hapx := H3.out.appended hl8 hgr8 hat8 (by omega)
          obtain ⟨hap1, hap2, hap3⟩ := hapx
          have Hap1 := Lib.hid hap1
          have Hap2 := Lib.hid hap2
          have z1 := hap3.cell (j := 1) rfl
          have z2 := hap3.frozen 1
          clear hap1 hap2 hl8 hgr8 hat8
          go_simp
          refine hK _ _ ?_
          clear hK K
          refine wpAny_ready (rs := [8]) (by kernel_rfl) (by simp) ?_
          refine AllReady.cons rfl (fun K hK => ?_) AllReady.nil
          go_simp
          refine hK _ _ ?_
          clear hK K
          refine wpAny_ready (rs := [9]) (by kernel_rfl) (by simp) ?_
          refine AllReady.cons rfl (fun K hK => ?_) AllReady.nil
          go_simp
          refine hK _ _ ?_
          clear hK K
          refine wpAny_ready (rs := [10]) (by kernel_rfl) (by simp) ?_
          refine AllReady.cons rfl (fun K hK => ?_) AllReady.nil
          go_simp
          refine hK _ _ ?_
          clear hK K
          refine wpAny_done (by kernel_rfl) ?_ _
          have t1 : Grow (Rm r A) (Rm r A) w Wd.drew := ⟨HG.out.1.drew', HG.out.2⟩
          go_wp2
          go_ret
          refine ⟨some ⟨g8, 0, none⟩, cap8, by rw [Hok.out]; rfl, ?_, t1.trans Hap2.out⟩
          rw [EQ.out]
          exact Hap1.out
        · go_simp
          refine hK _ _ ?_
          clear hK K
          refine wpAny_ready (rs := [4]) (by kernel_rfl) (by simp) ?_
          refine AllReady.cons rfl (fun K hK => ?_) AllReady.nil
          go_simp
          refine hK _ _ ?_
          clear hK K
          refine wpAny_ready (rs := [7]) (by kernel_rfl) (by simp) ?_
          refine AllReady.cons rfl (fun K hK => ?_) AllReady.nil
          refine step_append_ln rfl _ _ rfl 0 (.slice A (L).length c) (L) rfl hO2.out _ 1 _ rfl hB2.out (by omega) (Nat.zero_le _) (fun g8 cap8 w8 hl8 hgr8 hat8 hlt8 => ?_)
          have hapx := H3.out.appended hl8 hgr8 hat8 (by omega)
          obtain ⟨hap1, hap2, hap3⟩ := hapx
          have Hap1 := Lib.hid hap1
          have Hap2 := Lib.hid hap2
          have z1 := hap3.cell (j := 1) rfl
          have z2 := hap3.frozen 1
          clear hap1 hap2 hl8 hgr8 hat8
          go_simp
          refine hK _ _ ?_
          clear hK K
          refine wpAny_ready (rs := [8]) (by kernel_rfl) (by simp) ?_
          refine AllReady.cons rfl (fun K hK => ?_) AllReady.nil
          go_simp
          refine hK _ _ ?_
          clear hK K
          refine wpAny_ready (rs := [9]) (by kernel_rfl) (by simp) ?_
          refine AllReady.cons rfl (fun K hK => ?_) AllReady.nil
          go_simp
          refine hK _ _ ?_
          clear hK K
          refine wpAny_ready (rs := [10]) (by kernel_rfl) (by simp) ?_
          refine AllReady.cons rfl (fun K hK => ?_) AllReady.nil
          go_simp
          refine hK _ _ ?_
          clear hK K
          refine wpAny_done (by kernel_rfl) ?_ _
          have t1 : Grow (Rm r A) (Rm r A) w Wd.drew := ⟨HG.out.1.drew', HG.out.2⟩
          go_wp2
          go_ret
          refine ⟨some ⟨g8, 0, none⟩, cap8, by rw [Hok.out]; rfl, ?_, t1.trans Hap2.out⟩
          rw [EQ.out]
          exact Hap1.out
    · have hqi : (q : Int) ≤ (L.length : Int) := by omega
      clear b0 b1
      have b0 := H1.out.blk.cell (j := 0) rfl
      have b1 := H1.out.blk.cell (j := 1) rfl
      go_wp2_with fail
      go_quiet (fail)
      go_wp2_with fail
      have hLI : (L.length : Int) ≤ 8 := by omega
      go_loop [7] (fun i => ∃ k : Nat, k ≤ L.length ∧ i = .int .i64 k ∧ Hid (∀ j y, j < k → L[j]? = some y → y.d = true)) (fun i => (L.length - intOf i).toNat)
      case atStart => exact ⟨0, Nat.zero_le _, rfl, by unfold Hid; intro j y hj; omega⟩
      case round =>
        obtain ⟨k, hk, rfl, hH⟩ := hrel
        by_cases hlt : (k : Int) < (L.length : Int)
        · obtain ⟨x, hx⟩ : ∃ x, L[k]? = some x := ⟨L[k]'(by omega), List.getElem?_eq_getElem (by omega)⟩
          obtain ⟨g, rfl, _, hgl, hcl⟩ := H1.out.at hx
          have cd := hcl 130 (by omega)
          rw [show lnE x 130 = .bool x.d from rfl] at cd
          have Hx := Lib.hid hx
          cases hd : x.d
          · rw [hd] at cd
            obtain ⟨e1, e2⟩ := putL_evict (l := l) Hf.out hq hx hd hH.out
            have EQ := Lib.hid e1
            have Hok : Hid (putN q L l = 0) := by unfold Hid putN; rw [e2]; rfl
            have hel : (L.eraseIdx k).length + 1 ≤ 9 := by rw [List.length_eraseIdx_of_lt (by omega)]; omega
            have hkl : ((k : Int) == (L.length : Int)) = false := by rw [beq_eq_false_iff_ne]; omega
            have Co := Lib.hid (out_any r q c _ L k x hx (w'.drewN nq) (H1.out.below (Below.drewN (Below.refl _ _) nq)))
            have Hq := Lib.hid hq
            clear e1 e2 hq hx hcl hd
            go_wp2_with fail
            refine Co.out.mono ?_
            rintro e w2 ⟨A2, c2, rfl, h3, g2⟩
            go_wp2_with fail
            have hX : Blk w2 w.heap.size (lnA l) 33 := g2.1.blk (hN1.drewN nq) hwr
            have HG : Hid (Grow (Rm r _) (Rm r A2) w w2) := (G1.out.trans (Grow.below (Below.drewN (Below.refl _ _) nq))).trans g2
            clear b0 b1 cd g2 Co
            have hfold := fold_ln l
            have b1 := h3.blk.cell (j := 1) rfl
            have b2 := (h3.blk.alloc (.cells (lnA l) 33)).cell (j := 1) rfl
            have hO2 : Hid (Lns (w2.alloc (.cells (lnA l) 33)).drew 0 (.slice A2 (L.eraseIdx k).length c2) (L.eraseIdx k)) := (lns_below h3.row ((Below.refl _ _).alloc (Nat.le_refl _) (.cells (lnA l) 33)) : Lns (w2.alloc (.cells (lnA l) 33)) 0 _ _)
            have hB2 : Hid (Blk (w2.alloc (.cells (lnA l) 33)).drew w2.heap.size (lnA l) 33) := Blk.new w2 (lnA l) 33
            have H3 : Hid (RSt w2.drew 0 r q A2 c2 (L.eraseIdx k)) := ⟨h3.blk, h3.row, h3.len⟩
            refine wp_region_any (by kernel_rfl) ?_
            change wpAny _ _ _ _ _ _ _ (World.drew _)
            refine wpAny_take (i := 0) (v := ?_) rfl (by kernel_rfl) (by kernel_rfl) (by kernel_rfl) (fun _ _ _ h => h) (Or.inl ⟨by rfl, ?_⟩) ?_
            rotate_left 1
            · (intro w; go_simp; try with_reducible rfl)
            (try simp only [List.getElem_toArray, List.getElem_cons_zero, Act.put, List.setIfInBounds_toArray, List.set_cons_zero, List.set_cons_succ])
            refine wpAny_take (i := 1) (v := ?_) rfl (by kernel_rfl) (by kernel_rfl) (by kernel_rfl) (fun _ _ _ h => h) (Or.inl ⟨by rfl, ?_⟩) ?_
            rotate_left 1
            · (intro w; go_simp; try with_reducible rfl)
            (try simp only [List.getElem_toArray, List.getElem_cons_zero, List.getElem_cons_succ, Act.put, List.setIfInBounds_toArray, List.set_cons_zero, List.set_cons_succ])
            refine wpAny_take (i := 2) (v := ?_) rfl (by kernel_rfl) (by kernel_rfl) (by kernel_rfl) (fun _ _ _ h => h) (Or.inl ⟨by rfl, ?_⟩) ?_
            rotate_left 1
            · (intro w; go_simp; try with_reducible rfl)
            (try simp only [List.getElem_toArray, List.getElem_cons_zero, List.getElem_cons_succ, Act.put, List.setIfInBounds_toArray, List.set_cons_zero, List.set_cons_succ])
            refine wpAny_take (i := 3) (v := ?_) rfl (by kernel_rfl) (by kernel_rfl) (by kernel_rfl) (fun _ _ _ h => h) (Or.inl ⟨by rfl, ?_⟩) ?_
            rotate_left 1
            · (intro w; go_simp; try with_reducible rfl)
            (try simp only [List.getElem_toArray, List.getElem_cons_zero, List.getElem_cons_succ, Act.put, List.setIfInBounds_toArray, List.set_cons_zero, List.set_cons_succ])
            refine wpAny_ready (rs := [4, 5]) (by kernel_rfl) (by simp) ?_
            refine AllReady.cons rfl (fun K hK => ?_) (AllReady.cons rfl (fun K hK => ?_) AllReady.nil)
            · go_simp
              refine hK _ _ ?_
              clear hK K
              refine wpAny_ready (rs := [5]) (by kernel_rfl) (by simp) ?_
              refine AllReady.cons rfl (fun K hK => ?_) AllReady.nil
              refine step_loadv rfl 33 _ rfl ⟨w.heap.size, 0, none⟩ rfl (.agg (lnA l)) (load_ln l _ _ (Blk.drew hX)) ?_
              go_simp
              refine hK _ _ ?_
              clear hK K
              refine wpAny_ready (rs := [6]) (by kernel_rfl) (by simp) ?_
              refine AllReady.cons rfl (fun K hK => ?_) AllReady.nil
              go_simp
              refine hK _ _ ?_
              clear hK K
              refine wpAny_ready (rs := [7]) (by kernel_rfl) (by simp) ?_
              refine AllReady.cons rfl (fun K hK => ?_) AllReady.nil
              refine step_append_ln rfl _ _ rfl 0 (.slice A2 (L.eraseIdx k).length c2) (L.eraseIdx k) rfl hO2.out _ 1 _ rfl hB2.out (by omega) (Nat.zero_le _) (fun g8 cap8 w8 hl8 hgr8 hat8 hlt8 => ?_)
              have hapx := H3.out.appended hl8 hgr8 hat8 (by omega)
              obtain ⟨hap1, hap2, hap3⟩ := hapx
              have Hap1 := Lib.hid hap1
              have Hap2 := Lib.hid hap2
              have z1 := hap3.cell (j := 1) rfl
              have z2 := hap3.frozen 1
              clear hap1 hap2 hl8 hgr8 hat8
              go_simp
              refine hK _ _ ?_
              clear hK K
              refine wpAny_ready (rs := [8]) (by kernel_rfl) (by simp) ?_
              refine AllReady.cons rfl (fun K hK => ?_) AllReady.nil
              go_simp
              refine hK _ _ ?_
              clear hK K
              refine wpAny_ready (rs := [9]) (by kernel_rfl) (by simp) ?_
              refine AllReady.cons rfl (fun K hK => ?_) AllReady.nil
              go_simp
              refine hK _ _ ?_
              clear hK K
              refine wpAny_ready (rs := [10]) (by kernel_rfl) (by simp) ?_
              refine AllReady.cons rfl (fun K hK => ?_) AllReady.nil
              go_simp
              refine hK _ _ ?_
              clear hK K
              refine wpAny_done (by kernel_rfl) ?_ _
              have t1 : Grow (Rm r (some ⟨g, 0, none⟩)) (Rm r A2) w w2.drew := ⟨HG.out.1.drew', HG.out.2⟩
              go_wp2
              go_ret
              refine ⟨some ⟨g8, 0, none⟩, cap8, by rw [Hok.out]; rfl, ?_, t1.trans Hap2.out⟩
              rw [EQ.out]
              exact Hap1.out
            · refine step_loadv rfl 33 _ rfl ⟨w.heap.size, 0, none⟩ rfl (.agg (lnA l)) (load_ln l _ _ (Blk.drew hX)) ?_
              go_simp
              refine hK _ _ ?_
              clear hK K
              refine wpAny_ready (rs := [4, 6]) (by kernel_rfl) (by simp) ?_
              refine AllReady.cons rfl (fun K hK => ?_) (AllReady.cons rfl (fun K hK => ?_) AllReady.nil)
              · go_simp
                refine hK _ _ ?_
                clear hK K
                refine wpAny_ready (rs := [6]) (by kernel_rfl) (by simp) ?_
                refine AllReady.cons rfl (fun K hK => ?_) AllReady.nil
                go_simp
                refine hK _ _ ?_
                clear hK K
                refine wpAny_ready (rs := [7]) (by kernel_rfl) (by simp) ?_
                refine AllReady.cons rfl (fun K hK => ?_) AllReady.nil
                refine step_append_ln rfl _ _ rfl 0 (.slice A2 (L.eraseIdx k).length c2) (L.eraseIdx k) rfl hO2.out _ 1 _ rfl hB2.out (by omega) (Nat.zero_le _) (fun g8 cap8 w8 hl8 hgr8 hat8 hlt8 => ?_)
                have hapx := H3.out.appended hl8 hgr8 hat8 (by omega)
                obtain ⟨hap1, hap2, hap3⟩ := hapx
                have Hap1 := Lib.hid hap1
                have Hap2 := Lib.hid hap2
                have z1 := hap3.cell (j := 1) rfl
                have z2 := hap3.frozen 1
                clear hap1 hap2 hl8 hgr8 hat8
                go_simp
                refine hK _ _ ?_
                clear hK K
                refine wpAny_ready (rs := [8]) (by kernel_rfl) (by simp) ?_
                refine AllReady.cons rfl (fun K hK => ?_) AllReady.nil
                go_simp
                refine hK _ _ ?_
                clear hK K
                refine wpAny_ready (rs := [9]) (by kernel_rfl) (by simp) ?_
                refine AllReady.cons rfl (fun K hK => ?_) AllReady.nil
                go_simp
                refine hK _ _ ?_
                clear hK K
                refine wpAny_ready (rs := [10]) (by kernel_rfl) (by simp) ?_
                refine AllReady.cons rfl (fun K hK => ?_) AllReady.nil
                go_simp
                refine hK _ _ ?_
                clear hK K
                refine wpAny_done (by kernel_rfl) ?_ _
                have t1 : Grow (Rm r (some ⟨g, 0, none⟩)) (Rm r A2) w w2.drew := ⟨HG.out.1.drew', HG.out.2⟩
                go_wp2
                go_ret
                refine ⟨some ⟨g8, 0, none⟩, cap8, by rw [Hok.out]; rfl, ?_, t1.trans Hap2.out⟩
                rw [EQ.out]
                exact Hap1.out
              · go_simp
                refine hK _ _ ?_
                clear hK K
                refine wpAny_ready (rs := [4]) (by kernel_rfl) (by simp) ?_
                refine AllReady.cons rfl (fun K hK => ?_) AllReady.nil
                go_simp
                refine hK _ _ ?_
                clear hK K
                refine wpAny_ready (rs := [7]) (by kernel_rfl) (by simp) ?_
                refine AllReady.cons rfl (fun K hK => ?_) AllReady.nil
                refine step_append_ln rfl _ _ rfl 0 (.slice A2 (L.eraseIdx k).length c2) (L.eraseIdx k) rfl hO2.out _ 1 _ rfl hB2.out (by omega) (Nat.zero_le _) (fun g8 cap8 w8 hl8 hgr8 hat8 hlt8 => ?_)
                have hapx := H3.out.appended hl8 hgr8 hat8 (by omega)
                obtain ⟨hap1, hap2, hap3⟩ := hapx
                have Hap1 := Lib.hid hap1
                have Hap2 := Lib.hid hap2
                have z1 := hap3.cell (j := 1) rfl
                have z2 := hap3.frozen 1
                clear hap1 hap2 hl8 hgr8 hat8
                go_simp
                refine hK _ _ ?_
                clear hK K
                refine wpAny_ready (rs := [8]) (by kernel_rfl) (by simp) ?_
                refine AllReady.cons rfl (fun K hK => ?_) AllReady.nil
                go_simp
                refine hK _ _ ?_
                clear hK K
                refine wpAny_ready (rs := [9]) (by kernel_rfl) (by simp) ?_
                refine AllReady.cons rfl (fun K hK => ?_) AllReady.nil
                go_simp
                refine hK _ _ ?_
                clear hK K
                refine wpAny_ready (rs := [10]) (by kernel_rfl) (by simp) ?_
                refine AllReady.cons rfl (fun K hK => ?_) AllReady.nil
                go_simp
                refine hK _ _ ?_
                clear hK K
                refine wpAny_done (by kernel_rfl) ?_ _
                have t1 : Grow (Rm r (some ⟨g, 0, none⟩)) (Rm r A2) w w2.drew := ⟨HG.out.1.drew', HG.out.2⟩
                go_wp2
                go_ret
                refine ⟨some ⟨g8, 0, none⟩, cap8, by rw [Hok.out]; rfl, ?_, t1.trans Hap2.out⟩
                rw [EQ.out]
                exact Hap1.out
          · rw [hd] at cd
            have Hd := Lib.hid hd
            clear hd hx hcl
            go_wp2
            refine ⟨⟨k + 1, by omega, rfl, ?_⟩, by simp only [intOf]; omega⟩
            unfold Hid
            intro j y hj hy
            by_cases hjk : j = k
            · subst hjk
              rw [Hx.out] at hy
              rw [← Option.some.inj hy]
              exact Hd.out
            · exact hH.out j y (by omega) hy
        · obtain rfl : k = L.length := by omega
          have hok := putOK_full (l := l) Hf.out hq hH.out
          have Hq := Lib.hid hq
          have hno := Lib.hid (putL_no hok)
          have Hok : Hid (putN q L l = 7) := by unfold Hid putN; rw [hok]; rfl
          clear hok hq
          go_wp2
          go_ret
          refine ⟨A, c, by rw [Hok.out]; rfl, ?_, G1.out.trans (Grow.below (Below.drewN (Below.refl _ _) nq))⟩
          rw [hno.out]
          exact H1.out.below (Below.drewN (Below.refl _ _) nq)
  · obtain ⟨k, hk, hp⟩ := posLn_some hf
    rw [hp]
    obtain ⟨e1, e2⟩ := putL_found (q := q) hn hf hk
    have EQ := Lib.hid e1
    have Hok : Hid (putN q L l = 0) := by unfold Hid putN; rw [e2]; rfl
    have Co := Lib.hid (out_any r q c A L k was hk w' H1.out)
    have hel : (L.eraseIdx k).length + 1 ≤ 9 := by
      have := (List.getElem?_eq_some_iff.1 hk).1
      rw [List.length_eraseIdx_of_lt this]; omega
    have Hf := Lib.hid hf
    have Hk := Lib.hid hk
    clear hf hk hp hn e1 e2
    go_wp2_with fail
    refine Co.out.mono ?_
    rintro e w2 ⟨A2, c2, rfl, h2, g2⟩
    have hN2 := g2.1.blk hN1 hwr
    have hwr2 := g2.out hwr hs1
    have hb3 : Below w2.heap.size w2 ((w2.alloc (.cells (lnA zeroLn) 33)).setRow w2.heap.size (lnA was)) := below_setRow ((Below.refl _ _).alloc (Nat.le_refl _) _) (Nat.le_refl _) _
    have h4 := h2.below hb3
    have hX4 := (Blk.new w2 (lnA zeroLn) 33).setRow (lnA was)
    have hN4 := hN2.below hb3 hN2.lt
    have hn2 := Blk.new w2 (lnA zeroLn) 33
    have HG4 := Lib.hid ((G1.out.trans g2).trans (Grow.below hb3))
    have lw : w.heap.size < w2.heap.size := hN2.lt
    obtain ⟨W3, hW3⟩ : ∃ W3, (w2.alloc (.cells (lnA zeroLn) 33)).setRow w2.heap.size (lnA was) = W3 := ⟨_, rfl⟩
    rw [hW3] at h4 hX4 hN4 HG4
    have HW3 := Lib.hid hW3
    clear hW3 hb3 h2 g2 hN2 Co
    have y1 := hN4.cell (lnA_at l 130 (by omega))
    have y2 := hX4.cell (lnA_at was 130 (by omega))
    have y3 := hN4.frozen 130
    rw [show lnE l 130 = .bool l.d from rfl] at y1
    rw [show lnE was 130 = .bool was.d from rfl] at y2
    cases hld : l.d
    · rw [hld] at y1 EQ
      go_wp2_with (first | (refine store_lnW rfl _ _ rfl w2.heap.size was rfl rfl zeroLn hn2 ?_; rw [HW3.out]) | fail)
      have hX : Blk (W3.setCell ⟨w.heap.size, 130, none⟩ (.bool was.d)) w.heap.size (lnA ⟨l.u, l.b, l.c, was.d⟩) 33 := by
        have := hN4.set 130 (.bool was.d)
        rwa [ln_set] at this
      have fsx := fr_set W3 ⟨w.heap.size, 130, none⟩ (.bool was.d)
      have h3 : RSt (W3.setCell ⟨w.heap.size, 130, none⟩ (.bool was.d)) 0 r q A2 c2 (L.eraseIdx k) := h4.fr fsx (fun k hk => by rw [hk]; exact hwr2)
      have HG : Hid (Grow (Rm r A) (Rm r A2) w (W3.setCell ⟨w.heap.size, 130, none⟩ (.bool was.d))) := ⟨HG4.out.1.trans fsx (fun k hk => .inr (by rw [hk]; exact Nat.le_refl _)), HG4.out.2⟩
      obtain ⟨W5, hW5⟩ : ∃ W5, W3.setCell ⟨w.heap.size, 130, none⟩ (.bool was.d) = W5 := ⟨_, rfl⟩
      rw [hW5] at hX h3 HG ⊢
      clear hW5 fsx y1 y2 y3 hN4 h4 hX4
      have hfold := fold_ln ⟨l.u, l.b, l.c, was.d⟩
      have b1 := h3.blk.cell (j := 1) rfl
      have b2 := (h3.blk.alloc (.cells (lnA ⟨l.u, l.b, l.c, was.d⟩) 33)).cell (j := 1) rfl
      have hO2 : Hid (Lns (W5.alloc (.cells (lnA ⟨l.u, l.b, l.c, was.d⟩) 33)).drew 0 (.slice A2 (L.eraseIdx k).length c2) (L.eraseIdx k)) := (lns_below h3.row ((Below.refl _ _).alloc (Nat.le_refl _) (.cells (lnA ⟨l.u, l.b, l.c, was.d⟩) 33)) : Lns (W5.alloc (.cells (lnA ⟨l.u, l.b, l.c, was.d⟩) 33)) 0 _ _)
      have hB2 : Hid (Blk (W5.alloc (.cells (lnA ⟨l.u, l.b, l.c, was.d⟩) 33)).drew W5.heap.size (lnA ⟨l.u, l.b, l.c, was.d⟩) 33) := Blk.new W5 (lnA ⟨l.u, l.b, l.c, was.d⟩) 33
      have H3 : Hid (RSt W5.drew 0 r q A2 c2 (L.eraseIdx k)) := ⟨h3.blk, h3.row, h3.len⟩
      refine wp_region_any (by kernel_rfl) ?_
      change wpAny _ _ _ _ _ _ _ (World.drew _)
      refine wpAny_take (i := 0) (v := ?_) rfl (by kernel_rfl) (by kernel_rfl) (by kernel_rfl) (fun _ _ _ h => h) (Or.inl ⟨by rfl, ?_⟩) ?_
      rotate_left 1
      · (intro w; go_simp; try with_reducible rfl)
      (try simp only [List.getElem_toArray, List.getElem_cons_zero, Act.put, List.setIfInBounds_toArray, List.set_cons_zero, List.set_cons_succ])
      refine wpAny_take (i := 1) (v := ?_) rfl (by kernel_rfl) (by kernel_rfl) (by kernel_rfl) (fun _ _ _ h => h) (Or.inl ⟨by rfl, ?_⟩) ?_
      rotate_left 1
      · (intro w; go_simp; try with_reducible rfl)
      (try simp only [List.getElem_toArray, List.getElem_cons_zero, List.getElem_cons_succ, Act.put, List.setIfInBounds_toArray, List.set_cons_zero, List.set_cons_succ])
      refine wpAny_take (i := 2) (v := ?_) rfl (by kernel_rfl) (by kernel_rfl) (by kernel_rfl) (fun _ _ _ h => h) (Or.inl ⟨by rfl, ?_⟩) ?_
      rotate_left 1
      · (intro w; go_simp; try with_reducible rfl)
      (try simp only [List.getElem_toArray, List.getElem_cons_zero, List.getElem_cons_succ, Act.put, List.setIfInBounds_toArray, List.set_cons_zero, List.set_cons_succ])
      refine wpAny_take (i := 3) (v := ?_) rfl (by kernel_rfl) (by kernel_rfl) (by kernel_rfl) (fun _ _ _ h => h) (Or.inl ⟨by rfl, ?_⟩) ?_
      rotate_left 1
      · (intro w; go_simp; try with_reducible rfl)
      (try simp only [List.getElem_toArray, List.getElem_cons_zero, List.getElem_cons_succ, Act.put, List.setIfInBounds_toArray, List.set_cons_zero, List.set_cons_succ])
      refine wpAny_ready (rs := [4, 5]) (by kernel_rfl) (by simp) ?_
      refine AllReady.cons rfl (fun K hK => ?_) (AllReady.cons rfl (fun K hK => ?_) AllReady.nil)
      · go_simp
        refine hK _ _ ?_
        clear hK K
        refine wpAny_ready (rs := [5]) (by kernel_rfl) (by simp) ?_
        refine AllReady.cons rfl (fun K hK => ?_) AllReady.nil
        refine step_loadv rfl 33 _ rfl ⟨w.heap.size, 0, none⟩ rfl (.agg (lnA ⟨l.u, l.b, l.c, was.d⟩)) (load_ln ⟨l.u, l.b, l.c, was.d⟩ _ _ (Blk.drew hX)) ?_
        go_simp
        refine hK _ _ ?_
        clear hK K
        refine wpAny_ready (rs := [6]) (by kernel_rfl) (by simp) ?_
        refine AllReady.cons rfl (fun K hK => ?_) AllReady.nil
        go_simp
        refine hK _ _ ?_
        clear hK K
        refine wpAny_ready (rs := [7]) (by kernel_rfl) (by simp) ?_
        refine AllReady.cons rfl (fun K hK => ?_) AllReady.nil
        refine step_append_ln rfl _ _ rfl 0 (.slice A2 (L.eraseIdx k).length c2) (L.eraseIdx k) rfl hO2.out _ 1 _ rfl hB2.out (by omega) (Nat.zero_le _) (fun g8 cap8 w8 hl8 hgr8 hat8 hlt8 => ?_)
        have hapx := H3.out.appended hl8 hgr8 hat8 (by omega)
        obtain ⟨hap1, hap2, hap3⟩ := hapx
        have Hap1 := Lib.hid hap1
        have Hap2 := Lib.hid hap2
        have z1 := hap3.cell (j := 1) rfl
        have z2 := hap3.frozen 1
        clear hap1 hap2 hl8 hgr8 hat8
        go_simp
        refine hK _ _ ?_
        clear hK K
        refine wpAny_ready (rs := [8]) (by kernel_rfl) (by simp) ?_
        refine AllReady.cons rfl (fun K hK => ?_) AllReady.nil
        go_simp
        refine hK _ _ ?_
        clear hK K
        refine wpAny_ready (rs := [9]) (by kernel_rfl) (by simp) ?_
        refine AllReady.cons rfl (fun K hK => ?_) AllReady.nil
        go_simp
        refine hK _ _ ?_
        clear hK K
        refine wpAny_ready (rs := [10]) (by kernel_rfl) (by simp) ?_
        refine AllReady.cons rfl (fun K hK => ?_) AllReady.nil
        go_simp
        refine hK _ _ ?_
        clear hK K
        refine wpAny_done (by kernel_rfl) ?_ _
        have t1 : Grow (Rm r A) (Rm r A2) w W5.drew := ⟨HG.out.1.drew', HG.out.2⟩
        go_wp2
        go_ret
        refine ⟨some ⟨g8, 0, none⟩, cap8, by rw [Hok.out]; rfl, ?_, t1.trans Hap2.out⟩
        rw [EQ.out]
        exact Hap1.out
      · refine step_loadv rfl 33 _ rfl ⟨w.heap.size, 0, none⟩ rfl (.agg (lnA ⟨l.u, l.b, l.c, was.d⟩)) (load_ln ⟨l.u, l.b, l.c, was.d⟩ _ _ (Blk.drew hX)) ?_
        go_simp
        refine hK _ _ ?_
        clear hK K
        refine wpAny_ready (rs := [4, 6]) (by kernel_rfl) (by simp) ?_
        refine AllReady.cons rfl (fun K hK => ?_) (AllReady.cons rfl (fun K hK => ?_) AllReady.nil)
        · go_simp
          refine hK _ _ ?_
          clear hK K
          refine wpAny_ready (rs := [6]) (by kernel_rfl) (by simp) ?_
          refine AllReady.cons rfl (fun K hK => ?_) AllReady.nil
          go_simp
          refine hK _ _ ?_
          clear hK K
          refine wpAny_ready (rs := [7]) (by kernel_rfl) (by simp) ?_
          refine AllReady.cons rfl (fun K hK => ?_) AllReady.nil
          refine step_append_ln rfl _ _ rfl 0 (.slice A2 (L.eraseIdx k).length c2) (L.eraseIdx k) rfl hO2.out _ 1 _ rfl hB2.out (by omega) (Nat.zero_le _) (fun g8 cap8 w8 hl8 hgr8 hat8 hlt8 => ?_)
          have hapx := H3.out.appended hl8 hgr8 hat8 (by omega)
          obtain ⟨hap1, hap2, hap3⟩ := hapx
          have Hap1 := Lib.hid hap1
          have Hap2 := Lib.hid hap2
          have z1 := hap3.cell (j := 1) rfl
          have z2 := hap3.frozen 1
          clear hap1 hap2 hl8 hgr8 hat8
          go_simp
          refine hK _ _ ?_
          clear hK K
          refine wpAny_ready (rs := [8]) (by kernel_rfl) (by simp) ?_
          refine AllReady.cons rfl (fun K hK => ?_) AllReady.nil
          go_simp
          refine hK _ _ ?_
          clear hK K
          refine wpAny_ready (rs := [9]) (by kernel_rfl) (by simp) ?_
          refine AllReady.cons rfl (fun K hK => ?_) AllReady.nil
          go_simp
          refine hK _ _ ?_
          clear hK K
          refine wpAny_ready (rs := [10]) (by kernel_rfl) (by simp) ?_
          refine AllReady.cons rfl (fun K hK => ?_) AllReady.nil
          go_simp
          refine hK _ _ ?_
          clear hK K
          refine wpAny_done (by kernel_rfl) ?_ _
          have t1 : Grow (Rm r A) (Rm r A2) w W5.drew := ⟨HG.out.1.drew', HG.out.2⟩
          go_wp2
          go_ret
          refine ⟨some ⟨g8, 0, none⟩, cap8, by rw [Hok.out]; rfl, ?_, t1.trans Hap2.out⟩
          rw [EQ.out]
          exact Hap1.out
        · go_simp
          refine hK _ _ ?_
          clear hK K
          refine wpAny_ready (rs := [4]) (by kernel_rfl) (by simp) ?_
          refine AllReady.cons rfl (fun K hK => ?_) AllReady.nil
          go_simp
          refine hK _ _ ?_
          clear hK K
          refine wpAny_ready (rs := [7]) (by kernel_rfl) (by simp) ?_
          refine AllReady.cons rfl (fun K hK => ?_) AllReady.nil
          refine step_append_ln rfl _ _ rfl 0 (.slice A2 (L.eraseIdx k).length c2) (L.eraseIdx k) rfl hO2.out _ 1 _ rfl hB2.out (by omega) (Nat.zero_le _) (fun g8 cap8 w8 hl8 hgr8 hat8 hlt8 => ?_)
          have hapx := H3.out.appended hl8 hgr8 hat8 (by omega)
          obtain ⟨hap1, hap2, hap3⟩ := hapx
          have Hap1 := Lib.hid hap1
          have Hap2 := Lib.hid hap2
          have z1 := hap3.cell (j := 1) rfl
          have z2 := hap3.frozen 1
          clear hap1 hap2 hl8 hgr8 hat8
          go_simp
          refine hK _ _ ?_
          clear hK K
          refine wpAny_ready (rs := [8]) (by kernel_rfl) (by simp) ?_
          refine AllReady.cons rfl (fun K hK => ?_) AllReady.nil
          go_simp
          refine hK _ _ ?_
          clear hK K
          refine wpAny_ready (rs := [9]) (by kernel_rfl) (by simp) ?_
          refine AllReady.cons rfl (fun K hK => ?_) AllReady.nil
          go_simp
          refine hK _ _ ?_
          clear hK K
          refine wpAny_ready (rs := [10]) (by kernel_rfl) (by simp) ?_
          refine AllReady.cons rfl (fun K hK => ?_) AllReady.nil
          go_simp
          refine hK _ _ ?_
          clear hK K
          refine wpAny_done (by kernel_rfl) ?_ _
          have t1 : Grow (Rm r A) (Rm r A2) w W5.drew := ⟨HG.out.1.drew', HG.out.2⟩
          go_wp2
          go_ret
          refine ⟨some ⟨g8, 0, none⟩, cap8, by rw [Hok.out]; rfl, ?_, t1.trans Hap2.out⟩
          rw [EQ.out]
          exact Hap1.out
    · rw [hld] at y1 EQ
      go_wp2_with (first | (refine store_lnW rfl _ _ rfl w2.heap.size was rfl rfl zeroLn hn2 ?_; rw [HW3.out]) | fail)
      have hX : Blk (W3.setCell ⟨w.heap.size, 130, none⟩ (.bool true)) w.heap.size (lnA ⟨l.u, l.b, l.c, true⟩) 33 := by
        have := hN4.set 130 (.bool true)
        rwa [ln_set] at this
      have fsx := fr_set W3 ⟨w.heap.size, 130, none⟩ (.bool true)
      have h3 : RSt (W3.setCell ⟨w.heap.size, 130, none⟩ (.bool true)) 0 r q A2 c2 (L.eraseIdx k) := h4.fr fsx (fun k hk => by rw [hk]; exact hwr2)
      have HG : Hid (Grow (Rm r A) (Rm r A2) w (W3.setCell ⟨w.heap.size, 130, none⟩ (.bool true))) := ⟨HG4.out.1.trans fsx (fun k hk => .inr (by rw [hk]; exact Nat.le_refl _)), HG4.out.2⟩
      obtain ⟨W5, hW5⟩ : ∃ W5, W3.setCell ⟨w.heap.size, 130, none⟩ (.bool true) = W5 := ⟨_, rfl⟩
      rw [hW5] at hX h3 HG ⊢
      clear hW5 fsx y1 y2 y3 hN4 h4 hX4
      have hfold := fold_ln ⟨l.u, l.b, l.c, true⟩
      have b1 := h3.blk.cell (j := 1) rfl
      have b2 := (h3.blk.alloc (.cells (lnA ⟨l.u, l.b, l.c, true⟩) 33)).cell (j := 1) rfl
      have hO2 : Hid (Lns (W5.alloc (.cells (lnA ⟨l.u, l.b, l.c, true⟩) 33)).drew 0 (.slice A2 (L.eraseIdx k).length c2) (L.eraseIdx k)) := (lns_below h3.row ((Below.refl _ _).alloc (Nat.le_refl _) (.cells (lnA ⟨l.u, l.b, l.c, true⟩) 33)) : Lns (W5.alloc (.cells (lnA ⟨l.u, l.b, l.c, true⟩) 33)) 0 _ _)
      have hB2 : Hid (Blk (W5.alloc (.cells (lnA ⟨l.u, l.b, l.c, true⟩) 33)).drew W5.heap.size (lnA ⟨l.u, l.b, l.c, true⟩) 33) := Blk.new W5 (lnA ⟨l.u, l.b, l.c, true⟩) 33
      have H3 : Hid (RSt W5.drew 0 r q A2 c2 (L.eraseIdx k)) := ⟨h3.blk, h3.row, h3.len⟩
      refine wp_region_any (by kernel_rfl) ?_
      change wpAny _ _ _ _ _ _ _ (World.drew _)
      refine wpAny_take (i := 0) (v := ?_) rfl (by kernel_rfl) (by kernel_rfl) (by kernel_rfl) (fun _ _ _ h => h) (Or.inl ⟨by rfl, ?_⟩) ?_
      rotate_left 1
      · (intro w; go_simp; try with_reducible rfl)
      (try simp only [List.getElem_toArray, List.getElem_cons_zero, Act.put, List.setIfInBounds_toArray, List.set_cons_zero, List.set_cons_succ])
      refine wpAny_take (i := 1) (v := ?_) rfl (by kernel_rfl) (by kernel_rfl) (by kernel_rfl) (fun _ _ _ h => h) (Or.inl ⟨by rfl, ?_⟩) ?_
      rotate_left 1
      · (intro w; go_simp; try with_reducible rfl)
      (try simp only [List.getElem_toArray, List.getElem_cons_zero, List.getElem_cons_succ, Act.put, List.setIfInBounds_toArray, List.set_cons_zero, List.set_cons_succ])
      refine wpAny_take (i := 2) (v := ?_) rfl (by kernel_rfl) (by kernel_rfl) (by kernel_rfl) (fun _ _ _ h => h) (Or.inl ⟨by rfl, ?_⟩) ?_
      rotate_left 1
      · (intro w; go_simp; try with_reducible rfl)
      (try simp only [List.getElem_toArray, List.getElem_cons_zero, List.getElem_cons_succ, Act.put, List.setIfInBounds_toArray, List.set_cons_zero, List.set_cons_succ])
      refine wpAny_take (i := 3) (v := ?_) rfl (by kernel_rfl) (by kernel_rfl) (by kernel_rfl) (fun _ _ _ h => h) (Or.inl ⟨by rfl, ?_⟩) ?_
      rotate_left 1
      · (intro w; go_simp; try with_reducible rfl)
      (try simp only [List.getElem_toArray, List.getElem_cons_zero, List.getElem_cons_succ, Act.put, List.setIfInBounds_toArray, List.set_cons_zero, List.set_cons_succ])
      refine wpAny_ready (rs := [4, 5]) (by kernel_rfl) (by simp) ?_
      refine AllReady.cons rfl (fun K hK => ?_) (AllReady.cons rfl (fun K hK => ?_) AllReady.nil)
      · go_simp
        refine hK _ _ ?_
        clear hK K
        refine wpAny_ready (rs := [5]) (by kernel_rfl) (by simp) ?_
        refine AllReady.cons rfl (fun K hK => ?_) AllReady.nil
        refine step_loadv rfl 33 _ rfl ⟨w.heap.size, 0, none⟩ rfl (.agg (lnA ⟨l.u, l.b, l.c, true⟩)) (load_ln ⟨l.u, l.b, l.c, true⟩ _ _ (Blk.drew hX)) ?_
        go_simp
        refine hK _ _ ?_
        clear hK K
        refine wpAny_ready (rs := [6]) (by kernel_rfl) (by simp) ?_
        refine AllReady.cons rfl (fun K hK => ?_) AllReady.nil
        go_simp
        refine hK _ _ ?_
        clear hK K
        refine wpAny_ready (rs := [7]) (by kernel_rfl) (by simp) ?_
        refine AllReady.cons rfl (fun K hK => ?_) AllReady.nil
        refine step_append_ln rfl _ _ rfl 0 (.slice A2 (L.eraseIdx k).length c2) (L.eraseIdx k) rfl hO2.out _ 1 _ rfl hB2.out (by omega) (Nat.zero_le _) (fun g8 cap8 w8 hl8 hgr8 hat8 hlt8 => ?_)
        have hapx := H3.out.appended hl8 hgr8 hat8 (by omega)
        obtain ⟨hap1, hap2, hap3⟩ := hapx
        have Hap1 := Lib.hid hap1
        have Hap2 := Lib.hid hap2
        have z1 := hap3.cell (j := 1) rfl
        have z2 := hap3.frozen 1
        clear hap1 hap2 hl8 hgr8 hat8
        go_simp
        refine hK _ _ ?_
        clear hK K
        refine wpAny_ready (rs := [8]) (by kernel_rfl) (by simp) ?_
        refine AllReady.cons rfl (fun K hK => ?_) AllReady.nil
        go_simp
        refine hK _ _ ?_
        clear hK K
        refine wpAny_ready (rs := [9]) (by kernel_rfl) (by simp) ?_
        refine AllReady.cons rfl (fun K hK => ?_) AllReady.nil
        go_simp
        refine hK _ _ ?_
        clear hK K
        refine wpAny_ready (rs := [10]) (by kernel_rfl) (by simp) ?_
        refine AllReady.cons rfl (fun K hK => ?_) AllReady.nil
        go_simp
        refine hK _ _ ?_
        clear hK K
        refine wpAny_done (by kernel_rfl) ?_ _
        have t1 : Grow (Rm r A) (Rm r A2) w W5.drew := ⟨HG.out.1.drew', HG.out.2⟩
        go_wp2
        go_ret
        refine ⟨some ⟨g8, 0, none⟩, cap8, by rw [Hok.out]; rfl, ?_, t1.trans Hap2.out⟩
        rw [EQ.out]
        exact Hap1.out
      · refine step_loadv rfl 33 _ rfl ⟨w.heap.size, 0, none⟩ rfl (.agg (lnA ⟨l.u, l.b, l.c, true⟩)) (load_ln ⟨l.u, l.b, l.c, true⟩ _ _ (Blk.drew hX)) ?_
        go_simp
        refine hK _ _ ?_
        clear hK K
        refine wpAny_ready (rs := [4, 6]) (by kernel_rfl) (by simp) ?_
        refine AllReady.cons rfl (fun K hK => ?_) (AllReady.cons rfl (fun K hK => ?_) AllReady.nil)
        · go_simp
          refine hK _ _ ?_
          clear hK K
          refine wpAny_ready (rs := [6]) (by kernel_rfl) (by simp) ?_
          refine AllReady.cons rfl (fun K hK => ?_) AllReady.nil
          go_simp
          refine hK _ _ ?_
          clear hK K
          refine wpAny_ready (rs := [7]) (by kernel_rfl) (by simp) ?_
          refine AllReady.cons rfl (fun K hK => ?_) AllReady.nil
          refine step_append_ln rfl _ _ rfl 0 (.slice A2 (L.eraseIdx k).length c2) (L.eraseIdx k) rfl hO2.out _ 1 _ rfl hB2.out (by omega) (Nat.zero_le _) (fun g8 cap8 w8 hl8 hgr8 hat8 hlt8 => ?_)
          have hapx := H3.out.appended hl8 hgr8 hat8 (by omega)
          obtain ⟨hap1, hap2, hap3⟩ := hapx
          have Hap1 := Lib.hid hap1
          have Hap2 := Lib.hid hap2
          have z1 := hap3.cell (j := 1) rfl
          have z2 := hap3.frozen 1
          clear hap1 hap2 hl8 hgr8 hat8
          go_simp
          refine hK _ _ ?_
          clear hK K
          refine wpAny_ready (rs := [8]) (by kernel_rfl) (by simp) ?_
          refine AllReady.cons rfl (fun K hK => ?_) AllReady.nil
          go_simp
          refine hK _ _ ?_
          clear hK K
          refine wpAny_ready (rs := [9]) (by kernel_rfl) (by simp) ?_
          refine AllReady.cons rfl (fun K hK => ?_) AllReady.nil
          go_simp
          refine hK _ _ ?_
          clear hK K
          refine wpAny_ready (rs := [10]) (by kernel_rfl) (by simp) ?_
          refine AllReady.cons rfl (fun K hK => ?_) AllReady.nil
          go_simp
          refine hK _ _ ?_
          clear hK K
          refine wpAny_done (by kernel_rfl) ?_ _
          have t1 : Grow (Rm r A) (Rm r A2) w W5.drew := ⟨HG.out.1.drew', HG.out.2⟩
          go_wp2
          go_ret
          refine ⟨some ⟨g8, 0, none⟩, cap8, by rw [Hok.out]; rfl, ?_, t1.trans Hap2.out⟩
          rw [EQ.out]
          exact Hap1.out
        · go_simp
          refine hK _ _ ?_
          clear hK K
          refine wpAny_ready (rs := [4]) (by kernel_rfl) (by simp) ?_
          refine AllReady.cons rfl (fun K hK => ?_) AllReady.nil
          go_simp
          refine hK _ _ ?_
          clear hK K
          refine wpAny_ready (rs := [7]) (by kernel_rfl) (by simp) ?_
          refine AllReady.cons rfl (fun K hK => ?_) AllReady.nil
          refine step_append_ln rfl _ _ rfl 0 (.slice A2 (L.eraseIdx k).length c2) (L.eraseIdx k) rfl hO2.out _ 1 _ rfl hB2.out (by omega) (Nat.zero_le _) (fun g8 cap8 w8 hl8 hgr8 hat8 hlt8 => ?_)
          have hapx := H3.out.appended hl8 hgr8 hat8 (by omega)
          obtain ⟨hap1, hap2, hap3⟩ := hapx
          have Hap1 := Lib.hid hap1
          have Hap2 := Lib.hid hap2
          have z1 := hap3.cell (j := 1) rfl
          have z2 := hap3.frozen 1
          clear hap1 hap2 hl8 hgr8 hat8
          go_simp
          refine hK _ _ ?_
          clear hK K
          refine wpAny_ready (rs := [8]) (by kernel_rfl) (by simp) ?_
          refine AllReady.cons rfl (fun K hK => ?_) AllReady.nil
          go_simp
          refine hK _ _ ?_
          clear hK K
          refine wpAny_ready (rs := [9]) (by kernel_rfl) (by simp) ?_
          refine AllReady.cons rfl (fun K hK => ?_) AllReady.nil
          go_simp
          refine hK _ _ ?_
          clear hK K
          refine wpAny_ready (rs := [10]) (by kernel_rfl) (by simp) ?_
          refine AllReady.cons rfl (fun K hK => ?_) AllReady.nil
          go_simp
          refine hK _ _ ?_
          clear hK K
          refine wpAny_done (by kernel_rfl) ?_ _
          have t1 : Grow (Rm r A) (Rm r A2) w W5.drew := ⟨HG.out.1.drew', HG.out.2⟩
          go_wp2
          go_ret
          refine ⟨some ⟨g8, 0, none⟩, cap8, by rw [Hok.out]; rfl, ?_, t1.trans Hap2.out⟩
          rw [EQ.out]
          exact Hap1.out
end Go.Proofs.Ytheilnaommcjjaa
