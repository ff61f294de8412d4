/-
  The document's cache: the dirty lines; Get.
-/
import Derived.Test.YtheilnaommcjjaaRef2
import Derived.StillTailTactics
namespace Go.Proofs.Ytheilnaommcjjaa
open Go.RowKit

theorem posLn_some {L : List Ln} {s : Spot} {l : Ln} (h : findLn L s = some l) : ∃ k, L[k]? = some l ∧ posLn L s = (k : Nat) := by
  obtain ⟨h1, h2⟩ := findLn_some h
  have hf : ∃ x ∈ L, (fun l => decide (l.spot = s)) x = true := ⟨l, h1, decide_eq_true h2⟩
  have hlt := List.findIdx_lt_length.2 hf
  refine ⟨L.findIdx (fun l => decide (l.spot = s)), ?_, ?_⟩
  · have h3 := List.find?_eq_some_iff_getElem.1 (show L.find? (fun l => decide (l.spot = s)) = some l from h)
    obtain ⟨_, i, hi, he, hb⟩ := h3
    have : L.findIdx (fun l => decide (l.spot = s)) = i := by
      rw [List.findIdx_eq hi]
      refine ⟨by rw [he]; exact decide_eq_true h2, fun j hj => ?_⟩
      have := hb j hj
      simpa using this
    rw [this, List.getElem?_eq_getElem hi, he]
  · unfold posLn
    rw [h]
    rfl
theorem posLn_none {L : List Ln} {s : Spot} (h : findLn L s = none) : posLn L s = -1 := by
  unfold posLn
  rw [h]
  rfl
theorem erase_without {L : List Ln} (hn : (L.map Ln.spot).Nodup) {k : Nat} {l : Ln} (h : L[k]? = some l) : L.eraseIdx k = without L l.spot := by
  have hlt := (List.getElem?_eq_some_iff.1 h).1
  have e := (List.getElem?_eq_some_iff.1 h).2
  have hL : L = L.take k ++ l :: L.drop (k + 1) := by rw [← e, List.getElem_cons_drop, List.take_append_drop]
  rw [List.eraseIdx_eq_take_drop_succ]
  have hne : ∀ x ∈ L.take k ++ L.drop (k + 1), x.spot ≠ l.spot := fun x hx he => by
    rw [hL, List.map_append, List.map_cons, List.nodup_append] at hn
    obtain ⟨n1, n2, n3⟩ := hn
    rcases List.mem_append.1 hx with hx | hx
    · exact n3 x.spot (List.mem_map.2 ⟨x, hx, rfl⟩) l.spot (by simp) he
    · exact (List.nodup_cons.1 n2).1 (List.mem_map.2 ⟨x, hx, he⟩)
  unfold without
  conv => rhs; rw [hL]
  rw [List.filter_append, List.filter_cons_of_neg (by simp)]
  rw [List.filter_eq_self.2 (fun x hx => decide_eq_true (hne x (List.mem_append.2 (.inl hx)))), List.filter_eq_self.2 (fun x hx => decide_eq_true (hne x (List.mem_append.2 (.inr hx))))]

set_option maxHeartbeats 1000000 in
set_option maxRecDepth 20000 in
theorem rdirty_any (r q c : Nat) (A : Option Addr) (L : List Ln) (w : World) (h : RSt w 0 r q A c L) :
    Calls Try.prog 24 #[.pointer (some ⟨r, 0, none⟩)] w fun e w' => ∃ A' c', e = .returned (.slice A' (dirtyOf L).length c') ∧ Lns w' w.heap.size (.slice A' (dirtyOf L).length c') (dirtyOf L) ∧ Below w.heap.size w w' := by
  have hL := h.len
  have hLI : (L.length : Int) ≤ 9 := by omega
  have lr := h.blk.lt
  have hfs := lnA_size
  have hz := lnA_zero
  go_enter Try.func24, Try.ntmps24
  go_wp2
  go_loopw [3, 4] (fun v3 k wr => ∃ j : Nat, j ≤ L.length ∧ k = .int .i64 j ∧ Hid (Lns wr w.heap.size v3 (dirtyOf (L.take j))) ∧ Hid (Below w.heap.size w wr)) (fun _ k _ => (L.length - intOf k).toNat)
  case atStart => exact ⟨0, Nat.zero_le _, rfl, World.ownsRow_nil _ _ 33 131, Below.refl _ _⟩
  case round =>
    obtain ⟨j, hj, rfl, hO, hB⟩ := hrel
    have bk := h.blk.below hB.out lr
    have b1 := bk.cell (j := 1) rfl
    by_cases hlj : (j : Int) < (L.length : Int)
    · obtain ⟨x, hx⟩ : ∃ x, L[j]? = some x := ⟨L[j]'(by omega), List.getElem?_eq_getElem (by omega)⟩
      have hstep := dirtyOf_take hx
      obtain ⟨g, rfl, _, hgl, hcl⟩ := h.at hx
      have cd : wr.cell? ⟨g, j * 131 + 130, none⟩ = some (.bool x.d) := by
        rw [hB.out.cell (p := ⟨g, j * 131 + 130, none⟩) hgl]
        exact hcl 130 (by omega)
      cases hd : x.d
      · rw [hd] at hstep cd
        rw [if_neg (by simp), List.append_nil] at hstep
        have Hst := Lib.hid hstep
        clear hstep hx hd hcl
        go_wp2
        exact ⟨⟨j + 1, by omega, rfl, by rw [Hst.out]; exact hO, hB.out⟩, by simp only [intOf]; omega⟩
      · rw [hd] at hstep cd
        rw [if_pos rfl] at hstep
        have Hst := Lib.hid hstep
        have Hld := Lib.hid (loadVar_mid x wr g (j * 131) (fun t ht => by rw [hB.out.cell (p := ⟨g, j * 131 + t, none⟩) hgl]; exact hcl t ht))
        have hfold := fold_ln x
        have hO2 := Lib.hid (lns_below hO.out ((Below.refl _ _).alloc (Nat.le_refl _) (.cells (lnA x) 33)))
        have hB2 := Lib.hid (Blk.new wr (lnA x) 33)
        have hlen : (dirtyOf (L.take j)).length ≤ 1000 := by
          have h1 : (dirtyOf (L.take j)).length ≤ (L.take j).length := List.length_filter_le _ _
          rw [List.length_take] at h1
          omega
        have hbase : w.heap.size ≤ (wr.alloc (.cells (lnA x) 33)).heap.size := by rw [World.size_alloc]; have := hB.out.size; omega
        obtain ⟨A6, c6, hv6⟩ := lns_form hO.out
        subst hv6
        clear hstep hx hcl hd
        go_wp2_with (first | (refine loadW rfl 33 _ rfl ⟨g, j * 131, none⟩ rfl _ Hld.out ?_) | (at_builtin; refine appendW_ln rfl (.tmp 22) (.tmp 30) rfl w.heap.size _ (dirtyOf (L.take j)) rfl hO2.out wr.heap.size 1 x rfl hB2.out hlen hbase ?_; intro g8 cap8 w8 hl8 hgr8 hat8 hlt8; have Hl8 := Lib.hid hl8; have Hgr8 := Lib.hid hgr8; clear hl8 hgr8 hat8) | fail)
        have hB8 : Below w.heap.size w w8 := (hB.out.alloc hB.out.size _).grown Hgr8.out hbase (fun k hk => (lns_lt hO2.out k hk).1)
        refine ⟨⟨j + 1, by omega, rfl, ?_, hB8⟩, by simp only [intOf]; omega⟩
        unfold Hid
        rw [Hst.out]
        exact Hl8.out
    · obtain rfl : j = L.length := by omega
      have hO' := hO.out
      rw [List.take_length] at hO'
      obtain ⟨A6, c6, hv6⟩ := lns_form hO'
      subst hv6
      have HO := Lib.hid hO'
      clear hO'
      go_wp2
      go_ret
      exact ⟨A6, c6, rfl, HO.out, hB.out⟩

theorem step_loadv {P : Program} {ops : Array Oper} {o : Oper} {a : Act} {w : World} {K : Act → World → Prop} {Q : Exit → Act → World → Prop} {E : Prop} (hgd : o.guard = none) (ty : TypeId) (x : Operand) (ho : o.op = .load ty x) (ad : Addr) (hx : a.eval x = .pointer (some ad)) (v : Value)
    (hl : (loadVar ty ad).run P w = .ok v w) (h : K (a.put o.dst v) w) : if Region.wanted o (yielded ops a.tmps) = true then Oper.wp P o a w K Q else E := by
  have hw : Region.wanted o (yielded ops a.tmps) = true := by simp [Region.wanted, hgd]
  rw [if_pos hw]
  unfold Oper.wp execOp
  simp only [ho, hx, Instr.loadAt, Instr.sureAddr, Sem.run_bind, Sem.run_pure, Result.andThen_ok, hl]
  exact h
theorem step_append_ln {ops : Array Oper} {o : Oper} {a : Act} {w : World} {K : Act → World → Prop} {Q : Exit → Act → World → Prop} {E : Prop} (hgd : o.guard = none) (s x : Operand) (ho : o.op = .call { callee := .builtin .append, args := #[s, x], argTypes := #[37, 37] })
    (base : Nat) (v : Value) (L : List Ln) (hs : a.eval s = v) (hown : Lns w base v L) (g : Nat) (c : Nat) (l : Ln) (hx : a.eval x = .slice (some ⟨g, 0, none⟩) 1 c) (hB : Blk w g (lnA l) 33)
    (h63 : L.length ≤ 1000) (hbase : base ≤ w.heap.size)
    (h : ∀ g cap w', Lns w' base (.slice (some ⟨g, 0, none⟩) (L.length + 1) cap) (L ++ [l]) → w.grownBy w' v.ownBlock → (v.ownBlock = some g ∨ g = w.heap.size) → g < w'.heap.size → K (a.put o.dst (.slice (some ⟨g, 0, none⟩) (L.length + 1) cap)) w') :
    if Region.wanted o (yielded ops a.tmps) = true then Oper.wp Try.prog o a w K Q else E := by
  obtain ⟨i0, hi0, hz0, hz1, hz2⟩ := info_parts (show (Try.prog.info? 33).map (fun i => (i.zero, i.size, i.bytes)) = some (some (.agg (lnA zeroLn)), 131, 152) by kernel_rfl)
  refine step_append_lies w hgd s x 37 ho base 33 i0 _ 131 152 Try.underlying37 hi0 hz0 hz1 hz2 (lnA_size zeroLn) (by omega) v L.length (lr L) hs hown ⟨g, 0, none⟩ 1 c (lr [l]) hx (lr_len [l]) (news_ln hB) (lr_one [l]) (by omega) (by simp only [maxLen]; omega) (by omega) hbase _ rfl (fun g' cap w' h2 h3 h4 h5 => h g' cap w' ?_ h3 h4 h5)
  unfold Lns
  rw [List.length_append, lr_append]
  exact h2
/-- what a call of the document's cache leaves -/
def RPost (w : World) (r q : Nat) (A : Option Addr) (v : Value) (L' : List Ln) (e : Ending) (w' : World) : Prop :=
  ∃ A' c', e = .returned v ∧ RSt w' 0 r q A' c' L' ∧ Grow (Rm r A) (Rm r A') w w'

/-- the store behind an append: the lines are the old ones and the new one -/
theorem RSt.appended {w w1 : World} {r q c g cap : Nat} {A : Option Addr} {L : List Ln} {x : Ln} (h : RSt w 0 r q A c L) (hl : Lns w1 0 (.slice (some ⟨g, 0, none⟩) (L.length + 1) cap) (L ++ [x])) (hgr : (w.alloc (.cells (lnA x) 33)).grownBy w1 (Value.slice A L.length c).ownBlock)
    (hat : (Value.slice A L.length c).ownBlock = some g ∨ g = (w.alloc (.cells (lnA x) 33)).heap.size) (h8 : L.length + 1 ≤ 9) :
    RSt (w1.setCell ⟨r, 1, none⟩ (.slice (some ⟨g, 0, none⟩) (L.length + 1) cap)) 0 r q (some ⟨g, 0, none⟩) cap (L ++ [x]) ∧ Grow (Rm r A) (Rm r (some ⟨g, 0, none⟩)) w (w1.setCell ⟨r, 1, none⟩ (.slice (some ⟨g, 0, none⟩) (L.length + 1) cap)) ∧
      Blk w1 r #[.int .i64 q, .slice A L.length c] 55 := by
  have hA : ∀ k, (Value.slice A L.length c).ownBlock = some k → Rm r A k := fun k hk => by
    rcases A with _ | ad
    · simp [Value.ownBlock] at hk
    · rcases h.row.2 with ⟨h1, _⟩ | ⟨g', cap, cur, h1, _⟩
      · simp at h1
      · injection h1 with h1
        injection h1 with h1
        rw [h1] at hk ⊢
        have e : g' = k := by simpa [Value.ownBlock] using hk
        exact .inr ⟨0, by rw [e]⟩
  have hne : (Value.slice A L.length c).ownBlock ≠ some r := lns_ne h.row h.blk (by decide)
  have hb1 : Blk w1 r #[.int .i64 q, .slice A L.length c] 55 := by
    have := h.blk.alloc (.cells (lnA x) 33)
    unfold Blk
    rw [hgr.block r this.lt (fun e => hne e.symm)]
    exact this
  have hgr' : g ≠ r := fun e => lns_ne hl hb1 (by decide) (by rw [e]; rfl)
  have hlen : (L ++ [x]).length = L.length + 1 := by simp
  have fs := fr_set w1 ⟨r, 1, none⟩ (.slice (some ⟨g, 0, none⟩) (L.length + 1) cap)
  have hlf := lns_fr hl fs (fun k hk he => by
    have e : g = k := by simpa [Value.ownBlock] using hk
    exact hgr' (e.trans he))
  refine ⟨⟨by rw [hlen]; exact hb1.set 1 _, by rw [hlen]; exact hlf, by omega⟩, ⟨?_, ?_⟩, hb1⟩
  · have a1 : Fr (Rm r A) w (w.alloc (.cells (lnA x) 33)) := Fr.of_below ((Below.refl _ _).alloc (Nat.le_refl _) _)
    have a2 : Fr (Rm r A) (w.alloc (.cells (lnA x) 33)) w1 := Fr.of_grown hgr (fun k hk => hA k hk)
    exact (a1.trans a2 (fun _ h => .inl h)).trans fs (fun k hk => .inl (.inl hk))
  · rintro k (hk | ⟨o, hk⟩)
    · exact .inl (.inl hk)
    · injection hk with hk
      injection hk with hk _ _
      subst hk
      rcases hat with h1 | h1
      · exact .inl (hA _ h1)
      · right
        rw [h1, World.size_alloc]
        omega

set_option maxHeartbeats 1000000 in
set_option maxRecDepth 20000 in
theorem rget_any (r q c : Nat) (A : Option Addr) (L : List Ln) (hn : (L.map Ln.spot).Nodup) (hL8 : L.length ≤ 8) (s : Spot) (w : World) (h : RSt w 0 r q A c L) :
    Calls Try.prog 19 #[.pointer (some ⟨r, 0, none⟩), .int .i64 s.1, .int .i64 s.2] w (RPost w r q A (.tuple #[.agg (lnA ((findLn L s).getD zeroLn)), .bool (findLn L s).isSome]) (touch L s)) := by
  have hz := lnA_zero
  have hfs := lnA_size
  have hb1 : Below w.heap.size w (w.alloc (.cells (lnA zeroLn) 33)) := (Below.refl _ _).alloc (Nat.le_refl _) _
  have hN1 := Blk.new w (lnA zeroLn) 33
  have H1 := Lib.hid (h.below hb1)
  have hr := h.blk.lt
  have hwr : ¬ Rm r A w.heap.size := fun hc => by have := h.fm_lt hc; omega
  go_enter Try.func19, Try.ntmps19
  go_wp2_with fail
  refine (find_any 0 r q c A L s _ H1.out).mono ?_
  rintro e w' ⟨rfl, rfl⟩
  rcases hf : findLn L s with _ | l
  · rw [posLn_none hf]
    have Hf := Lib.hid hf
    have HH := Lib.hid h
    clear hf h
    go_wp2_with (first | (refine store_lnW rfl _ _ rfl w.heap.size zeroLn rfl rfl zeroLn hN1 ?_) | fail)
    refine bodyPost_ret (ln_results _ 6 7 rfl _ _ w.heap.size zeroLn (.bool false) rfl rfl (hN1.setRow _)) rfl ⟨A, c, by rw [Hf.out]; rfl, ?_, Grow.below (below_setRow hb1 (Nat.le_refl _) _)⟩
    have : touch L s = L := by unfold touch; rw [Hf.out]
    rw [this]
    exact HH.out.below (below_setRow hb1 (Nat.le_refl _) _)
  · obtain ⟨k, hk, hp⟩ := posLn_some hf
    rw [hp]
    have Hf := Lib.hid hf
    have Hk := Lib.hid hk
    have Co := Lib.hid (out_any r q c A L k l hk _ H1.out)
    have ht : touch L s = L.eraseIdx k ++ [l] := by
      unfold touch; rw [hf]
      rw [erase_without hn hk, (findLn_some hf).2]
    have Ht := Lib.hid ht
    have hel : (L.eraseIdx k).length + 1 ≤ 8 := by
      have := (List.getElem?_eq_some_iff.1 hk).1
      rw [List.length_eraseIdx_of_lt this]; omega
    clear hf hk hp h hn ht
    go_wp2_with fail
    refine Co.out.mono ?_
    rintro e w2 ⟨A2, c2, rfl, h2, g2⟩
    have hN2 := g2.1.blk hN1 hwr
    have hsz2 := g2.1.size
    have hsz1 : (w.alloc (.cells (lnA zeroLn) 33)).heap.size = w.heap.size + 1 := by simp
    have hwr2 := g2.out hwr (by rw [hsz1]; omega)
    have hb3 : Below w2.heap.size w2 ((w2.alloc (.cells (lnA zeroLn) 33)).setRow w2.heap.size (lnA l)) := below_setRow ((Below.refl _ _).alloc (Nat.le_refl _) _) (Nat.le_refl _) _
    have h3 := h2.below hb3
    have hX := (Blk.new w2 (lnA zeroLn) 33).setRow (lnA l)
    have hN3 := hN2.below hb3 hN2.lt
    have hn2 := Blk.new w2 (lnA zeroLn) 33
    have g3 : Grow (Rm r A) (Rm r A2) w ((w2.alloc (.cells (lnA zeroLn) 33)).setRow w2.heap.size (lnA l)) := ((Grow.below hb1).trans g2).trans (Grow.below hb3)
    have HG3 := Lib.hid g3
    have lw : w.heap.size < w2.heap.size := hN2.lt
    obtain ⟨W3, hW3⟩ : ∃ W3, (w2.alloc (.cells (lnA zeroLn) 33)).setRow w2.heap.size (lnA l) = W3 := ⟨_, rfl⟩
    rw [hW3] at h3 hX hN3 HG3
    have HW3 := Lib.hid hW3
    have hnx : ¬ Rm r A2 w2.heap.size := fun hc => by have := h2.fm_lt hc; omega
    clear hW3 hb3 h2 g2 hN2 g3 hsz1 Co
    go_wp2_with (first | (refine store_lnW rfl _ _ rfl w2.heap.size l rfl rfl zeroLn hn2 ?_; rw [HW3.out]) | fail)
    have hfold := fold_ln l
    have b1 := h3.blk.cell (j := 1) rfl
    have b2 := (h3.blk.alloc (.cells (lnA l) 33)).cell (j := 1) rfl
    have hO2 : Hid (Lns (W3.alloc (.cells (lnA l) 33)).drew 0 (.slice A2 (L.eraseIdx k).length c2) (L.eraseIdx k)) := (lns_below h3.row ((Below.refl _ _).alloc (Nat.le_refl _) (.cells (lnA l) 33)) : Lns (W3.alloc (.cells (lnA l) 33)) 0 _ _)
    have hB2 : Hid (Blk (W3.alloc (.cells (lnA l) 33)).drew W3.heap.size (lnA l) 33) := Blk.new W3 (lnA l) 33
    have H3 : Hid (RSt W3.drew 0 r q A2 c2 (L.eraseIdx k)) := ⟨h3.blk, h3.row, h3.len⟩
    refine wp_region_any (by kernel_rfl) ?_
    change wpAny _ _ _ _ _ _ _ (World.drew _)
    refine wpAny_take (i := 0) (v := ?_) rfl (by kernel_rfl) (by kernel_rfl) (by kernel_rfl) (fun _ _ _ h => h) (Or.inl ⟨by rfl, ?_⟩) ?_
    rotate_left 1
    · (intro w; go_simp; try with_reducible rfl)
    (try simp only [List.getElem_toArray, List.getElem_cons_zero, Act.put, List.setIfInBounds_toArray, List.set_cons_zero, List.set_cons_succ])
    refine wpAny_take (i := 1) (v := ?_) rfl (by kernel_rfl) (by kernel_rfl) (by kernel_rfl) (fun _ _ _ h => h) (Or.inl ⟨by rfl, ?_⟩) ?_
    rotate_left 1
    · (intro w; go_simp; try with_reducible rfl)
    (try simp only [List.getElem_toArray, List.getElem_cons_zero, List.getElem_cons_succ, Act.put, List.setIfInBounds_toArray, List.set_cons_zero, List.set_cons_succ])
    refine wpAny_take (i := 2) (v := ?_) rfl (by kernel_rfl) (by kernel_rfl) (by kernel_rfl) (fun _ _ _ h => h) (Or.inl ⟨by rfl, ?_⟩) ?_
    rotate_left 1
    · (intro w; go_simp; try with_reducible rfl)
    (try simp only [List.getElem_toArray, List.getElem_cons_zero, List.getElem_cons_succ, Act.put, List.setIfInBounds_toArray, List.set_cons_zero, List.set_cons_succ])
    refine wpAny_take (i := 3) (v := ?_) rfl (by kernel_rfl) (by kernel_rfl) (by kernel_rfl) (fun _ _ _ h => h) (Or.inl ⟨by rfl, ?_⟩) ?_
    rotate_left 1
    · (intro w; go_simp; try with_reducible rfl)
    (try simp only [List.getElem_toArray, List.getElem_cons_zero, List.getElem_cons_succ, Act.put, List.setIfInBounds_toArray, List.set_cons_zero, List.set_cons_succ])
    refine wpAny_ready (rs := [4, 5]) (by kernel_rfl) (by simp) ?_
    refine AllReady.cons rfl (fun K hK => ?_) (AllReady.cons rfl (fun K hK => ?_) AllReady.nil)
    · go_simp
      refine hK _ _ ?_
      clear hK K
      refine wpAny_ready (rs := [5]) (by kernel_rfl) (by simp) ?_
      refine AllReady.cons rfl (fun K hK => ?_) AllReady.nil
      refine step_loadv rfl 33 _ rfl ⟨w2.heap.size, 0, none⟩ rfl (.agg (lnA l)) (load_ln l _ _ (Blk.drew hX)) ?_
      go_simp
      refine hK _ _ ?_
      clear hK K
      refine wpAny_ready (rs := [6]) (by kernel_rfl) (by simp) ?_
      refine AllReady.cons rfl (fun K hK => ?_) AllReady.nil
      go_simp
      refine hK _ _ ?_
      clear hK K
      refine wpAny_ready (rs := [7]) (by kernel_rfl) (by simp) ?_
      refine AllReady.cons rfl (fun K hK => ?_) AllReady.nil
      refine step_append_ln rfl _ _ rfl 0 (.slice A2 (L.eraseIdx k).length c2) (L.eraseIdx k) rfl hO2.out _ 1 _ rfl hB2.out (by omega) (Nat.zero_le _) (fun g8 cap8 w8 hl8 hgr8 hat8 hlt8 => ?_)
      have hapx := H3.out.appended hl8 hgr8 hat8 (by omega)
      obtain ⟨hap1, hap2, hap3⟩ := hapx
      have Hap1 := Lib.hid hap1
      have Hap2 := Lib.hid hap2
      have z1 := hap3.cell (j := 1) rfl
      have z2 := hap3.frozen 1
      clear hap1 hap2 hl8 hgr8 hat8
      go_simp
      refine hK _ _ ?_
      clear hK K
      refine wpAny_ready (rs := [8]) (by kernel_rfl) (by simp) ?_
      refine AllReady.cons rfl (fun K hK => ?_) AllReady.nil
      go_simp
      refine hK _ _ ?_
      clear hK K
      refine wpAny_ready (rs := [9]) (by kernel_rfl) (by simp) ?_
      refine AllReady.cons rfl (fun K hK => ?_) AllReady.nil
      go_simp
      refine hK _ _ ?_
      clear hK K
      refine wpAny_ready (rs := [10]) (by kernel_rfl) (by simp) ?_
      refine AllReady.cons rfl (fun K hK => ?_) AllReady.nil
      go_simp
      refine hK _ _ ?_
      clear hK K
      refine wpAny_done (by kernel_rfl) ?_ _
      have y1 := Hap2.out.1.blk (w := W3.drew) hX hnx
      have y2 := Hap2.out.1.blk (w := W3.drew) hN3 hwr2
      have y3 := Hap2.out.out hwr2 (show w.heap.size < W3.drew.heap.size from hN3.lt)
      obtain ⟨W9, hW9⟩ : ∃ W9, w8.setCell ⟨r, 1, none⟩ (.slice (some ⟨g8, 0, none⟩) ((L.eraseIdx k).length + 1) cap8) = W9 := ⟨_, rfl⟩
      rw [hW9] at y1 y2 Hap1 Hap2 ⊢
      clear hW9 z1 z2 hap3
      go_wp2_with (first | (refine load_lnW rfl _ rfl w2.heap.size rfl _ y1 ?_) | (refine store_lnW rfl _ _ rfl w.heap.size l rfl rfl zeroLn y2 ?_) | fail)
      have fz : Fr (fun k => k = w.heap.size) W9 (W9.setRow w.heap.size (lnA l)) := ⟨rfl, rfl, rfl, by rw [size_setRow]; exact Nat.le_refl _, fun k _ hk => Go.setRow_other _ _ k _ hk⟩
      refine bodyPost_ret (ln_results _ 6 7 rfl _ _ w.heap.size l (.bool true) rfl rfl (y2.setRow _)) rfl ⟨some ⟨g8, 0, none⟩, cap8, by rw [Hf.out]; rfl, ?_, ?_⟩
      · rw [Ht.out]
        exact Hap1.out.fr fz (fun k hk => by rw [hk]; exact y3)
      · have t1 : Grow (Rm r A) (Rm r A2) w W3.drew := ⟨HG3.out.1.drew', HG3.out.2⟩
        have t2 := t1.trans Hap2.out
        exact ⟨t2.1.trans fz (fun k hk => .inr (by rw [hk]; exact Nat.le_refl _)), t2.2⟩
    · refine step_loadv rfl 33 _ rfl ⟨w2.heap.size, 0, none⟩ rfl (.agg (lnA l)) (load_ln l _ _ (Blk.drew hX)) ?_
      go_simp
      refine hK _ _ ?_
      clear hK K
      refine wpAny_ready (rs := [4, 6]) (by kernel_rfl) (by simp) ?_
      refine AllReady.cons rfl (fun K hK => ?_) (AllReady.cons rfl (fun K hK => ?_) AllReady.nil)
      · go_simp
        refine hK _ _ ?_
        clear hK K
        refine wpAny_ready (rs := [6]) (by kernel_rfl) (by simp) ?_
        refine AllReady.cons rfl (fun K hK => ?_) AllReady.nil
        go_simp
        refine hK _ _ ?_
        clear hK K
        refine wpAny_ready (rs := [7]) (by kernel_rfl) (by simp) ?_
        refine AllReady.cons rfl (fun K hK => ?_) AllReady.nil
        refine step_append_ln rfl _ _ rfl 0 (.slice A2 (L.eraseIdx k).length c2) (L.eraseIdx k) rfl hO2.out _ 1 _ rfl hB2.out (by omega) (Nat.zero_le _) (fun g8 cap8 w8 hl8 hgr8 hat8 hlt8 => ?_)
        have hapx := H3.out.appended hl8 hgr8 hat8 (by omega)
        obtain ⟨hap1, hap2, hap3⟩ := hapx
        have Hap1 := Lib.hid hap1
        have Hap2 := Lib.hid hap2
        have z1 := hap3.cell (j := 1) rfl
        have z2 := hap3.frozen 1
        clear hap1 hap2 hl8 hgr8 hat8
        go_simp
        refine hK _ _ ?_
        clear hK K
        refine wpAny_ready (rs := [8]) (by kernel_rfl) (by simp) ?_
        refine AllReady.cons rfl (fun K hK => ?_) AllReady.nil
        go_simp
        refine hK _ _ ?_
        clear hK K
        refine wpAny_ready (rs := [9]) (by kernel_rfl) (by simp) ?_
        refine AllReady.cons rfl (fun K hK => ?_) AllReady.nil
        go_simp
        refine hK _ _ ?_
        clear hK K
        refine wpAny_ready (rs := [10]) (by kernel_rfl) (by simp) ?_
        refine AllReady.cons rfl (fun K hK => ?_) AllReady.nil
        go_simp
        refine hK _ _ ?_
        clear hK K
        refine wpAny_done (by kernel_rfl) ?_ _
        have y1 := Hap2.out.1.blk (w := W3.drew) hX hnx
        have y2 := Hap2.out.1.blk (w := W3.drew) hN3 hwr2
        have y3 := Hap2.out.out hwr2 (show w.heap.size < W3.drew.heap.size from hN3.lt)
        obtain ⟨W9, hW9⟩ : ∃ W9, w8.setCell ⟨r, 1, none⟩ (.slice (some ⟨g8, 0, none⟩) ((L.eraseIdx k).length + 1) cap8) = W9 := ⟨_, rfl⟩
        rw [hW9] at y1 y2 Hap1 Hap2 ⊢
        clear hW9 z1 z2 hap3
        go_wp2_with (first | (refine load_lnW rfl _ rfl w2.heap.size rfl _ y1 ?_) | (refine store_lnW rfl _ _ rfl w.heap.size l rfl rfl zeroLn y2 ?_) | fail)
        have fz : Fr (fun k => k = w.heap.size) W9 (W9.setRow w.heap.size (lnA l)) := ⟨rfl, rfl, rfl, by rw [size_setRow]; exact Nat.le_refl _, fun k _ hk => Go.setRow_other _ _ k _ hk⟩
        refine bodyPost_ret (ln_results _ 6 7 rfl _ _ w.heap.size l (.bool true) rfl rfl (y2.setRow _)) rfl ⟨some ⟨g8, 0, none⟩, cap8, by rw [Hf.out]; rfl, ?_, ?_⟩
        · rw [Ht.out]
          exact Hap1.out.fr fz (fun k hk => by rw [hk]; exact y3)
        · have t1 : Grow (Rm r A) (Rm r A2) w W3.drew := ⟨HG3.out.1.drew', HG3.out.2⟩
          have t2 := t1.trans Hap2.out
          exact ⟨t2.1.trans fz (fun k hk => .inr (by rw [hk]; exact Nat.le_refl _)), t2.2⟩
      · go_simp
        refine hK _ _ ?_
        clear hK K
        refine wpAny_ready (rs := [4]) (by kernel_rfl) (by simp) ?_
        refine AllReady.cons rfl (fun K hK => ?_) AllReady.nil
        go_simp
        refine hK _ _ ?_
        clear hK K
        refine wpAny_ready (rs := [7]) (by kernel_rfl) (by simp) ?_
        refine AllReady.cons rfl (fun K hK => ?_) AllReady.nil
        refine step_append_ln rfl _ _ rfl 0 (.slice A2 (L.eraseIdx k).length c2) (L.eraseIdx k) rfl hO2.out _ 1 _ rfl hB2.out (by omega) (Nat.zero_le _) (fun g8 cap8 w8 hl8 hgr8 hat8 hlt8 => ?_)
        have hapx := H3.out.appended hl8 hgr8 hat8 (by omega)
        obtain ⟨hap1, hap2, hap3⟩ := hapx
        have Hap1 := Lib.hid hap1
        have Hap2 := Lib.hid hap2
        have z1 := hap3.cell (j := 1) rfl
        have z2 := hap3.frozen 1
        clear hap1 hap2 hl8 hgr8 hat8
        go_simp
        refine hK _ _ ?_
        clear hK K
        refine wpAny_ready (rs := [8]) (by kernel_rfl) (by simp) ?_
        refine AllReady.cons rfl (fun K hK => ?_) AllReady.nil
        go_simp
        refine hK _ _ ?_
        clear hK K
        refine wpAny_ready (rs := [9]) (by kernel_rfl) (by simp) ?_
        refine AllReady.cons rfl (fun K hK => ?_) AllReady.nil
        go_simp
        refine hK _ _ ?_
        clear hK K
        refine wpAny_ready (rs := [10]) (by kernel_rfl) (by simp) ?_
        refine AllReady.cons rfl (fun K hK => ?_) AllReady.nil
        go_simp
        refine hK _ _ ?_
        clear hK K
        refine wpAny_done (by kernel_rfl) ?_ _
        have y1 := Hap2.out.1.blk (w := W3.drew) hX hnx
        have y2 := Hap2.out.1.blk (w := W3.drew) hN3 hwr2
        have y3 := Hap2.out.out hwr2 (show w.heap.size < W3.drew.heap.size from hN3.lt)
        obtain ⟨W9, hW9⟩ : ∃ W9, w8.setCell ⟨r, 1, none⟩ (.slice (some ⟨g8, 0, none⟩) ((L.eraseIdx k).length + 1) cap8) = W9 := ⟨_, rfl⟩
        rw [hW9] at y1 y2 Hap1 Hap2 ⊢
        clear hW9 z1 z2 hap3
        go_wp2_with (first | (refine load_lnW rfl _ rfl w2.heap.size rfl _ y1 ?_) | (refine store_lnW rfl _ _ rfl w.heap.size l rfl rfl zeroLn y2 ?_) | fail)
        have fz : Fr (fun k => k = w.heap.size) W9 (W9.setRow w.heap.size (lnA l)) := ⟨rfl, rfl, rfl, by rw [size_setRow]; exact Nat.le_refl _, fun k _ hk => Go.setRow_other _ _ k _ hk⟩
        refine bodyPost_ret (ln_results _ 6 7 rfl _ _ w.heap.size l (.bool true) rfl rfl (y2.setRow _)) rfl ⟨some ⟨g8, 0, none⟩, cap8, by rw [Hf.out]; rfl, ?_, ?_⟩
        · rw [Ht.out]
          exact Hap1.out.fr fz (fun k hk => by rw [hk]; exact y3)
        · have t1 : Grow (Rm r A) (Rm r A2) w W3.drew := ⟨HG3.out.1.drew', HG3.out.2⟩
          have t2 := t1.trans Hap2.out
          exact ⟨t2.1.trans fz (fun k hk => .inr (by rw [hk]; exact Nat.le_refl _)), t2.2⟩
end Go.Proofs.Ytheilnaommcjjaa
