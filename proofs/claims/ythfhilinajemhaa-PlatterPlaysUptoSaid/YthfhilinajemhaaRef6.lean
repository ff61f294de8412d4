/-
  The document's disk: a sector written.
-/
import Derived.Test.YthfhilinajemhaaRef5
import Derived.Test.YthfhilinajemhaaColl
namespace Go.Proofs.Ythfhilinajemhaa
open Go.RowKit
open Go.Maps (Keyed int_keyed)
set_option linter.unusedVariables false
set_option linter.unusedSimpArgs false

theorem build_sc {c : Array Value} (h : Cel c) (w : World) : (Instr.buildSlice 74 1 #[(0, .agg c)]).run Try.prog w = .ok (.slice (some ⟨w.heap.size, 0, none⟩) 1 1) (w.alloc (.cells c 45)) := by
  obtain ⟨b, rfl⟩ := h
  kernel_rfl
theorem fold_list : ∀ (vs : List Value) (k : Nat) (cs : Array Value), k + vs.length ≤ cs.size → ((vs.zipIdx k).foldl (fun cs x => cs.setIfInBounds x.2 x.1) cs).toList = cs.toList.take k ++ vs ++ cs.toList.drop (k + vs.length)
  | [], k, cs, _ => by simp
  | v :: r, k, cs, h => by
    simp only [List.length_cons] at h
    rw [List.zipIdx_cons, List.foldl_cons, fold_list r (k + 1) _ (by simp; omega)]
    have hk : k < cs.toList.length := by simp; omega
    simp only [Array.toList_setIfInBounds, List.length_cons]
    rw [List.take_set, List.drop_set_of_lt (by omega), show k + 1 + r.length = k + (r.length + 1) from by omega]
    have : (List.take (k + 1) cs.toList).set k v = List.take k cs.toList ++ [v] := by
      rw [List.take_succ_eq_append_getElem hk, List.set_append_right _ _ (by simp; omega)]
      rw [List.length_take, Nat.min_eq_left (Nat.le_of_lt hk), Nat.sub_self]
      rfl
    rw [this]
    simp
theorem fold_c (c : Array Value) (hc : c.size = 128) (cs : Array Value) (h : cs.size = 128) : Array.foldl (fun cs (x : Value × Nat) => cs.setIfInBounds x.snd x.fst) cs c.zipIdx 0 128 = c := by
  have hs : c.zipIdx.size = 128 := by simp [hc]
  conv => lhs; rw [show (128 : Nat) = c.zipIdx.size from hs.symm]
  rw [← Array.foldl_toList, Array.toList_zipIdx]
  apply Array.toList_inj.1
  rw [fold_list _ 0 cs (by rw [Array.length_toList, hc]; omega)]
  rw [List.drop_eq_nil_of_le (by rw [Array.length_toList, Array.length_toList, hc]; omega)]
  simp
theorem secs_one (e : Array Value) : secs [e] = e.toList := by simp [secs]
theorem step_append_c {ops : Array Oper} {o : Oper} {a : Act} {w : World} {K : Act → World → Prop} {Q : Exit → Act → World → Prop} {E : Prop} (hgd : o.guard = none) (s x : Operand) (ho : o.op = .call { callee := .builtin .append, args := #[s, x], argTypes := #[74, 74] })
    (base : Nat) (v : Value) (L : List (Array Value)) (hs : a.eval s = v) (hown : Scs w base v L) (g : Nat) (c : Nat) (e : Array Value) (hx : a.eval x = .slice (some ⟨g, 0, none⟩) 1 c) (hB : Blk w g e 45) (he : Cel e)
    (h63 : L.length ≤ 1000000) (hbase : base ≤ w.heap.size)
    (h : ∀ g cap w', Scs w' base (.slice (some ⟨g, 0, none⟩) (L.length + 1) cap) (L ++ [e]) → w.grownBy w' v.ownBlock → (v.ownBlock = some g ∨ g = w.heap.size) → g < w'.heap.size → K (a.put o.dst (.slice (some ⟨g, 0, none⟩) (L.length + 1) cap)) w') :
    if Region.wanted o (yielded ops a.tmps) = true then Oper.wp Try.prog o a w K Q else E := by
  obtain ⟨i0, hi0, hz0, hz1, hz2⟩ := info_parts (show (Try.prog.info? 45).map (fun i => (i.zero, i.size, i.bytes)) = some (some (.agg zc), 128, 128) by kernel_rfl)
  refine step_append_lies w hgd s x 74 ho base 45 i0 _ 128 128 Try.underlying74 hi0 hz0 hz1 hz2 zc_size (by omega) v L.length (secs L) hs hown ⟨g, 0, none⟩ 1 c e.toList hx (by rw [Array.length_toList, he.size]) (fun j u hj => ?_) (fun v hv => Array.all_eq_true_iff_forall_mem.1 he.all v (by simpa using hv)) (by omega) (by simp only [maxLen]; omega) (by omega) hbase _ rfl (fun g' cap w' h2 h3 h4 h5 => h g' cap w' ?_ h3 h4 h5)
  · rw [Array.getElem?_toList] at hj
    have hadd : (⟨g, 0, none⟩ : Addr).add j = ⟨g, j, none⟩ := by unfold Addr.add; split <;> simp_all
    rw [hadd]; exact hB.cell hj
  · unfold Scs
    rw [List.length_append, secs_append, secs_one]
    exact h2
theorem run_load_c (a : Act) (o : Oper) (x : Operand) (ho : o.op = .load 45 x) (B : Nat) (hx : a.eval x = .pointer (some ⟨B, 0, none⟩)) (c : Array Value) (hc : c.size = 128) (w : World) (hr : w.rangeAt B 0 c.toList) : (execOp a.eval o).run Try.prog w = .ok (.value (.agg c)) w := by
  have hl : (loadVar 45 ⟨B, 0, none⟩).run Try.prog w = .ok (.agg c) w := load_mid c hc w B 0 (fun j v hv => hr j v (by rw [Array.getElem?_toList]; exact hv))
  unfold execOp
  simp only [ho, hx, Instr.loadAt, Instr.sureAddr, Sem.run_bind, Sem.run_pure, Result.andThen_ok, hl]
section
variable {w w' : World} {r gs gn gk B : Nat} {v : Nat → Value} {d : Dk} {sn : Nat → List (Array Value)} {lf : Int}
theorem rwrite_none (h : RSt w r gs gn gk B v d sn lf) (i : Int) (c : Array Value) (hc : c.size = 128) (hi : ¬ (0 ≤ i ∧ i < d.n)) : Calls Try.prog 29 #[.pointer (some ⟨r, 0, none⟩), .int .i64 i, .agg c] w (RAns w r gs gn gk B v (.int .i64 1) d lf) := by
  have hb : Below w.heap.size w (w.alloc (.cells c 45)) := (Below.refl _ _).alloc (Nat.le_refl _) _
  have h1 := h.below hb
  have y0 := rf0 h1.hr
  have H : Hid (RTo w r gs gn gk B v d lf (w.alloc (.cells c 45))) := ⟨v, sn, h1, Fr.of_below hb, fun _ h => .inl h⟩
  clear h h1 hb
  by_cases h1 : i < 0
  · go_enter Try.func29, Try.ntmps29
    go_wp2
    go_ret
    exact ⟨rfl, H.out⟩
  · have h2 : ¬ i < (d.n : Int) := by omega
    have h3 : (d.n : Int) ≤ i := by omega
    clear hi
    go_enter Try.func29, Try.ntmps29
    go_wp2
    go_ret
    exact ⟨rfl, H.out⟩
theorem rwrite_down (h : RSt w r gs gn gk B v d sn lf) (i : Nat) (c : Array Value) (hc : c.size = 128) (hi : i < d.n) (ho : d.off) : Calls Try.prog 29 #[.pointer (some ⟨r, 0, none⟩), .int .i64 i, .agg c] w (RAns w r gs gn gk B v (.int .i64 5) d.downed lf) := by
  have hb : Below w.heap.size w (w.alloc (.cells c 45)) := (Below.refl _ _).alloc (Nat.le_refl _) _
  have h1 := h.below hb
  have y0 := rf0 h1.hr
  have HN := Lib.hid (rstep_off h1 ho)
  have i1 : (i : Int) < (d.n : Int) := by omega
  have i2 : (0 : Int) ≤ (i : Int) := by omega
  have HB := Lib.hid hb
  clear h h1 hb
  go_enter Try.func29, Try.ntmps29
  go_wp2_with (first | (go_at_call 52; refine HN.out.mono ?_; rintro e W2 ⟨rfl, T2⟩; have TT := Lib.hid T2; clear T2) | fail)
  go_ret
  obtain ⟨v', sn', a, b⟩ := TT.out
  exact ⟨rfl, v', sn', a, ((Fr.of_below HB.out : Fr (Rl r gs gn gk v) w _).trans b.1 (fun _ h => .inl h)), fun k hk => (b.2 k hk).imp id (fun h => Nat.le_trans HB.out.size h)⟩
theorem RSt.appended {W8 : World} (h : RSt w r gs gn gk B v d sn lf) (i : Nat) (hi : i < d.n) {c : Array Value} (hc : Cel c) {vi : Value} (hvi : v i = vi) (hlen : ((sn i).length : Int) + 1 ≤ d.st) {g8 cap8 : Nat}
    (hl8 : Scs W8 B (.slice (some ⟨g8, 0, none⟩) ((sn i).length + 1) cap8) (sn i ++ [c])) (hgr8 : (w.drew.alloc (.cells c 45)).grownBy W8 vi.ownBlock) (hat8 : vi.ownBlock = some g8 ∨ g8 = (w.drew.alloc (.cells c 45)).heap.size) :
    RSt (W8.setCell ⟨gn, i, none⟩ (.slice (some ⟨g8, 0, none⟩) ((sn i).length + 1) cap8)) r gs gn gk B (upd v i (.slice (some ⟨g8, 0, none⟩) ((sn i).length + 1) cap8)) (d.put i c) (updN sn i (sn i ++ [c])) lf ∧
      Fr (Rl r gs gn gk v) w (W8.setCell ⟨gn, i, none⟩ (.slice (some ⟨g8, 0, none⟩) ((sn i).length + 1) cap8)) ∧ (vi.ownBlock = some g8 ∨ w.heap.size ≤ g8) := by
  have ha : vi.ownBlock = some g8 ∨ w.heap.size ≤ g8 := hat8.imp id (fun e => by rw [e]; simp)
  have f1 : Fr (fun k => vi.ownBlock = some k) w (w.drew.alloc (.cells c 45)) := Fr.of_below ((Below.refl _ _).drew.alloc (Nat.le_refl _) _)
  have f2 : Fr (fun k => vi.ownBlock = some k) (w.drew.alloc (.cells c 45)) W8 := Fr.of_grown hgr8 (fun k hk => hk)
  have f3 : Fr (fun k => vi.ownBlock = some k) w W8 := f1.trans f2 (fun _ h => .inl h)
  have f4 := Fr.cell W8 gn i (.slice (some ⟨g8, 0, none⟩) ((sn i).length + 1) cap8)
  have nr : vi.ownBlock ≠ some r := hvi ▸ h.ne_r i
  have ns : vi.ownBlock ≠ some gs := hvi ▸ h.off i
  have nn : vi.ownBlock ≠ some gn := hvi ▸ h.ne_n i
  have nk : vi.ownBlock ≠ some gk := hvi ▸ h.ne_k i
  have lt8 : ∀ j k, (v j).ownBlock = some k → k < w.heap.size := fun j k hk => (World.ownsRow.lt (h.own j) k hk).2
  have hg8 : g8 ≠ gn ∧ g8 ≠ gs := by
    rcases ha with ha | ha
    · exact ⟨fun e => nn (e ▸ ha), fun e => ns (e ▸ ha)⟩
    · have := h.hn.lt
      have := h.hs.lt
      exact ⟨by omega, by omega⟩
  refine ⟨⟨?_, ?_, ?_, ?_, ?_, ?_, ?_, ?_, ?_, h.low, h.left, ?_, ?_⟩, ?_, ha⟩
  · exact f4.blk (f3.blk h.hr nr) h.d_rn
  · exact f4.blk (f3.blk h.hs ns) h.d_sn
  · have := (f3.blk h.hn nn).set i (.slice (some ⟨g8, 0, none⟩) ((sn i).length + 1) cap8)
    rw [row_set] at this
    exact this
  · exact f4.blk (f3.blk h.hc nk) (fun e => h.d_nk e.symm)
  · intro j
    unfold upd updN
    by_cases e : j = i
    · subst e
      rw [if_pos rfl, if_pos rfl]
      exact Fr.own f4 hl8 (fun k hk e => by cases hk; exact hg8.1 e)
    · rw [if_neg e, if_neg e]
      exact Fr.own f4 (Fr.own f3 (h.own j) (fun k hk hi' => e (h.apart j i k hk (by rw [hvi]; exact hi')))) (fun k hk e' => h.ne_n j (e' ▸ hk))
  · intro j k b hj hk
    unfold upd at hj hk
    by_cases e : j = i
    · by_cases e' : k = i
      · rw [e, e']
      · rw [if_pos e] at hj; rw [if_neg e'] at hk
        cases hj
        rcases ha with ha | ha
        · exact absurd (h.apart k i _ hk (by rw [hvi]; exact ha)) e'
        · have h9 : g8 < w.heap.size := lt8 k _ hk
          omega
    · by_cases e' : k = i
      · rw [if_neg e] at hj; rw [if_pos e'] at hk
        cases hk
        rcases ha with ha | ha
        · exact absurd (h.apart j i _ hj (by rw [hvi]; exact ha)) e
        · have h9 : g8 < w.heap.size := lt8 j _ hj
          omega
      · rw [if_neg e] at hj; rw [if_neg e'] at hk; exact h.apart j k b hj hk
  · intro j
    unfold upd
    by_cases e : j = i
    · rw [if_pos e]; intro e; cases e; exact hg8.2 rfl
    · rw [if_neg e]; exact h.off j
  · intro j c' hc'
    unfold updN at hc'
    by_cases e : j = i
    · rw [if_pos e] at hc'
      rcases List.mem_append.1 hc' with h1 | h1
      · exact h.cel i c' h1
      · rw [List.mem_singleton.1 h1]; exact hc
    · rw [if_neg e] at hc'; exact h.cel j c' hc'
  · intro j
    show (if (j : Int) = (i : Int) then some c else d.op (j : Int)) = _
    unfold updN
    by_cases e : j = i
    · subst e; simp
    · rw [if_neg (by omega), if_neg e]; exact h.last j
  · intro j
    show ((updN sn i (sn i ++ [c]) j).length : Int) ≤ d.st
    unfold updN
    by_cases e : j = i
    · rw [if_pos e, List.length_append, List.length_singleton]; omega
    · rw [if_neg e]; exact h.len j
  · refine ⟨h.ok.1, h.ok.2.1, fun j c' hj => ?_⟩
    have hj' : (if j = (i : Int) then some c else d.op j) = some c' := hj
    split at hj'
    · cases hj'
      rename_i e
      rw [e]
      exact ⟨by omega, by show (i : Int) < d.n; omega, hc⟩
    · exact h.ok.2.2 j c' hj'
  · exact (f3.weak (F' := Rl r gs gn gk v) (fun k hk => .inr (.inr (.inr (.inr ⟨i, by rw [hvi]; exact hk⟩))))).trans f4 (fun k e => .inl (.inr (.inr (.inl e))))
theorem RTo.appended {W1 W2 W9 : World} {lf' : Int} {i : Nat} {vi : Value} {g8 n8 cap8 : Nat} {d' : Dk} {sn' : Nat → List (Array Value)} (hB : Below w.heap.size w W1) (hF : Fr (fun k => k = r) W1 W2)
    (hT : RSt W9 r gs gn gk B (upd v i (.slice (some ⟨g8, 0, none⟩) n8 cap8)) d' sn' lf' ∧ Fr (Rl r gs gn gk v) W2 W9 ∧ (vi.ownBlock = some g8 ∨ W2.heap.size ≤ g8)) (hvi : v i = vi) : RTo w r gs gn gk B v d' lf' W9 := by
  refine ⟨_, _, hT.1, ((Fr.of_below hB : Fr (Rl r gs gn gk v) w W1).trans hF (fun k e => .inl (.inl e))).trans hT.2.1 (fun k e => .inl e), fun k hk => ?_⟩
  rcases hk with h | h | h | h | ⟨j, hj⟩
  · exact .inl (.inl h)
  · exact .inl (.inr (.inl h))
  · exact .inl (.inr (.inr (.inl h)))
  · exact .inl (.inr (.inr (.inr (.inl h))))
  · unfold upd at hj
    by_cases e : j = i
    · rw [if_pos e] at hj
      cases hj
      rcases hT.2.2 with h | h
      · exact .inl (.inr (.inr (.inr (.inr ⟨i, by rw [hvi]; exact h⟩))))
      · exact .inr (Nat.le_trans (Nat.le_trans hB.size hF.size) h)
    · rw [if_neg e] at hj; exact .inl (.inr (.inr (.inr (.inr ⟨j, hj⟩))))
set_option maxHeartbeats 4000000 in
set_option maxRecDepth 20000 in
theorem rwrite_yes (h : RSt w r gs gn gk B v d sn lf) (i : Nat) (c : Array Value) (hc : Cel c) (hi : i < d.n) (ho : ¬ d.off) (hr : d.room) (hst : d.st ≤ 100000) : Calls Try.prog 29 #[.pointer (some ⟨r, 0, none⟩), .int .i64 i, .agg c] w (RAns w r gs gn gk B v (.int .i64 0) (d.stepped.put i c) (lfS d lf)) := by
  have hb : Below w.heap.size w (w.alloc (.cells c 45)) := (Below.refl _ _).alloc (Nat.le_refl _) _
  have h1 := h.below hb
  have y0 := rf0 h1.hr
  have HN := Lib.hid (rstep_stay h1 ho hr)
  have i1 : (i : Int) < (d.n : Int) := by omega
  have i2 : (0 : Int) ≤ (i : Int) := by omega
  have HB := Lib.hid hb
  have HX := Lib.hid (Blk.new w c 45)
  have hlen := h.len i
  have hl1 : (sn i).length ≤ 100000 := by omega
  have HL := Lib.hid (show ((sn i).length : Int) + 1 ≤ d.st + 1 by omega)
  have hcs := hc.size
  have HC := Lib.hid hc
  have hrw : r ≠ w.heap.size := Nat.ne_of_lt h.hr.lt
  have hnw : gn ≠ w.heap.size := Nat.ne_of_lt h.hn.lt
  have hu := Try.underlying45
  have hI : (Try.prog.info? 45).map (·.size) = some c.toList.length := by rw [Array.length_toList, hcs]; kernel_rfl
  have hl : c.toList.length = 128 := by rw [Array.length_toList, hcs]
  have hfold := fold_c c hcs
  have HV0 := Lib.hid (fun k (hk : (v i).ownBlock = some k) => (h.lt (.inr (.inr (.inr (.inr ⟨i, hk⟩))))).2)
  clear h h1 hb hlen hc ho hr hst
  go_enter Try.func29, Try.ntmps29
  go_wp2_with (first | (go_at_call 52; refine HN.out.mono ?_; rintro e W2 ⟨rfl, T2, F2⟩; have TT := Lib.hid T2; have b2 := HX.out; have c2 := Lib.hid (F2.blk HX.out (Ne.symm hrw)); have z1 : W2.cell? ⟨r, 1, none⟩ = some (.slice (some ⟨gn, 0, none⟩) d.n d.n) := rf1 T2.hr; have z2 : W2.cell? ⟨gn, i, none⟩ = some (v i) := T2.hn.cell (row_at v d.n i hi); have z3 := T2.hn.frozen i; have FF := Lib.hid F2; clear T2 F2 b2) | fail)
  have zb : W2.rangeAt w.heap.size 0 c.toList := fun j v hj => by rw [Array.getElem?_toList] at hj; rw [Nat.zero_add]; exact c2.out.cell hj
  generalize hvi : v i = vi at *
  have hz1 : r < W2.heap.size := TT.out.hr.lt
  have hz2 : gn < W2.heap.size := TT.out.hn.lt
  have hz3 : w.heap.size < W2.heap.size := c2.out.lt
  have SD : W2.drew.cell? ⟨r, 1, none⟩ = some (.slice (some ⟨gn, 0, none⟩) d.n d.n) ∧ W2.drew.rangeAt w.heap.size 0 c.toList := ⟨z1, zb⟩
  have e2 : W2.drew.cell? ⟨gn, i, none⟩ = some vi := z2
  have a1 : (W2.drew.alloc (.cells c 45)).cell? ⟨r, 1, none⟩ = some (.slice (some ⟨gn, 0, none⟩) d.n d.n) := by rw [World.cell?_alloc_lt _ _ _ (by exact hz1)]; exact z1
  have a2 : (W2.drew.alloc (.cells c 45)).cell? ⟨gn, i, none⟩ = some vi := by rw [World.cell?_alloc_lt _ _ _ (by exact hz2)]; exact z2
  have a3 : (W2.drew.alloc (.cells c 45)).frozen? ⟨gn, i, none⟩ = false := ((Fr.of_below ((Below.refl _ _).drew.alloc (Nat.le_refl _) _) : Fr (fun _ => False) W2 (W2.drew.alloc (.cells c 45))).blk TT.out.hn id).frozen i
  have sa : (W2.drew.alloc (.cells c 45)).cell? ⟨r, 1, none⟩ = some (.slice (some ⟨gn, 0, none⟩) d.n d.n) ∧ (W2.drew.alloc (.cells c 45)).rangeAt w.heap.size 0 c.toList := ⟨a1, World.rangeAt_alloc zb _⟩
  have hO2 : Hid (Scs (W2.drew.alloc (.cells c 45)) B vi (sn i)) := by
    have := (TT.out.below ((Below.refl W2.heap.size W2).drew.alloc (Nat.le_refl _) (.cells c 45))).own i
    rw [hvi] at this
    exact this
  have hB2 : Hid (Blk (W2.drew.alloc (.cells c 45)) W2.drew.heap.size c 45) := Blk.new W2.drew c 45
  have ne1 : Hid (vi.ownBlock ≠ some r) := hvi ▸ TT.out.ne_r i
  have ne2 : Hid (vi.ownBlock ≠ some gn) := hvi ▸ TT.out.ne_n i
  have hbase : Hid (B ≤ (W2.drew.alloc (.cells c 45)).heap.size) := Nat.le_trans (Nat.le_trans TT.out.low.1 (Nat.le_of_lt TT.out.hr.lt)) (by simp)
  have HV := Lib.hid hvi
  have nrn := Lib.hid (show gn ≠ r from TT.out.d_rn.symm)
  have nx : Hid (some w.heap.size ≠ vi.ownBlock) := fun e => by
    exact Nat.lt_irrefl _ (HV0.out _ e.symm)
  clear hvi zb
  refine wp_region_noPanic ?_
  refine wp_region_held_drew (S := fun W => W.cell? ⟨r, 1, none⟩ = some (.slice (some ⟨gn, 0, none⟩) d.n d.n) ∧ W.rangeAt w.heap.size 0 c.toList) (by kernel_rfl) SD (fun hHeld => ?_)
  refine wpAnyH_take (i := 0) (v := ?_) rfl (by kernel_rfl) (by kernel_rfl) (by kernel_rfl) (fun _ _ _ h => h) (Or.inl ⟨by rfl, ?_⟩) (by assumption) ?_
  rotate_left 1
  · (intro w hSw; (try dsimp only at hSw); go_simp; try with_reducible rfl)
  (try simp only [List.getElem_toArray, List.getElem_cons_zero, List.getElem_cons_succ, Act.put, List.setIfInBounds_toArray, List.set_cons_zero, List.set_cons_succ])
  refine wpAnyH_take (i := 1) (v := ?_) rfl (by kernel_rfl) (by kernel_rfl) (by kernel_rfl) (fun _ _ _ h => h) (Or.inl ⟨by rfl, ?_⟩) (by assumption) ?_
  rotate_left 1
  · (intro w hSw; (try dsimp only at hSw); go_simp; try with_reducible rfl)
  (try simp only [List.getElem_toArray, List.getElem_cons_zero, List.getElem_cons_succ, Act.put, List.setIfInBounds_toArray, List.set_cons_zero, List.set_cons_succ])
  refine wpAnyH_take (i := 2) (v := ?_) rfl (by kernel_rfl) (by kernel_rfl) (by kernel_rfl) (fun _ _ _ h => h) (Or.inl ⟨by rfl, ?_⟩) (by assumption) ?_
  rotate_left 1
  · (intro w hSw; (try dsimp only at hSw); go_simp; try with_reducible rfl)
  (try simp only [List.getElem_toArray, List.getElem_cons_zero, List.getElem_cons_succ, Act.put, List.setIfInBounds_toArray, List.set_cons_zero, List.set_cons_succ])
  refine wpAnyH_take (i := 3) (v := ?_) rfl (by kernel_rfl) (by kernel_rfl) (by kernel_rfl) (fun _ _ _ h => h) (Or.inl ⟨by rfl, ?_⟩) (by assumption) ?_
  rotate_left 1
  · (intro w hSw; (try dsimp only at hSw); go_simp; try with_reducible rfl)
  (try simp only [List.getElem_toArray, List.getElem_cons_zero, List.getElem_cons_succ, Act.put, List.setIfInBounds_toArray, List.set_cons_zero, List.set_cons_succ])
  refine wpAnyH_take (i := 4) (v := ?_) rfl (by kernel_rfl) (by kernel_rfl) (by kernel_rfl) (fun _ _ _ h => h) (Or.inl ⟨by rfl, ?_⟩) (by assumption) ?_
  rotate_left 1
  · (intro w hSw; (try dsimp only at hSw); go_simp; try with_reducible rfl)
  (try simp only [List.getElem_toArray, List.getElem_cons_zero, List.getElem_cons_succ, Act.put, List.setIfInBounds_toArray, List.set_cons_zero, List.set_cons_succ])
  refine wpAnyH_take (i := 5) (v := ?_) rfl (by kernel_rfl) (by kernel_rfl) (by kernel_rfl) (fun _ _ _ h => h) (Or.inl ⟨by rfl, ?_⟩) (by assumption) ?_
  rotate_left 1
  · (intro w hSw; (try dsimp only at hSw); go_simp; try with_reducible rfl)
  (try simp only [List.getElem_toArray, List.getElem_cons_zero, List.getElem_cons_succ, Act.put, List.setIfInBounds_toArray, List.set_cons_zero, List.set_cons_succ])
  refine wpAnyH_take (i := 6) (v := ?_) rfl (by kernel_rfl) (by kernel_rfl) (by kernel_rfl) (fun _ _ _ h => h) (Or.inl ⟨by rfl, ?_⟩) (by assumption) ?_
  rotate_left 1
  · (intro w hSw; (try dsimp only at hSw); go_simp; try with_reducible rfl)
  (try simp only [List.getElem_toArray, List.getElem_cons_zero, List.getElem_cons_succ, Act.put, List.setIfInBounds_toArray, List.set_cons_zero, List.set_cons_succ])
  refine wpAnyH_take (i := 7) (v := ?_) rfl (by kernel_rfl) (by kernel_rfl) (by kernel_rfl) (fun _ _ _ h => h) (Or.inl ⟨by rfl, ?_⟩) (by assumption) ?_
  rotate_left 1
  · (intro w hSw; (try dsimp only at hSw); go_simp; try with_reducible rfl)
  (try simp only [List.getElem_toArray, List.getElem_cons_zero, List.getElem_cons_succ, Act.put, List.setIfInBounds_toArray, List.set_cons_zero, List.set_cons_succ])
  refine wpAnyH_take (i := 8) (v := ?_) rfl (by kernel_rfl) (by kernel_rfl) (by kernel_rfl) (fun _ _ _ h => h) (Or.inl ⟨by rfl, ?_⟩) (by assumption) ?_
  rotate_left 1
  · (intro w hSw; (try dsimp only at hSw); go_simp; try with_reducible rfl)
  (try simp only [List.getElem_toArray, List.getElem_cons_zero, List.getElem_cons_succ, Act.put, List.setIfInBounds_toArray, List.set_cons_zero, List.set_cons_succ])
  refine wpAnyH_take (i := 9) (v := ?_) rfl (by kernel_rfl) (by kernel_rfl) (by kernel_rfl) (fun _ _ _ h => h) (Or.inl ⟨by rfl, ?_⟩) (by assumption) ?_
  rotate_left 1
  · (intro w hSw; (try dsimp only at hSw); go_simp; try with_reducible rfl)
  (try simp only [List.getElem_toArray, List.getElem_cons_zero, List.getElem_cons_succ, Act.put, List.setIfInBounds_toArray, List.set_cons_zero, List.set_cons_succ])
  refine wpAnyH_take (i := 10) (v := ?_) rfl (by kernel_rfl) (by kernel_rfl) (by kernel_rfl) (fun _ _ _ h => h) (Or.inl ⟨by rfl, ?_⟩) (by assumption) ?_
  rotate_left 1
  · (intro w hSw; (try dsimp only at hSw); go_simp; try with_reducible rfl)
  (try simp only [List.getElem_toArray, List.getElem_cons_zero, List.getElem_cons_succ, Act.put, List.setIfInBounds_toArray, List.set_cons_zero, List.set_cons_succ])
  refine wpAnyH_take (i := 12) (v := .agg c) rfl (by kernel_rfl) (by kernel_rfl) (by kernel_rfl) (fun _ _ _ h => h) (Or.inl ⟨by rfl, ?_⟩) (by assumption) ?_
  · intro w9 hSw; exact run_load_c _ _ (.tmp 5) rfl _ rfl c hcs w9 hSw.2
  (try simp only [List.getElem_toArray, List.getElem_cons_zero, List.getElem_cons_succ, Act.put, List.setIfInBounds_toArray, List.set_cons_zero, List.set_cons_succ])
  refine wpAnyH_ready (rs := [11, 13]) (by kernel_rfl) (by simp) ?_
  refine AllReadyH.cons rfl (fun K hK => ?_) (AllReadyH.cons rfl (fun K hK => ?_) AllReadyH.nil)
  · go_simp
    refine hK.out _ _ hHeld (fun hHeld => ?_)
    clear hK K
    (try simp only [List.getElem_toArray, List.getElem_cons_zero, List.getElem_cons_succ, Act.put, List.setIfInBounds_toArray, List.set_cons_zero, List.set_cons_succ])
    refine wpAnyH_ready (rs := [13]) (by kernel_rfl) (by simp) ?_
    refine AllReadyH.cons rfl (fun K hK => ?_) AllReadyH.nil
    go_simp
    refine hK.out _ _ sa (fun hHeld => ?_)
    clear hK K
    (try simp only [List.getElem_toArray, List.getElem_cons_zero, List.getElem_cons_succ, Act.put, List.setIfInBounds_toArray, List.set_cons_zero, List.set_cons_succ])
    refine wpAnyH_ready (rs := [14]) (by kernel_rfl) (by simp) ?_
    refine AllReadyH.cons rfl (fun K hK => ?_) AllReadyH.nil
    refine step_append_c rfl _ _ rfl B vi (sn i) rfl hO2.out _ 1 c rfl hB2.out HC.out (by omega) hbase.out (fun g8 cap8 w8 hl8 hgr8 hat8 hlt8 => ?_)
    have p1 : w8.cell? ⟨gn, i, none⟩ = some vi := by rw [hgr8.cell_far _ (by simp; omega) (Ne.symm ne2.out)]; exact a2
    have p2 : w8.frozen? ⟨gn, i, none⟩ = false := by rw [hgr8.frozen_far _ (by simp; omega) (Ne.symm ne2.out)]; exact a3
    have s8 : w8.cell? ⟨r, 1, none⟩ = some (.slice (some ⟨gn, 0, none⟩) d.n d.n) ∧ w8.rangeAt w.heap.size 0 c.toList := ⟨by rw [hgr8.cell_far _ (by simp; omega) (Ne.symm ne1.out)]; exact a1, fun j u hj => by rw [hgr8.cell_far _ (by simp; omega) nx.out]; exact sa.2 j u hj⟩
    have s9 : (w8.setCell ⟨gn, i, none⟩ (.slice (some ⟨g8, 0, none⟩) ((sn i).length + 1) cap8)).cell? ⟨r, 1, none⟩ = some (.slice (some ⟨gn, 0, none⟩) d.n d.n) ∧ (w8.setCell ⟨gn, i, none⟩ (.slice (some ⟨g8, 0, none⟩) ((sn i).length + 1) cap8)).rangeAt w.heap.size 0 c.toList := ⟨by rw [World.cell?_setCell_far _ _ _ _ nrn.out]; exact s8.1, fun j u hj => by rw [World.cell?_setCell_far _ _ _ _ hnw]; exact s8.2 j u hj⟩
    have HT := Lib.hid (RSt.appended TT.out i hi HC.out HV.out HL.out hl8 hgr8 hat8)
    clear hl8 hgr8 hat8
    refine hK.out _ _ s8 (fun hHeld => ?_)
    clear hK K
    (try simp only [List.getElem_toArray, List.getElem_cons_zero, List.getElem_cons_succ, Act.put, List.setIfInBounds_toArray, List.set_cons_zero, List.set_cons_succ])
    refine wpAnyH_ready (rs := [15]) (by kernel_rfl) (by simp) ?_
    refine AllReadyH.cons rfl (fun K hK => ?_) AllReadyH.nil
    go_simp
    refine hK.out _ _ s8 (fun hHeld => ?_)
    clear hK K
    (try simp only [List.getElem_toArray, List.getElem_cons_zero, List.getElem_cons_succ, Act.put, List.setIfInBounds_toArray, List.set_cons_zero, List.set_cons_succ])
    refine wpAnyH_ready (rs := [16]) (by kernel_rfl) (by simp) ?_
    refine AllReadyH.cons rfl (fun K hK => ?_) AllReadyH.nil
    go_simp
    refine hK.out _ _ s9 (fun hHeld => ?_)
    clear hK K
    (try simp only [List.getElem_toArray, List.getElem_cons_zero, List.getElem_cons_succ, Act.put, List.setIfInBounds_toArray, List.set_cons_zero, List.set_cons_succ])
    refine wpAnyH_done (by kernel_rfl) ?_ _
    refine NoPanic.normal ?_
    go_wp2
    go_ret
    exact ⟨rfl, RTo.appended HB.out FF.out HT.out HV.out⟩
  · go_simp
    refine hK.out _ _ sa (fun hHeld => ?_)
    clear hK K
    (try simp only [List.getElem_toArray, List.getElem_cons_zero, List.getElem_cons_succ, Act.put, List.setIfInBounds_toArray, List.set_cons_zero, List.set_cons_succ])
    refine wpAnyH_ready (rs := [11]) (by kernel_rfl) (by simp) ?_
    refine AllReadyH.cons rfl (fun K hK => ?_) AllReadyH.nil
    go_simp
    refine hK.out _ _ sa (fun hHeld => ?_)
    clear hK K
    (try simp only [List.getElem_toArray, List.getElem_cons_zero, List.getElem_cons_succ, Act.put, List.setIfInBounds_toArray, List.set_cons_zero, List.set_cons_succ])
    refine wpAnyH_ready (rs := [14]) (by kernel_rfl) (by simp) ?_
    refine AllReadyH.cons rfl (fun K hK => ?_) AllReadyH.nil
    refine step_append_c rfl _ _ rfl B vi (sn i) rfl hO2.out _ 1 c rfl hB2.out HC.out (by omega) hbase.out (fun g8 cap8 w8 hl8 hgr8 hat8 hlt8 => ?_)
    have p1 : w8.cell? ⟨gn, i, none⟩ = some vi := by rw [hgr8.cell_far _ (by simp; omega) (Ne.symm ne2.out)]; exact a2
    have p2 : w8.frozen? ⟨gn, i, none⟩ = false := by rw [hgr8.frozen_far _ (by simp; omega) (Ne.symm ne2.out)]; exact a3
    have s8 : w8.cell? ⟨r, 1, none⟩ = some (.slice (some ⟨gn, 0, none⟩) d.n d.n) ∧ w8.rangeAt w.heap.size 0 c.toList := ⟨by rw [hgr8.cell_far _ (by simp; omega) (Ne.symm ne1.out)]; exact a1, fun j u hj => by rw [hgr8.cell_far _ (by simp; omega) nx.out]; exact sa.2 j u hj⟩
    have s9 : (w8.setCell ⟨gn, i, none⟩ (.slice (some ⟨g8, 0, none⟩) ((sn i).length + 1) cap8)).cell? ⟨r, 1, none⟩ = some (.slice (some ⟨gn, 0, none⟩) d.n d.n) ∧ (w8.setCell ⟨gn, i, none⟩ (.slice (some ⟨g8, 0, none⟩) ((sn i).length + 1) cap8)).rangeAt w.heap.size 0 c.toList := ⟨by rw [World.cell?_setCell_far _ _ _ _ nrn.out]; exact s8.1, fun j u hj => by rw [World.cell?_setCell_far _ _ _ _ hnw]; exact s8.2 j u hj⟩
    have HT := Lib.hid (RSt.appended TT.out i hi HC.out HV.out HL.out hl8 hgr8 hat8)
    clear hl8 hgr8 hat8
    refine hK.out _ _ s8 (fun hHeld => ?_)
    clear hK K
    (try simp only [List.getElem_toArray, List.getElem_cons_zero, List.getElem_cons_succ, Act.put, List.setIfInBounds_toArray, List.set_cons_zero, List.set_cons_succ])
    refine wpAnyH_ready (rs := [15]) (by kernel_rfl) (by simp) ?_
    refine AllReadyH.cons rfl (fun K hK => ?_) AllReadyH.nil
    go_simp
    refine hK.out _ _ s8 (fun hHeld => ?_)
    clear hK K
    (try simp only [List.getElem_toArray, List.getElem_cons_zero, List.getElem_cons_succ, Act.put, List.setIfInBounds_toArray, List.set_cons_zero, List.set_cons_succ])
    refine wpAnyH_ready (rs := [16]) (by kernel_rfl) (by simp) ?_
    refine AllReadyH.cons rfl (fun K hK => ?_) AllReadyH.nil
    go_simp
    refine hK.out _ _ s9 (fun hHeld => ?_)
    clear hK K
    (try simp only [List.getElem_toArray, List.getElem_cons_zero, List.getElem_cons_succ, Act.put, List.setIfInBounds_toArray, List.set_cons_zero, List.set_cons_succ])
    refine wpAnyH_done (by kernel_rfl) ?_ _
    refine NoPanic.normal ?_
    go_wp2
    go_ret
    exact ⟨rfl, RTo.appended HB.out FF.out HT.out HV.out⟩
end
end Go.Proofs.Ythfhilinajemhaa
