/-
  Clean: all lines are clean behind it, their order as it was; it answers how many were dirty.
-/
import Derived.Test.YtheilnaommcjjaaColl
import Derived.Test.YtheilnaommcjjaaTail
namespace Go.Proofs.Ytheilnaommcjjaa
open Go.RowKit Go.Shelf
open Go.Maps (Keyed)
attribute [local go_sem] Oper.semAt_some

def cleanLn (l : Ln) : Ln := ⟨l.u, l.b, l.c, false⟩
theorem cleanLn_spot (l : Ln) : (cleanLn l).spot = l.spot := rfl
/-- the lines when those of 'pre' have been cleaned -/
def midL (pre L : List Ln) : List Ln := L.map (fun l => if l.spot ∈ pre.map Ln.spot then cleanLn l else l)
theorem midL_spots (pre L : List Ln) : (midL pre L).map Ln.spot = L.map Ln.spot := by
  unfold midL
  rw [List.map_map]
  refine List.map_congr_left (fun l _ => ?_)
  simp only [Function.comp_apply]
  split <;> rfl
theorem midL_nil (L : List Ln) : midL [] L = L := by simp [midL]
theorem midL_all (L : List Ln) : midL (dirtyOf L) L = L.map cleanLn := by
  unfold midL
  refine List.map_congr_left (fun l hl => ?_)
  split
  · rfl
  · rename_i h
    cases hd : l.d
    · unfold cleanLn; rw [← hd]
    · exact absurd (List.mem_map.2 ⟨l, List.mem_filter.2 ⟨hl, hd⟩, rfl⟩) h
theorem nodup_spot {L : List Ln} (hn : (L.map Ln.spot).Nodup) {x l : Ln} (hx : x ∈ L) (hl : l ∈ L) (h : l.spot = x.spot) : l = x := by
  obtain ⟨i, hi⟩ := List.mem_iff_getElem?.1 hl
  obtain ⟨j, hj⟩ := List.mem_iff_getElem?.1 hx
  have a1 : (L.map Ln.spot)[i]? = some l.spot := by rw [List.getElem?_map, hi]; rfl
  have a2 : (L.map Ln.spot)[j]? = some l.spot := by rw [List.getElem?_map, hj, Option.map_some, h]
  have l1 := (List.getElem?_eq_some_iff.1 a1).1
  have := (List.getElem?_inj l1 hn).1 (a1.trans a2.symm)
  subst this
  rw [hi] at hj
  exact Option.some.inj hj
theorem Fun.mid {L pre : List Ln} {f g : Value → Option Value} (h : Fun (midL pre L) f) {x : Ln} (hx : x ∈ L) (hn : (L.map Ln.spot).Nodup) (h1 : g (spotV x.spot) = some (.agg (lnA (cleanLn x)))) (h2 : ∀ y, y ≠ spotV x.spot → g y = f y) :
    Fun (midL (pre ++ [x]) L) g := by
  refine ⟨fun y hy => ?_, fun s hs => ?_⟩
  · obtain ⟨l, hl, rfl⟩ := List.mem_map.1 hy
    have hsp : (if l.spot ∈ (pre ++ [x]).map Ln.spot then cleanLn l else l).spot = l.spot := by split <;> rfl
    rw [hsp]
    by_cases he : l.spot = x.spot
    · obtain rfl := nodup_spot hn hx hl he
      rw [if_pos (by simp)]
      exact h1
    · rw [h2 _ (fun hc => he (spotV_inj hc))]
      have := h.on _ (List.mem_map.2 ⟨l, hl, rfl⟩)
      have hsp2 : (if l.spot ∈ pre.map Ln.spot then cleanLn l else l).spot = l.spot := by split <;> rfl
      rw [hsp2] at this
      rw [this]
      have hiff : l.spot ∈ (pre ++ [x]).map Ln.spot ↔ l.spot ∈ pre.map Ln.spot := by simp [he]
      by_cases hm : l.spot ∈ pre.map Ln.spot
      · rw [if_pos hm, if_pos (hiff.2 hm)]
      · rw [if_neg hm, if_neg (fun hc => hm (hiff.1 hc))]
  · have hne : s ≠ x.spot := fun he => hs (if x.spot ∈ (pre ++ [x]).map Ln.spot then cleanLn x else x) (List.mem_map.2 ⟨x, hx, rfl⟩) (by rw [he]; split <;> rfl)
    rw [h2 _ (fun hc => hne (spotV_inj hc))]
    refine h.off s (fun y hy hys => ?_)
    have e : y.spot ∈ (midL pre L).map Ln.spot := List.mem_map.2 ⟨y, hy, rfl⟩
    rw [midL_spots, ← midL_spots (pre ++ [x]) L] at e
    obtain ⟨z, hz, hz2⟩ := List.mem_map.1 e
    exact hs z hz (hz2.trans hys)

theorem Fr.drew' {F : Nat → Prop} {w w' : World} (h : Fr F w w') : Fr F w w'.drew := ⟨h.os, h.tape, h.output, h.size, h.block⟩
/-- what holds between two rounds of 'Clean' -/
def ClI (w : World) (a m q : Nat) (v : Value) (L : List Ln) (pre : List Ln) (G : Nat → Prop) (W : World) : Prop :=
  Blk W w.heap.size #[.pointer (some ⟨a, 0, none⟩)] 25 ∧ Blk W (w.heap.size + 1) #[.int .i64 pre.length] 3 ∧ Blk W a #[.int .i64 q, v, .map (some m)] 64 ∧ Ord W v (L.map Ln.spot) ∧
    (∃ f, MapF Try.prog 66 W m f ∧ Fun (midL pre L) f) ∧ Fr (fun k => k = m) w W ∧ ∀ k, G k ↔ k = m ∨ k = w.heap.size + 1

set_option maxHeartbeats 2000000 in
set_option maxRecDepth 20000 in
theorem clean_any (a m : Nat) (v : Value) (q : Nat) (L : List Ln) (w : World) (hst : St w a m v q L) :
    Calls Try.prog 15 #[.pointer (some ⟨a, 0, none⟩)] w fun e w' => e = .returned (.int .i64 (dirtyOf L).length) ∧ St w' a m v q (L.map cleanLn) ∧ Fr (fun k => k = m) w w' := by
  have hL8 : L.length ≤ 8 := Nat.le_trans hst.len hst.q8
  have la := hst.blk.lt
  have lm : m < w.heap.size := by obtain ⟨f, h, _⟩ := hst.map; exact h.lt
  have hma : a ≠ m := by obtain ⟨f, h, _⟩ := hst.map; exact h.ne hst.blk
  have hvm : v.ownBlock ≠ some m := by obtain ⟨f, h, _⟩ := hst.map; exact h.ne_ord hst.ord
  have lv : ∀ k, v.ownBlock = some k → k < w.heap.size := fun k hk => (hst.ord.lt k hk).2
  refine (callsIn_wide (n := 9)).1 ?_
  refine callsIn_of_wp_marks Try.func15 rfl trivial ?_ rfl
  simp only [Try.ntmps15, List.size_toArray, List.length_cons, List.length_nil, Nat.reduceAdd, Nat.reduceSub, Array.replicate_succ, Array.replicate_zero, List.push_toArray, List.append_toArray, List.nil_append, List.cons_append]
  gi_wp2
  refine ⟨trivial, (callsIn_wide.2 (dirtyM_any (some ⟨a, 0, none⟩) _)).mono ?_⟩
  rintro e w' ⟨rfl, rfl⟩
  gi_wp2
  have d0 : Blk (((w.alloc (.cells #[.pointer (some ⟨a, 0, none⟩)] 25)).alloc (.cells #[.int .i64 0] 3)).alloc (.cells #[.pointer (some ⟨a, 0, none⟩)] 25)) w.heap.size #[.pointer (some ⟨a, 0, none⟩)] 25 := ((Blk.new _ _ _).alloc _).alloc _
  have d1 : Blk (((w.alloc (.cells #[.pointer (some ⟨a, 0, none⟩)] 25)).alloc (.cells #[.int .i64 0] 3)).alloc (.cells #[.pointer (some ⟨a, 0, none⟩)] 25)) (w.heap.size + 1) #[.int .i64 0] 3 := by
    have := (Blk.new (w.alloc (.cells #[.pointer (some ⟨a, 0, none⟩)] 25)) #[.int .i64 0] 3).alloc (.cells #[.pointer (some ⟨a, 0, none⟩)] 25)
    simpa using this
  have d2 : Blk (((w.alloc (.cells #[.pointer (some ⟨a, 0, none⟩)] 25)).alloc (.cells #[.int .i64 0] 3)).alloc (.cells #[.pointer (some ⟨a, 0, none⟩)] 25)) (w.heap.size + 1 + 1) #[.pointer (some ⟨a, 0, none⟩)] 25 := by
    have := Blk.new ((w.alloc (.cells #[.pointer (some ⟨a, 0, none⟩)] 25)).alloc (.cells #[.int .i64 0] 3)) #[.pointer (some ⟨a, 0, none⟩)] 25
    simpa using this
  have db : Below w.heap.size w (((w.alloc (.cells #[.pointer (some ⟨a, 0, none⟩)] 25)).alloc (.cells #[.int .i64 0] 3)).alloc (.cells #[.pointer (some ⟨a, 0, none⟩)] 25)) := (((Below.refl _ _).alloc (Nat.le_refl _) _).alloc (by simp) _).alloc (by simp; omega) _
  have hs5 : Hid ((((w.alloc (.cells #[.pointer (some ⟨a, 0, none⟩)] 25)).alloc (.cells #[.int .i64 0] 3)).alloc (.cells #[.pointer (some ⟨a, 0, none⟩)] 25)).heap.size = w.heap.size + 3) := by show _ = _; simp
  generalize (((w.alloc (.cells #[.pointer (some ⟨a, 0, none⟩)] 25)).alloc (.cells #[.int .i64 0] 3)).alloc (.cells #[.pointer (some ⟨a, 0, none⟩)] 25)) = W5 at *
  have st5 := hst.below db
  refine range_listed (n := 9) (α := Ln) (ps := #[7]) (gf := 37) (lb := #[.pointer (some ⟨w.heap.size + 1 + 1, 0, none⟩)]) (xs := dirtyOf L) rfl (enters_of Try.func37 (by kernel_rfl) rfl) (fun _ => rfl)
    (dirty_listed 8 (by decide) (w.heap.size + 1 + 1) (some ⟨a, 0, none⟩) L (by omega) (fun W => Blk W (w.heap.size + 1 + 1) #[.pointer (some ⟨a, 0, none⟩)] 25 ∧ St W a m v q L) (fun _ h => h.1) (fun W h => (lines_any a m v q L W h.2).mono fun e w' ⟨rv, he, hl, hb⟩ => by
      obtain ⟨A, c, rfl⟩ : ∃ A c, rv = .slice A L.length c := by
        rcases hl.2 with ⟨rfl, h0⟩ | ⟨g, cap, cur, rfl, _⟩
        · exact ⟨none, 0, by rw [h0]⟩
        · exact ⟨_, _, rfl⟩
      exact ⟨A, c, he, hl, hb⟩))
    (fun o o' => ⟨(d2.alloc _).alloc _, (st5.below ((Below.refl _ _).alloc (Nat.le_refl _) _)).below ((Below.refl _ _).alloc (Nat.le_refl _) _)⟩)
    (ClI w a m q v L) (fun _ _ _ => False) (fun k => k = m ∨ k = w.heap.size + 1) ?hG0 ?hIb ?hI (fun _ _ _ _ _ h _ => h) ?h0 ?hround ?hdone (fun _ _ _ _ h _ => h.elim)
  case hG0 =>
    have := hs5.out
    rintro k (h | h) <;> omega
  case hIb =>
    rintro pre G W W' ⟨h1, h2, h3, h4, ⟨f, h5, h6⟩, h7, h8⟩ hb
    exact ⟨h1.below hb h1.lt, h2.below hb h2.lt, h3.below hb h3.lt, h4.below hb, ⟨f, h5.kept' (hb.block m h5.lt), h6⟩, h7.trans (Fr.of_below hb : Fr (fun k => k = m) W W') (fun _ h => .inl h), h8⟩
  case hI =>
    rintro pre G W l o ⟨h1, h2, h3, h4, ⟨f, h5, h6⟩, h7, h8⟩ hl hg
    have := hs5.out
    refine ⟨blk_put h1 (by omega) o, blk_put h2 (by omega) o, blk_put h3 (by omega) o, (fr_put W l o).own h4 (fun k hk he => by have := lv k hk; omega), ⟨f, (fr_put W l o).map h5 (by omega), h6⟩, h7.trans (fr_put W l o) (fun i h => .inr (by omega)), h8⟩
  case h0 =>
    intro o o'
    have hb2 : Below W5.heap.size W5 ((W5.alloc o).alloc o') := ((Below.refl _ _).alloc (Nat.le_refl _) _).alloc (by simp) _
    obtain ⟨f, h5, h6⟩ := st5.map
    exact ⟨(d0.alloc _).alloc _, (d1.alloc _).alloc _, (st5.blk.alloc _).alloc _, st5.ord.below hb2, ⟨f, h5.kept' (hb2.block m h5.lt), by rw [midL_nil]; exact h6⟩, (Fr.of_below (db.trans (hb2.mono db.size))), fun _ => Iff.rfl⟩
  case hround =>
    intro pre x G W hI hpre hDW g1 g2 K hK
    have hxL : x ∈ L := by
      obtain ⟨r, hr⟩ := hpre
      have : x ∈ dirtyOf L := by rw [← hr]; simp
      exact (List.mem_filter.1 this).1
    have hz := lnA_zero
    have hfs := lnA_size
    have hbx : Below W.heap.size W ((W.alloc (.cells (lnA zeroLn) 33)).setRow W.heap.size (lnA x)) := below_setRow ((Below.refl _ _).alloc (Nat.le_refl _) _) (Nat.le_refl _) _
    have hB6 : Blk ((W.alloc (.cells (lnA zeroLn) 33)).setRow W.heap.size (lnA x)) W.heap.size (lnA x) 33 := Blk.setRow (Blk.new _ _ _) _
    have Hst := Lib.hid (storeVar_ln x zeroLn (W.alloc (.cells (lnA zeroLn) 33)) W.heap.size (Blk.new _ _ _))
    have ST5 := Lib.hid st5
    clear d0 d1 d2 db st5
    gi_wp2_with (first | (refine storeIn rfl 33 _ _ rfl ⟨W.heap.size, 0, none⟩ rfl (.agg (lnA x)) rfl _ Hst.out ?_) | fail)
    refine hK _ _ hbx ?_
    rintro W2 ⟨o, hW2⟩ ⟨h1, h2, h3, h4, ⟨f, h5, h6⟩, h7, h8⟩
    have hB7 : Blk W2 W.heap.size (lnA x) 33 := by rw [hW2]; exact blk_put hB6 (by omega) o
    have hSW := hB7.lt
    have hs5' := hs5.out
    have lsz : w.heap.size + 3 < W.heap.size := by omega
    clear hs5'
    clear hW2 hB6 hbx Hst hI
    have c0 := hB7.cell (lnA_at x 130 (by omega))
    have f0 := hB7.frozen 130
    -- behind the store of 'false'
    have hB8 : Blk (W2.setCell ⟨W.heap.size, 130, none⟩ (.bool false)) W.heap.size (lnA (cleanLn x)) 33 := by
      have := hB7.set 130 (.bool false)
      rwa [ln_set] at this
    have k1 := h1.other (a := ⟨W.heap.size, 130, none⟩) (by show W.heap.size ≠ w.heap.size; omega) (.bool false)
    have k2 := h2.other (a := ⟨W.heap.size, 130, none⟩) (by show W.heap.size ≠ w.heap.size + 1; omega) (.bool false)
    have k3 := h3.other (a := ⟨W.heap.size, 130, none⟩) (by show W.heap.size ≠ a; omega) (.bool false)
    have k5 := h5.set ⟨W.heap.size, 130, none⟩ (by show W.heap.size ≠ m; omega) (.bool false)
    have k4 := (fr_set W2 ⟨W.heap.size, 130, none⟩ (.bool false)).own h4 (fun k hk (he : k = W.heap.size) => by have := lv k hk; omega)
    have kf := h7.trans (fr_set W2 ⟨W.heap.size, 130, none⟩ (.bool false)) (fun i (he : i = W.heap.size) => .inr (by omega))
    have kg := Lib.hid (fr_set W2 ⟨W.heap.size, 130, none⟩ (.bool false))
    have Hc0 := Lib.hid c0
    obtain ⟨W3, hW3⟩ : ∃ W3, W2.setCell ⟨W.heap.size, 130, none⟩ (.bool false) = W3 := ⟨_, rfl⟩
    rw [hW3] at hB8 k1 k2 k3 k4 k5 kf kg
    obtain ⟨kl, hkl⟩ := spot_key x.spot (hst.ok x hxL).1 (hst.ok x hxL).2
    obtain ⟨W4, hup0, hgr4, hmap4⟩ := (MapF.drew k5).update spot_keyed Try.underlying61 hkl (.agg (lnA (cleanLn x)))
    have hup : (Instr.mapUpdate 61 (.map (some m)) (.agg #[.int .i64 x.u, .int .i64 x.b]) (.agg (lnA (cleanLn x)))).run Try.prog W3.drew = .ok () W4 := hup0
    obtain ⟨f2, hf1, hf2⟩ := upd_fun f (spotV x.spot) (.agg (lnA (cleanLn x)))
    have k6 := Lib.hid (hmap4 f2 hf1 hf2)
    have k7 := Lib.hid (h6.mid hxL hst.nodup hf1 hf2)
    clear hmap4 hup0
    have Hkl := Lib.hid hkl
    have Hf1 := Lib.hid hf1
    have Hf2 := Lib.hid hf2
    clear hkl hf1 hf2
    have e1 := k1.cell (j := 0) rfl
    have e3 := k3.cell (j := 2) rfl
    have e4 := hB8.cell (lnA_at (cleanLn x) 0 (by omega))
    have e5 := hB8.cell (lnA_at (cleanLn x) 1 (by omega))
    rw [show lnE (cleanLn x) 0 = .int .i64 x.u from rfl] at e4
    rw [show lnE (cleanLn x) 1 = .int .i64 x.b from rfl] at e5
    have hlc : (loadCells ⟨W.heap.size, 0, none⟩ 131).run Try.prog W3.drew = .ok (lnA (cleanLn x)) W3.drew := ln_cells (cleanLn x) W3.drew W.heap.size (Blk.drew hB8)
    have HW3 := Lib.hid hW3
    clear hW3
    have H8 := Lib.hid h8
    clear h8
    gi_wp2
    rw [HW3.out]
    clear c0 f0
    refine wpIn_region_still_tail 10 (by kernel_rfl) (by kernel_rfl) (by kernel_rfl) ?_
    simp only [List.take_succ_cons, List.take_zero, List.drop_succ_cons, List.drop_zero]
    repeat (refine wpStill_step (fun K hK => ?_); go_simp; (try go_ints); (try go_simp); refine hK _ ?_; clear hK K)
    refine still_load_ln rfl (.tmp 4) rfl W.heap.size rfl _ (Blk.drew hB8) ?_
    go_simp
    refine wpStill_nil ?_
    have q1 : Blk W4 w.heap.size #[.pointer (some ⟨a, 0, none⟩)] 25 := by
      unfold Blk; rw [hgr4.block _ k1.lt (fun h => by have := Option.some.inj h; omega)]; exact k1
    have q2 : Blk W4 (w.heap.size + 1) #[.int .i64 pre.length] 3 := by
      unfold Blk; rw [hgr4.block _ k2.lt (fun h => by have := Option.some.inj h; omega)]; exact k2
    have q3 : Blk W4 a #[.int .i64 q, v, .map (some m)] 64 := by
      unfold Blk; rw [hgr4.block _ k3.lt (fun h => hma (Option.some.inj h))]; exact k3
    have q4 : Ord W4 v (L.map Ln.spot) := Ord.kept (w := W3.drew) k4 hgr4 (.inr hvm)
    have qf : Fr (fun k => k = m) w W4 := (kf.drew').trans (Fr.of_grown (F := fun k => k = m) hgr4 (fun k hk => (Option.some.inj hk).symm)) (fun _ h => .inl h)
    have qg : Hid (Fr (fun k => G k ∨ W.heap.size ≤ k) W2 W4) :=
      (kg.out.drew'.weak (fun k (hk : k = W.heap.size) => (.inr (by omega) : G k ∨ W.heap.size ≤ k))).trans (Fr.of_grown (F := fun k => G k ∨ W.heap.size ≤ k) hgr4 (fun k hk => .inl ((H8.out k).2 (.inl (Option.some.inj hk).symm)))) (fun _ h => .inl h)
    have n1 := q2.cell (j := 0) rfl
    have n2 := q2.frozen 0
    have hpl : pre.length ≤ 8 := by
      have h1 : (pre ++ [x]).length ≤ (dirtyOf L).length := hpre.length_le
      have h2 : (dirtyOf L).length ≤ L.length := List.length_filter_le _ _
      simp at h1
      omega
    have Q4 := Lib.hid q4
    have Qf := Lib.hid qf
    clear e1 e3 e4 e5 hlc hgr4 q4 qf k1 k2 k3 k4 k5 kf
    gi_wp2
    have r1 := q1.other (a := ⟨w.heap.size + 1, 0, none⟩) (by show w.heap.size + 1 ≠ w.heap.size; omega) (.int .i64 ((pre.length : Int) + 1))
    have r2 := q2.set 0 (.int .i64 ((pre.length : Int) + 1))
    have r3 := q3.other (a := ⟨w.heap.size + 1, 0, none⟩) (by show w.heap.size + 1 ≠ a; omega) (.int .i64 ((pre.length : Int) + 1))
    have fs := fr_set W4 ⟨w.heap.size + 1, 0, none⟩ (.int .i64 ((pre.length : Int) + 1))
    have r4 : Ord (W4.setCell ⟨w.heap.size + 1, 0, none⟩ (.int .i64 ((pre.length : Int) + 1))) v (L.map Ln.spot) := fs.own Q4.out (fun k hk (he : k = w.heap.size + 1) => by have := lv k hk; omega)
    have r5 := k6.out.set ⟨w.heap.size + 1, 0, none⟩ (by show w.heap.size + 1 ≠ m; omega) (.int .i64 ((pre.length : Int) + 1))
    refine ⟨G, ⟨r1, ?_, r3, r4, ⟨f2, r5, k7.out⟩, Qf.out.trans fs (fun k (hk : k = w.heap.size + 1) => .inr (by omega)), H8.out⟩, qg.out.trans (fs.weak (fun k (hk : k = w.heap.size + 1) => (.inl ((H8.out k).2 (.inr hk)) : G k ∨ W.heap.size ≤ k))) (fun _ h => .inl h), fun _ h => .inl h⟩
    rw [List.length_append]
    exact r2
  case hdone =>
    rintro G W ⟨h1, h2, h3, h4, ⟨f, h5, h6⟩, h7, h8⟩ hg hd
    have c1 := h2.cell (j := 0) rfl
    clear d0 d1 d2 db st5
    have H6 := Lib.hid h6
    have H8 := Lib.hid h8
    clear h6 h8
    gi_wp2
    refine ⟨by simp, .inl ⟨_, _, rfl, run_takeDeferred hd, ?_⟩⟩
    have hs := hs5.out
    refine ⟨_, results_tmp rfl _ _ _, rfl, ⟨blk_put h3 (by omega) _, ?_, ⟨f, (fr_put W _ _).map h5 (by omega), ?_⟩, ?_, ?_, ?_, hst.q8⟩, h7.trans (fr_put W _ _) (fun i h => .inr (by omega))⟩
    · have : (L.map cleanLn).map Ln.spot = L.map Ln.spot := by rw [List.map_map]; rfl
      rw [this]
      exact (fr_put W _ _).own h4 (fun k hk he => by have := lv k hk; omega)
    · rw [← midL_all]; exact H6.out
    · have : (L.map cleanLn).map Ln.spot = L.map Ln.spot := by rw [List.map_map]; rfl
      rw [this]; exact hst.nodup
    · intro l hl
      obtain ⟨l0, hl0, rfl⟩ := List.mem_map.1 hl
      exact hst.ok l0 hl0
    · rw [List.length_map]; exact hst.len
end Go.Proofs.Ytheilnaommcjjaa
