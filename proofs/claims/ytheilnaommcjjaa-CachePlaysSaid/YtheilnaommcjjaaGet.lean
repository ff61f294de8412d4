import Derived.Test.YtheilnaommcjjaaRoomy
namespace Go.Proofs.Ytheilnaommcjjaa
open Go.RowKit
open Go.Maps (Keyed)

/-- a spot's line -/
def findLn (L : List Ln) (s : Spot) : Option Ln := L.find? (fun l => decide (l.spot = s))
def without (L : List Ln) (s : Spot) : List Ln := L.filter (fun l => decide (l.spot ≠ s))
def touch (L : List Ln) (s : Spot) : List Ln := match findLn L s with | some l => without L s ++ [l] | none => L
theorem findLn_some {L : List Ln} {s : Spot} {l : Ln} (h : findLn L s = some l) : l ∈ L ∧ l.spot = s := by
  unfold findLn at h
  exact ⟨List.mem_of_find?_eq_some h, by simpa using List.find?_some h⟩
theorem findLn_none {L : List Ln} {s : Spot} (h : findLn L s = none) : ∀ l ∈ L, l.spot ≠ s := by
  unfold findLn at h
  simpa using h
theorem findLn_f {L : List Ln} {f : Value → Option Value} (hF : Fun L f) (s : Spot) : f (spotV s) = (findLn L s).map fun l => .agg (lnA l) := by
  rcases h : findLn L s with _ | l
  · exact hF.off s (findLn_none h)
  · obtain ⟨h1, h2⟩ := findLn_some h
    rw [← h2]
    exact hF.on l h1
theorem without_map (L : List Ln) (s : Spot) : (without L s).map Ln.spot = (L.map Ln.spot).filter (fun t => decide (t ≠ s)) := by
  unfold without
  rw [List.filter_map]
  rfl
theorem erase_map {L : List Ln} (hn : (L.map Ln.spot).Nodup) (s : Spot) : (L.map Ln.spot).erase s = (without L s).map Ln.spot := by
  rw [without_map, hn.erase_eq_filter]
  refine List.filter_congr (fun x _ => ?_)
  by_cases h : x = s <;> simp [h]

theorem Fun.put {L : List Ln} {f g : Value → Option Value} (h : Fun L f) (l : Ln) (h1 : g (spotV l.spot) = some (.agg (lnA l))) (h2 : ∀ y, y ≠ spotV l.spot → g y = f y) : Fun (without L l.spot ++ [l]) g := by
  refine ⟨fun x hx => ?_, fun s hs => ?_⟩
  · rcases List.mem_append.1 hx with hx | hx
    · have hx' := List.mem_filter.1 hx
      rw [h2 _ (fun he => (of_decide_eq_true hx'.2) (spotV_inj he))]
      exact h.on x hx'.1
    · rw [List.mem_singleton.1 hx]
      exact h1
  · have hne : s ≠ l.spot := fun he => hs l (by simp) he.symm
    rw [h2 _ (fun he => hne (spotV_inj he))]
    refine h.off s (fun x hx hxs => hs x (List.mem_append.2 (.inl (List.mem_filter.2 ⟨hx, decide_eq_true (by rw [hxs]; exact hne)⟩))) hxs)
theorem St.of_use {w' : World} {a m : Nat} {v' : Value} {q : Nat} {L : List Ln} {l : Ln} {f : Value → Option Value} (hb : Blk w' a #[.int .i64 q, v', .map (some m)] 64) (ho : Ord w' v' ((L.map Ln.spot).erase l.spot ++ [l.spot]))
    (hm : MapF Try.prog 66 w' m f) (hF : Fun (without L l.spot ++ [l]) f) (hn : (L.map Ln.spot).Nodup) (hok : ∀ x ∈ L, ok64 x.u ∧ ok64 x.b) (hl : ok64 l.u ∧ ok64 l.b) (hlen : (without L l.spot ++ [l]).length ≤ q) (hq : q ≤ 8) :
    St w' a m v' q (without L l.spot ++ [l]) := by
  have hmap : (without L l.spot ++ [l]).map Ln.spot = (L.map Ln.spot).erase l.spot ++ [l.spot] := by rw [List.map_append, erase_map hn]; rfl
  refine ⟨hb, by rw [hmap]; exact ho, ⟨f, hm, hF⟩, ?_, ?_, hlen, hq⟩
  · rw [hmap, List.nodup_append]
    refine ⟨hn.erase _, by simp, fun x hx y hy => ?_⟩
    rw [List.mem_singleton] at hy
    subst hy
    exact (hn.mem_erase_iff.1 hx).1
  · intro x hx
    rcases List.mem_append.1 hx with hx | hx
    · exact hok x (List.mem_filter.1 hx).1
    · rw [List.mem_singleton.1 hx]; exact hl
theorem without_lt {L : List Ln} {l : Ln} (h : l ∈ L) : (without L l.spot).length < L.length := by
  refine List.length_filter_lt_length_iff_exists.2 ⟨l, h, by simp⟩
theorem store_ln (l l0 : Ln) (w : World) (B : Nat) (h : Blk w B (lnA l0) 33) : (storeCells ⟨B, 0, none⟩ (lnA l).toList).run Try.prog w = .ok () (w.setRow B (lnA l)) := by
  have hl : (lnA l).toList.length = 131 := by rw [Array.length_toList, lnA_size]
  have h1 := run_storeCells_at Try.prog B 0 33 (lnA l).toList 0 (lnA l0) w h (by rw [hl, lnA_size]; omega) (fun v hv => by
    have := Array.all_eq_true_iff_forall_mem.1 (lnA_all l) v (by simpa using hv)
    exact this)
  rw [h1]
  have e : ((lnA l0).toList.take (0 + 0) ++ (lnA l).toList ++ (lnA l0).toList.drop (0 + 0 + (lnA l).toList.length)).toArray = lnA l := by
    rw [hl, List.drop_eq_nil_of_le (by rw [Array.length_toList, lnA_size]; omega)]
    simp
  rw [e]
section
variable {ops : Array Oper} {rest : List Oper} {o : Oper} {a : Act} {w : World} {Q : Exit → Act → World → Prop}
theorem load_lnW (hgd : o.guard = none) (x : Operand) (ho : o.op = .load 33 x) (B : Nat) (hx : a.eval x = .pointer (some ⟨B, 0, none⟩)) (l : Ln) (hB : Blk w B (lnA l) 33)
    (h : wpList Try.prog ops Q rest (a.put o.dst (.agg (lnA l))) w) : wpList Try.prog ops Q (o :: rest) a w :=
  wpList_load_row hgd 33 x ho B hx 33 (lnA l) (0, 0) _ hB Try.underlying33 rfl (lnA_info l) h
theorem store_lnW (hgd : o.guard = none) (x y : Operand) (ho : o.op = .store 33 x y) (B : Nat) (l : Ln) (hx : a.eval x = .pointer (some ⟨B, 0, none⟩)) (hy : a.eval y = .agg (lnA l))
    (l0 : Ln) (hB : Blk w B (lnA l0) 33)
    (h : wpList Try.prog ops Q rest (a.put o.dst undef) (w.setRow B (lnA l))) : wpList Try.prog ops Q (o :: rest) a w :=
  wpList_store_row hgd 33 x y ho B (lnA l) hx hy 33 (lnA l0) hB (lnA_info l) (by rw [lnA_size, lnA_size]) (lnA_all l) h
end
theorem Blk.setRow {w : World} {B : Nat} {vs : Array Value} {t : TypeId} (h : Blk w B vs t) (cs : Array Value) : Blk (w.setRow B cs) B cs t := setRow_heap w B vs cs t _ h
theorem Blk.setRow_other {w : World} {B C : Nat} {vs : Array Value} {t : TypeId} (h : Blk w B vs t) (cs : Array Value) (hne : B ≠ C) : Blk (w.setRow C cs) B vs t := by
  unfold Blk at h ⊢; rw [Go.setRow_other w C B cs hne]; exact h
theorem ln_results (fn : Func) (p u : Tmp) (h : fn.results = #[.cell p 33, .tmp u]) (tmps : Array Value) (w : World) (B : Nat) (l : Ln) (r : Value) (hp : tmps.getD p undef = .pointer (some ⟨B, 0, none⟩)) (hu : tmps.getD u undef = r) (hB : Blk w B (lnA l) 33) :
    (results fn tmps).run Try.prog w = .ok (.tuple #[.agg (lnA l), r]) w := by
  rw [results_cell_tmp h, hp, hu]
  simp [asAddr, load_ln l w B hB, Result.andThen]
theorem below_setRow {B : Nat} {a w : World} (h : Below B a w) {g : Nat} (hg : B ≤ g) (cs : Array Value) : Below B a (w.setRow g cs) :=
  h.trans ⟨rfl, rfl, rfl, by rw [size_setRow]; exact Nat.le_refl _, fun k hk => Go.setRow_other w g k cs (by omega)⟩

set_option maxHeartbeats 1000000 in
set_option maxRecDepth 20000 in
theorem get_any (a m : Nat) (v : Value) (q : Nat) (L : List Ln) (s : Spot) (hs : ok64 s.1 ∧ ok64 s.2) (w : World) (hst : St w a m v q L) :
    Calls Try.prog 10 #[.pointer (some ⟨a, 0, none⟩), .int .i64 s.1, .int .i64 s.2] w fun e w' => ∃ v', e = .returned (.tuple #[.agg (lnA ((findLn L s).getD zeroLn)), .bool (findLn L s).isSome]) ∧ St w' a m v' q (touch L s) ∧ Fr (Fm a m v) w w' ∧ Near w v v' := by
  have hz := lnA_zero
  go_enter Try.func10, Try.ntmps10
  go_wp2
  have hsz : Hid (((w.alloc (.cells (lnA zeroLn) 33)).alloc (.cells #[.int .i64 s.1, .int .i64 s.2] 66)).heap.size = w.heap.size + 2) := by show _ = _; simp
  have hb0 := ((Below.refl w.heap.size w).alloc (Nat.le_refl _) (.cells (lnA zeroLn) 33)).alloc (by simp) (.cells #[.int .i64 s.1, .int .i64 s.2] 66)
  have hx1 : Blk ((w.alloc (.cells (lnA zeroLn) 33)).alloc (.cells #[.int .i64 s.1, .int .i64 s.2] 66)) w.heap.size (lnA zeroLn) 33 := (Blk.new _ _ _).alloc _
  have hx2 : Blk ((w.alloc (.cells (lnA zeroLn) 33)).alloc (.cells #[.int .i64 s.1, .int .i64 s.2] 66)) (w.heap.size + 1) #[.int .i64 s.1, .int .i64 s.2] 66 := by
    have := Blk.new (w.alloc (.cells (lnA zeroLn) 33)) #[.int .i64 s.1, .int .i64 s.2] 66
    simpa using this
  have st0 := hst.below hb0
  have l2 := hst.blk.lt
  generalize ((w.alloc (.cells (lnA zeroLn) 33)).alloc (.cells #[.int .i64 s.1, .int .i64 s.2] 66)) = W at *
  obtain ⟨f, hm, hF⟩ := st0.map
  obtain ⟨kl, hkl⟩ := spot_key s hs.1 hs.2
  have hbx := st0.blk
  have c2 := hbx.cell (j := 2) rfl
  have d0 := hx2.cell (j := 0) rfl
  have d1 := hx2.cell (j := 1) rfl
  have c2' := (hbx.alloc (.cells (lnA zeroLn) 33)).cell (j := 2) rfl
  have d0' := (hx2.alloc (.cells (lnA zeroLn) 33)).cell (j := 0) rfl
  have d1' := (hx2.alloc (.cells (lnA zeroLn) 33)).cell (j := 1) rfl
  have hff := findLn_f hF s
  have hlk1 : (Instr.lookup 61 (.map (some m)) (.agg #[.int .i64 s.1, .int .i64 s.2]) true).run Try.prog W.drew = .ok (.tuple #[.agg (lnA ((findLn L s).getD zeroLn)), .bool (findLn L s).isSome]) W.drew := by
    have := (MapF.drew hm).lookup_ok spot_keyed Try.underlying61 (lnA_zero W.drew) hkl
    rw [hff] at this
    revert this
    rcases findLn L s with _ | l <;> exact fun h => h
  have hlk2 : (Instr.lookup 61 (.map (some m)) (.agg #[.int .i64 s.1, .int .i64 s.2]) true).run Try.prog (W.alloc (.cells (lnA zeroLn) 33)).drew = .ok (.tuple #[.agg (lnA ((findLn L s).getD zeroLn)), .bool (findLn L s).isSome]) (W.alloc (.cells (lnA zeroLn) 33)).drew := by
    have := (MapF.drew (hm.alloc (.cells (lnA zeroLn) 33))).lookup_ok spot_keyed Try.underlying61 (lnA_zero _) hkl
    rw [hff] at this
    revert this
    rcases findLn L s with _ | l <;> exact fun h => h
  have Hkl := Lib.hid hkl
  have Hff := Lib.hid hff
  clear hkl hff
  have hls : ∀ l, (lnA l).size = 131 := lnA_size
  generalize hfl : findLn L s = fl at *
  have hsc : (storeCells ⟨W.heap.size, 0, none⟩ (lnA (fl.getD zeroLn)).toList).run Try.prog (W.alloc (.cells (lnA zeroLn) 33)).drew = .ok () ((W.alloc (.cells (lnA zeroLn) 33)).drew.setRow W.heap.size (lnA (fl.getD zeroLn))) := store_ln _ zeroLn _ _ (Blk.drew (Blk.new W _ _))
  have Hfl := Lib.hid hfl
  clear hfl
  go_region
  have hy1 : Blk ((W.alloc (.cells (lnA zeroLn) 33)).drew.setRow W.heap.size (lnA (fl.getD zeroLn))) W.heap.size (lnA (fl.getD zeroLn)) 33 := Blk.setRow (Blk.drew (Blk.new W _ _)) _
  have hbW : Below W.heap.size W ((W.alloc (.cells (lnA zeroLn) 33)).drew.setRow W.heap.size (lnA (fl.getD zeroLn))) := below_setRow ((Below.refl _ _).alloc (Nat.le_refl _) _).drew (Nat.le_refl _) _
  have hy2 := hx1.below hbW hx1.lt
  have hy3 := hx2.below hbW hx2.lt
  have hbw := hb0.trans (hbW.mono hb0.size)
  have st1 := st0.below hbW
  have hne : W.heap.size ≠ w.heap.size := by rw [hsz.out]; omega
  generalize (W.alloc (.cells (lnA zeroLn) 33)).drew.setRow W.heap.size (lnA (fl.getD zeroLn)) = W1 at *
  generalize W.heap.size = B at *
  clear c2 c2' d0 d1 d0' d1' hlk1 hlk2 hsc hm hbx st0 hb0 hx1 hx2 hbW
  clear W
  rcases fl with _ | l
  · go_wp2_with (first | (refine load_lnW rfl _ rfl B rfl _ hy1 ?_) | (refine store_lnW rfl _ _ rfl w.heap.size _ rfl rfl _ hy2 ?_) | fail)
    refine bodyPost_ret (ln_results _ 6 7 rfl _ _ w.heap.size zeroLn (.bool false) rfl rfl (hy2.setRow _)) rfl ⟨v, ?_, ?_, ?_, fun k hk => .inl hk⟩
    · rw [Hfl.out]; rfl
    · unfold touch
      rw [Hfl.out]
      exact hst.below (below_setRow hbw (Nat.le_refl _) _)
    · exact Fr.of_below (below_setRow hbw (Nat.le_refl _) _)
  · have hin := findLn_some Hfl.out
    have hlen : (L.map Ln.spot).length ≤ 100 := by
      have h1 := hst.len
      have h2 := hst.q8
      rw [List.length_map]
      omega
    have Cu := Lib.hid (use_any a q (.map (some m)) v (L.map Ln.spot) s W1 st1.blk st1.ord hlen)
    have e0 := hy3.cell (j := 0) rfl
    have e1 := hy3.cell (j := 1) rfl
    go_wp2_with (first | (refine load_lnW rfl _ rfl B rfl _ hy1 ?_) | (refine store_lnW rfl _ _ rfl w.heap.size _ rfl rfl _ hy2 ?_) | fail)
    refine Cu.out.mono ?_
    rintro e w2 ⟨rfl, v2, hbk, ho2, hfr2, hnear2⟩
    have hvlt : ∀ k, v.ownBlock = some k → k < w.heap.size := fun k hk => (hst.ord.lt k hk).2
    have hnf : ∀ k, w.heap.size ≤ k → ¬ Ft a v k := fun k hk h => h.elim (fun h => by omega) (fun h => by have := hvlt k h; omega)
    have hBw : w.heap.size ≤ B := by rw [hsz.out]; omega
    have hz1 := hfr2.blk hy1 (hnf B hBw)
    have hz2 := hfr2.blk hy2 (hnf _ (Nat.le_refl _))
    have hW1s : w.heap.size < W1.heap.size := hy2.lt
    obtain ⟨f1, hm1, hF1⟩ := st1.map
    have hma : a ≠ m := hm1.ne st1.blk
    have hvm := hm1.ne_ord st1.ord
    have hm2 := hfr2.map hm1 (fun h => h.elim (fun h => hma h.symm) (fun h => hvm h))
    have hlt1 := without_lt hin.1
    have hsp := hin.2
    have st2 : St w2 a m v2 q (without L l.spot ++ [l]) :=
      St.of_use hbk (by rw [hsp]; exact ho2) hm2 (hF1.put l (hF1.on l hin.1) (fun _ _ => rfl)) st1.nodup st1.ok (st1.ok l hin.1) (by
        have := st1.len
        simp only [List.length_append, List.length_cons, List.length_nil]
        omega) st1.q8
    have hw2 : Fr (Fm a m v) w w2 := (Fr.of_below hbw).trans hfr2 (fun k h => .inl (h.elim .inl (fun h => .inr (.inr h))))
    have hset : Fr (fun k => k = w.heap.size) w2 (w2.setRow w.heap.size (lnA l)) := ⟨rfl, rfl, rfl, by rw [size_setRow]; exact Nat.le_refl _, fun k _ hk => Go.setRow_other w2 _ k _ hk⟩
    have hmlt : m < w.heap.size := by
      obtain ⟨f0, hm0, _⟩ := hst.map
      exact hm0.lt
    have hfin : St (w2.setRow w.heap.size (lnA l)) a m v2 q (touch L s) := by
      have : touch L s = without L l.spot ++ [l] := by unfold touch; rw [Hfl.out, hsp]
      rw [this]
      refine st2.fr hset (fun k hk h => ?_)
      subst hk
      rcases h with h | h | h
      · omega
      · omega
      · rcases hnear2 _ h with h | h
        · have := hvlt _ h; omega
        · omega
    have hfrE : Fr (Fm a m v) w (w2.setRow w.heap.size (lnA l)) := hw2.trans hset (fun k hk => .inr (by omega))
    have hnE : Near w v v2 := fun k hk => (hnear2 k hk).elim .inl (fun h => .inr (by omega))
    have Hfin := Lib.hid hfin
    have HfrE := Lib.hid hfrE
    have HnE := Lib.hid hnE
    clear hfin hfrE hnE hset hw2 st2 hlt1 hm2 hvm hma hF1 hm1 hnear2 hfr2 ho2 hbk hsp hin
    go_wp2_with (first | (refine load_lnW rfl _ rfl B rfl _ hz1 ?_) | (refine store_lnW rfl _ _ rfl w.heap.size _ rfl rfl _ hz2 ?_) | fail)
    refine bodyPost_ret (ln_results _ 6 7 rfl _ _ w.heap.size l (.bool true) rfl rfl (hz2.setRow _)) rfl ⟨v2, ?_, Hfin.out, HfrE.out, HnE.out⟩
    rw [Hfl.out]; rfl
end Go.Proofs.Ytheilnaommcjjaa
