import Derived.Test.YtheilnaommcjjaaGet
namespace Go.Proofs.Ytheilnaommcjjaa
open Go.RowKit
open Go.Maps (Keyed)

/-- lines, cell by cell -/
def lr : List Ln → List Value
  | [] => []
  | l :: r => (lnA l).toList ++ lr r
theorem lr_append : ∀ L M : List Ln, lr (L ++ M) = lr L ++ lr M
  | [], _ => rfl
  | l :: r, M => by simp [lr, lr_append r M]
theorem lr_len : ∀ L : List Ln, (lr L).length = L.length * 131
  | [] => rfl
  | l :: r => by simp only [lr, List.length_append, List.length_cons, lr_len r, Array.length_toList, lnA_size]; omega
theorem lr_one (L : List Ln) : ∀ u ∈ lr L, u.oneCell' = true := by
  induction L with
  | nil => intro u hu; simp [lr] at hu
  | cons l r ih =>
    intro u hu
    rcases List.mem_append.1 hu with h | h
    · exact Array.all_eq_true_iff_forall_mem.1 (lnA_all l) u (by simpa using h)
    · exact ih u h
theorem lr_at : ∀ (L : List Ln) (i j : Nat) (l : Ln), L[i]? = some l → j < 131 → (lr L)[i * 131 + j]? = some (lnE l j)
  | [], i, j, l, h, _ => by simp at h
  | x :: r, 0, j, l, h, hj => by
    simp at h
    subst h
    simp only [lr, Nat.zero_mul, Nat.zero_add]
    rw [List.getElem?_append_left (by rw [Array.length_toList, lnA_size]; exact hj)]
    have := lnA_at x j hj
    simpa using this
  | x :: r, i + 1, j, l, h, hj => by
    have := lr_at r i j l (by simpa using h) hj
    simp only [lr]
    rw [List.getElem?_append_right (by rw [Array.length_toList, lnA_size]; omega), Array.length_toList, lnA_size, show (i + 1) * 131 + j - 131 = i * 131 + j from by omega]
    exact this
/-- v is a slice of just these lines, of the callee's own making -/
def Lns (w : World) (base : Nat) (v : Value) (L : List Ln) : Prop := w.ownsRow base 33 131 v L.length (lr L)

theorem build_ln (l : Ln) (w : World) : (Instr.buildSlice 37 1 #[(0, .agg (lnA l))]).run Try.prog w = .ok (.slice (some ⟨w.heap.size, 0, none⟩) 1 1) (w.alloc (.cells (lnA l) 33)) := by kernel_rfl
theorem build_b (b : Int) (w : World) : (Instr.build 33 #[(1, .int .i64 b)]).run Try.prog w = .ok (.agg (lnA ⟨0, b, 0, false⟩)) w := by kernel_rfl
theorem build_bd (b : Int) (d : Bool) (w : World) : (Instr.build 33 #[(1, .int .i64 b), (3, .bool d)]).run Try.prog w = .ok (.agg (lnA ⟨0, b, 0, d⟩)) w := by kernel_rfl
theorem fold_list : ∀ (vs : List Value) (k : Nat) (cs : Array Value), k + vs.length ≤ cs.size → ((vs.zipIdx k).foldl (fun cs x => cs.setIfInBounds x.2 x.1) cs).toList = cs.toList.take k ++ vs ++ cs.toList.drop (k + vs.length)
  | [], k, cs, _ => by simp
  | v :: r, k, cs, h => by
    simp only [List.length_cons] at h
    rw [List.zipIdx_cons, List.foldl_cons, fold_list r (k + 1) _ (by simp; omega)]
    have hk : k < cs.toList.length := by simp; omega
    simp only [Array.toList_setIfInBounds, List.length_cons]
    rw [List.take_set, List.drop_set_of_lt (by omega), show k + 1 + r.length = k + (r.length + 1) from by omega]
    have : (List.take (k + 1) cs.toList).set k v = List.take k cs.toList ++ [v] := by
      rw [List.take_succ_eq_append_getElem hk, List.set_append_right _ _ (by simp; omega)]
      rw [List.length_take, Nat.min_eq_left (Nat.le_of_lt hk), Nat.sub_self]
      rfl
    rw [this]
    simp
theorem fold_ln (l : Ln) (cs : Array Value) (h : cs.size = 131) : Array.foldl (fun cs (x : Value × Nat) => cs.setIfInBounds x.snd x.fst) cs (lnA l).zipIdx 0 131 = lnA l := by
  have hs : (lnA l).zipIdx.size = 131 := by simp [lnA_size]
  conv => lhs; rw [show (131 : Nat) = (lnA l).zipIdx.size from hs.symm]
  rw [← Array.foldl_toList, Array.toList_zipIdx]
  apply Array.toList_inj.1
  rw [fold_list _ 0 cs (by rw [Array.length_toList, lnA_size]; omega)]
  rw [List.drop_eq_nil_of_le (by rw [Array.length_toList, Array.length_toList, lnA_size]; omega)]
  simp
theorem news_ln {w : World} {g : Nat} {l : Ln} (h : Blk w g (lnA l) 33) : ∀ j u, (lr [l])[j]? = some u → w.cell? ((⟨g, 0, none⟩ : Addr).add j) = some u := by
  intro j u hu
  have hadd : (⟨g, 0, none⟩ : Addr).add j = ⟨g, j, none⟩ := by unfold Addr.add; split <;> simp_all
  rw [hadd]
  exact h.cell (by simpa [lr] using hu)
theorem lines_nil (w : World) : Calls Try.prog 12 #[.pointer none] w fun e w' => e = .returned (.slice none 0 0) ∧ w' = w := by
  go_enter Try.func12, Try.ntmps12
  go_wp2
  go_ret
  exact ⟨rfl, rfl⟩

set_option maxHeartbeats 1000000 in
set_option maxRecDepth 20000 in
theorem lines_any (a m : Nat) (v : Value) (q : Nat) (L : List Ln) (w : World) (hst : St w a m v q L) :
    Calls Try.prog 12 #[.pointer (some ⟨a, 0, none⟩)] w fun e w' => ∃ rv, e = .returned rv ∧ Lns w' w.heap.size rv L ∧ Below w.heap.size w w' := by
  have hz := lnA_zero
  obtain ⟨f, hm, hF⟩ := hst.map
  have hq8 := hst.q8
  have hlq := hst.len
  have hblk := hst.blk
  have c1 := hblk.cell (j := 1) rfl
  obtain ⟨A2, z2, rfl⟩ : ∃ A c, v = .slice A L.length c := by obtain ⟨A, c, e⟩ := hst.ord.slice; rw [List.length_map] at e; exact ⟨A, c, e⟩
  go_enter Try.func12, Try.ntmps12
  go_wp2
  have hbld := fun l => build_ln l
  have hLI : (L.length : Int) ≤ 8 := by omega
  go_loopw [3, 5, 13] (fun o _ i wr => ∃ k : Nat, k ≤ L.length ∧ i = .int .i64 k ∧ Hid (Lns wr w.heap.size o (L.take k)) ∧ Hid (Below w.heap.size w wr)) (fun _ _ i _ => (L.length - intOf i).toNat)
  case atStart => exact ⟨0, Nat.zero_le _, rfl, World.ownsRow_nil w _ 33 131, Below.refl _ _⟩
  case round =>
    obtain ⟨k, hk, rfl, hO, hB⟩ := hrel
    by_cases hlt : (k : Int) < (L.length : Int)
    · have hst' := hst.below hB.out
      obtain ⟨l, hl⟩ : ∃ l, L[k]? = some l := ⟨L[k]'(by omega), List.getElem?_eq_getElem (by omega)⟩
      have hlm : l ∈ L := List.mem_of_getElem? hl
      rcases hst'.ord.form with ⟨_, h0⟩ | ⟨g, cap, hv, hn, hc, hg, hcell⟩
      · have : L.length = 0 := by rw [List.map_eq_nil_iff.1 h0]; rfl
        omega
      injection hv with hv1 hv2 hv3
      clear hv2
      subst hv1
      subst hv3
      obtain ⟨e1, e2⟩ := hcell k l.spot (by rw [List.getElem?_map, hl]; rfl)
      clear hcell
      have Hl := Lib.hid hl
      clear hl
      go_wp2
      obtain ⟨o0, hu3⟩ : ∃ o, o = u3 := ⟨_, rfl⟩
      have hob : Below w.heap.size w (wr.alloc (.cells #[.int .i64 l.spot.1, .int .i64 l.spot.2] 66)) := hB.out.alloc hB.out.size _
      have hx1 := Blk.new wr #[.int .i64 l.spot.1, .int .i64 l.spot.2] 66
      have hx0 : Blk (wr.alloc (.cells #[.int .i64 l.spot.1, .int .i64 l.spot.2] 66)) a _ 64 := hst'.blk.alloc _
      have hO1 : Lns (wr.alloc (.cells #[.int .i64 l.spot.1, .int .i64 l.spot.2] 66)) w.heap.size u3 (L.take k) := World.ownsRow.alloc hO.out _
      have hm1 : MapF Try.prog 66 (wr.alloc (.cells #[.int .i64 l.spot.1, .int .i64 l.spot.2] 66)) m f := (hm.kept' (hB.out.block m hm.lt)).alloc _
      generalize wr.alloc (.cells #[.int .i64 l.spot.1, .int .i64 l.spot.2] 66) = W at *
      generalize wr.heap.size = bx at *
      obtain ⟨kl, hkl⟩ := spot_key l.spot (hst'.ok l hlm).1 (hst'.ok l hlm).2
      have hlk : (Instr.lookup 61 (.map (some m)) (.agg #[.int .i64 l.spot.1, .int .i64 l.spot.2]) false).run Try.prog W.drew = .ok (.agg (lnA l)) W.drew := by
        have h := (MapF.drew hm1).lookup spot_keyed Try.underlying61 (lnA_zero W.drew) hkl
        rw [hF.on l hlm] at h
        exact h
      have c2 := hx0.cell (j := 2) rfl
      have d0 := hx1.cell (j := 0) rfl
      have d1 := hx1.cell (j := 1) rfl
      have ho6 : Hid (Lns (W.drew.alloc (.cells (lnA l) 33)) w.heap.size u3 (L.take k)) := World.ownsRow.alloc (w := W.drew) hO1 _
      have hnw := Blk.new W.drew (lnA l) 33
      have hsz6 : Hid ((W.drew.alloc (.cells (lnA l) 33)).heap.size = W.heap.size + 1) := by show _ = _; simp
      have hbw6 : Hid (Below w.heap.size w (W.drew.alloc (.cells (lnA l) 33))) := (hob.drew).alloc hob.size _
      have Hc : Hid (∀ j u, (lr [l])[j]? = some u → (W.drew.alloc (.cells (lnA l) 33)).cell? ((⟨W.heap.size, 0, none⟩ : Addr).add j) = some u) := news_ln hnw
      obtain ⟨i0, hi0, hz0, hz1, hz2⟩ := info_parts (show (Try.prog.info? 33).map (fun i => (i.zero, i.size, i.bytes)) = some (some (.agg (lnA zeroLn)), 131, 152) by kernel_rfl)
      have hlen6 : (L.take k).length = k := by rw [List.length_take]; omega
      have Hlen := Lib.hid hlen6
      have hlt6 : Hid ((L.take k).length + 1 ≤ 8) := by unfold Hid; omega
      have hone := Lib.hid (lr_one [l])
      have hzs : (Value.agg (lnA zeroLn)).cells.size = 131 := lnA_size zeroLn
      have Hzs := Lib.hid hzs
      have hWs : w.heap.size ≤ W.heap.size := hob.size
      clear hlen6 hzs hkl hnw hO1 hO hob hm hst hst' hblk c1
      have hfs := lnA_size
      have hfold := fold_ln l
      go_region_law (
        refine step_append_lies _ rfl (.tmp 17) (.tmp 24) 37 rfl w.heap.size 33 i0 _ 131 152 Try.underlying37 hi0 hz0 hz1 hz2 Hzs.out (by omega) u3 (L.take k).length (lr (L.take k)) (by simp [Act.eval]) ho6.out ⟨W.heap.size, 0, none⟩ 1 1 (lr [l]) (by simp [Act.eval]) (lr_len [l]) Hc.out hone.out (by omega) (by have := hlt6.out; simp only [maxLen]; omega) (by have := hlt6.out; omega) hbw6.out.size (W.heap.size + 1) hsz6.out ?_
        intro g6 cap6 w6 hown6 hgr6 hat6 hlt7
        have Ho6 := Lib.hid hown6
        have Hg6 := Lib.hid hgr6
        clear hown6 hgr6 hat6)
      all_goals (
        have hB6 : Hid (Below w.heap.size w w6) := (hbw6.out : Below _ _ _).grown Hg6.out hbw6.out.size (fun k hk => (World.ownsRow.lt ho6.out k hk).1)
        have hT : Hid (Lns w6 w.heap.size (.slice (some ⟨g6, 0, none⟩) ((L.take k).length + 1) cap6) (L.take (k + 1))) := by
          have e : L.take (k + 1) = L.take k ++ [l] := by
            rw [List.take_add_one, Hl.out]
            rfl
          unfold Hid Lns
          rw [e, List.length_append, lr_append]
          exact Ho6.out
        go_wp2
        rw [Hlen.out] at hT
        exact ⟨⟨k + 1, by omega, rfl, hT, hB6⟩, by simp only [intOf]; omega⟩)
    · obtain rfl : k = L.length := by omega
      go_wp2
      go_ret
      refine ⟨_, rfl, ?_, hB.out⟩
      have := hO.out
      rw [List.take_length] at this
      exact this
end Go.Proofs.Ytheilnaommcjjaa
