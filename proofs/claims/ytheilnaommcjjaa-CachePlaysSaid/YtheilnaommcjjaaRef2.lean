/-
  The document's cache: a line taken out; the dirty lines.
-/
import Derived.Test.YtheilnaommcjjaaRef1
namespace Go.Proofs.Ytheilnaommcjjaa
open Go.RowKit

theorem lns_mono {w : World} {B : Nat} {v : Value} {L : List Ln} (h : Lns w B v L) : Lns w 0 v L := by
  refine ⟨h.1, ?_⟩
  rcases h.2 with h1 | ⟨g, cap, cur, h1, h2, h3⟩
  · exact .inl h1
  · exact .inr ⟨g, cap, cur, h1, Nat.zero_le _, h3⟩
theorem lns_form {w : World} {B : Nat} {v : Value} {L : List Ln} (h : Lns w B v L) : ∃ A c, v = .slice A L.length c := by
  rcases h.2 with ⟨rfl, h0⟩ | ⟨g, cap, cur, rfl, _⟩
  · exact ⟨none, 0, by rw [h0]⟩
  · exact ⟨_, _, rfl⟩
theorem lns_block {w : World} {B : Nat} {A : Option Addr} {n c : Nat} {L : List Ln} (h : Lns w B (.slice A n c) L) {k o : Nat} (hA : A = some ⟨k, o, none⟩) : B ≤ k ∧ k < w.heap.size := by
  subst hA
  exact lns_lt h k rfl

/-- what 'out' leaves -/
def OutPost (w : World) (r q : Nat) (A : Option Addr) (l : Ln) (L' : List Ln) (e : Ending) (w' : World) : Prop :=
  ∃ A' c', e = .returned (.agg (lnA l)) ∧ RSt w' 0 r q A' c' L' ∧ Grow (Rm r A) (Rm r A') w w'
set_option maxHeartbeats 1000000 in
set_option maxRecDepth 20000 in
theorem out_any (r q c : Nat) (A : Option Addr) (L : List Ln) (i : Nat) (l : Ln) (hi : L[i]? = some l) (w : World) (h : RSt w 0 r q A c L) :
    Calls Try.prog 32 #[.pointer (some ⟨r, 0, none⟩), .int .i64 i] w (OutPost w r q A l (L.eraseIdx i)) := by
  have hlt := (List.getElem?_eq_some_iff.1 hi).1
  have hL := h.len
  have hLI : (L.length : Int) ≤ 9 := by omega
  have hiI : (i : Int) < (L.length : Int) := by omega
  have lr := h.blk.lt
  obtain ⟨g, rfl, _, hg, hcl⟩ := h.at hi
  have hz := lnA_zero
  have hfs := lnA_size
  have hb1 : Below w.heap.size w (w.alloc (.cells (lnA zeroLn) 33)) := (Below.refl _ _).alloc (Nat.le_refl _) _
  have hN1 := Blk.new w (lnA zeroLn) 33
  have k1 := (h.blk.below hb1 lr).cell (j := 1) rfl
  have Hld := Lib.hid (loadVar_mid l (w.alloc (.cells (lnA zeroLn) 33)) g (i * 131) (fun j hj => by rw [hb1.cell (p := ⟨g, i * 131 + j, none⟩) hg]; exact hcl j hj))
  have hN2 : Blk ((w.alloc (.cells (lnA zeroLn) 33)).alloc (.cells (lnA zeroLn) 33)) (w.heap.size + 1) (lnA zeroLn) 33 := by
    have := Blk.new (w.alloc (.cells (lnA zeroLn) 33)) (lnA zeroLn) 33
    simpa using this
  have hb2 : Below w.heap.size w (((w.alloc (.cells (lnA zeroLn) 33)).alloc (.cells (lnA zeroLn) 33)).setRow (w.heap.size + 1) (lnA l)) := below_setRow (hb1.alloc (by simp) _) (by omega) _
  have hX1 : Blk (((w.alloc (.cells (lnA zeroLn) 33)).alloc (.cells (lnA zeroLn) 33)).setRow (w.heap.size + 1) (lnA l)) w.heap.size (lnA zeroLn) 33 := (hN1.alloc _).setRow_other _ (by omega)
  have hX2 : Blk (((w.alloc (.cells (lnA zeroLn) 33)).alloc (.cells (lnA zeroLn) 33)).setRow (w.heap.size + 1) (lnA l)) (w.heap.size + 1) (lnA l) 33 := hN2.setRow _
  have HH := Lib.hid h
  have Hi := Lib.hid hi
  clear h hi hcl hN1
  go_enter Try.func32, Try.ntmps32
  go_wp2_with (first | (refine loadW rfl 33 _ rfl ⟨g, i * 131, none⟩ rfl _ Hld.out ?_) | (refine store_lnW rfl _ _ rfl (w.heap.size + 1) l rfl rfl zeroLn hN2 ?_) | fail)
  clear k1 Hld hN2 hb1
  generalize ((w.alloc (.cells (lnA zeroLn) 33)).alloc (.cells (lnA zeroLn) 33)).setRow (w.heap.size + 1) (lnA l) = W0 at *
  have H0 := Lib.hid (HH.out.below hb2)
  have hs0 : w.heap.size + 1 < W0.heap.size := hX2.lt
  go_loopw [6, 7] (fun v6 k wr => ∃ j : Nat, j ≤ L.length ∧ k = .int .i64 j ∧ Hid (Lns wr W0.heap.size v6 ((L.take j).eraseIdx i)) ∧ Hid (Below W0.heap.size W0 wr)) (fun _ k _ => (L.length - intOf k).toNat)
  case atStart => exact ⟨0, Nat.zero_le _, rfl, by
    show Lns W0 W0.heap.size _ _
    rw [List.take_zero, List.eraseIdx_nil]
    exact World.ownsRow_nil _ _ 33 131, Below.refl _ _⟩
  case round =>
    obtain ⟨j, hj, rfl, hO, hB⟩ := hrel
    have bk := H0.out.blk.below hB.out H0.out.blk.lt
    have b1 := bk.cell (j := 1) rfl
    by_cases hlj : (j : Int) < (L.length : Int)
    · obtain ⟨x, hx⟩ : ∃ x, L[j]? = some x := ⟨L[j]'(by omega), List.getElem?_eq_getElem (by omega)⟩
      have hstep := erase_take (i := i) hx
      by_cases hji : j = i
      · have ht : ((j : Int) != (i : Int)) = false := by rw [bne_eq_false_iff_eq]; omega
        rw [if_pos hji, List.append_nil] at hstep
        have Hst := Lib.hid hstep
        have Hji := Lib.hid hji
        clear hji hstep hx
        go_wp2
        exact ⟨⟨j + 1, by omega, rfl, by rw [Hst.out]; exact hO, hB.out⟩, by simp only [intOf]; omega⟩
      · have ht : ((j : Int) != (i : Int)) = true := by rw [bne_iff_ne]; omega
        rw [if_neg hji] at hstep
        have Hst := Lib.hid hstep
        obtain ⟨g', hg', _, hgl, hcl⟩ := H0.out.at hx
        have : g' = g := by injection hg' with hg'; injection hg' with hg'; exact hg'.symm
        subst this
        have Hld := Lib.hid (loadVar_mid x wr g' (j * 131) (fun t ht => by rw [hB.out.cell (p := ⟨g', j * 131 + t, none⟩) hgl]; exact hcl t ht))
        have hfold := fold_ln x
        have hO2 := Lib.hid (lns_below hO.out ((Below.refl _ _).alloc (Nat.le_refl _) (.cells (lnA x) 33)))
        have hB2 := Lib.hid (Blk.new wr (lnA x) 33)
        have hlen : ((L.take j).eraseIdx i).length ≤ 1000 := by
          have h1 := List.length_eraseIdx_le (L.take j) i
          rw [List.length_take] at h1
          omega
        have hbase : W0.heap.size ≤ (wr.alloc (.cells (lnA x) 33)).heap.size := by rw [World.size_alloc]; have := hB.out.size; omega
        obtain ⟨A6, c6, hv6⟩ := lns_form hO.out
        subst hv6
        clear hji hstep hx hcl hg'
        go_wp2_with (first | (refine loadW rfl 33 _ rfl ⟨g', j * 131, none⟩ rfl _ Hld.out ?_) | (at_builtin; refine appendW_ln rfl (.tmp 27) (.tmp 35) rfl W0.heap.size _ ((L.take j).eraseIdx i) rfl hO2.out wr.heap.size 1 x rfl hB2.out hlen hbase ?_; intro g8 cap8 w8 hl8 hgr8 hat8 hlt8; have Hl8 := Lib.hid hl8; have Hgr8 := Lib.hid hgr8; clear hl8 hgr8 hat8) | fail)
        have hB8 : Below W0.heap.size W0 w8 := (hB.out.alloc hB.out.size _).grown Hgr8.out hbase (fun k hk => (lns_lt hO2.out k hk).1)
        refine ⟨⟨j + 1, by omega, rfl, ?_, hB8⟩, by simp only [intOf]; omega⟩
        unfold Hid
        rw [Hst.out]
        exact Hl8.out
    · obtain rfl : j = L.length := by omega
      have hO' := hO.out
      rw [List.take_length] at hO'
      obtain ⟨A6, c6, hv6⟩ := lns_form hO'
      subst hv6
      have HO := Lib.hid hO'
      have y2 := hX2.below hB.out hX2.lt
      have y1 := hX1.below hB.out hX1.lt
      have f1 := bk.frozen 1
      have z2 : Blk (wr.setCell ⟨r, 1, none⟩ (.slice A6 (L.eraseIdx i).length c6)) (w.heap.size + 1) (lnA l) 33 := y2.other (by show r ≠ _; omega) _
      have z1 : Blk (wr.setCell ⟨r, 1, none⟩ (.slice A6 (L.eraseIdx i).length c6)) w.heap.size (lnA zeroLn) 33 := y1.other (by show r ≠ _; omega) _
      clear hO'
      go_wp2_with (first | (refine load_lnW rfl _ rfl (w.heap.size + 1) rfl _ z2 ?_) | (refine store_lnW rfl _ _ rfl w.heap.size l rfl rfl zeroLn z1 ?_) | fail)
      have fs := fr_set wr ⟨r, 1, none⟩ (.slice A6 (L.eraseIdx i).length c6)
      have fr2 : Fr (fun k => k = w.heap.size) (wr.setCell ⟨r, 1, none⟩ (.slice A6 (L.eraseIdx i).length c6)) ((wr.setCell ⟨r, 1, none⟩ (.slice A6 (L.eraseIdx i).length c6)).setRow w.heap.size (lnA l)) := ⟨rfl, rfl, rfl, by rw [size_setRow]; exact Nat.le_refl _, fun k _ hk => Go.setRow_other _ _ k _ hk⟩
      refine bodyPost_ret (results_cell_row rfl _ _ w.heap.size 33 (lnA l) (0, 0) _ rfl (z1.setRow _) Try.underlying33 rfl (lnA_info l)) rfl ?_
      have hrl : r < W0.heap.size := by omega
      refine ⟨A6, c6, rfl, ⟨?_, ?_, Nat.le_trans (List.length_eraseIdx_le _ _) hL⟩, ?_, ?_⟩
      · exact fr2.blk (bk.set 1 _) (by omega)
      · refine lns_mono (lns_fr (lns_fr HO.out fs (fun k hk (he : k = r) => ?_)) fr2 (fun k hk (he : k = w.heap.size) => ?_))
        · have := (lns_lt HO.out k hk).1; omega
        · have := (lns_lt HO.out k hk).1; omega
      · have a1 : Fr (Rm r (some ⟨g, 0, none⟩)) w W0 := Fr.of_below hb2
        have a2 : Fr (Rm r (some ⟨g, 0, none⟩)) W0 wr := Fr.of_below hB.out
        exact ((a1.trans a2 (fun _ h => .inl h)).trans fs (fun k hk => .inl (.inl hk))).trans fr2 (fun k (hk : k = w.heap.size) => .inr (by omega))
      · rintro k (hk | ⟨o, hk⟩)
        · exact .inl (.inl hk)
        · right
          have := (lns_block HO.out hk).1
          omega
end Go.Proofs.Ytheilnaommcjjaa
