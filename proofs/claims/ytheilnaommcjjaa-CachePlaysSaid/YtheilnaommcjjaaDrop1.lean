/-
  Drop's closure, and slices.IndexFunc over it.
-/
import Derived.Test.YtheilnaommcjjaaClean
namespace Go.Proofs.Ytheilnaommcjjaa
open Go.RowKit
open Go.Maps (Keyed)

set_option maxHeartbeats 400000 in
theorem drop1_no (bu bc : Nat) (u : Int) (s : Spot) (hu : s.1 ≠ u) (w : World) (h1 : Blk w bu #[.int .i64 u] 3) :
    Calls Try.prog 30 #[spotV s, .pointer (some ⟨bu, 0, none⟩), .pointer (some ⟨bc, 0, none⟩)] w fun e w' => e = .returned (.bool false) ∧ Below w.heap.size w w' := by
  have hne : (s.1 == u) = false := beq_eq_false_iff_ne.2 hu
  have c1 := (h1.alloc (.cells #[.int .i64 s.1, .int .i64 s.2] 66)).cell (j := 0) rfl
  unfold spotV spotA
  go_enter Try.func30, Try.ntmps30
  go_wp2
  go_ret
  exact ⟨rfl, (Below.refl _ _).alloc (Nat.le_refl _) _⟩

set_option maxHeartbeats 400000 in
theorem drop1_yes (bu bc a m : Nat) (u : Int) (c0 c1 : Value) (f : Value → Option Value) (s : Spot) (hs : ok64 s.1 ∧ ok64 s.2) (hu : s.1 = u) (w : World) (h1 : Blk w bu #[.int .i64 u] 3) (h2 : Blk w bc #[.pointer (some ⟨a, 0, none⟩)] 25)
    (h3 : Blk w a #[c0, c1, .map (some m)] 64) (h4 : MapF Try.prog 66 w m f) :
    Calls Try.prog 30 #[spotV s, .pointer (some ⟨bu, 0, none⟩), .pointer (some ⟨bc, 0, none⟩)] w fun e w' => e = .returned (.bool true) ∧ Fr (fun k => k = m) w w' ∧ ∀ g, g (spotV s) = none → (∀ y, y ≠ spotV s → g y = f y) → MapF Try.prog 66 w' m g := by
  subst hu
  have l1 := h1.lt
  have l2 := h2.lt
  have l3 := h3.lt
  have l4 := h4.lt
  have hb := (Below.refl w.heap.size w).alloc (Nat.le_refl _) (.cells #[.int .i64 s.1, .int .i64 s.2] 66)
  have hN := Blk.new w #[.int .i64 s.1, .int .i64 s.2] 66
  have k1 := h1.alloc (.cells #[.int .i64 s.1, .int .i64 s.2] 66)
  have k2 := h2.alloc (.cells #[.int .i64 s.1, .int .i64 s.2] 66)
  have k3 := h3.alloc (.cells #[.int .i64 s.1, .int .i64 s.2] 66)
  have k4 := h4.alloc (.cells #[.int .i64 s.1, .int .i64 s.2] 66)
  have x1 := k1.cell (j := 0) rfl
  unfold spotV spotA
  go_enter Try.func30, Try.ntmps30
  go_wp2
  generalize w.alloc (.cells #[.int .i64 s.1, .int .i64 s.2] 66) = w0 at *
  have x2 := hN.cell (j := 0) rfl
  have x3 := hN.cell (j := 1) rfl
  have x4 := k2.cell (j := 0) rfl
  have x5 := k3.cell (j := 2) rfl
  obtain ⟨kl, hkl⟩ := spot_key s hs.1 hs.2
  obtain ⟨w2, hdel0, hgr2, hmap2⟩ := (MapF.drew k4).delete spot_keyed Try.underlying61 hkl (ty := 0)
  have HM2 := Lib.hid hmap2
  clear hmap2
  have hdel : ∀ ty, (Builtin.delete_ #[61, 66] ty #[.map (some m), .agg #[.int .i64 s.1, .int .i64 s.2]]).run Try.prog w0.drew = .ok (.tuple #[]) w2 := fun ty => hdel0
  clear hdel0 hkl
  refine wp_region_still_tail 5 (by kernel_rfl) (by kernel_rfl) ?_
  simp only [List.take_succ_cons, List.take_zero, List.drop_succ_cons, List.drop_zero]
  repeat (refine wpStill_step (fun K hK => ?_); go_simp; (try go_ints); (try go_simp); refine hK _ ?_; clear hK K)
  refine wpStill_nil ?_
  change wpList _ _ _ _ _ w0.drew
  have q1 : Blk w2 bu #[.int .i64 s.1] 3 := by
    unfold Blk; rw [hgr2.block _ k1.lt (fun h => ?_)]
    · exact k1
    · have e := Option.some.inj h
      subst e
      obtain ⟨es, clock, h5, _⟩ := h4
      unfold Blk at h1
      rw [h1] at h5
      cases h5
  have q2 : Blk w2 w.heap.size #[.int .i64 s.1, .int .i64 s.2] 66 := by
    unfold Blk; rw [hgr2.block _ hN.lt (fun h => by have := Option.some.inj h; omega)]; exact hN
  have y1 := q1.cell (j := 0) rfl
  have y2 := q2.cell (j := 0) rfl
  go_wp2
  go_ret
  refine ⟨rfl, ?_, HM2.out⟩
  exact (Fr.of_below hb : Fr (fun k => k = m) w w0).drew'.trans (Fr.of_grown (F := fun k => k = m) hgr2 (fun k hk => (Option.some.inj hk).symm)) (fun _ h => .inl h)

def inU (u : Int) (s : Spot) : Bool := decide (s.1 ≠ u)
/-- slices.IndexFunc over Drop's closure -/
def FoundU (w : World) (m : Nat) (f : Value → Option Value) (u : Int) (S : List Spot) (e : Ending) (w' : World) : Prop :=
  (e = .returned (.int .i64 (-1)) ∧ (∀ s ∈ S, s.1 ≠ u) ∧ Below w.heap.size w w') ∨
  ∃ i s, S[i]? = some s ∧ s.1 = u ∧ (∀ j x, j < i → S[j]? = some x → x.1 ≠ u) ∧ e = .returned (.int .i64 (i : Nat)) ∧ Fr (fun k => k = m) w w' ∧ ∀ g, g (spotV s) = none → (∀ y, y ≠ spotV s → g y = f y) → MapF Try.prog 66 w' m g

set_option maxHeartbeats 400000 in
theorem indexU_any (bu bc a m : Nat) (u : Int) (c0 c1 : Value) (f : Value → Option Value) (v : Value) (S : List Spot) (w : World) (ho : Ord w v S) (hok : ∀ s ∈ S, ok64 s.1 ∧ ok64 s.2)
    (h1 : Blk w bu #[.int .i64 u] 3) (h2 : Blk w bc #[.pointer (some ⟨a, 0, none⟩)] 25) (h3 : Blk w a #[c0, c1, .map (some m)] 64) (h4 : MapF Try.prog 66 w m f) :
    Calls Try.prog 35 #[v, .func (.func 30) #[] #[.pointer (some ⟨bu, 0, none⟩), .pointer (some ⟨bc, 0, none⟩)]] w (FoundU w m f u S) := by
  rcases ho.form with ⟨rfl, rfl⟩ | ⟨g, cap, rfl, hn, hc, hg, hcell⟩
  · go_enter Try.func35, Try.ntmps35
    go_wp2
    go_loop [5, 8] (fun _ i => i = .int .i64 0) (fun _ _ => 0)
    case atStart => rfl
    case round =>
      cases hrel
      go_wp2
      go_ret
      exact .inl ⟨rfl, by simp, Below.refl _ _⟩
  · have hI : (S.length : Int) ≤ 9223372036854775807 := by simp only [maxLen] at hc; omega
    have l1 := h1.lt
    have l2 := h2.lt
    have l3 := h3.lt
    have l4 := h4.lt
    go_enter Try.func35, Try.ntmps35
    go_wp2
    go_loopw [5, 8] (fun _ i wr => ∃ k : Nat, k ≤ S.length ∧ i = .int .i64 k ∧ Hid (∀ j x, j < k → S[j]? = some x → x.1 ≠ u) ∧ Below w.heap.size w wr) (fun _ i _ => (S.length - intOf i).toNat)
    case atStart => exact ⟨0, Nat.zero_le _, rfl, by unfold Hid; intro j x hj; omega, Below.refl _ _⟩
    case round =>
      obtain ⟨k, hk, rfl, hH, hbl⟩ := hrel
      by_cases hlt : (k : Int) < (S.length : Int)
      · obtain ⟨s, hs⟩ : ∃ s, S[k]? = some s := ⟨S[k]'(by omega), List.getElem?_eq_getElem (by omega)⟩
        have hsm : s ∈ S := List.mem_of_getElem? hs
        obtain ⟨c1', c2'⟩ := hcell k s hs
        rw [← hbl.cell (p := ⟨g, k * 2, none⟩) hg] at c1'
        rw [← hbl.cell (p := ⟨g, k * 2 + 1, none⟩) hg] at c2'
        by_cases hu : s.1 = u
        · have C := Lib.hid (drop1_yes bu bc a m u c0 c1 f s (hok s hsm) hu wr (h1.below hbl l1) (h2.below hbl l2) (h3.below hbl l3) (h4.kept' (hbl.block m l4)))
          have Ht := Lib.hid hs
          have Hu := Lib.hid hu
          clear hcell ho h1 h2 h3 h4 hok hs hsm hu
          go_wp2_with fail
          refine C.out.mono ?_
          rintro e w2 ⟨rfl, fr2, hm2⟩
          have HM2 := Lib.hid hm2
          clear hm2
          go_wp2
          go_ret
          exact .inr ⟨k, s, Ht.out, Hu.out, hH.out, rfl, (Fr.of_below hbl : Fr (fun k => k = m) w wr).trans fr2 (fun _ h => .inl h), HM2.out⟩
        · have C := Lib.hid (drop1_no bu bc u s hu wr (h1.below hbl l1))
          have Ht := Lib.hid hs
          have Hu := Lib.hid hu
          clear hcell ho h1 h2 h3 h4 hok hs hsm hu
          go_wp2_with fail
          refine C.out.mono ?_
          rintro e w2 ⟨rfl, hb2⟩
          have hbl2 := hbl.trans (hb2.mono hbl.size)
          go_wp2
          refine ⟨⟨k + 1, by omega, rfl, ?_, hbl2⟩, by simp only [intOf]; omega⟩
          unfold Hid
          intro j x hj hx
          by_cases hjk : j = k
          · subst hjk
            rw [Ht.out] at hx
            rw [← Option.some.inj hx]
            exact Hu.out
          · exact hH.out j x (by omega) hx
      · obtain rfl : k = S.length := by omega
        go_wp2
        go_ret
        refine .inl ⟨rfl, fun s hs => ?_, hbl⟩
        obtain ⟨j, hj⟩ := List.mem_iff_getElem?.1 hs
        exact hH.out j s (List.getElem?_eq_some_iff.1 hj).1 hj
end Go.Proofs.Ytheilnaommcjjaa
