/-
  Drop: a unit's lines are gone behind it; it answers how many they were.
-/
import Derived.Test.YtheilnaommcjjaaDrop2
import Derived.Deep.RegionHeld3
namespace Go.Proofs.Ytheilnaommcjjaa
open Go.RowKit
open Go.Maps (Keyed)

def dropL (u : Int) (L : List Ln) : List Ln := L.filter (fun l => decide (l.u ≠ u))
theorem dropL_spots (u : Int) (L : List Ln) : (dropL u L).map Ln.spot = keepU u (L.map Ln.spot) := by
  unfold dropL keepU
  rw [List.filter_map]
  rfl
theorem Fun.drop {L : List Ln} {u : Int} {f f' : Value → Option Value} (h : Fun L f) (hg : Gone u (L.map Ln.spot) f f') : Fun (dropL u L) f' := by
  refine ⟨fun l hl => ?_, fun s hs => ?_⟩
  · obtain ⟨h1, h2⟩ := List.mem_filter.1 hl
    have h3 : l.u ≠ u := of_decide_eq_true h2
    rw [hg.on _ (fun t ht htu he => h3 (by rw [← htu, ← spotV_inj he]; rfl))]
    exact h.on l h1
  · by_cases hsu : s.1 = u
    · by_cases hm : s ∈ L.map Ln.spot
      · exact hg.off s hm hsu
      · rw [hg.on _ (fun t ht _ he => hm (by rw [spotV_inj he]; exact ht))]
        exact h.off s (fun l hl he => hm (List.mem_map.2 ⟨l, hl, he⟩))
    · rw [hg.on _ (fun t _ htu he => hsu (by rw [spotV_inj he]; exact htu))]
      exact h.off s (fun l hl he => hs l (List.mem_filter.2 ⟨hl, decide_eq_true (fun hc => hsu (by rw [← he]; exact hc))⟩) he)

set_option maxHeartbeats 1000000 in
set_option maxRecDepth 20000 in
theorem drop_any (a m : Nat) (v : Value) (q : Nat) (L : List Ln) (u : Int) (w : World) (hst : St w a m v q L) :
    Calls Try.prog 16 #[.pointer (some ⟨a, 0, none⟩), .int .i64 u] w fun e w' => ∃ v', e = .returned (.int .i64 ((L.length : Int) - ((dropL u L).length : Nat))) ∧ St w' a m v' q (dropL u L) ∧ Fr (Fm a m v) w w' ∧ Near w v v' := by
  obtain ⟨A2, z2, rfl⟩ : ∃ A c, v = .slice A L.length c := by obtain ⟨A, c, e⟩ := hst.ord.slice; rw [List.length_map] at e; exact ⟨A, c, e⟩
  have hmf : ∀ (fn : Fn) (first cap : Array Value) (w : World), (Instr.makeFunc fn first cap).run Try.prog w = .ok (.func fn first cap) w := fun _ _ _ _ => rfl
  have hL8 : L.length ≤ 8 := Nat.le_trans hst.len hst.q8
  have hD8 : (dropL u L).length ≤ L.length := List.length_filter_le _ _
  have l2 := hst.blk.lt
  have hbb : Below w.heap.size w ((w.alloc (.cells #[.pointer (some ⟨a, 0, none⟩)] 25)).alloc (.cells #[.int .i64 u] 3)) := ((Below.refl _ _).alloc (Nat.le_refl _) _).alloc (by simp) _
  have hx1 : Blk ((w.alloc (.cells #[.pointer (some ⟨a, 0, none⟩)] 25)).alloc (.cells #[.int .i64 u] 3)) w.heap.size #[.pointer (some ⟨a, 0, none⟩)] 25 := (Blk.new _ _ _).alloc _
  have hx2 : Blk ((w.alloc (.cells #[.pointer (some ⟨a, 0, none⟩)] 25)).alloc (.cells #[.int .i64 u] 3)) (w.heap.size + 1) #[.int .i64 u] 3 := by
    have := Blk.new (w.alloc (.cells #[.pointer (some ⟨a, 0, none⟩)] 25)) #[.int .i64 u] 3
    simpa using this
  have st0 := hst.below hbb
  have c0 := st0.blk.cell (j := 1) rfl
  go_enter Try.func16, Try.ntmps16
  go_wp2
  generalize ((w.alloc (.cells #[.pointer (some ⟨a, 0, none⟩)] 25)).alloc (.cells #[.int .i64 u] 3)) = W at *
  obtain ⟨f, hm, hF⟩ := st0.map
  have hoks : ∀ s ∈ L.map Ln.spot, ok64 s.1 ∧ ok64 s.2 := fun s hs => by obtain ⟨l, hl, rfl⟩ := List.mem_map.1 hs; exact hst.ok l hl
  have hbx := st0.blk
  have C := Lib.hid (deleteU_any (w.heap.size + 1) w.heap.size a m u _ _ f (.slice A2 L.length z2) (L.map Ln.spot) W.drew st0.ord hoks hx2 hx1 hbx hm)
  have c1 := hx1.cell (j := 0) rfl
  have lm := hm.lt
  have hma : a ≠ m := hm.ne hbx
  have hva := Lib.hid (st0.ord.ne hbx)
  have hvm := Lib.hid (hm.ne_ord st0.ord)
  have lw : w.heap.size ≠ m := by have := hst.map; obtain ⟨f0, h0, _⟩ := this; have := h0.lt; omega
  have lv := Lib.hid (fun k hk => (hst.ord.lt k hk).2 : ∀ k, (Value.slice A2 L.length z2).ownBlock = some k → k < w.heap.size)
  clear hm
  go_region_law (
    go_simp
    go_at_call 29
    refine C.out.mono ?_
    rintro e w3 ⟨v3, f3, rfl, ho3, hob3, hfr3, hm3, hg3⟩
    obtain ⟨A3, z3, hv3⟩ : ∃ A c, v3 = .slice A (dropL u L).length c := by
      obtain ⟨A, c, e⟩ := ho3.slice
      rw [← dropL_spots, List.length_map] at e
      exact ⟨A, c, e⟩
    subst hv3
    have hbx3 : Blk w3 a #[.int .i64 q, .slice A2 L.length z2, .map (some m)] 64 := hfr3.blk (w := W.drew) hbx (fun h => h.elim hma (fun h => hva.out h))
    have hx3 : Blk w3 w.heap.size #[.pointer (some ⟨a, 0, none⟩)] 25 := hfr3.blk (w := W.drew) hx1 (fun h => h.elim lw (fun h => by have := lv.out _ h; omega))
    have Z1 := hx3.cell (j := 0) rfl
    have Z2 := hbx3.cell (j := 1) rfl
    have Z3 := hbx3.frozen 1
    have Ho3 := Lib.hid ho3
    have Hob := Lib.hid hob3
    have Hm3 := Lib.hid hm3
    have Hg3 := Lib.hid hg3
    have Hfr3 := Lib.hid hfr3
    clear ho3 hob3 hm3 hg3 hfr3)
  all_goals (
    go_wp2
    go_ret
    have fs := fr_set w3 ⟨a, 1, none⟩ (.slice A3 (dropL u L).length z3)
    have fw : Fr (Fm a m (.slice A2 L.length z2)) w w3 := (Fr.of_below hbb.drew : Fr (Fm a m (.slice A2 L.length z2)) w W.drew).trans Hfr3.out (fun k h => .inl (h.elim (fun h => .inr (.inl h)) (fun h => .inr (.inr h))))
    refine ⟨.slice A3 (dropL u L).length z3, rfl, ⟨hbx3.set 1 _, ?_, ⟨f3, Hm3.out.set _ hma _, hF.drop Hg3.out⟩, ?_, fun x hx => hst.ok x (List.mem_filter.1 hx).1, Nat.le_trans hD8 hst.len, hst.q8⟩, fw.trans fs (fun k (hk : k = a) => .inl (.inl hk)), fun k hk => .inl (by rw [← Hob.out]; exact hk)⟩
    · rw [dropL_spots]
      exact fs.own Ho3.out (fun k hk (he : k = a) => hva.out (by rw [← Hob.out, hk, he]))
    · rw [dropL_spots]
      exact hst.nodup.sublist List.filter_sublist)
end Go.Proofs.Ytheilnaommcjjaa
