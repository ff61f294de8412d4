import Derived.Test.YtheilnaommcjjaaRoom
import Derived.Deep.RegionHeld3
namespace Go.Proofs.Ytheilnaommcjjaa
open Go.RowKit
open Go.Maps (Keyed)

/-- the cache in memory: its lines, the one used longest ago first -/
structure St (w : World) (a m : Nat) (v : Value) (q : Nat) (L : List Ln) : Prop where
  blk : Blk w a #[.int .i64 q, v, .map (some m)] 64
  ord : Ord w v (L.map Ln.spot)
  map : ∃ f, MapF Try.prog 66 w m f ∧ Fun L f
  nodup : (L.map Ln.spot).Nodup
  ok : ∀ l ∈ L, ok64 l.u ∧ ok64 l.b
  len : L.length ≤ q
  q8 : q ≤ 8
def Fm (a m : Nat) (v : Value) : Nat → Prop := fun k => k = a ∨ k = m ∨ v.ownBlock = some k

def firstClean (L : List Ln) : Nat := L.findIdx (fun l => !l.d)
def roomB (q : Nat) (L : List Ln) : Bool := decide (L.length < q) || L.any (fun l => !l.d)
def roomL (q : Nat) (L : List Ln) : List Ln := if L.length < q then L else L.eraseIdx (firstClean L)

theorem St.fr {F : Nat → Prop} {w w' : World} {a m : Nat} {v : Value} {q : Nat} {L : List Ln} (h : St w a m v q L) (hf : Fr F w w') (hF : ∀ k, F k → ¬ Fm a m v k) : St w' a m v q L := by
  obtain ⟨f, h1, h2⟩ := h.map
  exact ⟨hf.blk h.blk (fun k => hF _ k (.inl rfl)), hf.own h.ord (fun k hk hk' => hF _ hk' (.inr (.inr hk))), ⟨f, hf.map h1 (fun k => hF _ k (.inr (.inl rfl))), h2⟩, h.nodup, h.ok, h.len, h.q8⟩
theorem St.below {w w' : World} {a m : Nat} {v : Value} {q : Nat} {L : List Ln} (h : St w a m v q L) (hb : Below w.heap.size w w') : St w' a m v q L :=
  h.fr (F := fun _ => False) (Fr.of_below hb) (fun _ h => h.elim)

theorem MapF.ne {w : World} {m a : Nat} {f : Value → Option Value} {vs : Array Value} {t : TypeId} (h : MapF Try.prog 66 w m f) (hb : Blk w a vs t) : a ≠ m := by
  rintro rfl
  obtain ⟨es, clock, h1, _⟩ := h
  unfold Blk at hb
  rw [hb] at h1
  cases h1
theorem MapF.ne_ord {w : World} {m : Nat} {f : Value → Option Value} {v : Value} {L : List Spot} (h : MapF Try.prog 66 w m f) (ho : Ord w v L) : v.ownBlock ≠ some m := by
  rcases ho.2 with ⟨rfl, _⟩ | ⟨g, cap, cur, rfl, _, hg, _⟩
  · simp [Value.ownBlock]
  · intro he
    simp [Value.ownBlock] at he
    subst he
    obtain ⟨es, clock, h1, _⟩ := h
    rw [hg] at h1
    cases h1
theorem spotV_inj {s t : Spot} (h : spotV s = spotV t) : s = t := by
  unfold spotV spotA at h
  injection h with h
  simp at h
  exact Prod.ext h.1 h.2
theorem eraseIdx_map : ∀ (L : List Ln) (i : Nat), (L.eraseIdx i).map Ln.spot = (L.map Ln.spot).eraseIdx i
  | [], _ => rfl
  | _ :: _, 0 => rfl
  | x :: r, i + 1 => by simp [eraseIdx_map r i]
open Classical in
/-- a line taken out -/
theorem Fun.erase {L : List Ln} {f : Value → Option Value} (h : Fun L f) {i : Nat} {l : Ln} (hl : L[i]? = some l) (hn : (L.map Ln.spot).Nodup) : ∃ g, g (spotV l.spot) = none ∧ (∀ y, y ≠ spotV l.spot → g y = f y) ∧ Fun (L.eraseIdx i) g := by
  refine ⟨fun y => if y = spotV l.spot then none else f y, if_pos rfl, fun y hy => if_neg hy, ⟨fun x hx => ?_, fun s hs => ?_⟩⟩
  · have hxL : x ∈ L := List.mem_of_mem_eraseIdx hx
    have hne : x.spot ≠ l.spot := by
      obtain ⟨j, hij, hj⟩ := List.mem_eraseIdx_iff_getElem?.1 hx
      intro he
      refine hij ?_
      have a1 : (L.map Ln.spot)[j]? = some l.spot := by rw [List.getElem?_map, hj, Option.map_some, he]
      have a2 : (L.map Ln.spot)[i]? = some l.spot := by rw [List.getElem?_map, hl]; rfl
      have l1 := (List.getElem?_eq_some_iff.1 a1).1
      exact (List.getElem?_inj l1 hn).1 (a1.trans a2.symm)
    show (if _ then _ else _) = _
    rw [if_neg (fun he => hne (spotV_inj he))]
    exact h.on x hxL
  · show (if _ then _ else _) = _
    by_cases he : spotV s = spotV l.spot
    · rw [if_pos he]
    · rw [if_neg he]
      refine h.off s (fun x hx hxs => ?_)
      obtain ⟨j, hj⟩ := List.mem_iff_getElem?.1 hx
      by_cases hji : j = i
      · subst hji
        rw [hl] at hj
        cases hj
        exact he (by rw [hxs])
      · exact hs x (List.mem_eraseIdx_iff_getElem?.2 ⟨j, hji, hj⟩) hxs

set_option maxHeartbeats 1000000 in
set_option maxRecDepth 20000 in
theorem room_any (a m : Nat) (v : Value) (q : Nat) (L : List Ln) (w : World) (hst : St w a m v q L) :
    Calls Try.prog 27 #[.pointer (some ⟨a, 0, none⟩)] w fun e w' => ∃ v', e = .returned (.bool (roomB q L)) ∧ St w' a m v' q (roomL q L) ∧ Fr (Fm a m v) w w' ∧ Near w v v' := by
  obtain ⟨A2, z2, rfl⟩ : ∃ A c, v = .slice A L.length c := by obtain ⟨A, c, e⟩ := hst.ord.slice; rw [List.length_map] at e; exact ⟨A, c, e⟩
  have hmf : ∀ (fn : Fn) (first cap : Array Value) (w : World), (Instr.makeFunc fn first cap).run Try.prog w = .ok (.func fn first cap) w := fun _ _ _ _ => rfl
  have hq8 := hst.q8
  have hlq := hst.len
  go_enter Try.func27, Try.ntmps27
  go_wp2
  have hbox := Blk.new w #[.pointer (some ⟨a, 0, none⟩)] 25
  have hb0 := (Below.refl w.heap.size w).alloc (Nat.le_refl _) (.cells #[.pointer (some ⟨a, 0, none⟩)] 25)
  have st0 := hst.below hb0
  have l2 := hst.blk.lt
  have hsz : Hid ((w.alloc (.cells #[.pointer (some ⟨a, 0, none⟩)] 25)).heap.size = w.heap.size + 1) := by show _ = _; simp
  generalize w.alloc (.cells #[.pointer (some ⟨a, 0, none⟩)] 25) = w0 at *
  have hbx0 := st0.blk
  have X1 := hbox.cell (j := 0) rfl
  have X2 := hbx0.cell (j := 0) rfl
  have X3 := hbx0.cell (j := 1) rfl
  by_cases hlt : (L.length : Int) < (q : Int)
  · go_quiet (fail)
    go_wp2
    go_ret
    have hlt' : L.length < q := by omega
    refine ⟨.slice A2 L.length z2, ?_, ?_, Fr.of_below (Below.drewN hb0 _), fun k hk => .inl hk⟩
    · unfold roomB; rw [decide_eq_true hlt']; rfl
    · unfold roomL; rw [if_pos hlt']; exact st0.below (Below.drewN (Below.refl _ _) _)
  · go_quiet (fail)
    go_wp2_with fail
    have hnlt : ¬ L.length < q := by omega
    obtain ⟨f, hm, hF⟩ := st0.map
    refine (indexFunc_any w.heap.size a m _ _ f _ L (w0.drewN nq) st0.ord hF st0.ok hbox hbx0 hm).mono ?_
    rintro e w1 ⟨rfl, hb1⟩
    have hb1' : Below w0.heap.size w0 w1 := (Below.drewN (Below.refl _ _) nq).trans hb1
    have st1 := st0.below hb1'
    have hbox1 := hbox.below hb1' hbox.lt
    have hbl := hb0.trans (hb1'.mono hb0.size)
    have hm1 := hm.kept' (hb1'.block m hm.lt)
    clear hm hb1 hb1' hb0 hbox hbx0 X1 X2 X3 st0 hsz
    clear w0
    by_cases hany : L.any (fun l => !l.d) = true
    · have hfi : firstClean L < L.length := List.findIdx_lt_length.2 (by
        obtain ⟨x, hx, hd⟩ := List.any_eq_true.1 hany
        exact ⟨x, hx, hd⟩)
      rw [show clean L = ((firstClean L : Nat) : Int) from if_pos hany]
      have hrl : roomL q L = L.eraseIdx (firstClean L) := if_neg hnlt
      have hrb : roomB q L = true := by unfold roomB; rw [hany]; simp
      generalize firstClean L = i at *
      have HRL := Lib.hid hrl
      have HRB := Lib.hid hrb
      clear hrl hrb hany
      rcases st1.ord.form with ⟨hv, h0⟩ | ⟨g, cap, hv, hn, hc, hg, hcell⟩
      · have : L.length = 0 := by rw [List.map_eq_nil_iff.1 h0]; rfl
        omega
      injection hv with hv1 hv2 hv3
      subst hv1
      subst hv3
      clear hv2
      rw [List.length_map] at hn
      obtain ⟨l, hl⟩ : ∃ l, L[i]? = some l := ⟨L[i]'hfi, List.getElem?_eq_getElem hfi⟩
      have hlm : l ∈ L := List.mem_of_getElem? hl
      obtain ⟨e1, e2⟩ := hcell i l.spot (by rw [List.getElem?_map, hl]; rfl)
      have hbx1 := st1.blk
      have X1 := hbox1.cell (j := 0) rfl
      have X2 := hbx1.cell (j := 1) rfl
      have X3 := hbx1.cell (j := 2) rfl
      have i0 : (0 : Int) ≤ (i : Int) := by omega
      have i1 : (i : Int) < (L.length : Int) := by omega
      clear hcell
      have Hl := Lib.hid hl
      clear hl
      obtain ⟨kl, hkl⟩ := spot_key l.spot (hst.ok l hlm).1 (hst.ok l hlm).2
      obtain ⟨w2, hdel0, hgr2, hmap2⟩ := (MapF.drew hm1).delete spot_keyed Try.underlying61 hkl (ty := 0)
      have HM2 := Lib.hid hmap2
      clear hmap2
      have hdel : ∀ ty, (Builtin.delete_ #[61, 66] ty #[.map (some m), .agg #[.int .i64 l.spot.1, .int .i64 l.spot.2]]).run Try.prog w1.drew = .ok (.tuple #[]) w2 := fun ty => hdel0
      clear hdel0
      have Hk := Lib.hid hkl
      clear hkl
      go_wp2
      refine wp_region_still_tail 11 (by kernel_rfl) (by kernel_rfl) ?_
      simp only [List.take_succ_cons, List.take_zero, List.drop_succ_cons, List.drop_zero]
      repeat (refine wpStill_step (fun K hK => ?_); go_simp; (try go_ints); (try go_simp); refine hK _ ?_; clear hK K)
      refine wpStill_nil ?_
      change wpList _ _ _ _ _ w1.drew
      go_wp2
      obtain ⟨g2, k1, k2, k3⟩ := hF.erase Hl.out hst.nodup
      have hm2 : MapF Try.prog 66 w2 m g2 := HM2.out g2 k1 k2
      have hna : a ≠ m := hm1.ne hbx1
      have hnb : some w.heap.size ≠ some m := by
        have := hm1.ne hbox1
        simpa using this
      have hva : (Value.slice (some ⟨g, 0, none⟩) L.length z2).ownBlock ≠ some a := st1.ord.ne hbx1
      have hvm : (Value.slice (some ⟨g, 0, none⟩) L.length z2).ownBlock ≠ some m := hm1.ne_ord st1.ord
      have hvb : (Value.slice (some ⟨g, 0, none⟩) L.length z2).ownBlock ≠ some w.heap.size := by
        intro he
        have e3 : g = w.heap.size := by simpa [Value.ownBlock] using he
        have e4 := hst.ord.lt g rfl
        omega
      have hbx2 : Blk w2 a #[.int .i64 q, .slice (some ⟨g, 0, none⟩) L.length z2, .map (some m)] 64 := by
        unfold Blk; rw [hgr2.block a hbx1.lt (fun h => hna (Option.some.inj h))]; exact hbx1
      have hbox2 : Blk w2 w.heap.size #[.pointer (some ⟨a, 0, none⟩)] 25 := by
        unfold Blk; rw [hgr2.block _ hbox1.lt hnb]; exact hbox1
      have ho2 : Ord w2 (.slice (some ⟨g, 0, none⟩) L.length z2) (L.map Ln.spot) := Ord.kept (w := w1.drew) st1.ord hgr2 (.inr hvm)
      have hfr2 : Fr (Fm a m (.slice (some ⟨g, 0, none⟩) L.length z2)) w w2 :=
        (Fr.of_below hbl : Fr (Fm a m (.slice (some ⟨g, 0, none⟩) L.length z2)) w w1).trans (Fr.of_grown (F := Fm a m (.slice (some ⟨g, 0, none⟩) L.length z2)) (w := w1) ⟨hgr2.os, hgr2.tape, hgr2.output, hgr2.size, hgr2.block⟩ (fun k hk => .inr (.inl (Option.some.inj hk).symm))) (fun _ h => .inl h)
      have hml := hm2.lt
      have l3 := hbox2.lt
      clear X1 X2 X3 e1 e2 hdel HM2 hgr2 hbox1 hbx1 hm1 hbl
      have Y1 := hbox2.cell (j := 0) rfl
      have Y2 := hbx2.cell (j := 1) rfl
      have Hva := Lib.hid hva
      have Hvm := Lib.hid hvm
      have Hvb := Lib.hid hvb
      clear hva hvm hvb
      have hwr : IntKind.i64.wrap ((i : Int) + 1) = (i : Int) + 1 := by rw [IntKind.wrap_i64]; omega
      have Cd := Lib.hid (delete_any (.slice (some ⟨g, 0, none⟩) L.length z2) (L.map Ln.spot) i (by rw [List.length_map]; exact hfi) w2.drew ho2)
      go_region_law (
        go_simp
        go_at_call 34
        refine Cd.out.mono ?_
        rintro e w3 ⟨v3, rfl, ho3, hob3, hgr3⟩
        obtain ⟨A3, z3, hv3⟩ : ∃ A c, v3 = .slice A (L.eraseIdx i).length c := by
          obtain ⟨A, c, e⟩ := ho3.slice
          rw [← eraseIdx_map, List.length_map] at e
          exact ⟨A, c, e⟩
        subst hv3
        have hbx3 : Blk w3 a #[.int .i64 q, .slice (some ⟨g, 0, none⟩) L.length z2, .map (some m)] 64 := by
          unfold Blk; rw [hgr3.block a hbx2.lt (fun h => Hva.out h.symm)]; exact hbx2
        have hbox3 : Blk w3 w.heap.size #[.pointer (some ⟨a, 0, none⟩)] 25 := by
          unfold Blk; rw [hgr3.block _ hbox2.lt (fun h => Hvb.out h.symm)]; exact hbox2
        have hm3 : MapF Try.prog 66 w3 m g2 := (MapF.drew hm2).kept hgr3 (fun h => Hvm.out h.symm)
        have hfr3 : Fr (Fm a m (.slice (some ⟨g, 0, none⟩) L.length z2)) w w3 :=
          hfr2.trans (Fr.of_grown (F := Fm a m (.slice (some ⟨g, 0, none⟩) L.length z2)) (w := w2) ⟨hgr3.os, hgr3.tape, hgr3.output, hgr3.size, hgr3.block⟩ (fun k hk => .inr (.inr hk))) (fun _ h => .inl h)
        have Z1 := hbox3.cell (j := 0) rfl
        have Z2 := hbx3.cell (j := 1) rfl
        have Z3 := hbx3.frozen
        have Ho3 := Lib.hid ho3
        have Hob := Lib.hid hob3
        clear ho3 hob3 hgr3)
      all_goals (
        go_wp2
        go_ret
        have hg4 : w3.grownBy (w3.setCell ⟨a, 1, none⟩ (.slice A3 (L.eraseIdx i).length z3)) (some a) := ⟨rfl, rfl, rfl, by simp [World.setCell], fun k _ hk => Below.heap_setCell _ _ _ _ (fun e => hk (by rw [e]))⟩
        refine ⟨.slice A3 (L.eraseIdx i).length z3, ?_, ?_, hfr3.trans (Fr.of_grown (F := Fm a m (.slice (some ⟨g, 0, none⟩) L.length z2)) hg4 (fun k hk => .inl (Option.some.inj hk).symm)) (fun _ h => .inl h), fun k hk => .inl (by rw [← Hob.out]; exact hk)⟩
        · rw [HRB.out]; rfl
        · rw [HRL.out]
          refine ⟨hbx3.set 1 _, ?_, ⟨g2, hm3.set _ hna _, k3⟩, ?_, fun x hx => hst.ok x (List.mem_of_mem_eraseIdx hx), ?_, hq8⟩
          · rw [eraseIdx_map]
            exact Ho3.out.kept hg4 (.inr (by rw [Hob.out]; exact Hva.out))
          · rw [eraseIdx_map]
            exact hst.nodup.sublist (List.eraseIdx_sublist _ _)
          · exact Nat.le_trans (List.length_eraseIdx_le _ _) hlq)
    · rw [show clean L = -1 from if_neg hany]
      go_wp2
      go_ret
      have hfn : firstClean L = L.length := List.findIdx_eq_length.2 (fun x hx => by
        cases hd : x.d
        · exact absurd (List.any_eq_true.2 ⟨x, hx, by rw [hd]; rfl⟩) hany
        · rfl)
      refine ⟨.slice A2 L.length z2, ?_, ?_, Fr.of_below hbl, fun k hk => .inl hk⟩
      · unfold roomB
        rw [decide_eq_false hnlt, Bool.eq_false_iff.2 hany]
        rfl
      · unfold roomL
        rw [if_neg hnlt, hfn, List.eraseIdx_of_length_le (Nat.le_refl _)]
        exact st1
end Go.Proofs.Ytheilnaommcjjaa
