import Derived.Test.YtheilnaommcjjaaUse
namespace Go.Proofs.Ytheilnaommcjjaa
open Go.RowKit
open Go.Maps (Keyed)

/-- the map's entries are just the lines -/
structure Fun (L : List Ln) (f : Value → Option Value) : Prop where
  on : ∀ l ∈ L, f (spotV l.spot) = some (.agg (lnA l))
  off : ∀ s : Spot, (∀ l ∈ L, l.spot ≠ s) → f (spotV s) = none

theorem ln_field (l : Ln) (w : World) : (Instr.field 33 (.agg (lnA l)) 3).run Try.prog w = .ok (.bool l.d) w := by
  have h1 : Try.prog.underlying 33 = some (.struct (Try.prog.fieldsOf 33)) := by kernel_rfl
  have h2 : (Try.prog.fieldsOf 33)[3]?.map (fun f => (f.type, f.offset)) = some (4, 130) := by kernel_rfl
  rcases hf : (Try.prog.fieldsOf 33)[3]? with _ | f
  · rw [hf] at h2; cases h2
  · rw [hf] at h2
    simp only [Option.map_some, Option.some.injEq, Prod.mk.injEq] at h2
    have ha := Try.isAgg4 w
    simp only [Instr.field, Sem.run_bind, run_underlying h1, Result.andThen_ok, hf, asAgg, Sem.run_pure, part, h2.1, h2.2, ha, lnA_at l 130 (by omega)]
    rfl

theorem map_value {f : Value → Option Value} {x z v : Value} (h : f x = some v) : (f x).getD z = v := by rw [h]; rfl

theorem quiet_lookup {o : Oper} {a : Act} {C : World → Prop} {K : Act → Prop} (t : TypeId) (m x : Operand) (ok : Bool) (ho : o.op = .lookup t m x ok) (mv xv v : Value) (hm : a.eval m = mv) (hx : a.eval x = xv)
    (hl : ∀ w, C w → (Instr.lookup t mv xv ok).run Try.prog w = .ok v w) (hk : K (a.put o.dst v)) : o.quiet Try.prog a C K :=
  quiet_value (fun w hw => by
    unfold execOp
    simp only [ho, hm, hx, Sem.run_bind, Sem.run_pure, Result.andThen_ok, hl w hw]) hk
theorem quiet_field {o : Oper} {a : Act} {C : World → Prop} {K : Act → Prop} (t : TypeId) (x : Operand) (j : Nat) (ho : o.op = .field t x j) (xv v : Value) (hx : a.eval x = xv)
    (hl : ∀ w, (Instr.field t xv j).run Try.prog w = .ok v w) (hk : K (a.put o.dst v)) : o.quiet Try.prog a C K :=
  quiet_value (fun w hw => by
    unfold execOp
    simp only [ho, hx, Sem.run_bind, Sem.run_pure, Result.andThen_ok, hl w]) hk
theorem cls_lookup {B m : Nat} {W : World} {f : Value → Option Value} (h : MapF Try.prog 66 W m f) (hB : m < B) {s : Spot} (hs : ok64 s.1 ∧ ok64 s.2) : ∀ w, Cls B W w → (Instr.lookup 61 (.map (some m)) (spotV s) false).run Try.prog w = .ok ((f (spotV s)).getD (.agg (lnA zeroLn))) w := by
  intro w hw
  obtain ⟨k, hk⟩ := spot_key s hs.1 hs.2
  exact (h.kept' (hw.out.block m hB)).lookup spot_keyed Try.underlying61 (lnA_zero w) hk
theorem cls_lookup_ok {B m : Nat} {W : World} {f : Value → Option Value} (h : MapF Try.prog 66 W m f) (hB : m < B) {s : Spot} (hs : ok64 s.1 ∧ ok64 s.2) : ∀ w, Cls B W w → (Instr.lookup 61 (.map (some m)) (spotV s) true).run Try.prog w = .ok (.tuple #[(f (spotV s)).getD (.agg (lnA zeroLn)), .bool (f (spotV s)).isSome]) w := by
  intro w hw
  obtain ⟨k, hk⟩ := spot_key s hs.1 hs.2
  exact (h.kept' (hw.out.block m hB)).lookup_ok spot_keyed Try.underlying61 (lnA_zero w) hk

set_option maxHeartbeats 400000 in
theorem room1_any (bx a m : Nat) (c0 c1 : Value) (f : Value → Option Value) (s : Spot) (hs : ok64 s.1 ∧ ok64 s.2) (l : Ln) (hl : f (spotV s) = some (.agg (lnA l))) (w : World)
    (hbx : Blk w bx #[.pointer (some ⟨a, 0, none⟩)] 25) (hb : Blk w a #[c0, c1, .map (some m)] 64) (hm : MapF Try.prog 66 w m f) :
    Calls Try.prog 36 #[spotV s, .pointer (some ⟨bx, 0, none⟩)] w fun e w' => e = .returned (.bool (!l.d)) ∧ Below w.heap.size w w' := by
  unfold spotV spotA at *
  go_enter Try.func36, Try.ntmps36
  go_wp2
  have hbox := Blk.new w (spotA s) 66
  have hb0 := (Below.refl w.heap.size w).alloc (Nat.le_refl _) (.cells (spotA s) 66)
  have h1 := hbx.below hb0 hbx.lt
  have h2 := hb.below hb0 hb.lt
  have h3 := hm.alloc (.cells (spotA s) 66)
  have l1 := hbx.lt
  have l2 := hb.lt
  have l3 := hm.lt
  unfold spotA at hbox hb0 h1 h2 h3
  have hsz : Hid ((w.alloc (.cells #[.int .i64 s.1, .int .i64 s.2] 66)).heap.size = w.heap.size + 1) := by show _ = _; simp
  generalize w.alloc (.cells #[.int .i64 s.1, .int .i64 s.2] 66) = w0 at *
  obtain ⟨k, hk⟩ := spot_key s hs.1 hs.2
  have HK := Lib.hid hk
  have HL := Lib.hid hl
  clear hk hl hbx hb hm
  refine wp_region_class (Cls w0.heap.size w0) (by kernel_rfl) (by kernel_rfl) (Cls.drew _ _) ?_
  go_big_quiet_want; refine quiet_load_cell 25 _ rfl ⟨bx, 0, none⟩ rfl _ Try.isAgg25 (cls_cell h1 rfl (by rw [hsz.out]; omega)) ?_; go_simp; go_big_quiet_on
  go_big_quiet_want; go_big_quiet_op; refine ⟨_, fun _ _ => rfl, ?_⟩; go_big_quiet_on
  go_big_quiet_want; go_big_quiet_op; refine ⟨_, fun _ _ => rfl, ?_⟩; go_big_quiet_on
  go_big_quiet_want; refine quiet_load_cell 61 _ rfl ⟨a, 2, none⟩ rfl _ Try.isAgg61 (cls_cell h2 rfl (by rw [hsz.out]; omega)) ?_; go_simp; go_big_quiet_on
  go_big_quiet_want; refine quiet_load_row 66 _ rfl w.heap.size rfl (spotA s) (fun w hw => load_spot s w _ (cls_blk hbox (by rw [hsz.out]; omega) w hw)) ?_; go_simp; go_big_quiet_on
  go_big_quiet_want; refine quiet_lookup 61 _ _ false rfl _ _ (.agg (lnA l)) rfl rfl (fun w hw => (cls_lookup h3 (by rw [hsz.out]; omega) hs w hw).trans (by rw [show f (spotV s) = _ from HL.out]; rfl)) ?_; go_simp; go_big_quiet_on
  go_big_quiet_want; refine quiet_field 33 _ 3 rfl _ _ rfl (ln_field l) ?_; go_simp; go_big_quiet_on
  go_big_quiet_want; go_big_quiet_op; refine ⟨_, fun _ _ => rfl, ?_⟩; go_big_quiet_on
  go_big_quiet_want; go_big_quiet_op; go_big_quiet_on
  refine wpQuiet_nil ?_
  intro w1 hw1
  go_wp2
  go_ret
  exact ⟨rfl, hb0.trans (hw1.out.mono (by rw [hsz.out]; omega))⟩
/-- where the first clean line stands -/
def clean (L : List Ln) : Int := if L.any (fun l => !l.d) = true then ((L.findIdx (fun l => !l.d) : Nat) : Int) else -1
theorem clean_at {L : List Ln} {i : Nat} {l : Ln} (hi : L[i]? = some l) (hd : l.d = false) (h : ∀ j x, j < i → L[j]? = some x → x.d = true) : clean L = i := by
  have hlt := (List.getElem?_eq_some_iff.1 hi).1
  have e := (List.getElem?_eq_some_iff.1 hi).2
  have hm : L.any (fun l => !l.d) = true := List.any_eq_true.2 ⟨l, List.mem_of_getElem? hi, by rw [hd]; rfl⟩
  unfold clean
  rw [if_pos hm]
  have : L.findIdx (fun l => !l.d) = i := by
    rw [List.findIdx_eq hlt]
    refine ⟨by rw [e, hd]; rfl, fun j hj => ?_⟩
    have := h j _ hj (List.getElem?_eq_getElem (by omega))
    rw [this]; rfl
  omega
theorem clean_not {L : List Ln} (h : ∀ j x, j < L.length → L[j]? = some x → x.d = true) : clean L = -1 := by
  unfold clean
  refine if_neg ?_
  intro ha
  obtain ⟨l, hl, hd⟩ := List.any_eq_true.1 ha
  obtain ⟨i, hi⟩ := List.mem_iff_getElem?.1 hl
  have := h i l (List.getElem?_eq_some_iff.1 hi).1 hi
  rw [this] at hd
  cases hd

set_option maxHeartbeats 400000 in
theorem indexFunc_any (bx a m : Nat) (c0 c1 : Value) (f : Value → Option Value) (v : Value) (L : List Ln) (w : World) (ho : Ord w v (L.map Ln.spot)) (hF : Fun L f) (hok : ∀ l ∈ L, ok64 l.u ∧ ok64 l.b)
    (hbx : Blk w bx #[.pointer (some ⟨a, 0, none⟩)] 25) (hb : Blk w a #[c0, c1, .map (some m)] 64) (hm : MapF Try.prog 66 w m f) :
    Calls Try.prog 35 #[v, .func (.func 36) #[] #[.pointer (some ⟨bx, 0, none⟩)]] w fun e w' => e = .returned (.int .i64 (clean L)) ∧ Below w.heap.size w w' := by
  rcases ho.form with ⟨rfl, h0⟩ | ⟨g, cap, rfl, hn, hc, hg, hcell⟩
  · obtain rfl : L = [] := List.map_eq_nil_iff.1 h0
    go_enter Try.func35, Try.ntmps35
    go_wp2
    go_loop [5, 8] (fun _ i => i = .int .i64 0) (fun _ _ => 0)
    case atStart => rfl
    case round =>
      cases hrel
      go_wp2
      go_ret
      exact ⟨by rw [clean_not (by intro j x hj; simp at hj)]; rfl, Below.refl _ _⟩
  · rw [List.length_map] at hn ⊢
    have hI : (L.length : Int) ≤ 9223372036854775807 := by simp only [maxLen] at hc; omega
    have l1 := hbx.lt
    have l2 := hb.lt
    have l3 := hm.lt
    go_enter Try.func35, Try.ntmps35
    go_wp2
    go_loopw [5, 8] (fun _ i wr => ∃ k : Nat, k ≤ L.length ∧ i = .int .i64 k ∧ Hid (∀ j x, j < k → L[j]? = some x → x.d = true) ∧ Below w.heap.size w wr) (fun _ i _ => (L.length - intOf i).toNat)
    case atStart => exact ⟨0, Nat.zero_le _, rfl, by unfold Hid; intro j x hj; omega, Below.refl _ _⟩
    case round =>
      obtain ⟨k, hk, rfl, hH, hbl⟩ := hrel
      by_cases hlt : (k : Int) < (L.length : Int)
      · obtain ⟨l, hl⟩ : ∃ l, L[k]? = some l := ⟨L[k]'(by omega), List.getElem?_eq_getElem (by omega)⟩
        have hlm : l ∈ L := List.mem_of_getElem? hl
        obtain ⟨c1', c2'⟩ := hcell k l.spot (by rw [List.getElem?_map, hl]; rfl)
        rw [← hbl.cell (p := ⟨g, k * 2, none⟩) hg] at c1'
        rw [← hbl.cell (p := ⟨g, k * 2 + 1, none⟩) hg] at c2'
        have C := Lib.hid (room1_any bx a m c0 c1 f l.spot (hok l hlm) l (hF.on l hlm) wr (hbx.below hbl l1) (hb.below hbl l2) (hm.kept' (hbl.block m l3)))
        have Ht := Lib.hid hl
        clear hcell ho hbx hb hm hF hok hl hlm
        go_wp2_with fail
        refine C.out.mono ?_
        rintro e w2 ⟨rfl, hb2⟩
        have hbl2 := hbl.trans (hb2.mono hbl.size)
        cases hd : l.d
        · have D := Lib.hid hd
          clear hd
          go_wp2
          go_ret
          refine ⟨?_, hbl2⟩
          rw [clean_at Ht.out D.out hH.out]
          rfl
        · have D := Lib.hid hd
          clear hd
          go_wp2
          refine ⟨⟨k + 1, by omega, rfl, ?_, hbl2⟩, by simp only [intOf]; omega⟩
          unfold Hid
          intro j x hj hx
          by_cases hjk : j = k
          · subst hjk
            rw [Ht.out] at hx
            rw [← Option.some.inj hx]
            exact D.out
          · exact hH.out j x (by omega) hx
      · obtain rfl : k = L.length := by omega
        go_wp2
        go_ret
        refine ⟨?_, hbl⟩
        rw [clean_not hH.out]
        rfl
end Go.Proofs.Ytheilnaommcjjaa
