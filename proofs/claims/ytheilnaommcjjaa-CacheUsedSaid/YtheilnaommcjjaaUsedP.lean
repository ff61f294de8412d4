/-
  CacheUsed: for every quota and every list of blocks the law returns true and leaves its arguments alone. No condition.
-/
import Derived.Test.YtheilnaommcjjaaUsedLaw
import Derived.Test.YtheilnaommcjjaaOpen
namespace Go.Proofs.Ytheilnaommcjjaa
open Go.ChangeShapes Go.WideShapes Go.ChangeAt Go.RowKit
set_option linter.unusedVariables false
open Go.Maps (Keyed)

/-- .. outside F -/
def RF (w : World) (F : Nat → Prop) (A : Option Addr) (R : List Int) : Prop := ∀ i x, R[i]? = some x → ∃ ad, A = some ad ∧ ad.block < w.heap.size ∧ ¬ F ad.block ∧ w.cell? (ad.add i) = some (.int .i64 x)
theorem RF.step {w w' : World} {F F' : Nat → Prop} {A : Option Addr} {R : List Int} (h : RF w F A R) (hf : Fr F w w') (hF : ∀ k, F' k → F k ∨ w.heap.size ≤ k) : RF w' F' A R := fun i x hx => by
  obtain ⟨ad, h1, h2, h3, h4⟩ := h i x hx
  refine ⟨ad, h1, Nat.lt_of_lt_of_le h2 hf.size, fun hc => (hF _ hc).elim h3 (fun hge => by omega), ?_⟩
  have hblk : (ad.add i).block = ad.block := by unfold Addr.add; split <;> rfl
  rw [World.cell?_of_block (w := w) (w' := w') (a := ad.add i) (by rw [hblk]; exact hf.block _ h2 h3)]
  exact h4
/-- what holds between two rounds -/
structure Inv (w0 : World) (w : World) (a m q : Nat) (v rc : Value) (R : List Int) : Prop where
  st : St w a m v q (linesB R)
  bel : Below w0.heap.size w0 w
  own : ∀ k, Fm a m v k → w0.heap.size ≤ k
  rcv : ∃ A c, rc = .slice A R.length c ∧ R.length ≤ c ∧ RF w (Fm a m v) A R

theorem Lns.slice {w : World} {base : Nat} {v : Value} {L : List Ln} (h : Lns w base v L) : ∃ A c, v = .slice A L.length c := by
  rcases h.2 with ⟨rfl, h0⟩ | ⟨g, cap, cur, rfl, _⟩
  · exact ⟨none, 0, by rw [h0]⟩
  · exact ⟨_, _, rfl⟩
theorem Lns.cell {w : World} {base n c : Nat} {A : Option Addr} {L : List Ln} (h : Lns w base (.slice A n c) L) {i : Nat} {l : Ln} (hi : L[i]? = some l) : ∃ g, A = some ⟨g, 0, none⟩ ∧ g < w.heap.size ∧ ∀ j, j < 131 → w.cell? ⟨g, i * 131 + j, none⟩ = some (lnE l j) := by
  rcases h.2 with ⟨h1, h2⟩ | ⟨g, cap, cur, h1, _, hg, _⟩
  · have := (List.getElem?_eq_some_iff.1 hi).1
    omega
  · injection h1 with h1
    subst h1
    refine ⟨g, rfl, (Array.getElem?_eq_some_iff.1 hg).1, fun j hj => ?_⟩
    have hadd : (⟨g, 0, none⟩ : Addr).add (i * 131 + j) = ⟨g, i * 131 + j, none⟩ := by unfold Addr.add; split <;> simp_all
    have := World.ownsRow.cells h (g := g) rfl (i * 131 + j) _ (lr_at L i j l hi hj)
    rw [hadd] at this
    exact this
theorem fm_lt {w : World} {a m : Nat} {v : Value} {q : Nat} {L : List Ln} (h : St w a m v q L) {k : Nat} (hk : Fm a m v k) : k < w.heap.size := by
  rcases hk with e | e | e
  · rw [e]; exact h.blk.lt
  · obtain ⟨f, hm, _⟩ := h.map
    rw [e]; exact hm.lt
  · exact (h.ord.lt k e).2
theorem own_cap {w : World} {base : Nat} {e : TypeId} {size : Nat} {A : Option Addr} {n k c : Nat} {xs : List Value} (h : w.ownsRow base e size (.slice A n c) k xs) : k ≤ c := by
  rcases h.2 with ⟨h1, h2⟩ | ⟨g, cap, cur, h1, _, _, h2, _⟩
  · omega
  · injection h1 with _ _ h3
    omega
theorem restB_take {R : List Int} {b x : Int} {j : Nat} (h : R[j]? = some x) : restB (R.take (j + 1)) b = restB (R.take j) b ++ (if x = b then [] else [x]) := by
  unfold restB
  rw [List.take_add_one, h, Option.toList_some, List.filter_append]
  by_cases hx : x = b
  · rw [if_pos hx]; simp [hx]
  · rw [if_neg hx]; simp [hx]

theorem quota_of (a0 : Int) : ∃ q : Nat, 1 ≤ q ∧ q ≤ 8 ∧ wrap64 (1 + wrap64 ((IntKind.u64.wrap a0).tmod 8)) = (q : Int) := by
  have h0 : 0 ≤ IntKind.u64.wrap a0 := by simp [IntKind.wrap, IntKind.bits, IntKind.signed]; omega
  refine ⟨(1 + (IntKind.u64.wrap a0).tmod 8).toNat, ?_, ?_, ?_⟩
  all_goals
    have h1 := Int.tmod_lt_of_pos (IntKind.u64.wrap a0) (show (0 : Int) < 8 by decide)
    have h2 := Int.tmod_nonneg 8 h0
    have e1 : wrap64 ((IntKind.u64.wrap a0).tmod 8) = (IntKind.u64.wrap a0).tmod 8 := by unfold wrap64; omega
    have e2 : wrap64 (1 + (IntKind.u64.wrap a0).tmod 8) = 1 + (IntKind.u64.wrap a0).tmod 8 := by unfold wrap64; omega
    try rw [e1, e2]
    omega

set_option maxHeartbeats 2000000 in
set_option maxRecDepth 20000 in
theorem cacheUsed_walk (a0 : Int) (_ : ok64 a0) (A : Option Addr) (n c : Nat) (zs : List Int) (hz : zs.length = n) (_ : n ≤ c) (_ : c ≤ maxLen) (w : World) (hr : RI w w.heap.size A zs) (hok : ∀ z ∈ zs, ok64 z) :
    Calls Try.prog 3 #[.int .i64 a0, .slice A n c] w fun e w' => e = .returned (.bool true) ∧ Below w.heap.size w w' := by
  subst hz
  by_cases hbig : (300 : Int) < (zs.length : Int)
  · go_enter Try.func3, Try.ntmps3
    go_wp2_with fail
    refine (alive_any w).mono ?_
    rintro e w1 ⟨rfl, hb1⟩
    go_wp2
    go_ret
    exact ⟨rfl, hb1⟩
  · go_enter Try.func3, Try.ntmps3
    go_wp2_with fail
    refine (alive_any w).mono ?_
    rintro e w1 ⟨rfl, hb1⟩
    go_wp2_with fail
    obtain ⟨q, hq1, hq8, hqe⟩ := quota_of a0
    rw [hqe]
    refine (new_any q hq1 hq8 w1).mono ?_
    rintro e w2 ⟨a, m, rfl, st, hb2, ha, hm⟩
    generalize (IntKind.u64.wrap a0).tmod 8 = t8 at *
    clear hqe
    have hz := lnA_zero
    go_wp2_with fail
    have hI : Inv w (w2.alloc (.cells #[] 3)) a m q (.slice none 0 0) (.slice (some ⟨w2.heap.size, 0, none⟩) 0 0) [] :=
      ⟨st.below ((Below.refl _ _).alloc (Nat.le_refl _) _), ((hb1.trans (hb2.mono hb1.size)).alloc (Nat.le_trans hb1.size hb2.size) _), fun k hk => (by
        rcases hk with h | h | h
        · have := hb1.size; omega
        · have := hb1.size; omega
        · cases h), _, _, rfl, Nat.zero_le _, fun i x hx => by simp at hx⟩
    have HI := Lib.hid hI
    clear hI
    generalize w2.alloc (.cells #[] 3) = w3 at *
    go_loopw [7, 9, 10, 11, 12, 14, 15, 16, 37] (fun rc _ _ _ _ _ _ _ i wr => ∃ (k : Nat) (R : List Int) (v : Value), k ≤ zs.length ∧ i = .int .i64 k ∧ Hid (Inv w wr a m q v rc R)) (fun _ _ _ _ _ _ _ _ i _ => (zs.length - intOf i).toNat)
    case atStart => exact ⟨0, [], _, Nat.zero_le _, rfl, HI.out⟩
    case round =>
      obtain ⟨k, R, v, hk, rfl, HR⟩ := hrel
      by_cases hlt : (k : Int) < (zs.length : Int)
      · obtain ⟨b, hb⟩ : ∃ b, zs[k]? = some b := ⟨zs[k]'(by omega), List.getElem?_eq_getElem (by omega)⟩
        have hbz : b ∈ zs := List.mem_of_getElem? hb
        obtain ⟨ad, rfl, had, hcz⟩ := (hr.below HR.out.bel) k b hb
        have hokb := hok b hbz
        have Hg := Lib.hid (get_any a m v q (linesB R) (0, b) ⟨ok_small 0 (by omega), hokb⟩ wr HR.out.st)
        have Hb := Lib.hid hb
        clear hb
        go_wp2_with fail
        refine Hg.out.mono ?_
        rintro e w4 ⟨v4, rfl, st4, fr4, nr4⟩
        rw [find_linesB]
        have hq' : R.length ≤ q := by have := HR.out.st.len; rw [linesB_len] at this; exact this
        have bel4 : Below w.heap.size w w4 := HR.out.bel.trans (fr4.below HR.out.bel.size HR.out.own)
        have own4 : ∀ k, Fm a m v4 k → w.heap.size ≤ k := fun k hk => by
          rcases hk with h | h | h
          · exact HR.out.own k (.inl h)
          · exact HR.out.own k (.inr (.inl h))
          · rcases nr4 k h with h | h
            · exact HR.out.own k (.inr (.inr h))
            · have := HR.out.bel.size; omega
        have step4 : ∀ k, Fm a m v4 k → Fm a m v k ∨ wr.heap.size ≤ k := fun k hk => by
          rcases hk with h | h | h
          · exact .inl (.inl h)
          · exact .inl (.inr (.inl h))
          · exact (nr4 k h).elim (fun h => .inl (.inr (.inr h))) .inr
        obtain ⟨A, cr, hrc, hcr, hRF⟩ := HR.out.rcv
        subst hrc
        have rf4 := hRF.step fr4 step4
        have hsb := ln_set_b
        have hsz := lnA_size
        by_cases hbR : b ∈ R
        · rw [if_pos hbR]
          rw [touch_linesB hbR hq'] at st4
          have HbR := Lib.hid hbR
          clear hbR
          have hbx : Below w4.heap.size w4 ((w4.alloc (.cells (lnA zeroLn) 33)).setRow w4.heap.size (lnA (lnB b))) := below_setRow ((Below.refl _ _).alloc (Nat.le_refl _) _) (Nat.le_refl _) _
          have st5 := st4.below hbx
          have rf5 : RF _ (Fm a m v4) A R := rf4.step (F' := Fm a m v4) (Fr.of_below hbx : Fr (Fm a m v4) _ _) (fun _ h => .inl h)
          have bel5 := bel4.trans (hbx.mono bel4.size)
          have Hst := Lib.hid st5
          have Hrf := Lib.hid rf5
          have Hbel := Lib.hid bel5
          have Hown := Lib.hid own4
          clear st5 rf5 bel5 hbx rf4 step4 own4 bel4 hRF st4 fr4 nr4
          clear HR Hg
          go_wp2_with (first | (refine store_lnW rfl _ _ rfl w4.heap.size (lnB b) rfl rfl zeroLn (Blk.new w4 _ _) ?_) | fail)
          have HNB : Hid (((w4.alloc (.cells (lnA zeroLn) 33)).setRow w4.heap.size (lnA (lnB b))).heap.size = w4.heap.size + 1) := by show _ = _; rw [size_setRow]; simp
          generalize (w4.alloc (.cells (lnA zeroLn) 33)).setRow w4.heap.size (lnA (lnB b)) = w6 at *
          have hbN : Below w6.heap.size w6 (w6.alloc (.cells #[] 3)) := (Below.refl _ _).alloc (Nat.le_refl _) _
          have hn0 : (w6.alloc (.cells #[] 3)).ownsRow w6.heap.size 3 1 (.slice (some ⟨w4.heap.size + 1, 0, none⟩) 0 0) 0 [] := by
            have h := World.ownsRow_made w6 #[] 0 (base := w6.heap.size) (e := 3) (size := 1) (Nat.le_refl _) (Nat.zero_le _) rfl
            rw [HNB.out] at h ⊢
            exact h
          have hBS : w.heap.size ≤ w6.heap.size := Hbel.out.size
          have hR8 : (R.length : Int) ≤ 8 := by omega
          go_loopw [12, 14, 59] (fun nx _ i wq => ∃ j : Nat, j ≤ R.length ∧ i = .int .i64 j ∧ Hid (wq.ownsRow w6.heap.size 3 1 nx (restB (R.take j) b).length ((restB (R.take j) b).map (Value.int .i64))) ∧ Hid (Below w6.heap.size w6 wq)) (fun _ _ i _ => (R.length - intOf i).toNat)
          case atStart => exact ⟨0, Nat.zero_le _, rfl, hn0, hbN⟩
          case round =>
            obtain ⟨j, hj, rfl, hO, hB⟩ := hrel
            by_cases hlj : (j : Int) < (R.length : Int)
            · obtain ⟨x, hx⟩ : ∃ x, R[j]? = some x := ⟨R[j]'(by omega), List.getElem?_eq_getElem (by omega)⟩
              obtain ⟨ax, hax, hx1, hx2, hx3⟩ := Hrf.out j x hx
              subst hax
              rw [← hB.out.cell (p := ax.add j) (by unfold Addr.add; split <;> exact hx1)] at hx3
              have Hx := Lib.hid hx
              clear hx
              by_cases hxb : x = b
              · have hxt : (x != b) = false := by rw [bne_eq_false_iff_eq]; exact hxb
                have Hxb := Lib.hid hxb
                clear hxb
                go_wp2
                refine ⟨⟨j + 1, by omega, rfl, ?_, hB.out⟩, by simp only [intOf]; omega⟩
                rw [restB_take Hx.out, if_pos Hxb.out, List.append_nil]
                exact hO.out
              · have hxt : (x != b) = true := by rw [bne_iff_ne]; exact hxb
                have Hxb := Lib.hid hxb
                clear hxb
                obtain ⟨i0, hi0, hz0, hz1, hz2⟩ := info_parts (show (Try.prog.info? 3).map (fun i => (i.zero, i.size, i.bytes)) = some (some (.int .i64 0), 1, 8) by kernel_rfl)
                have hO2 : Hid ((wr.alloc (.cells #[.int .i64 x] 3)).ownsRow w6.heap.size 3 1 u12 (restB (R.take j) b).length ((restB (R.take j) b).map (Value.int .i64))) := World.ownsRow.alloc hO.out _
                have hB2 : Hid (Below w6.heap.size w6 (wr.alloc (.cells #[.int .i64 x] 3))) := hB.out.alloc hB.out.size _
                have hc2 : Hid (∀ j u, [Value.int .i64 x][j]? = some u → (wr.alloc (.cells #[.int .i64 x] 3)).cell? ((⟨wr.heap.size, 0, none⟩ : Addr).add j) = some u) := cell_one_new wr _ 3
                have hl2 : Hid ((restB (R.take j) b).length ≤ 8) := by
                  unfold Hid
                  have h1 : (restB (R.take j) b).length ≤ (R.take j).length := List.length_filter_le _ _
                  rw [List.length_take] at h1
                  omega
                go_wp2_with (first | (refine wpList_append_lies _ rfl (.tmp 66) (.tmp 68) 22 rfl w6.heap.size 3 i0 _ 1 8 Try.underlying22 hi0 hz0 hz1 hz2 rfl (by omega) u12 (restB (R.take j) b).length ((restB (R.take j) b).map (Value.int .i64)) rfl hO2.out ⟨wr.heap.size, 0, none⟩ 1 1 [.int .i64 x] rfl rfl hc2.out (by intro u hu; simp at hu; subst hu; rfl) (by omega) (by have := hl2.out; simp only [maxLen]; omega) (by have := hl2.out; omega) hB2.out.size _ rfl ?_) | fail)
                intro g6 cap6 w8 hown8 hgr8 hat8 hlt8
                have hT : Hid (w8.ownsRow w6.heap.size 3 1 (.slice (some ⟨g6, 0, none⟩) ((restB (R.take j) b).length + 1) cap6) (restB (R.take (j + 1)) b).length ((restB (R.take (j + 1)) b).map (Value.int .i64))) := by
                  unfold Hid
                  rw [restB_take Hx.out, if_neg Hxb.out, List.length_append, List.map_append]
                  exact hown8
                have hB8 : Hid (Below w6.heap.size w6 w8) := hB2.out.grown hgr8 hB2.out.size (fun k hk => (World.ownsRow.lt hO2.out k hk).1)
                clear hown8 hgr8 hat8
                go_wp2
                exact ⟨⟨j + 1, by omega, rfl, hT, hB8⟩, by simp only [intOf]; omega⟩
            · obtain rfl : j = R.length := by omega
              obtain ⟨i0, hi0, hz0, hz1, hz2⟩ := info_parts (show (Try.prog.info? 3).map (fun i => (i.zero, i.size, i.bytes)) = some (some (.int .i64 0), 1, 8) by kernel_rfl)
              have hO' := hO.out
              rw [List.take_length] at hO'
              have hO2 : Hid ((wr.alloc (.cells #[.int .i64 b] 3)).ownsRow w6.heap.size 3 1 u12 (restB R b).length ((restB R b).map (Value.int .i64))) := World.ownsRow.alloc hO' _
              have hB2 : Hid (Below w6.heap.size w6 (wr.alloc (.cells #[.int .i64 b] 3))) := hB.out.alloc hB.out.size _
              have hc2 : Hid (∀ j u, [Value.int .i64 b][j]? = some u → (wr.alloc (.cells #[.int .i64 b] 3)).cell? ((⟨wr.heap.size, 0, none⟩ : Addr).add j) = some u) := cell_one_new wr _ 3
              have hl2 : Hid ((restB R b).length ≤ 8) := by
                unfold Hid
                have h1 : (restB R b).length ≤ R.length := List.length_filter_le _ _
                omega
              clear hO'
              go_wp2_with (first | (refine wpList_append_lies _ rfl (.tmp 71) (.tmp 73) 22 rfl w6.heap.size 3 i0 _ 1 8 Try.underlying22 hi0 hz0 hz1 hz2 rfl (by omega) u12 (restB R b).length ((restB R b).map (Value.int .i64)) rfl hO2.out ⟨wr.heap.size, 0, none⟩ 1 1 [.int .i64 b] rfl rfl hc2.out (by intro u hu; simp at hu; subst hu; rfl) (by omega) (by have := hl2.out; simp only [maxLen]; omega) (by have := hl2.out; omega) hB2.out.size _ rfl ?_) | fail)
              intro g6 cap6 w8 hown8 hgr8 hat8 hlt8
              have hB8 : Hid (Below w6.heap.size w6 w8) := hB2.out.grown hgr8 hB2.out.size (fun k hk => (World.ownsRow.lt hO2.out k hk).1)
              have hO8 := Lib.hid hown8
              clear hown8 hgr8 hat8
              by_cases hlq : (q : Int) < ((restB R b).length : Int) + 1
              · have hl1 : (1 : Int) ≤ ((restB R b).length : Int) + 1 := by omega
                have hcp := own_cap hO8.out
                have hc1 : ¬ cap6 = 1 := by omega
                have hc3 : (1 : Int) ≤ (cap6 : Int) := by omega
                go_wp2_with fail
                have hRN : (nextR q R b).length = (restB R b).length := by unfold nextR; rw [if_pos (by simp; omega)]; simp
                refine (lines_any a m v4 q (linesB (nextR q R b)) w8 (Hst.out.below hB8.out)).mono ?_
                rintro e w9 ⟨rv, rfl, hln, hB9⟩
                obtain ⟨Al, cl, rfl⟩ : ∃ A c, rv = .slice A (restB R b).length c := by
                  have := Lns.slice hln
                  rwa [linesB_len, hRN] at this
                have HRN := Lib.hid hRN
                clear hRN
                have hln' := Lib.hid hln
                clear hln
                have hNR8 : ((restB R b).length : Int) ≤ 8 := by have := hl2.out; omega
                have hrow : Hid (∀ i y, (nextR q R b)[i]? = some y → w8.cell? ⟨g6, 1 + i, none⟩ = some (.int .i64 y)) := by
                  intro i y hy
                  have hadd : (⟨g6, 0, none⟩ : Addr).add (1 + i) = ⟨g6, 1 + i, none⟩ := by unfold Addr.add; split <;> simp_all
                  have hn : (nextR q R b)[i]? = (restB R b ++ [b])[i + 1]? := by
                    unfold nextR
                    rw [if_pos (by simp; omega)]
                    simp [List.getElem?_tail]
                  have hx := World.ownsRow.cells hO8.out (g := g6) rfl (1 + i) (.int .i64 y) (by
                    rw [hn] at hy
                    rw [show (restB R b).map (Value.int .i64) ++ [.int .i64 b] = (restB R b ++ [b]).map (Value.int .i64) from by simp, List.getElem?_map, Nat.add_comm, hy]
                    rfl)
                  rw [hadd] at hx
                  exact hx
                go_wp2_with fail
                go_loopw [16, 90] (fun _ i wq => ∃ j : Nat, j ≤ (restB R b).length ∧ i = .int .i64 j ∧ Hid (Below w9.heap.size w9 wq)) (fun _ i _ => ((restB R b).length - intOf i).toNat)
                case atStart => exact ⟨0, Nat.zero_le _, rfl, Below.refl _ _⟩
                case round =>
                  obtain ⟨j, hj3, rfl, hB3⟩ := hrel
                  by_cases hl3 : (j : Int) < ((restB R b).length : Int)
                  · obtain ⟨y, hy⟩ : ∃ y, (nextR q R b)[j]? = some y := ⟨(nextR q R b)[j]'(by have := HRN.out; omega), List.getElem?_eq_getElem (by have := HRN.out; omega)⟩
                    obtain ⟨gl, hgl, hll, hcl⟩ := Lns.cell hln'.out (i := j) (l := lnB y) (by unfold linesB; rw [List.getElem?_map, hy]; rfl)
                    subst hgl
                    have r1 := hrow.out j y hy
                    rw [← (hB9.trans (hB3.out.mono hB9.size)).cell (p := ⟨g6, 1 + j, none⟩) hlt8] at r1
                    have r2 := hcl 1 (by omega)
                    rw [← hB3.out.cell (p := ⟨gl, j * 131 + 1, none⟩) hll] at r2
                    rw [show lnE (lnB y) 1 = .int .i64 y from rfl] at r2
                    clear hy
                    go_wp2
                    go_quiet (fail)
                    go_wp2
                    exact ⟨⟨j + 1, by omega, rfl, Below.drewN hB3.out _⟩, by simp only [intOf]; omega⟩
                  · go_wp2
                    have bW : Below w6.heap.size w6 w8 := hB8.out
                    have bT : Below w8.heap.size w8 wr := hB9.trans (hB3.out.mono hB9.size)
                    have bAll : Below w6.heap.size w6 wr := bW.trans (bT.mono bW.size)
                    refine ⟨⟨k + 1, nextR q R b, v4, by omega, rfl, ⟨Hst.out.below bAll, Hbel.out.trans (bAll.mono Hbel.out.size), Hown.out, _, _, by rw [HRN.out], ?_, ?_⟩⟩, by simp only [intOf]; omega⟩
                    · have := HRN.out; omega
                    · intro i y hy
                      refine ⟨⟨g6, 1, none⟩, rfl, Nat.lt_of_lt_of_le hlt8 bT.size, fun hc => ?_, ?_⟩
                      · have hge := (World.ownsRow.lt hO8.out g6 rfl).1
                        have hlt : g6 < w6.heap.size := fm_lt Hst.out hc
                        exact absurd hlt (by omega)
                      · have hadd : (⟨g6, 1, none⟩ : Addr).add i = ⟨g6, 1 + i, none⟩ := by unfold Addr.add; split <;> simp_all
                        rw [hadd, bT.cell (p := ⟨g6, 1 + i, none⟩) hlt8]
                        exact hrow.out i y hy
              · have hcp := own_cap hO8.out
                go_wp2_with fail
                have hRN : (nextR q R b).length = (restB R b).length + 1 := by unfold nextR; rw [if_neg (by simp; omega)]; simp
                refine (lines_any a m v4 q (linesB (nextR q R b)) w8 (Hst.out.below hB8.out)).mono ?_
                rintro e w9 ⟨rv, rfl, hln, hB9⟩
                obtain ⟨Al, cl, rfl⟩ : ∃ A c, rv = .slice A ((restB R b).length + 1) c := by
                  have := Lns.slice hln
                  rwa [linesB_len, hRN] at this
                have HRN := Lib.hid hRN
                clear hRN
                have hln' := Lib.hid hln
                clear hln
                have hNR8 : ((restB R b).length : Int) + 1 ≤ 9 := by have := hl2.out; omega
                have hrow : Hid (∀ i y, (nextR q R b)[i]? = some y → w8.cell? ⟨g6, i, none⟩ = some (.int .i64 y)) := by
                  intro i y hy
                  have hadd : (⟨g6, 0, none⟩ : Addr).add i = ⟨g6, i, none⟩ := by unfold Addr.add; split <;> simp_all
                  have hn : (nextR q R b)[i]? = (restB R b ++ [b])[i]? := by
                    unfold nextR
                    rw [if_neg (by simp; omega)]
                  have hx := World.ownsRow.cells hO8.out (g := g6) rfl i (.int .i64 y) (by
                    rw [hn] at hy
                    rw [show (restB R b).map (Value.int .i64) ++ [.int .i64 b] = (restB R b ++ [b]).map (Value.int .i64) from by simp, List.getElem?_map, hy]
                    rfl)
                  rw [hadd] at hx
                  exact hx
                go_wp2_with fail
                go_loopw [16, 90] (fun _ i wq => ∃ j : Nat, j ≤ (restB R b).length + 1 ∧ i = .int .i64 j ∧ Hid (Below w9.heap.size w9 wq)) (fun _ i _ => (((restB R b).length : Int) + 1 - intOf i).toNat)
                case atStart => exact ⟨0, Nat.zero_le _, rfl, Below.refl _ _⟩
                case round =>
                  obtain ⟨j, hj3, rfl, hB3⟩ := hrel
                  by_cases hl3 : (j : Int) < ((restB R b).length : Int) + 1
                  · obtain ⟨y, hy⟩ : ∃ y, (nextR q R b)[j]? = some y := ⟨(nextR q R b)[j]'(by have := HRN.out; omega), List.getElem?_eq_getElem (by have := HRN.out; omega)⟩
                    obtain ⟨gl, hgl, hll, hcl⟩ := Lns.cell hln'.out (i := j) (l := lnB y) (by unfold linesB; rw [List.getElem?_map, hy]; rfl)
                    subst hgl
                    have r1 := hrow.out j y hy
                    rw [← (hB9.trans (hB3.out.mono hB9.size)).cell (p := ⟨g6, j, none⟩) hlt8] at r1
                    have r2 := hcl 1 (by omega)
                    rw [← hB3.out.cell (p := ⟨gl, j * 131 + 1, none⟩) hll] at r2
                    rw [show lnE (lnB y) 1 = .int .i64 y from rfl] at r2
                    clear hy
                    go_wp2
                    go_quiet (fail)
                    go_wp2
                    exact ⟨⟨j + 1, by omega, rfl, Below.drewN hB3.out _⟩, by simp only [intOf]; omega⟩
                  · go_wp2
                    have bW : Below w6.heap.size w6 w8 := hB8.out
                    have bT : Below w8.heap.size w8 wr := hB9.trans (hB3.out.mono hB9.size)
                    have bAll : Below w6.heap.size w6 wr := bW.trans (bT.mono bW.size)
                    refine ⟨⟨k + 1, nextR q R b, v4, by omega, rfl, ⟨Hst.out.below bAll, Hbel.out.trans (bAll.mono Hbel.out.size), Hown.out, _, _, by rw [HRN.out], ?_, ?_⟩⟩, by simp only [intOf]; omega⟩
                    · have := HRN.out; omega
                    · intro i y hy
                      refine ⟨⟨g6, 0, none⟩, rfl, Nat.lt_of_lt_of_le hlt8 bT.size, fun hc => ?_, ?_⟩
                      · have hge := (World.ownsRow.lt hO8.out g6 rfl).1
                        have hlt : g6 < w6.heap.size := fm_lt Hst.out hc
                        exact absurd hlt (by omega)
                      · have hadd : (⟨g6, 0, none⟩ : Addr).add i = ⟨g6, i, none⟩ := by unfold Addr.add; split <;> simp_all
                        rw [hadd, bT.cell (p := ⟨g6, i, none⟩) hlt8]
                        exact hrow.out i y hy
        · rw [if_neg hbR]
          rw [show touch (linesB R) (0, b) = linesB R from by unfold touch; rw [find_linesB, if_neg hbR]] at st4
          have HbR := Lib.hid hbR
          clear hbR
          have hbx : Below w4.heap.size w4 ((w4.alloc (.cells (lnA zeroLn) 33)).setRow w4.heap.size (lnA zeroLn)) := below_setRow ((Below.refl _ _).alloc (Nat.le_refl _) _) (Nat.le_refl _) _
          have st5 := st4.below hbx
          have rf5 : RF _ (Fm a m v4) A R := rf4.step (F' := Fm a m v4) (Fr.of_below hbx : Fr (Fm a m v4) _ _) (fun _ h => .inl h)
          have bel5 := bel4.trans (hbx.mono bel4.size)
          have Hst := Lib.hid st5
          have Hrf := Lib.hid rf5
          have Hbel := Lib.hid bel5
          have Hown := Lib.hid own4
          clear st5 rf5 bel5 hbx rf4 step4 own4 bel4 hRF st4 fr4 nr4
          clear HR Hg
          go_wp2_with (first | (refine store_lnW rfl _ _ rfl w4.heap.size zeroLn rfl rfl zeroLn (Blk.new w4 _ _) ?_) | fail)
          generalize (w4.alloc (.cells (lnA zeroLn) 33)).setRow w4.heap.size (lnA zeroLn) = w6 at *
          refine (put_any a m v4 q (linesB R) (lnB b) ⟨ok_small 0 (by omega), hokb⟩ w6 Hst.out).mono ?_
          rintro e w7 ⟨v7, rfl, st7, fr7, nr7⟩
          rw [putOK_linesB hq1]
          rw [putL_linesB HbR.out hq1 hq'] at st7
          have bel7 : Below w.heap.size w w7 := Hbel.out.trans (fr7.below Hbel.out.size Hown.out)
          have own7 : ∀ k, Fm a m v7 k → w.heap.size ≤ k := fun k hk => by
            rcases hk with h | h | h
            · exact Hown.out k (.inl h)
            · exact Hown.out k (.inr (.inl h))
            · rcases nr7 k h with h | h
              · exact Hown.out k (.inr (.inr h))
              · have := Hbel.out.size; omega
          have step7 : ∀ k, Fm a m v7 k → Fm a m v4 k ∨ w6.heap.size ≤ k := fun k hk => by
            rcases hk with h | h | h
            · exact .inl (.inl h)
            · exact .inl (.inr (.inl h))
            · exact (nr7 k h).elim (fun h => .inl (.inr (.inr h))) .inr
          have rf7 := Hrf.out.step fr7 step7
          clear Hst Hrf Hbel Hown
          have Hst := Lib.hid st7
          have Hrf := Lib.hid rf7
          have Hbel := Lib.hid bel7
          have Hown := Lib.hid own7
          clear st7 rf7 step7 own7 bel7 fr7 nr7
          rw [show errV true = .nilIface from rfl]
          go_wp2_with fail
          have hbN : Below w7.heap.size w7 (w7.alloc (.cells #[] 3)) := (Below.refl _ _).alloc (Nat.le_refl _) _
          have hn0 : (w7.alloc (.cells #[] 3)).ownsRow w7.heap.size 3 1 (.slice (some ⟨w7.heap.size, 0, none⟩) 0 0) 0 [] := by
            have h := World.ownsRow_made w7 #[] 0 (base := w7.heap.size) (e := 3) (size := 1) (Nat.le_refl _) (Nat.zero_le _) rfl
            skip
            exact h
          have hBS : w.heap.size ≤ w7.heap.size := Hbel.out.size
          have hR8 : (R.length : Int) ≤ 8 := by omega
          go_loopw [12, 14, 59] (fun nx _ i wq => ∃ j : Nat, j ≤ R.length ∧ i = .int .i64 j ∧ Hid (wq.ownsRow w7.heap.size 3 1 nx (restB (R.take j) b).length ((restB (R.take j) b).map (Value.int .i64))) ∧ Hid (Below w7.heap.size w7 wq)) (fun _ _ i _ => (R.length - intOf i).toNat)
          case atStart => exact ⟨0, Nat.zero_le _, rfl, hn0, hbN⟩
          case round =>
            obtain ⟨j, hj, rfl, hO, hB⟩ := hrel
            by_cases hlj : (j : Int) < (R.length : Int)
            · obtain ⟨x, hx⟩ : ∃ x, R[j]? = some x := ⟨R[j]'(by omega), List.getElem?_eq_getElem (by omega)⟩
              obtain ⟨ax, hax, hx1, hx2, hx3⟩ := Hrf.out j x hx
              subst hax
              rw [← hB.out.cell (p := ax.add j) (by unfold Addr.add; split <;> exact hx1)] at hx3
              have Hx := Lib.hid hx
              clear hx
              by_cases hxb : x = b
              · have hxt : (x != b) = false := by rw [bne_eq_false_iff_eq]; exact hxb
                have Hxb := Lib.hid hxb
                clear hxb
                go_wp2
                refine ⟨⟨j + 1, by omega, rfl, ?_, hB.out⟩, by simp only [intOf]; omega⟩
                rw [restB_take Hx.out, if_pos Hxb.out, List.append_nil]
                exact hO.out
              · have hxt : (x != b) = true := by rw [bne_iff_ne]; exact hxb
                have Hxb := Lib.hid hxb
                clear hxb
                obtain ⟨i0, hi0, hz0, hz1, hz2⟩ := info_parts (show (Try.prog.info? 3).map (fun i => (i.zero, i.size, i.bytes)) = some (some (.int .i64 0), 1, 8) by kernel_rfl)
                have hO2 : Hid ((wr.alloc (.cells #[.int .i64 x] 3)).ownsRow w7.heap.size 3 1 u12 (restB (R.take j) b).length ((restB (R.take j) b).map (Value.int .i64))) := World.ownsRow.alloc hO.out _
                have hB2 : Hid (Below w7.heap.size w7 (wr.alloc (.cells #[.int .i64 x] 3))) := hB.out.alloc hB.out.size _
                have hc2 : Hid (∀ j u, [Value.int .i64 x][j]? = some u → (wr.alloc (.cells #[.int .i64 x] 3)).cell? ((⟨wr.heap.size, 0, none⟩ : Addr).add j) = some u) := cell_one_new wr _ 3
                have hl2 : Hid ((restB (R.take j) b).length ≤ 8) := by
                  unfold Hid
                  have h1 : (restB (R.take j) b).length ≤ (R.take j).length := List.length_filter_le _ _
                  rw [List.length_take] at h1
                  omega
                go_wp2_with (first | (refine wpList_append_lies _ rfl (.tmp 66) (.tmp 68) 22 rfl w7.heap.size 3 i0 _ 1 8 Try.underlying22 hi0 hz0 hz1 hz2 rfl (by omega) u12 (restB (R.take j) b).length ((restB (R.take j) b).map (Value.int .i64)) rfl hO2.out ⟨wr.heap.size, 0, none⟩ 1 1 [.int .i64 x] rfl rfl hc2.out (by intro u hu; simp at hu; subst hu; rfl) (by omega) (by have := hl2.out; simp only [maxLen]; omega) (by have := hl2.out; omega) hB2.out.size _ rfl ?_) | fail)
                intro g6 cap6 w8 hown8 hgr8 hat8 hlt8
                have hT : Hid (w8.ownsRow w7.heap.size 3 1 (.slice (some ⟨g6, 0, none⟩) ((restB (R.take j) b).length + 1) cap6) (restB (R.take (j + 1)) b).length ((restB (R.take (j + 1)) b).map (Value.int .i64))) := by
                  unfold Hid
                  rw [restB_take Hx.out, if_neg Hxb.out, List.length_append, List.map_append]
                  exact hown8
                have hB8 : Hid (Below w7.heap.size w7 w8) := hB2.out.grown hgr8 hB2.out.size (fun k hk => (World.ownsRow.lt hO2.out k hk).1)
                clear hown8 hgr8 hat8
                go_wp2
                exact ⟨⟨j + 1, by omega, rfl, hT, hB8⟩, by simp only [intOf]; omega⟩
            · obtain rfl : j = R.length := by omega
              obtain ⟨i0, hi0, hz0, hz1, hz2⟩ := info_parts (show (Try.prog.info? 3).map (fun i => (i.zero, i.size, i.bytes)) = some (some (.int .i64 0), 1, 8) by kernel_rfl)
              have hO' := hO.out
              rw [List.take_length] at hO'
              have hO2 : Hid ((wr.alloc (.cells #[.int .i64 b] 3)).ownsRow w7.heap.size 3 1 u12 (restB R b).length ((restB R b).map (Value.int .i64))) := World.ownsRow.alloc hO' _
              have hB2 : Hid (Below w7.heap.size w7 (wr.alloc (.cells #[.int .i64 b] 3))) := hB.out.alloc hB.out.size _
              have hc2 : Hid (∀ j u, [Value.int .i64 b][j]? = some u → (wr.alloc (.cells #[.int .i64 b] 3)).cell? ((⟨wr.heap.size, 0, none⟩ : Addr).add j) = some u) := cell_one_new wr _ 3
              have hl2 : Hid ((restB R b).length ≤ 8) := by
                unfold Hid
                have h1 : (restB R b).length ≤ R.length := List.length_filter_le _ _
                omega
              clear hO'
              go_wp2_with (first | (refine wpList_append_lies _ rfl (.tmp 71) (.tmp 73) 22 rfl w7.heap.size 3 i0 _ 1 8 Try.underlying22 hi0 hz0 hz1 hz2 rfl (by omega) u12 (restB R b).length ((restB R b).map (Value.int .i64)) rfl hO2.out ⟨wr.heap.size, 0, none⟩ 1 1 [.int .i64 b] rfl rfl hc2.out (by intro u hu; simp at hu; subst hu; rfl) (by omega) (by have := hl2.out; simp only [maxLen]; omega) (by have := hl2.out; omega) hB2.out.size _ rfl ?_) | fail)
              intro g6 cap6 w8 hown8 hgr8 hat8 hlt8
              have hB8 : Hid (Below w7.heap.size w7 w8) := hB2.out.grown hgr8 hB2.out.size (fun k hk => (World.ownsRow.lt hO2.out k hk).1)
              have hO8 := Lib.hid hown8
              clear hown8 hgr8 hat8
              by_cases hlq : (q : Int) < ((restB R b).length : Int) + 1
              · have hl1 : (1 : Int) ≤ ((restB R b).length : Int) + 1 := by omega
                have hcp := own_cap hO8.out
                have hc1 : ¬ cap6 = 1 := by omega
                have hc3 : (1 : Int) ≤ (cap6 : Int) := by omega
                go_wp2_with fail
                have hRN : (nextR q R b).length = (restB R b).length := by unfold nextR; rw [if_pos (by simp; omega)]; simp
                refine (lines_any a m v7 q (linesB (nextR q R b)) w8 (Hst.out.below hB8.out)).mono ?_
                rintro e w9 ⟨rv, rfl, hln, hB9⟩
                obtain ⟨Al, cl, rfl⟩ : ∃ A c, rv = .slice A (restB R b).length c := by
                  have := Lns.slice hln
                  rwa [linesB_len, hRN] at this
                have HRN := Lib.hid hRN
                clear hRN
                have hln' := Lib.hid hln
                clear hln
                have hNR8 : ((restB R b).length : Int) ≤ 8 := by have := hl2.out; omega
                have hrow : Hid (∀ i y, (nextR q R b)[i]? = some y → w8.cell? ⟨g6, 1 + i, none⟩ = some (.int .i64 y)) := by
                  intro i y hy
                  have hadd : (⟨g6, 0, none⟩ : Addr).add (1 + i) = ⟨g6, 1 + i, none⟩ := by unfold Addr.add; split <;> simp_all
                  have hn : (nextR q R b)[i]? = (restB R b ++ [b])[i + 1]? := by
                    unfold nextR
                    rw [if_pos (by simp; omega)]
                    simp [List.getElem?_tail]
                  have hx := World.ownsRow.cells hO8.out (g := g6) rfl (1 + i) (.int .i64 y) (by
                    rw [hn] at hy
                    rw [show (restB R b).map (Value.int .i64) ++ [.int .i64 b] = (restB R b ++ [b]).map (Value.int .i64) from by simp, List.getElem?_map, Nat.add_comm, hy]
                    rfl)
                  rw [hadd] at hx
                  exact hx
                go_wp2_with fail
                go_loopw [16, 90] (fun _ i wq => ∃ j : Nat, j ≤ (restB R b).length ∧ i = .int .i64 j ∧ Hid (Below w9.heap.size w9 wq)) (fun _ i _ => ((restB R b).length - intOf i).toNat)
                case atStart => exact ⟨0, Nat.zero_le _, rfl, Below.refl _ _⟩
                case round =>
                  obtain ⟨j, hj3, rfl, hB3⟩ := hrel
                  by_cases hl3 : (j : Int) < ((restB R b).length : Int)
                  · obtain ⟨y, hy⟩ : ∃ y, (nextR q R b)[j]? = some y := ⟨(nextR q R b)[j]'(by have := HRN.out; omega), List.getElem?_eq_getElem (by have := HRN.out; omega)⟩
                    obtain ⟨gl, hgl, hll, hcl⟩ := Lns.cell hln'.out (i := j) (l := lnB y) (by unfold linesB; rw [List.getElem?_map, hy]; rfl)
                    subst hgl
                    have r1 := hrow.out j y hy
                    rw [← (hB9.trans (hB3.out.mono hB9.size)).cell (p := ⟨g6, 1 + j, none⟩) hlt8] at r1
                    have r2 := hcl 1 (by omega)
                    rw [← hB3.out.cell (p := ⟨gl, j * 131 + 1, none⟩) hll] at r2
                    rw [show lnE (lnB y) 1 = .int .i64 y from rfl] at r2
                    clear hy
                    go_wp2
                    go_quiet (fail)
                    go_wp2
                    exact ⟨⟨j + 1, by omega, rfl, Below.drewN hB3.out _⟩, by simp only [intOf]; omega⟩
                  · go_wp2
                    have bW : Below w7.heap.size w7 w8 := hB8.out
                    have bT : Below w8.heap.size w8 wr := hB9.trans (hB3.out.mono hB9.size)
                    have bAll : Below w7.heap.size w7 wr := bW.trans (bT.mono bW.size)
                    refine ⟨⟨k + 1, nextR q R b, v7, by omega, rfl, ⟨Hst.out.below bAll, Hbel.out.trans (bAll.mono Hbel.out.size), Hown.out, _, _, by rw [HRN.out], ?_, ?_⟩⟩, by simp only [intOf]; omega⟩
                    · have := HRN.out; omega
                    · intro i y hy
                      refine ⟨⟨g6, 1, none⟩, rfl, Nat.lt_of_lt_of_le hlt8 bT.size, fun hc => ?_, ?_⟩
                      · have hge := (World.ownsRow.lt hO8.out g6 rfl).1
                        have hlt : g6 < w7.heap.size := fm_lt Hst.out hc
                        exact absurd hlt (by omega)
                      · have hadd : (⟨g6, 1, none⟩ : Addr).add i = ⟨g6, 1 + i, none⟩ := by unfold Addr.add; split <;> simp_all
                        rw [hadd, bT.cell (p := ⟨g6, 1 + i, none⟩) hlt8]
                        exact hrow.out i y hy
              · have hcp := own_cap hO8.out
                go_wp2_with fail
                have hRN : (nextR q R b).length = (restB R b).length + 1 := by unfold nextR; rw [if_neg (by simp; omega)]; simp
                refine (lines_any a m v7 q (linesB (nextR q R b)) w8 (Hst.out.below hB8.out)).mono ?_
                rintro e w9 ⟨rv, rfl, hln, hB9⟩
                obtain ⟨Al, cl, rfl⟩ : ∃ A c, rv = .slice A ((restB R b).length + 1) c := by
                  have := Lns.slice hln
                  rwa [linesB_len, hRN] at this
                have HRN := Lib.hid hRN
                clear hRN
                have hln' := Lib.hid hln
                clear hln
                have hNR8 : ((restB R b).length : Int) + 1 ≤ 9 := by have := hl2.out; omega
                have hrow : Hid (∀ i y, (nextR q R b)[i]? = some y → w8.cell? ⟨g6, i, none⟩ = some (.int .i64 y)) := by
                  intro i y hy
                  have hadd : (⟨g6, 0, none⟩ : Addr).add i = ⟨g6, i, none⟩ := by unfold Addr.add; split <;> simp_all
                  have hn : (nextR q R b)[i]? = (restB R b ++ [b])[i]? := by
                    unfold nextR
                    rw [if_neg (by simp; omega)]
                  have hx := World.ownsRow.cells hO8.out (g := g6) rfl i (.int .i64 y) (by
                    rw [hn] at hy
                    rw [show (restB R b).map (Value.int .i64) ++ [.int .i64 b] = (restB R b ++ [b]).map (Value.int .i64) from by simp, List.getElem?_map, hy]
                    rfl)
                  rw [hadd] at hx
                  exact hx
                go_wp2_with fail
                go_loopw [16, 90] (fun _ i wq => ∃ j : Nat, j ≤ (restB R b).length + 1 ∧ i = .int .i64 j ∧ Hid (Below w9.heap.size w9 wq)) (fun _ i _ => (((restB R b).length : Int) + 1 - intOf i).toNat)
                case atStart => exact ⟨0, Nat.zero_le _, rfl, Below.refl _ _⟩
                case round =>
                  obtain ⟨j, hj3, rfl, hB3⟩ := hrel
                  by_cases hl3 : (j : Int) < ((restB R b).length : Int) + 1
                  · obtain ⟨y, hy⟩ : ∃ y, (nextR q R b)[j]? = some y := ⟨(nextR q R b)[j]'(by have := HRN.out; omega), List.getElem?_eq_getElem (by have := HRN.out; omega)⟩
                    obtain ⟨gl, hgl, hll, hcl⟩ := Lns.cell hln'.out (i := j) (l := lnB y) (by unfold linesB; rw [List.getElem?_map, hy]; rfl)
                    subst hgl
                    have r1 := hrow.out j y hy
                    rw [← (hB9.trans (hB3.out.mono hB9.size)).cell (p := ⟨g6, j, none⟩) hlt8] at r1
                    have r2 := hcl 1 (by omega)
                    rw [← hB3.out.cell (p := ⟨gl, j * 131 + 1, none⟩) hll] at r2
                    rw [show lnE (lnB y) 1 = .int .i64 y from rfl] at r2
                    clear hy
                    go_wp2
                    go_quiet (fail)
                    go_wp2
                    exact ⟨⟨j + 1, by omega, rfl, Below.drewN hB3.out _⟩, by simp only [intOf]; omega⟩
                  · go_wp2
                    have bW : Below w7.heap.size w7 w8 := hB8.out
                    have bT : Below w8.heap.size w8 wr := hB9.trans (hB3.out.mono hB9.size)
                    have bAll : Below w7.heap.size w7 wr := bW.trans (bT.mono bW.size)
                    refine ⟨⟨k + 1, nextR q R b, v7, by omega, rfl, ⟨Hst.out.below bAll, Hbel.out.trans (bAll.mono Hbel.out.size), Hown.out, _, _, by rw [HRN.out], ?_, ?_⟩⟩, by simp only [intOf]; omega⟩
                    · have := HRN.out; omega
                    · intro i y hy
                      refine ⟨⟨g6, 0, none⟩, rfl, Nat.lt_of_lt_of_le hlt8 bT.size, fun hc => ?_, ?_⟩
                      · have hge := (World.ownsRow.lt hO8.out g6 rfl).1
                        have hlt : g6 < w7.heap.size := fm_lt Hst.out hc
                        exact absurd hlt (by omega)
                      · have hadd : (⟨g6, 0, none⟩ : Addr).add i = ⟨g6, i, none⟩ := by unfold Addr.add; split <;> simp_all
                        rw [hadd, bT.cell (p := ⟨g6, i, none⟩) hlt8]
                        exact hrow.out i y hy
      · obtain rfl : k = zs.length := by omega
        go_wp2
        go_ret
        exact ⟨rfl, HR.out.bel⟩
/-! ### the row's frame -/
theorem cacheUsed_own : ownKnob Try.prog.godebug = none := by kernel_rfl
theorem cacheUsed_laid : laidOutB Try.prog = true := by kernel_rfl
set_option maxRecDepth 100000 in
theorem cacheUsed_lifted (os : Os) (started : os.Started) (H : Type) (enc : TypeId × Value → H) :
    ReturnsInHanded {} Try.checked os 3 .any (Rows.cacheUsedSpec.pre6 enc Try.prog Try.f3 Rows.cacheUsedRow.domain false) (Rows.cacheUsedSpec.post enc Try.prog Try.f3 false true false false) := by
  refine returnsInHanded_of_change (C := Try.checked) cacheUsed_own started (by kernel_rfl) Try.func3
    (ChangeSpec.witness6 (enc := enc) (C := Try.checked) false ⟨#[], #[.int .i64 0, .slice none 0 0], []⟩ 8 (by kernel_rfl) (by kernel_rfl) (by kernel_rfl) (by kernel_rfl)) ?_
  intro W base args ds gs before hval0 hW hcnd _
  have hval : ∀ (j : Nat) t v, Try.f3.params[j]? = some t → args[j]? = some v → Value.okWide Try.prog W .any base t v := hval0
  have hW' := hW
  obtain ⟨p, q, hA0, hV, rfl, hfz, hnd⟩ := hW
  have hlt0 : ∀ x ∈ p, x.block < W.heap.size := fun x hx => hW'.lt x (List.mem_append.2 (.inl hx))
  have hA : DataW.TrodAll enc Try.prog W 0 (fun _ => true) true Try.f3.params.toList args.toList ds p := hA0
  rw [Try.params3] at hA hval
  obtain ⟨v0, vs0, d0, ds0, p0, q0, hargs, rfl, rfl, h0, r0⟩ := trodAll_cons hA
  obtain ⟨v1, vs1, d1, ds1, p1, q1, rfl, rfl, rfl, h1, r1⟩ := trodAll_cons r0
  obtain ⟨rfl, rfl, rfl⟩ := trodAll_nil r1
  obtain rfl : args = #[v0, v1] := by cases args; simp_all
  obtain ⟨rfl, rfl⟩ := trodVars_none hV
  have k0 := h0
  have lt0 : ∀ x ∈ p0, x.block < W.heap.size := fun x hx => hlt0 x (by simp [hx])
  have k1 := h1
  have lt1 : ∀ x ∈ p1, x.block < W.heap.size := fun x hx => hlt0 x (by simp [hx])
  obtain ⟨a0, rfl, rfl, rfl, w0⟩ := open_int Try.underlying3 (hval 0 3 v0 rfl rfl) h0
  obtain ⟨A1, n1, c1, zs1, rfl, hl1, hn1, hm1, hr1, hk1⟩ := ints_of (hval 1 22 v1 rfl rfl) h1
  clear hA0 hval0
  refine (cacheUsed_walk a0 (ok64_of w0) A1 n1 c1 zs1 hl1 hn1 hm1 W hr1 hk1).mono fun e W' ⟨he, bel⟩ => ?_
  subst he
  exact ⟨_, rfl, _, _, _, [], _, [], hW', trodAll_mk1 (shut_bool Try.underlying4 _), (trodAll_cons_mk (Below.trod cacheUsed_laid (by kernel_rfl) (of_decide_eq_true (by kernel_rfl)) k0 bel lt0) (trodAll_cons_mk (Below.trod cacheUsed_laid (by kernel_rfl) (of_decide_eq_true (by kernel_rfl)) k1 bel lt1) trodAll_mk0)), rfl, bel.frame _, fun h => by cases h⟩

theorem cacheUsed_proved : Rows.CacheUsedSaid :=
  OpenClaim.holds_of_wide 3 Try.f3 rfl rfl rfl rfl rfl rfl rfl ⟨rfl, rfl, rfl, rfl, rfl⟩ rfl rfl rfl rfl rfl (by kernel_rfl) Try.func3 (by kernel_rfl)
    (of_decide_eq_true (by kernel_rfl)) (by unfold Func.isWrapper; rw [if_neg (of_decide_eq_false (by kernel_rfl))]; exact ⟨rfl, rfl⟩)
    (fun os started H enc _ => cacheUsed_lifted os started H enc)
#print axioms cacheUsed_proved

end Go.Proofs.Ytheilnaommcjjaa

