/-
  CacheBounds: for every quota and every script the law returns true and leaves its arguments alone. No condition.
-/
import Derived.Test.YtheilnaommcjjaaBoundsLaw
import Derived.Test.YtheilnaommcjjaaOpen
namespace Go.Proofs.Ytheilnaommcjjaa
open Go.ChangeShapes Go.WideShapes Go.ChangeAt Go.RowKit
open Go.Maps (Keyed)
set_option linter.unusedVariables false

/-- what holds between two rounds -/
structure BInv (w0 W : World) (a m q : Nat) (v : Value) (L : List Ln) : Prop where
  st : St W a m v q L
  bel : Below w0.heap.size w0 W
  siz : w0.heap.size ≤ W.heap.size
  own : ∀ k, Fm a m v k → w0.heap.size ≤ k
theorem BInv.step {w0 W W' : World} {a m q : Nat} {v v' : Value} {L L' : List Ln} (h : BInv w0 W a m q v L) (hst : St W' a m v' q L') (hg : Grow (Fm a m v) (Fm a m v') W W') : BInv w0 W' a m q v' L' := by
  obtain ⟨s1, s2, s3⟩ := hg.step h.bel h.siz h.own
  exact ⟨hst, s1, s2, s3⟩
theorem BInv.below {w0 W W' : World} {a m q : Nat} {v : Value} {L : List Ln} (h : BInv w0 W a m q v L) (hb : Below W.heap.size W W') : BInv w0 W' a m q v L :=
  h.step (h.st.below hb) (Grow.below hb)
theorem BInv.fr {w0 W W' : World} {a m q : Nat} {v : Value} {L : List Ln} {F : Nat → Prop} (h : BInv w0 W a m q v L) (hf : Fr F W W') (h1 : ∀ k, F k → ¬ Fm a m v k) (h2 : ∀ k, F k → w0.heap.size ≤ k) : BInv w0 W' a m q v L :=
  ⟨h.st.fr hf h1, h.bel.trans (hf.below h.siz h2), Nat.le_trans h.siz hf.size, h.own⟩

set_option maxHeartbeats 4000000 in
set_option maxRecDepth 20000 in
theorem cacheBounds_walk (a0 : Int) (_ : ok64 a0) (A : Option Addr) (n c : Nat) (zs : List OpD) (hz : zs.length = n) (_ : n ≤ c) (_ : c ≤ maxLen) (w : World) (hr : RO w w.heap.size A zs) (hok : ∀ z ∈ zs, z.ok) :
    Calls Try.prog 4 #[.int .i64 a0, .slice A n c] w fun e w' => e = .returned (.bool true) ∧ Below w.heap.size w w' := by
  subst hz
  by_cases hbig : (400 : Int) < (zs.length : Int)
  · go_enter Try.func4, Try.ntmps4
    go_wp2_with fail
    refine (alive_any w).mono ?_
    rintro e w1 ⟨rfl, hb1⟩
    go_wp2
    go_ret
    exact ⟨rfl, hb1⟩
  by_cases hlo : a0 < 1
  · go_enter Try.func4, Try.ntmps4
    go_wp2_with fail
    refine (alive_any w).mono ?_
    rintro e w1 ⟨rfl, hb1⟩
    go_wp2
    go_ret
    exact ⟨rfl, hb1⟩
  by_cases hhi : 8 < a0
  · go_enter Try.func4, Try.ntmps4
    go_wp2_with fail
    refine (alive_any w).mono ?_
    rintro e w1 ⟨rfl, hb1⟩
    go_wp2
    go_ret
    exact ⟨rfl, hb1⟩
  obtain ⟨q, rfl⟩ : ∃ q : Nat, a0 = (q : Int) := ⟨a0.toNat, by omega⟩
  have hq1 : 1 ≤ q := by omega
  have hq8 : q ≤ 8 := by omega
  have hmm := @run_makeMap Try.prog
  go_enter Try.func4, Try.ntmps4
  go_wp2_with fail
  refine (alive_any w).mono ?_
  rintro e w1 ⟨rfl, hb1⟩
  go_wp2_with fail
  refine (new_any q hq1 hq8 w1).mono ?_
  rintro e w2 ⟨a, m, rfl, st, hb2, ha, hm⟩
  go_wp2_with fail
  have hI : BInv w w2 a m q (.slice none 0 0) [] :=
    ⟨st, (hb1.trans (hb2.mono hb1.size)), by have := hb1.size; have := hb2.size; omega, fun k hk => (by
      rcases hk with h | h | h
      · have := hb1.size; omega
      · have := hb1.size; omega
      · cases h)⟩
  have HI := Lib.hid hI
  clear hI
  have hz := lnA_zero
  have hfs := lnA_size
  clear st hb2 ha hm
  go_loopw [38] (fun i wr => ∃ (k : Nat) (L : List Ln) (v : Value), k ≤ zs.length ∧ i = .int .i64 k ∧ Hid (BInv w wr a m q v L)) (fun i _ => (zs.length - intOf i).toNat)
  case atStart => exact ⟨0, [], _, Nat.zero_le _, rfl, HI.out⟩
  case round =>
    obtain ⟨k, L, v, hk, rfl, HR⟩ := hrel
    by_cases hlt : (k : Int) < (zs.length : Int)
    · obtain ⟨o, ho⟩ : ∃ o, zs[k]? = some o := ⟨zs[k]'(by omega), List.getElem?_eq_getElem (by omega)⟩
      have hoo := hok o (List.mem_of_getElem? ho)
      obtain ⟨ad, rfl, had, hco⟩ := (hr.below HR.out.bel) k o ho
      have Hld := Lib.hid (load_op hco)
      have Ho := Lib.hid ho
      clear hco ho
      have hbx : Below wr.heap.size wr (wr.alloc (.cells (opA o) 42)) := (Below.refl _ _).alloc (Nat.le_refl _) _
      have hB := Blk.new wr (opA o) 42
      have HR1 := Lib.hid (HR.out.below hbx)
      have hnf : ¬ Fm a m v wr.heap.size := fun h => by have := HR.out.st.fm_lt h; omega
      have hL8 : L.length ≤ 8 := Nat.le_trans HR.out.st.len HR.out.st.q8
      have HND := Lib.hid HR.out.st.nodup
      have hLok := HR.out.st.ok
      clear hbx HR
      unfold opA at hB Hld HR1
      by_cases hk0 : o.k = 0
      · have hk0t : (o.k == 0) = true := by rw [beq_iff_eq]; exact hk0
        have hk0n : (o.k != 0) = false := by rw [bne_eq_false_iff_eq]; exact hk0
        have HK := Lib.hid hk0
        clear hk0
        go_wp2_with (first | (refine loadW rfl 42 _ rfl (ad.add (k * 5)) rfl _ Hld.out ?_) | fail)
        obtain ⟨W, hW⟩ : ∃ W, W = wr.alloc (.cells #[.int .i64 o.k, .int .i64 o.u, .int .i64 o.b, .int .u8 o.c, .bool o.d] 42) := ⟨_, rfl⟩
        have hsz : wr.heap.size < W.heap.size := by rw [hW, World.size_alloc]; omega
        rw [← hW] at hB HR1 ⊢
        clear hW
        have hs2 : ok64 o.u ∧ ok64 o.b := ⟨hoo.2.1, hoo.2.2.1⟩
        refine (dirty_g 99 (by omega) HR1.out.st).mono ?_
        rintro e W2 ⟨A2, c2, rfl, hl2, hb2⟩
        rw [take_all hL8] at hl2
        rw [take_all hL8]
        have HR2 := Lib.hid (HR1.out.below hb2)
        have SN2 := Lib.hid (Snap.of_lns (G := Fm a m v) hl2 (fun k hk => HR1.out.st.fm_lt hk))
        have hB2 := hB.below hb2 hB.lt
        have hsz2 := Nat.lt_of_lt_of_le hsz hb2.size
        have hdl : ((dirtyOf L).length : Int) ≤ 8 := by have := dirty_len hL8; omega
        clear hl2 hb2 HR1 hB
        have c0 := hB2.cell (j := 0) rfl
        have c1 := hB2.cell (j := 1) rfl
        have c2 := hB2.cell (j := 2) rfl
        have c3 := hB2.cell (j := 3) rfl
        have c4 := hB2.cell (j := 4) rfl
        go_wp2_with fail
        refine (get_g (o.u, o.b) hs2 HR2.out.st).mono ?_
        rintro e W3 ⟨v3, rfl, st3, gr3⟩
        have HR3 := Lib.hid (HR2.out.step st3 gr3)
        have SN3 := Lib.hid (SN2.out.fr gr3)
        have hB3 := gr3.1.blk hB2 hnf
        have HKEEP := touch_dirty HND.out (o.u, o.b)
        clear st3 gr3 HR2 SN2 hB2 c0 c1 c2 c3 c4
        have c0 := hB3.cell (j := 0) rfl
        go_wp2_with fail
        refine (lines_g HR3.out.st).mono ?_
        rintro e W5 ⟨A5, c5, rfl, hl5, hb5⟩
        have HR5 := Lib.hid (HR3.out.below hb5)
        have SN5 := Lib.hid (SN3.out.fr (Grow.below hb5))
        have hB5 := hB3.below hb5 hB3.lt
        have hlen5 : ((touch L (o.u, o.b)).length : Int) ≤ (q : Int) := by have := HR5.out.st.len; omega
        have e0 := hB5.cell (j := 0) rfl
        clear hl5 hb5 c0
        go_wp2_with fail
        obtain ⟨bm, hbm⟩ : ∃ bm, bm = W5.heap.size := ⟨_, rfl⟩
        have hb6 : Below W5.heap.size W5 (W5.alloc (.map #[] 0)) := (Below.refl _ _).alloc (Nat.le_refl _) _
        have HR6 := Lib.hid (HR5.out.below hb6)
        have SN6 := Lib.hid (SN5.out.fr (Grow.below hb6))
        have hC6 : CountM (W5.alloc (.map #[] 0)) bm [] := by rw [hbm]; exact CountM.made W5
        have hbf6 : ¬ Fm a m v3 bm := fun h => by have := HR5.out.st.fm_lt h; omega
        have hbw : w.heap.size ≤ bm := by rw [hbm]; exact HR5.out.siz
        have hbs6 : ∀ g, A2 = some ⟨g, 0, none⟩ → (dirtyOf L).length ≠ 0 → g ≠ bm := fun g hg hne he => by
          obtain ⟨x, hx⟩ : ∃ x, (dirtyOf L)[0]? = some x := ⟨(dirtyOf L)[0]'(by omega), List.getElem?_eq_getElem (by omega)⟩
          obtain ⟨g', h1, _, h3, _⟩ := SN5.out 0 x hx
          rw [hg] at h1
          have : g = g' := by injection h1 with h1; injection h1
          omega
        have Hbs6 := Lib.hid hbs6
        rw [← hbm]
        generalize W5.alloc (.map #[] 0) = W6 at *
        have Hbm := Lib.hid hbm
        clear hbm HR5 SN5 hB5 hb6 e0 hbs6
        refine (dirty_g 99 (by omega) HR6.out.st).mono ?_
        rintro e W7 ⟨A7, c7, rfl, hl7, hb7⟩
        have h8 : (touch L (o.u, o.b)).length ≤ 8 := Nat.le_trans HR6.out.st.len HR6.out.st.q8
        rw [take_all h8] at hl7
        rw [take_all h8]
        have hnow8 := dirty_len h8
        have HR7 := Lib.hid (HR6.out.below hb7)
        have SN7 := Lib.hid (SN6.out.fr (Grow.below hb7))
        have hC7 := hC6.below hb7 hC6.lt
        have SW7 := Lib.hid (Snap.of_lns (G := fun k => k = bm) hl7 (fun k (hk : k = bm) => by rw [hk]; exact hC6.lt))
        have Hhave := Lib.hid (fun l (hl : l ∈ dirtyOf L) => HKEEP l hl)
        have hnd := Lib.hid (dirty_nodup HR7.out.st.nodup)
        have hnok : Hid (∀ l ∈ dirtyOf (touch L (o.u, o.b)), ok64 l.u ∧ ok64 l.b) := fun l hl => HR7.out.st.ok l (dirtyOf_mem.1 hl).1
        generalize hN : dirtyOf (touch L (o.u, o.b)) = N at *
        have HN := Lib.hid hN
        clear hN hl7 hb7 HR6 SN6 hC6
        have hN8 : (N.length : Int) ≤ 8 := by omega
        go_wp2_with fail
        go_loopw [93] (fun i wq => ∃ j : Nat, j ≤ N.length ∧ i = .int .i64 j ∧ Hid (CountM wq bm ((N.take j).map Ln.spot)) ∧ Hid (Fr (fun k => k = bm) W7 wq)) (fun i _ => (N.length - intOf i).toNat)
        case atStart => exact ⟨0, Nat.zero_le _, rfl, hC7, Fr.refl _ _⟩
        case round =>
          obtain ⟨j, hj, rfl, hCj, hFj⟩ := hrel
          by_cases hlj : (j : Int) < (N.length : Int)
          · obtain ⟨x, hx⟩ : ∃ x, N[j]? = some x := ⟨N[j]'(by omega), List.getElem?_eq_getElem (by omega)⟩
            obtain ⟨g, rfl, hg1, hg2, hcl⟩ := SW7.out j x hx
            have hxm := List.mem_of_getElem? hx
            have hcl2 : ∀ t, t < 131 → wr.cell? ⟨g, j * 131 + t, none⟩ = some (lnE x t) := fun t ht => by
              rw [World.cell?_of_block (w := W7) (w' := wr) (a := ⟨g, j * 131 + t, none⟩) (hFj.out.block g hg2 hg1)]
              exact hcl t ht
            have Hl := Lib.hid (loadVar_mid x wr g (j * 131) hcl2)
            have hbx : Below wr.heap.size wr ((wr.alloc (.cells (lnA zeroLn) 33)).setRow wr.heap.size (lnA x)) := below_setRow ((Below.refl _ _).alloc (Nat.le_refl _) _) (Nat.le_refl _) _
            have hX : Blk ((wr.alloc (.cells (lnA zeroLn) 33)).setRow wr.heap.size (lnA x)) wr.heap.size (lnA x) 33 := Blk.setRow (Blk.new _ _ _) _
            have hN2 := Blk.new wr (lnA zeroLn) 33
            have hC8 := hCj.out.below hbx hCj.out.lt
            have hF8 := Lib.hid (hFj.out.trans (Fr.of_below hbx : Fr (fun k => k = bm) wr _) (fun _ h => .inl h))
            have hltb := hC8.lt
            obtain ⟨W8, hW8⟩ : ∃ W8, (wr.alloc (.cells (lnA zeroLn) 33)).setRow wr.heap.size (lnA x) = W8 := ⟨_, rfl⟩
            rw [hW8] at hX hC8 hF8 hltb
            have HW8 := Lib.hid hW8
            have hSok : ∀ s ∈ (N.take j).map Ln.spot, ok64 s.1 ∧ ok64 s.2 := fun s hs => by
              obtain ⟨l, hl, rfl⟩ := List.mem_map.1 hs
              exact hnok.out l (List.mem_of_mem_take hl)
            have hnin : x.spot ∉ (N.take j).map Ln.spot := fun hm => by
              have h1 : (N.map Ln.spot)[j]? = some x.spot := by rw [List.getElem?_map, hx]; rfl
              rw [List.map_take] at hm
              obtain ⟨i, hi⟩ := List.mem_iff_getElem?.1 hm
              rw [List.getElem?_take] at hi
              split at hi
              · rename_i hij
                have l1 := (List.getElem?_eq_some_iff.1 hi).1
                have := (List.getElem?_inj l1 hnd.out).1 (hi.trans h1.symm)
                omega
              · cases hi
            have hxok := hnok.out x hxm
            have hlk0 := (show CountM W8.drew bm _ from hC8).look (s := x.spot) hSok hxok
            rw [if_neg hnin] at hlk0
            obtain ⟨W9, W10, hme, hlk1, hes, hgr, hC10⟩ := (show CountM W8.drew bm _ from hC8).step (s := x.spot) hSok hxok hnin
            have hsn : (N.take j).map Ln.spot ++ [x.spot] = (N.take (j + 1)).map Ln.spot := by
              rw [List.take_add_one, hx]; simp
            rw [hsn] at hC10
            have hjl : ((N.take j).map Ln.spot).length = j := by rw [List.length_map, List.length_take]; omega
            rw [hjl] at hme hes
            have hme' : (Instr.mapEntry 47 (.map (some bm)) (.agg #[.int .i64 x.u, .int .i64 x.b])).run Try.prog W8.drew = .ok (.tuple #[.int .i64 0, .int .i64 j]) W9 := hme
            have hlk0' : (Instr.lookup 47 (.map (some bm)) (.agg #[.int .i64 x.u, .int .i64 x.b]) false).run Try.prog W8.drew = .ok (.int .i64 0) W8.drew := hlk0
            have hlk1' : (Instr.lookup 47 (.map (some bm)) (.agg #[.int .i64 x.u, .int .i64 x.b]) false).run Try.prog W9 = .ok (.int .i64 0) W9 := hlk1
            have HC10 := Lib.hid hC10
            have Hgr := Lib.hid hgr
            have x0 := hX.cell (lnA_at x 0 (by omega))
            have x1 := hX.cell (lnA_at x 1 (by omega))
            rw [show lnE x 0 = .int .i64 x.u from rfl] at x0
            rw [show lnE x 1 = .int .i64 x.b from rfl] at x1
            have Hhx := Lib.hid hx
            clear hx hcl hcl2 hbx hC8 hSok hnin hlk0 hlk1 hme hgr hC10 hsn hjl hW8 hltb hg1
            go_wp2_with (first | (refine loadW rfl 33 _ rfl ⟨g, j * 131, none⟩ rfl _ Hl.out ?_) | (refine store_lnW rfl _ _ rfl wr.heap.size x rfl rfl zeroLn hN2 ?_; rw [HW8.out]) | fail)
            have hw1 : IntKind.i64.wrap 1 = 1 := by decide
            go_region
            all_goals (
              have f9 : Fr (fun k => k = bm) W8.drew W10 := Fr.of_grown Hgr.out (fun k hk => (Option.some.inj hk).symm)
              have f10 : Hid (Fr (fun k => k = bm) W7 W10) := hF8.out.drew'.trans f9 (fun _ h => .inl h)
              clear f9
              go_wp2
              exact ⟨⟨j + 1, by omega, rfl, HC10.out, f10.out⟩, by simp only [intOf]; omega⟩)
          · obtain rfl : j = N.length := by omega
            rw [List.take_length] at hCj
            have SN8 : Hid (Snap (fun k => k = bm) wr A2 (dirtyOf L)) := fun i l hi => by
              obtain ⟨g, h1, h2, h3, h4⟩ := SN7.out i l hi
              have hgb : g ≠ bm := Hbs6.out g h1 (by have := (List.getElem?_eq_some_iff.1 hi).1; omega)
              refine ⟨g, h1, hgb, Nat.lt_of_lt_of_le h3 hFj.out.size, fun t ht => ?_⟩
              rw [World.cell?_of_block (w := W7) (w' := wr) (a := ⟨g, i * 131 + t, none⟩) (hFj.out.block g h3 hgb)]
              exact h4 t ht
            have HR8 : Hid (BInv w wr a m q v3 (touch L (o.u, o.b))) := HR7.out.fr hFj.out (fun k (hk : k = bm) => by rw [hk]; exact hbf6) (fun k (hk : k = bm) => by rw [hk]; exact hbw)
            have hwas8 : ((dirtyOf L).length : Int) ≤ 8 := by have := dirty_len (L := L) hL8; omega
            have hwok := Lib.hid (fun l (hl : l ∈ dirtyOf L) => hLok l (dirtyOf_mem.1 hl).1)
            obtain ⟨Wq, hWq⟩ : ∃ Wq, Wq = wr := ⟨_, rfl⟩
            rw [← hWq] at hCj SN8 HR8 hFj ⊢
            clear hWq SN7 HR7 SW7
            go_wp2_with fail
            go_loopw [110] (fun i wq => ∃ t : Nat, t ≤ (dirtyOf L).length ∧ i = .int .i64 t ∧ Hid (Below Wq.heap.size Wq wq)) (fun i _ => ((dirtyOf L).length - intOf i).toNat)
            case atStart => exact ⟨0, Nat.zero_le _, rfl, Below.refl _ _⟩
            case round =>
              obtain ⟨t, ht, rfl, hBt⟩ := hrel
              by_cases hlt3 : (t : Int) < ((dirtyOf L).length : Int)
              · obtain ⟨x, hx⟩ : ∃ x, (dirtyOf L)[t]? = some x := ⟨(dirtyOf L)[t]'(by omega), List.getElem?_eq_getElem (by omega)⟩
                obtain ⟨g, rfl, hg1, hg2, hcl⟩ := SN8.out t x hx
                have hxm := List.mem_of_getElem? hx
                have hcl2 : ∀ j, j < 131 → wr.cell? ⟨g, t * 131 + j, none⟩ = some (lnE x j) := fun j hj => by
                  rw [hBt.out.cell (p := ⟨g, t * 131 + j, none⟩) hg2]
                  exact hcl j hj
                have Hl := Lib.hid (loadVar_mid x wr g (t * 131) hcl2)
                have hbx : Below wr.heap.size wr ((wr.alloc (.cells (lnA zeroLn) 33)).setRow wr.heap.size (lnA x)) := below_setRow ((Below.refl _ _).alloc (Nat.le_refl _) _) (Nat.le_refl _) _
                have hX : Blk ((wr.alloc (.cells (lnA zeroLn) 33)).setRow wr.heap.size (lnA x)) wr.heap.size (lnA x) 33 := Blk.setRow (Blk.new _ _ _) _
                have hN2 := Blk.new wr (lnA zeroLn) 33
                have hB8 := Lib.hid (hBt.out.trans (hbx.mono hBt.out.size))
                have hC8 := hCj.out.below hB8.out hCj.out.lt
                obtain ⟨W8, hW8⟩ : ∃ W8, (wr.alloc (.cells (lnA zeroLn) 33)).setRow wr.heap.size (lnA x) = W8 := ⟨_, rfl⟩
                rw [hW8] at hX hC8 hB8
                have HW8 := Lib.hid hW8
                have hSok : ∀ s ∈ N.map Ln.spot, ok64 s.1 ∧ ok64 s.2 := fun s hs => by
                  obtain ⟨l, hl, rfl⟩ := List.mem_map.1 hs
                  exact hnok.out l hl
                have hlk0 := hC8.look (s := x.spot) hSok (hwok.out x hxm)
                have hin : x.spot ∈ N.map Ln.spot := Hhave.out x hxm
                rw [if_pos hin] at hlk0
                have hlk0' : (Instr.lookup 47 (.map (some bm)) (.agg #[.int .i64 x.u, .int .i64 x.b]) false).run Try.prog W8 = .ok (.int .i64 1) W8 := hlk0
                have x0 := hX.cell (lnA_at x 0 (by omega))
                have x1 := hX.cell (lnA_at x 1 (by omega))
                rw [show lnE x 0 = .int .i64 x.u from rfl] at x0
                rw [show lnE x 1 = .int .i64 x.b from rfl] at x1
                have Hhx := Lib.hid hx
                clear hx hcl hcl2 hbx hC8 hSok hlk0 hin hW8 hg1
                go_wp2_with (first | (refine loadW rfl 33 _ rfl ⟨g, t * 131, none⟩ rfl _ Hl.out ?_) | (refine store_lnW rfl _ _ rfl wr.heap.size x rfl rfl zeroLn hN2 ?_; rw [HW8.out]) | fail)
                exact ⟨⟨t + 1, by omega, rfl, hB8.out⟩, by simp only [intOf]; omega⟩
              · go_wp2
                exact ⟨⟨k + 1, touch L (o.u, o.b), v3, by omega, rfl, HR8.out.below hBt.out⟩, by simp only [intOf]; omega⟩
      by_cases hk1 : o.k = 1
      · have hk0f : (o.k == 0) = false := beq_eq_false_iff_ne.2 hk0
        have hk1t : (o.k == 1) = true := by rw [beq_iff_eq]; exact hk1
        have hk0n : (o.k != 0) = true := by rw [bne_iff_ne]; exact hk0
        have hk1n : (o.k != 1) = false := by rw [bne_eq_false_iff_eq]; exact hk1
        have HK := Lib.hid hk1
        clear hk0 hk1
        go_wp2_with (first | (refine loadW rfl 42 _ rfl (ad.add (k * 5)) rfl _ Hld.out ?_) | fail)
        obtain ⟨W, hW⟩ : ∃ W, W = wr.alloc (.cells #[.int .i64 o.k, .int .i64 o.u, .int .i64 o.b, .int .u8 o.c, .bool o.d] 42) := ⟨_, rfl⟩
        have hsz : wr.heap.size < W.heap.size := by rw [hW, World.size_alloc]; omega
        rw [← hW] at hB HR1 ⊢
        clear hW
        have hs2 : ok64 o.u ∧ ok64 o.b := ⟨hoo.2.1, hoo.2.2.1⟩
        refine (dirty_g 99 (by omega) HR1.out.st).mono ?_
        rintro e W2 ⟨A2, c2, rfl, hl2, hb2⟩
        rw [take_all hL8] at hl2
        rw [take_all hL8]
        have HR2 := Lib.hid (HR1.out.below hb2)
        have SN2 := Lib.hid (Snap.of_lns (G := Fm a m v) hl2 (fun k hk => HR1.out.st.fm_lt hk))
        have hB2 := hB.below hb2 hB.lt
        have hsz2 := Nat.lt_of_lt_of_le hsz hb2.size
        have hdl : ((dirtyOf L).length : Int) ≤ 8 := by have := dirty_len hL8; omega
        clear hl2 hb2 HR1 hB
        have c0 := hB2.cell (j := 0) rfl
        have c1 := hB2.cell (j := 1) rfl
        have c2 := hB2.cell (j := 2) rfl
        have c3 := hB2.cell (j := 3) rfl
        have c4 := hB2.cell (j := 4) rfl
        go_wp2_with fail
        have lo := Lib.hid (line_any o W2)
        unfold opA at lo
        refine lo.out.mono ?_
        rintro e Wl ⟨rfl, hbl⟩
        have HRl := Lib.hid (HR2.out.below hbl)
        have SNl := Lib.hid (SN2.out.fr (Grow.below hbl))
        have hBl := hB2.below hbl hB2.lt
        clear hbl HR2 SN2 hB2 lo c0 c1 c2 c3 c4
        go_wp2_with fail
        refine (put_g o.ln hs2 HRl.out.st).mono ?_
        rintro e W3 ⟨v3, rfl, st3, gr3⟩
        have HR3 := Lib.hid (HRl.out.step st3 gr3)
        have SN3 := Lib.hid (SNl.out.fr gr3)
        have hB3 := gr3.1.blk hBl hnf
        have HKEEP := putL_dirty (q := q) HND.out o.ln
        cases hpo : putOK q L o.ln
        · have hfull := put_full hpo HRl.out.st.len
          have hfn : (((dirtyOf L).length : Int) != (q : Int)) = false := by rw [bne_eq_false_iff_eq]; omega
          rw [show errV false = full from rfl]
          unfold full
          have HPO := Lib.hid hpo
          have HFU := Lib.hid hfull
          clear st3 gr3 HRl SNl hBl hpo hfull
          have c0 := hB3.cell (j := 0) rfl
          go_wp2_with fail
          refine (lines_g HR3.out.st).mono ?_
          rintro e W5 ⟨A5, c5, rfl, hl5, hb5⟩
          have HR5 := Lib.hid (HR3.out.below hb5)
          have SN5 := Lib.hid (SN3.out.fr (Grow.below hb5))
          have hB5 := hB3.below hb5 hB3.lt
          have hlen5 : ((putL q L o.ln).length : Int) ≤ (q : Int) := by have := HR5.out.st.len; omega
          have e0 := hB5.cell (j := 0) rfl
          clear hl5 hb5 c0
          go_wp2_with fail
          obtain ⟨bm, hbm⟩ : ∃ bm, bm = W5.heap.size := ⟨_, rfl⟩
          have hb6 : Below W5.heap.size W5 (W5.alloc (.map #[] 0)) := (Below.refl _ _).alloc (Nat.le_refl _) _
          have HR6 := Lib.hid (HR5.out.below hb6)
          have SN6 := Lib.hid (SN5.out.fr (Grow.below hb6))
          have hC6 : CountM (W5.alloc (.map #[] 0)) bm [] := by rw [hbm]; exact CountM.made W5
          have hbf6 : ¬ Fm a m v3 bm := fun h => by have := HR5.out.st.fm_lt h; omega
          have hbw : w.heap.size ≤ bm := by rw [hbm]; exact HR5.out.siz
          have hbs6 : ∀ g, A2 = some ⟨g, 0, none⟩ → (dirtyOf L).length ≠ 0 → g ≠ bm := fun g hg hne he => by
            obtain ⟨x, hx⟩ : ∃ x, (dirtyOf L)[0]? = some x := ⟨(dirtyOf L)[0]'(by omega), List.getElem?_eq_getElem (by omega)⟩
            obtain ⟨g', h1, _, h3, _⟩ := SN5.out 0 x hx
            rw [hg] at h1
            have : g = g' := by injection h1 with h1; injection h1
            omega
          have Hbs6 := Lib.hid hbs6
          rw [← hbm]
          generalize W5.alloc (.map #[] 0) = W6 at *
          have Hbm := Lib.hid hbm
          clear hbm HR5 SN5 hB5 hb6 e0 hbs6
          refine (dirty_g 99 (by omega) HR6.out.st).mono ?_
          rintro e W7 ⟨A7, c7, rfl, hl7, hb7⟩
          have h8 : (putL q L o.ln).length ≤ 8 := Nat.le_trans HR6.out.st.len HR6.out.st.q8
          rw [take_all h8] at hl7
          rw [take_all h8]
          have hnow8 := dirty_len h8
          have HR7 := Lib.hid (HR6.out.below hb7)
          have SN7 := Lib.hid (SN6.out.fr (Grow.below hb7))
          have hC7 := hC6.below hb7 hC6.lt
          have SW7 := Lib.hid (Snap.of_lns (G := fun k => k = bm) hl7 (fun k (hk : k = bm) => by rw [hk]; exact hC6.lt))
          have Hhave := Lib.hid (fun l (hl : l ∈ dirtyOf L) => HKEEP l hl)
          have hnd := Lib.hid (dirty_nodup HR7.out.st.nodup)
          have hnok : Hid (∀ l ∈ dirtyOf (putL q L o.ln), ok64 l.u ∧ ok64 l.b) := fun l hl => HR7.out.st.ok l (dirtyOf_mem.1 hl).1
          generalize hN : dirtyOf (putL q L o.ln) = N at *
          have HN := Lib.hid hN
          clear hN hl7 hb7 HR6 SN6 hC6
          have hN8 : (N.length : Int) ≤ 8 := by omega
          go_wp2_with fail
          go_loopw [93] (fun i wq => ∃ j : Nat, j ≤ N.length ∧ i = .int .i64 j ∧ Hid (CountM wq bm ((N.take j).map Ln.spot)) ∧ Hid (Fr (fun k => k = bm) W7 wq)) (fun i _ => (N.length - intOf i).toNat)
          case atStart => exact ⟨0, Nat.zero_le _, rfl, hC7, Fr.refl _ _⟩
          case round =>
            obtain ⟨j, hj, rfl, hCj, hFj⟩ := hrel
            by_cases hlj : (j : Int) < (N.length : Int)
            · obtain ⟨x, hx⟩ : ∃ x, N[j]? = some x := ⟨N[j]'(by omega), List.getElem?_eq_getElem (by omega)⟩
              obtain ⟨g, rfl, hg1, hg2, hcl⟩ := SW7.out j x hx
              have hxm := List.mem_of_getElem? hx
              have hcl2 : ∀ t, t < 131 → wr.cell? ⟨g, j * 131 + t, none⟩ = some (lnE x t) := fun t ht => by
                rw [World.cell?_of_block (w := W7) (w' := wr) (a := ⟨g, j * 131 + t, none⟩) (hFj.out.block g hg2 hg1)]
                exact hcl t ht
              have Hl := Lib.hid (loadVar_mid x wr g (j * 131) hcl2)
              have hbx : Below wr.heap.size wr ((wr.alloc (.cells (lnA zeroLn) 33)).setRow wr.heap.size (lnA x)) := below_setRow ((Below.refl _ _).alloc (Nat.le_refl _) _) (Nat.le_refl _) _
              have hX : Blk ((wr.alloc (.cells (lnA zeroLn) 33)).setRow wr.heap.size (lnA x)) wr.heap.size (lnA x) 33 := Blk.setRow (Blk.new _ _ _) _
              have hN2 := Blk.new wr (lnA zeroLn) 33
              have hC8 := hCj.out.below hbx hCj.out.lt
              have hF8 := Lib.hid (hFj.out.trans (Fr.of_below hbx : Fr (fun k => k = bm) wr _) (fun _ h => .inl h))
              have hltb := hC8.lt
              obtain ⟨W8, hW8⟩ : ∃ W8, (wr.alloc (.cells (lnA zeroLn) 33)).setRow wr.heap.size (lnA x) = W8 := ⟨_, rfl⟩
              rw [hW8] at hX hC8 hF8 hltb
              have HW8 := Lib.hid hW8
              have hSok : ∀ s ∈ (N.take j).map Ln.spot, ok64 s.1 ∧ ok64 s.2 := fun s hs => by
                obtain ⟨l, hl, rfl⟩ := List.mem_map.1 hs
                exact hnok.out l (List.mem_of_mem_take hl)
              have hnin : x.spot ∉ (N.take j).map Ln.spot := fun hm => by
                have h1 : (N.map Ln.spot)[j]? = some x.spot := by rw [List.getElem?_map, hx]; rfl
                rw [List.map_take] at hm
                obtain ⟨i, hi⟩ := List.mem_iff_getElem?.1 hm
                rw [List.getElem?_take] at hi
                split at hi
                · rename_i hij
                  have l1 := (List.getElem?_eq_some_iff.1 hi).1
                  have := (List.getElem?_inj l1 hnd.out).1 (hi.trans h1.symm)
                  omega
                · cases hi
              have hxok := hnok.out x hxm
              have hlk0 := (show CountM W8.drew bm _ from hC8).look (s := x.spot) hSok hxok
              rw [if_neg hnin] at hlk0
              obtain ⟨W9, W10, hme, hlk1, hes, hgr, hC10⟩ := (show CountM W8.drew bm _ from hC8).step (s := x.spot) hSok hxok hnin
              have hsn : (N.take j).map Ln.spot ++ [x.spot] = (N.take (j + 1)).map Ln.spot := by
                rw [List.take_add_one, hx]; simp
              rw [hsn] at hC10
              have hjl : ((N.take j).map Ln.spot).length = j := by rw [List.length_map, List.length_take]; omega
              rw [hjl] at hme hes
              have hme' : (Instr.mapEntry 47 (.map (some bm)) (.agg #[.int .i64 x.u, .int .i64 x.b])).run Try.prog W8.drew = .ok (.tuple #[.int .i64 0, .int .i64 j]) W9 := hme
              have hlk0' : (Instr.lookup 47 (.map (some bm)) (.agg #[.int .i64 x.u, .int .i64 x.b]) false).run Try.prog W8.drew = .ok (.int .i64 0) W8.drew := hlk0
              have hlk1' : (Instr.lookup 47 (.map (some bm)) (.agg #[.int .i64 x.u, .int .i64 x.b]) false).run Try.prog W9 = .ok (.int .i64 0) W9 := hlk1
              have HC10 := Lib.hid hC10
              have Hgr := Lib.hid hgr
              have x0 := hX.cell (lnA_at x 0 (by omega))
              have x1 := hX.cell (lnA_at x 1 (by omega))
              rw [show lnE x 0 = .int .i64 x.u from rfl] at x0
              rw [show lnE x 1 = .int .i64 x.b from rfl] at x1
              have Hhx := Lib.hid hx
              clear hx hcl hcl2 hbx hC8 hSok hnin hlk0 hlk1 hme hgr hC10 hsn hjl hW8 hltb hg1
              go_wp2_with (first | (refine loadW rfl 33 _ rfl ⟨g, j * 131, none⟩ rfl _ Hl.out ?_) | (refine store_lnW rfl _ _ rfl wr.heap.size x rfl rfl zeroLn hN2 ?_; rw [HW8.out]) | fail)
              have hw1 : IntKind.i64.wrap 1 = 1 := by decide
              go_region
              all_goals (
                have f9 : Fr (fun k => k = bm) W8.drew W10 := Fr.of_grown Hgr.out (fun k hk => (Option.some.inj hk).symm)
                have f10 : Hid (Fr (fun k => k = bm) W7 W10) := hF8.out.drew'.trans f9 (fun _ h => .inl h)
                clear f9
                go_wp2
                exact ⟨⟨j + 1, by omega, rfl, HC10.out, f10.out⟩, by simp only [intOf]; omega⟩)
            · obtain rfl : j = N.length := by omega
              rw [List.take_length] at hCj
              have SN8 : Hid (Snap (fun k => k = bm) wr A2 (dirtyOf L)) := fun i l hi => by
                obtain ⟨g, h1, h2, h3, h4⟩ := SN7.out i l hi
                have hgb : g ≠ bm := Hbs6.out g h1 (by have := (List.getElem?_eq_some_iff.1 hi).1; omega)
                refine ⟨g, h1, hgb, Nat.lt_of_lt_of_le h3 hFj.out.size, fun t ht => ?_⟩
                rw [World.cell?_of_block (w := W7) (w' := wr) (a := ⟨g, i * 131 + t, none⟩) (hFj.out.block g h3 hgb)]
                exact h4 t ht
              have HR8 : Hid (BInv w wr a m q v3 (putL q L o.ln)) := HR7.out.fr hFj.out (fun k (hk : k = bm) => by rw [hk]; exact hbf6) (fun k (hk : k = bm) => by rw [hk]; exact hbw)
              have hwas8 : ((dirtyOf L).length : Int) ≤ 8 := by have := dirty_len (L := L) hL8; omega
              have hwok := Lib.hid (fun l (hl : l ∈ dirtyOf L) => hLok l (dirtyOf_mem.1 hl).1)
              obtain ⟨Wq, hWq⟩ : ∃ Wq, Wq = wr := ⟨_, rfl⟩
              rw [← hWq] at hCj SN8 HR8 hFj ⊢
              clear hWq SN7 HR7 SW7
              go_wp2_with fail
              go_loopw [110] (fun i wq => ∃ t : Nat, t ≤ (dirtyOf L).length ∧ i = .int .i64 t ∧ Hid (Below Wq.heap.size Wq wq)) (fun i _ => ((dirtyOf L).length - intOf i).toNat)
              case atStart => exact ⟨0, Nat.zero_le _, rfl, Below.refl _ _⟩
              case round =>
                obtain ⟨t, ht, rfl, hBt⟩ := hrel
                by_cases hlt3 : (t : Int) < ((dirtyOf L).length : Int)
                · obtain ⟨x, hx⟩ : ∃ x, (dirtyOf L)[t]? = some x := ⟨(dirtyOf L)[t]'(by omega), List.getElem?_eq_getElem (by omega)⟩
                  obtain ⟨g, rfl, hg1, hg2, hcl⟩ := SN8.out t x hx
                  have hxm := List.mem_of_getElem? hx
                  have hcl2 : ∀ j, j < 131 → wr.cell? ⟨g, t * 131 + j, none⟩ = some (lnE x j) := fun j hj => by
                    rw [hBt.out.cell (p := ⟨g, t * 131 + j, none⟩) hg2]
                    exact hcl j hj
                  have Hl := Lib.hid (loadVar_mid x wr g (t * 131) hcl2)
                  have hbx : Below wr.heap.size wr ((wr.alloc (.cells (lnA zeroLn) 33)).setRow wr.heap.size (lnA x)) := below_setRow ((Below.refl _ _).alloc (Nat.le_refl _) _) (Nat.le_refl _) _
                  have hX : Blk ((wr.alloc (.cells (lnA zeroLn) 33)).setRow wr.heap.size (lnA x)) wr.heap.size (lnA x) 33 := Blk.setRow (Blk.new _ _ _) _
                  have hN2 := Blk.new wr (lnA zeroLn) 33
                  have hB8 := Lib.hid (hBt.out.trans (hbx.mono hBt.out.size))
                  have hC8 := hCj.out.below hB8.out hCj.out.lt
                  obtain ⟨W8, hW8⟩ : ∃ W8, (wr.alloc (.cells (lnA zeroLn) 33)).setRow wr.heap.size (lnA x) = W8 := ⟨_, rfl⟩
                  rw [hW8] at hX hC8 hB8
                  have HW8 := Lib.hid hW8
                  have hSok : ∀ s ∈ N.map Ln.spot, ok64 s.1 ∧ ok64 s.2 := fun s hs => by
                    obtain ⟨l, hl, rfl⟩ := List.mem_map.1 hs
                    exact hnok.out l hl
                  have hlk0 := hC8.look (s := x.spot) hSok (hwok.out x hxm)
                  have hin : x.spot ∈ N.map Ln.spot := Hhave.out x hxm
                  rw [if_pos hin] at hlk0
                  have hlk0' : (Instr.lookup 47 (.map (some bm)) (.agg #[.int .i64 x.u, .int .i64 x.b]) false).run Try.prog W8 = .ok (.int .i64 1) W8 := hlk0
                  have x0 := hX.cell (lnA_at x 0 (by omega))
                  have x1 := hX.cell (lnA_at x 1 (by omega))
                  rw [show lnE x 0 = .int .i64 x.u from rfl] at x0
                  rw [show lnE x 1 = .int .i64 x.b from rfl] at x1
                  have Hhx := Lib.hid hx
                  clear hx hcl hcl2 hbx hC8 hSok hlk0 hin hW8 hg1
                  go_wp2_with (first | (refine loadW rfl 33 _ rfl ⟨g, t * 131, none⟩ rfl _ Hl.out ?_) | (refine store_lnW rfl _ _ rfl wr.heap.size x rfl rfl zeroLn hN2 ?_; rw [HW8.out]) | fail)
                  exact ⟨⟨t + 1, by omega, rfl, hB8.out⟩, by simp only [intOf]; omega⟩
                · go_wp2
                  exact ⟨⟨k + 1, putL q L o.ln, v3, by omega, rfl, HR8.out.below hBt.out⟩, by simp only [intOf]; omega⟩
        · rw [show errV true = .nilIface from rfl]
          have HPO := Lib.hid hpo
          clear st3 gr3 HRl SNl hBl hpo
          have c0 := hB3.cell (j := 0) rfl
          go_wp2_with fail
          refine (lines_g HR3.out.st).mono ?_
          rintro e W5 ⟨A5, c5, rfl, hl5, hb5⟩
          have HR5 := Lib.hid (HR3.out.below hb5)
          have SN5 := Lib.hid (SN3.out.fr (Grow.below hb5))
          have hB5 := hB3.below hb5 hB3.lt
          have hlen5 : ((putL q L o.ln).length : Int) ≤ (q : Int) := by have := HR5.out.st.len; omega
          have e0 := hB5.cell (j := 0) rfl
          clear hl5 hb5 c0
          go_wp2_with fail
          obtain ⟨bm, hbm⟩ : ∃ bm, bm = W5.heap.size := ⟨_, rfl⟩
          have hb6 : Below W5.heap.size W5 (W5.alloc (.map #[] 0)) := (Below.refl _ _).alloc (Nat.le_refl _) _
          have HR6 := Lib.hid (HR5.out.below hb6)
          have SN6 := Lib.hid (SN5.out.fr (Grow.below hb6))
          have hC6 : CountM (W5.alloc (.map #[] 0)) bm [] := by rw [hbm]; exact CountM.made W5
          have hbf6 : ¬ Fm a m v3 bm := fun h => by have := HR5.out.st.fm_lt h; omega
          have hbw : w.heap.size ≤ bm := by rw [hbm]; exact HR5.out.siz
          have hbs6 : ∀ g, A2 = some ⟨g, 0, none⟩ → (dirtyOf L).length ≠ 0 → g ≠ bm := fun g hg hne he => by
            obtain ⟨x, hx⟩ : ∃ x, (dirtyOf L)[0]? = some x := ⟨(dirtyOf L)[0]'(by omega), List.getElem?_eq_getElem (by omega)⟩
            obtain ⟨g', h1, _, h3, _⟩ := SN5.out 0 x hx
            rw [hg] at h1
            have : g = g' := by injection h1 with h1; injection h1
            omega
          have Hbs6 := Lib.hid hbs6
          rw [← hbm]
          generalize W5.alloc (.map #[] 0) = W6 at *
          have Hbm := Lib.hid hbm
          clear hbm HR5 SN5 hB5 hb6 e0 hbs6
          refine (dirty_g 99 (by omega) HR6.out.st).mono ?_
          rintro e W7 ⟨A7, c7, rfl, hl7, hb7⟩
          have h8 : (putL q L o.ln).length ≤ 8 := Nat.le_trans HR6.out.st.len HR6.out.st.q8
          rw [take_all h8] at hl7
          rw [take_all h8]
          have hnow8 := dirty_len h8
          have HR7 := Lib.hid (HR6.out.below hb7)
          have SN7 := Lib.hid (SN6.out.fr (Grow.below hb7))
          have hC7 := hC6.below hb7 hC6.lt
          have SW7 := Lib.hid (Snap.of_lns (G := fun k => k = bm) hl7 (fun k (hk : k = bm) => by rw [hk]; exact hC6.lt))
          have Hhave := Lib.hid (fun l (hl : l ∈ dirtyOf L) => HKEEP l hl)
          have hnd := Lib.hid (dirty_nodup HR7.out.st.nodup)
          have hnok : Hid (∀ l ∈ dirtyOf (putL q L o.ln), ok64 l.u ∧ ok64 l.b) := fun l hl => HR7.out.st.ok l (dirtyOf_mem.1 hl).1
          generalize hN : dirtyOf (putL q L o.ln) = N at *
          have HN := Lib.hid hN
          clear hN hl7 hb7 HR6 SN6 hC6
          have hN8 : (N.length : Int) ≤ 8 := by omega
          go_wp2_with fail
          go_loopw [93] (fun i wq => ∃ j : Nat, j ≤ N.length ∧ i = .int .i64 j ∧ Hid (CountM wq bm ((N.take j).map Ln.spot)) ∧ Hid (Fr (fun k => k = bm) W7 wq)) (fun i _ => (N.length - intOf i).toNat)
          case atStart => exact ⟨0, Nat.zero_le _, rfl, hC7, Fr.refl _ _⟩
          case round =>
            obtain ⟨j, hj, rfl, hCj, hFj⟩ := hrel
            by_cases hlj : (j : Int) < (N.length : Int)
            · obtain ⟨x, hx⟩ : ∃ x, N[j]? = some x := ⟨N[j]'(by omega), List.getElem?_eq_getElem (by omega)⟩
              obtain ⟨g, rfl, hg1, hg2, hcl⟩ := SW7.out j x hx
              have hxm := List.mem_of_getElem? hx
              have hcl2 : ∀ t, t < 131 → wr.cell? ⟨g, j * 131 + t, none⟩ = some (lnE x t) := fun t ht => by
                rw [World.cell?_of_block (w := W7) (w' := wr) (a := ⟨g, j * 131 + t, none⟩) (hFj.out.block g hg2 hg1)]
                exact hcl t ht
              have Hl := Lib.hid (loadVar_mid x wr g (j * 131) hcl2)
              have hbx : Below wr.heap.size wr ((wr.alloc (.cells (lnA zeroLn) 33)).setRow wr.heap.size (lnA x)) := below_setRow ((Below.refl _ _).alloc (Nat.le_refl _) _) (Nat.le_refl _) _
              have hX : Blk ((wr.alloc (.cells (lnA zeroLn) 33)).setRow wr.heap.size (lnA x)) wr.heap.size (lnA x) 33 := Blk.setRow (Blk.new _ _ _) _
              have hN2 := Blk.new wr (lnA zeroLn) 33
              have hC8 := hCj.out.below hbx hCj.out.lt
              have hF8 := Lib.hid (hFj.out.trans (Fr.of_below hbx : Fr (fun k => k = bm) wr _) (fun _ h => .inl h))
              have hltb := hC8.lt
              obtain ⟨W8, hW8⟩ : ∃ W8, (wr.alloc (.cells (lnA zeroLn) 33)).setRow wr.heap.size (lnA x) = W8 := ⟨_, rfl⟩
              rw [hW8] at hX hC8 hF8 hltb
              have HW8 := Lib.hid hW8
              have hSok : ∀ s ∈ (N.take j).map Ln.spot, ok64 s.1 ∧ ok64 s.2 := fun s hs => by
                obtain ⟨l, hl, rfl⟩ := List.mem_map.1 hs
                exact hnok.out l (List.mem_of_mem_take hl)
              have hnin : x.spot ∉ (N.take j).map Ln.spot := fun hm => by
                have h1 : (N.map Ln.spot)[j]? = some x.spot := by rw [List.getElem?_map, hx]; rfl
                rw [List.map_take] at hm
                obtain ⟨i, hi⟩ := List.mem_iff_getElem?.1 hm
                rw [List.getElem?_take] at hi
                split at hi
                · rename_i hij
                  have l1 := (List.getElem?_eq_some_iff.1 hi).1
                  have := (List.getElem?_inj l1 hnd.out).1 (hi.trans h1.symm)
                  omega
                · cases hi
              have hxok := hnok.out x hxm
              have hlk0 := (show CountM W8.drew bm _ from hC8).look (s := x.spot) hSok hxok
              rw [if_neg hnin] at hlk0
              obtain ⟨W9, W10, hme, hlk1, hes, hgr, hC10⟩ := (show CountM W8.drew bm _ from hC8).step (s := x.spot) hSok hxok hnin
              have hsn : (N.take j).map Ln.spot ++ [x.spot] = (N.take (j + 1)).map Ln.spot := by
                rw [List.take_add_one, hx]; simp
              rw [hsn] at hC10
              have hjl : ((N.take j).map Ln.spot).length = j := by rw [List.length_map, List.length_take]; omega
              rw [hjl] at hme hes
              have hme' : (Instr.mapEntry 47 (.map (some bm)) (.agg #[.int .i64 x.u, .int .i64 x.b])).run Try.prog W8.drew = .ok (.tuple #[.int .i64 0, .int .i64 j]) W9 := hme
              have hlk0' : (Instr.lookup 47 (.map (some bm)) (.agg #[.int .i64 x.u, .int .i64 x.b]) false).run Try.prog W8.drew = .ok (.int .i64 0) W8.drew := hlk0
              have hlk1' : (Instr.lookup 47 (.map (some bm)) (.agg #[.int .i64 x.u, .int .i64 x.b]) false).run Try.prog W9 = .ok (.int .i64 0) W9 := hlk1
              have HC10 := Lib.hid hC10
              have Hgr := Lib.hid hgr
              have x0 := hX.cell (lnA_at x 0 (by omega))
              have x1 := hX.cell (lnA_at x 1 (by omega))
              rw [show lnE x 0 = .int .i64 x.u from rfl] at x0
              rw [show lnE x 1 = .int .i64 x.b from rfl] at x1
              have Hhx := Lib.hid hx
              clear hx hcl hcl2 hbx hC8 hSok hnin hlk0 hlk1 hme hgr hC10 hsn hjl hW8 hltb hg1
              go_wp2_with (first | (refine loadW rfl 33 _ rfl ⟨g, j * 131, none⟩ rfl _ Hl.out ?_) | (refine store_lnW rfl _ _ rfl wr.heap.size x rfl rfl zeroLn hN2 ?_; rw [HW8.out]) | fail)
              have hw1 : IntKind.i64.wrap 1 = 1 := by decide
              go_region
              all_goals (
                have f9 : Fr (fun k => k = bm) W8.drew W10 := Fr.of_grown Hgr.out (fun k hk => (Option.some.inj hk).symm)
                have f10 : Hid (Fr (fun k => k = bm) W7 W10) := hF8.out.drew'.trans f9 (fun _ h => .inl h)
                clear f9
                go_wp2
                exact ⟨⟨j + 1, by omega, rfl, HC10.out, f10.out⟩, by simp only [intOf]; omega⟩)
            · obtain rfl : j = N.length := by omega
              rw [List.take_length] at hCj
              have SN8 : Hid (Snap (fun k => k = bm) wr A2 (dirtyOf L)) := fun i l hi => by
                obtain ⟨g, h1, h2, h3, h4⟩ := SN7.out i l hi
                have hgb : g ≠ bm := Hbs6.out g h1 (by have := (List.getElem?_eq_some_iff.1 hi).1; omega)
                refine ⟨g, h1, hgb, Nat.lt_of_lt_of_le h3 hFj.out.size, fun t ht => ?_⟩
                rw [World.cell?_of_block (w := W7) (w' := wr) (a := ⟨g, i * 131 + t, none⟩) (hFj.out.block g h3 hgb)]
                exact h4 t ht
              have HR8 : Hid (BInv w wr a m q v3 (putL q L o.ln)) := HR7.out.fr hFj.out (fun k (hk : k = bm) => by rw [hk]; exact hbf6) (fun k (hk : k = bm) => by rw [hk]; exact hbw)
              have hwas8 : ((dirtyOf L).length : Int) ≤ 8 := by have := dirty_len (L := L) hL8; omega
              have hwok := Lib.hid (fun l (hl : l ∈ dirtyOf L) => hLok l (dirtyOf_mem.1 hl).1)
              obtain ⟨Wq, hWq⟩ : ∃ Wq, Wq = wr := ⟨_, rfl⟩
              rw [← hWq] at hCj SN8 HR8 hFj ⊢
              clear hWq SN7 HR7 SW7
              go_wp2_with fail
              go_loopw [110] (fun i wq => ∃ t : Nat, t ≤ (dirtyOf L).length ∧ i = .int .i64 t ∧ Hid (Below Wq.heap.size Wq wq)) (fun i _ => ((dirtyOf L).length - intOf i).toNat)
              case atStart => exact ⟨0, Nat.zero_le _, rfl, Below.refl _ _⟩
              case round =>
                obtain ⟨t, ht, rfl, hBt⟩ := hrel
                by_cases hlt3 : (t : Int) < ((dirtyOf L).length : Int)
                · obtain ⟨x, hx⟩ : ∃ x, (dirtyOf L)[t]? = some x := ⟨(dirtyOf L)[t]'(by omega), List.getElem?_eq_getElem (by omega)⟩
                  obtain ⟨g, rfl, hg1, hg2, hcl⟩ := SN8.out t x hx
                  have hxm := List.mem_of_getElem? hx
                  have hcl2 : ∀ j, j < 131 → wr.cell? ⟨g, t * 131 + j, none⟩ = some (lnE x j) := fun j hj => by
                    rw [hBt.out.cell (p := ⟨g, t * 131 + j, none⟩) hg2]
                    exact hcl j hj
                  have Hl := Lib.hid (loadVar_mid x wr g (t * 131) hcl2)
                  have hbx : Below wr.heap.size wr ((wr.alloc (.cells (lnA zeroLn) 33)).setRow wr.heap.size (lnA x)) := below_setRow ((Below.refl _ _).alloc (Nat.le_refl _) _) (Nat.le_refl _) _
                  have hX : Blk ((wr.alloc (.cells (lnA zeroLn) 33)).setRow wr.heap.size (lnA x)) wr.heap.size (lnA x) 33 := Blk.setRow (Blk.new _ _ _) _
                  have hN2 := Blk.new wr (lnA zeroLn) 33
                  have hB8 := Lib.hid (hBt.out.trans (hbx.mono hBt.out.size))
                  have hC8 := hCj.out.below hB8.out hCj.out.lt
                  obtain ⟨W8, hW8⟩ : ∃ W8, (wr.alloc (.cells (lnA zeroLn) 33)).setRow wr.heap.size (lnA x) = W8 := ⟨_, rfl⟩
                  rw [hW8] at hX hC8 hB8
                  have HW8 := Lib.hid hW8
                  have hSok : ∀ s ∈ N.map Ln.spot, ok64 s.1 ∧ ok64 s.2 := fun s hs => by
                    obtain ⟨l, hl, rfl⟩ := List.mem_map.1 hs
                    exact hnok.out l hl
                  have hlk0 := hC8.look (s := x.spot) hSok (hwok.out x hxm)
                  have hin : x.spot ∈ N.map Ln.spot := Hhave.out x hxm
                  rw [if_pos hin] at hlk0
                  have hlk0' : (Instr.lookup 47 (.map (some bm)) (.agg #[.int .i64 x.u, .int .i64 x.b]) false).run Try.prog W8 = .ok (.int .i64 1) W8 := hlk0
                  have x0 := hX.cell (lnA_at x 0 (by omega))
                  have x1 := hX.cell (lnA_at x 1 (by omega))
                  rw [show lnE x 0 = .int .i64 x.u from rfl] at x0
                  rw [show lnE x 1 = .int .i64 x.b from rfl] at x1
                  have Hhx := Lib.hid hx
                  clear hx hcl hcl2 hbx hC8 hSok hlk0 hin hW8 hg1
                  go_wp2_with (first | (refine loadW rfl 33 _ rfl ⟨g, t * 131, none⟩ rfl _ Hl.out ?_) | (refine store_lnW rfl _ _ rfl wr.heap.size x rfl rfl zeroLn hN2 ?_; rw [HW8.out]) | fail)
                  exact ⟨⟨t + 1, by omega, rfl, hB8.out⟩, by simp only [intOf]; omega⟩
                · go_wp2
                  exact ⟨⟨k + 1, putL q L o.ln, v3, by omega, rfl, HR8.out.below hBt.out⟩, by simp only [intOf]; omega⟩
      by_cases hk2 : o.k = 2
      · have hk0f : (o.k == 0) = false := beq_eq_false_iff_ne.2 hk0
        have hk1f : (o.k == 1) = false := beq_eq_false_iff_ne.2 hk1
        have hk2t : (o.k == 2) = true := by rw [beq_iff_eq]; exact hk2
        have hk0n : (o.k != 0) = true := by rw [bne_iff_ne]; exact hk0
        have hk1n : (o.k != 1) = true := by rw [bne_iff_ne]; exact hk1
        have HK := Lib.hid hk2
        clear hk0 hk1 hk2
        go_wp2_with (first | (refine loadW rfl 42 _ rfl (ad.add (k * 5)) rfl _ Hld.out ?_) | fail)
        obtain ⟨W, hW⟩ : ∃ W, W = wr.alloc (.cells #[.int .i64 o.k, .int .i64 o.u, .int .i64 o.b, .int .u8 o.c, .bool o.d] 42) := ⟨_, rfl⟩
        have hsz : wr.heap.size < W.heap.size := by rw [hW, World.size_alloc]; omega
        rw [← hW] at hB HR1 ⊢
        clear hW
        have hs2 : ok64 o.u ∧ ok64 o.b := ⟨hoo.2.1, hoo.2.2.1⟩
        refine (dirty_g 99 (by omega) HR1.out.st).mono ?_
        rintro e W2 ⟨A2, c2, rfl, hl2, hb2⟩
        rw [take_all hL8] at hl2
        rw [take_all hL8]
        have HR2 := Lib.hid (HR1.out.below hb2)
        have SN2 := Lib.hid (Snap.of_lns (G := Fm a m v) hl2 (fun k hk => HR1.out.st.fm_lt hk))
        have hB2 := hB.below hb2 hB.lt
        have hsz2 := Nat.lt_of_lt_of_le hsz hb2.size
        have hdl : ((dirtyOf L).length : Int) ≤ 8 := by have := dirty_len hL8; omega
        clear hl2 hb2 HR1 hB
        have c0 := hB2.cell (j := 0) rfl
        have c1 := hB2.cell (j := 1) rfl
        have c2 := hB2.cell (j := 2) rfl
        have c3 := hB2.cell (j := 3) rfl
        have c4 := hB2.cell (j := 4) rfl
        go_wp2_with fail
        refine (clean_g HR2.out.st).mono ?_
        rintro e W3 ⟨rfl, st3, gr3⟩
        have HR3 := Lib.hid (HR2.out.step st3 gr3)
        have hB3 := gr3.1.blk hB2 hnf
        clear st3 gr3 HR2 SN2 hB2 c0 c1 c2 c3 c4
        have c0 := hB3.cell (j := 0) rfl
        go_wp2_with fail
        refine (lines_g HR3.out.st).mono ?_
        rintro e W5 ⟨A5, c5, rfl, hl5, hb5⟩
        have HR5 := Lib.hid (HR3.out.below hb5)
        have hB5 := hB3.below hb5 hB3.lt
        have hlen5 : (L.length : Int) ≤ (q : Int) := by have := HR5.out.st.len; rw [List.length_map] at this; omega
        have e0 := hB5.cell (j := 0) rfl
        clear hl5 hb5 c0 HR3
        go_wp2
        exact ⟨⟨k + 1, _, v, by omega, rfl, HR5.out⟩, by simp only [intOf]; omega⟩
      · have hk0f : (o.k == 0) = false := beq_eq_false_iff_ne.2 hk0
        have hk1f : (o.k == 1) = false := beq_eq_false_iff_ne.2 hk1
        have hk2f : (o.k == 2) = false := beq_eq_false_iff_ne.2 hk2
        have hk0n : (o.k != 0) = true := by rw [bne_iff_ne]; exact hk0
        have hk1n : (o.k != 1) = true := by rw [bne_iff_ne]; exact hk1
        clear hk0 hk1 hk2
        go_wp2_with (first | (refine loadW rfl 42 _ rfl (ad.add (k * 5)) rfl _ Hld.out ?_) | fail)
        obtain ⟨W, hW⟩ : ∃ W, W = wr.alloc (.cells #[.int .i64 o.k, .int .i64 o.u, .int .i64 o.b, .int .u8 o.c, .bool o.d] 42) := ⟨_, rfl⟩
        have hsz : wr.heap.size < W.heap.size := by rw [hW, World.size_alloc]; omega
        rw [← hW] at hB HR1 ⊢
        clear hW
        have hs2 : ok64 o.u ∧ ok64 o.b := ⟨hoo.2.1, hoo.2.2.1⟩
        refine (dirty_g 99 (by omega) HR1.out.st).mono ?_
        rintro e W2 ⟨A2, c2, rfl, hl2, hb2⟩
        rw [take_all hL8] at hl2
        rw [take_all hL8]
        have HR2 := Lib.hid (HR1.out.below hb2)
        have SN2 := Lib.hid (Snap.of_lns (G := Fm a m v) hl2 (fun k hk => HR1.out.st.fm_lt hk))
        have hB2 := hB.below hb2 hB.lt
        have hsz2 := Nat.lt_of_lt_of_le hsz hb2.size
        have hdl : ((dirtyOf L).length : Int) ≤ 8 := by have := dirty_len hL8; omega
        clear hl2 hb2 HR1 hB
        have c0 := hB2.cell (j := 0) rfl
        have c1 := hB2.cell (j := 1) rfl
        have c2 := hB2.cell (j := 2) rfl
        have c3 := hB2.cell (j := 3) rfl
        have c4 := hB2.cell (j := 4) rfl
        go_wp2_with fail
        refine (drop_g o.u HR2.out.st).mono ?_
        rintro e W3 ⟨v3, rfl, st3, gr3⟩
        have HR3 := Lib.hid (HR2.out.step st3 gr3)
        have hB3 := gr3.1.blk hB2 hnf
        clear st3 gr3 HR2 SN2 hB2 c0 c1 c2 c3 c4
        have c0 := hB3.cell (j := 0) rfl
        go_wp2_with fail
        refine (lines_g HR3.out.st).mono ?_
        rintro e W5 ⟨A5, c5, rfl, hl5, hb5⟩
        have HR5 := Lib.hid (HR3.out.below hb5)
        have hB5 := hB3.below hb5 hB3.lt
        have hlen5 : ((dropL o.u L).length : Int) ≤ (q : Int) := by have := HR5.out.st.len; omega
        have e0 := hB5.cell (j := 0) rfl
        clear hl5 hb5 c0 HR3
        go_wp2
        exact ⟨⟨k + 1, _, v3, by omega, rfl, HR5.out⟩, by simp only [intOf]; omega⟩
    · obtain rfl : k = zs.length := by omega
      go_wp2
      go_ret
      exact ⟨rfl, HR.out.bel⟩
/-! ### the row's frame -/
theorem cacheBounds_own : ownKnob Try.prog.godebug = none := by kernel_rfl
theorem cacheBounds_laid : laidOutB Try.prog = true := by kernel_rfl
set_option maxRecDepth 100000 in
theorem cacheBounds_lifted (os : Os) (started : os.Started) (H : Type) (enc : TypeId × Value → H) :
    ReturnsInHanded {} Try.checked os 4 .any (Rows.cacheBoundsSpec.pre6 enc Try.prog Try.f4 Rows.cacheBoundsRow.domain false) (Rows.cacheBoundsSpec.post enc Try.prog Try.f4 false true false false) := by
  refine returnsInHanded_of_change (C := Try.checked) cacheBounds_own started (by kernel_rfl) Try.func4
    (ChangeSpec.witness6 (enc := enc) (C := Try.checked) false ⟨#[], #[.int .i64 0, .slice none 0 0], []⟩ 8 (by kernel_rfl) (by kernel_rfl) (by kernel_rfl) (by kernel_rfl)) ?_
  intro W base args ds gs before hval0 hW hcnd _
  have hval : ∀ (j : Nat) t v, Try.f4.params[j]? = some t → args[j]? = some v → Value.okWide Try.prog W .any base t v := hval0
  have hW' := hW
  obtain ⟨p, q, hA0, hV, rfl, hfz, hnd⟩ := hW
  have hlt0 : ∀ x ∈ p, x.block < W.heap.size := fun x hx => hW'.lt x (List.mem_append.2 (.inl hx))
  have hA : DataW.TrodAll enc Try.prog W 0 (fun _ => true) true Try.f4.params.toList args.toList ds p := hA0
  rw [Try.params4] at hA hval
  obtain ⟨v0, vs0, d0, ds0, p0, q0, hargs, rfl, rfl, h0, r0⟩ := trodAll_cons hA
  obtain ⟨v1, vs1, d1, ds1, p1, q1, rfl, rfl, rfl, h1, r1⟩ := trodAll_cons r0
  obtain ⟨rfl, rfl, rfl⟩ := trodAll_nil r1
  obtain rfl : args = #[v0, v1] := by cases args; simp_all
  obtain ⟨rfl, rfl⟩ := trodVars_none hV
  have k0 := h0
  have lt0 : ∀ x ∈ p0, x.block < W.heap.size := fun x hx => hlt0 x (by simp [hx])
  have k1 := h1
  have lt1 : ∀ x ∈ p1, x.block < W.heap.size := fun x hx => hlt0 x (by simp [hx])
  obtain ⟨a0, rfl, rfl, rfl, w0⟩ := open_int Try.underlying3 (hval 0 3 v0 rfl rfl) h0
  obtain ⟨A1, n1, c1, zs1, rfl, hl1, hn1, hm1, hr1, hk1⟩ := ops_of (hval 1 40 v1 rfl rfl) h1
  clear hA0 hval0
  refine (cacheBounds_walk a0 (ok64_of w0) A1 n1 c1 zs1 hl1 hn1 hm1 W hr1 hk1).mono fun e W' ⟨he, bel⟩ => ?_
  subst he
  exact ⟨_, rfl, _, _, _, [], _, [], hW', trodAll_mk1 (shut_bool Try.underlying4 _), (trodAll_cons_mk (Below.trod cacheBounds_laid (by kernel_rfl) (of_decide_eq_true (by kernel_rfl)) k0 bel lt0) (trodAll_cons_mk (Below.trod cacheBounds_laid (by kernel_rfl) (of_decide_eq_true (by kernel_rfl)) k1 bel lt1) trodAll_mk0)), rfl, bel.frame _, fun h => by cases h⟩

theorem cacheBounds_proved : Rows.CacheBoundsSaid :=
  OpenClaim.holds_of_wide 4 Try.f4 rfl rfl rfl rfl rfl rfl rfl ⟨rfl, rfl, rfl, rfl, rfl⟩ rfl rfl rfl rfl rfl (by kernel_rfl) Try.func4 (by kernel_rfl)
    (of_decide_eq_true (by kernel_rfl)) (by unfold Func.isWrapper; rw [if_neg (of_decide_eq_false (by kernel_rfl))]; exact ⟨rfl, rfl⟩)
    (fun os started H enc _ => cacheBounds_lifted os started H enc)
#print axioms cacheBounds_proved

end Go.Proofs.Ytheilnaommcjjaa
