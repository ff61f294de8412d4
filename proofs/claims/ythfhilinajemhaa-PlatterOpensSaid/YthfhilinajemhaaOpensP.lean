/-
  PlatterOpens: for every list of writes, every flush and every number asked for the law returns true and leaves its arguments alone. No condition.
-/
import Derived.Test.YthfhilinajemhaaExample
import Derived.Test.YthfhilinajemhaaOpen2
import Derived.Test.YthfhilinajemhaaColl
import Derived.Test.YthfhilinajemhaaTally
import Derived.Test.YthfhilinajemhaaIntsEq
import Derived.Deep.RegionHeld3
namespace Go.Proofs.Ythfhilinajemhaa
open Go.ChangeShapes Go.WideShapes Go.ChangeAt Go.RowKit
open Go.Maps (Keyed)
set_option linter.unusedVariables false

/-- the disk behind the writes to the sectors L -/
def dO (L : List Int) : Dk := { n := 20, s := fun _ => zc, op := fun i => if i ∈ L then some (one 1) else none, k := 1, ct := fun _ => 0, ar := false, lf := -(L.length : Int), dn := false, st := (L.length : Int) }
theorem dO_start : dO [] = d0 20 1 := by
  unfold dO d0
  simp
theorem dO_put (L : List Int) (i : Int) : (dO L).stepped.put i (one 1) = dO (L ++ [i]) := by
  unfold dO Dk.stepped Dk.put Dk.set
  simp only [List.length_append, List.length_cons, List.length_nil]
  congr 1
  · funext j
    by_cases hj : j = i
    · subst hj; simp
    · simp [hj]
  · omega
theorem dO_room (L : List Int) (h : L.length ≤ 1000) : (dO L).room := room_of (a := (L.length : Int)) (b := -(L.length : Int)) rfl rfl (by omega)
theorem set_mem (x : Int) : (zc.setIfInBounds 0 (.int .u8 1)) = one 1 := one_set 1
/-- the sectors written by the first k writes -/
def wr20 (zs : List Int) (k : Nat) : List Int := (zs.take k).map (um 20)
theorem wr20_len (zs : List Int) (k : Nat) : (wr20 zs k).length ≤ k := by unfold wr20; rw [List.length_map]; exact List.length_take_le _ _
theorem wr20_snoc (zs : List Int) (k : Nat) (x : Int) (h : zs[k]? = some x) : wr20 zs (k + 1) = wr20 zs k ++ [um 20 x] := by
  unfold wr20
  rw [List.take_add_one, h]; simp
/-- which of the first k sectors are wanted -/
def wants (L : List Int) (a n : Int) (i : Nat) : Bool := decide (0 < L.count (i : Int)) && (decide ((i : Int) < a) || decide (a + n ≤ (i : Int)))
def wantL (L : List Int) (a n : Int) (k : Nat) : List Int := ((List.range k).filter (wants L a n)).map (fun (i : Nat) => (i : Int))
theorem wantL_snoc (L : List Int) (a n : Int) (k : Nat) : wantL L a n (k + 1) = if wants L a n k = true then wantL L a n k ++ [(k : Int)] else wantL L a n k := by
  unfold wantL
  rw [List.range_succ, List.filter_append]
  by_cases h : wants L a n k = true
  · rw [if_pos h]; simp [h]
  · rw [if_neg h]; simp [h]
theorem wantL_len (L : List Int) (a n : Int) (k : Nat) : (wantL L a n k).length ≤ k := by
  unfold wantL
  rw [List.length_map]
  exact Nat.le_trans (List.length_filter_le _ _) (by simp)
theorem keys_want (L : List Int) (a n : Int) : keysL ((dO L).stepped.settled (inR a n)) = wantL L a n 20 := by
  unfold keysL wantL
  show List.map _ (List.filter _ (List.range 20)) = _
  congr 1
  refine List.filter_congr fun i _ => ?_
  show (setOp (dO L).stepped (inR a n) (i : Int)).isSome = wants L a n i
  unfold setOp wants inR
  show (if decide (a ≤ (i : Int) ∧ (i : Int) < a + n) = true then none else (if (i : Int) ∈ L then some (one 1) else none)).isSome = _
  by_cases h1 : a ≤ (i : Int) ∧ (i : Int) < a + n
  · rw [if_pos (decide_eq_true h1)]
    have h2 : ¬ (i : Int) < a := by omega
    have h3 : ¬ a + n ≤ (i : Int) := by omega
    simp [h2, h3]
  · rw [if_neg (by rw [decide_eq_true_iff]; exact h1)]
    have h2 : (i : Int) < a ∨ a + n ≤ (i : Int) := by omega
    by_cases hm : (i : Int) ∈ L
    · rw [if_pos hm]
      have : 0 < L.count (i : Int) := List.count_pos_iff.2 hm
      rcases h2 with h2 | h2 <;> simp [this, h2]
    · rw [if_neg hm]
      have : L.count (i : Int) = 0 := List.count_eq_zero.2 hm
      simp [this]
theorem appendW_i {ops : Array Oper} {rest : List Oper} {o : Oper} {a : Act} {w : World} {Q : Exit → Act → World → Prop} (hgd : o.guard = none) (s x : Operand) (ho : o.op = .call { callee := .builtin .append, args := #[s, x], argTypes := #[27, 27] })
    (base : Nat) (v : Value) (L : List Int) (hs : a.eval s = v) (hown : Ins w base v L) (g : Nat) (c : Nat) (l : Int) (hx : a.eval x = .slice (some ⟨g, 0, none⟩) 1 c) (hB : Blk w g #[.int .i64 l] 3)
    (h63 : L.length ≤ 3000) (hbase : base ≤ w.heap.size)
    (h : ∀ g cap w', Ins w' base (.slice (some ⟨g, 0, none⟩) (L.length + 1) cap) (L ++ [l]) → w.grownBy w' v.ownBlock → wpList Try.prog ops Q rest (a.put o.dst (.slice (some ⟨g, 0, none⟩) (L.length + 1) cap)) w') :
    wpList Try.prog ops Q (o :: rest) a w := by
  refine wpList_plain hgd fun K hK => ?_
  obtain ⟨i0, hi0, hz0, hz1, hz2⟩ := info_parts (show (Try.prog.info? 3).map (fun i => (i.zero, i.size, i.bytes)) = some (some (.int .i64 0), 1, 8) by kernel_rfl)
  obtain ⟨g', cap, w', hr, h2, h3, h4, h5⟩ := run_append_lies (P := Try.prog) w 27 o.type base 3 i0 _ 1 8 Try.underlying27 hi0 hz0 hz1 hz2 rfl (by omega) v L.length (L.map (Value.int .i64)) hown ⟨g, 0, none⟩ 1 c [.int .i64 l] rfl (fun j v hj => by
    rcases j with _ | j
    · simp at hj; subst hj; exact hB.cell (j := 0) rfl
    · simp at hj) (by simp [Value.oneCell']) (by omega) (by simp only [maxLen]; omega) (by omega) hbase _ rfl
  unfold Oper.wp
  simp only [execOp, ho, resolve, invoke, builtin, Sem.run_bind, Sem.run_pure, Result.andThen_ok, List.map_toArray, List.map_cons, List.map_nil, hs, hx, hr]
  refine hK _ _ (h g' cap w' ?_ h3)
  unfold Ins
  rw [List.length_append, List.map_append]
  exact h2
def Wanted (w : World) (v : Value) (S : Nat) (L : List Int) : Prop := ∃ A c, v = .slice A L.length c ∧ Ins w S v L
theorem run_min3 (i j k : Int) (w : World) (hk : (if j < i then j else i) = k) : (Builtin.min_ #[3, 3] 3 #[.int .i64 i, .int .i64 j]).run Try.prog w = .ok (.int .i64 k) w := by
  rw [← hk]; rfl
theorem step_min {ops : Array Oper} {o : Oper} {a : Act} {w : World} {K : Act → World → Prop} {Q : Exit → Act → World → Prop} {E : Prop} (hw : Region.wanted o (yielded ops a.tmps) = true) (x y : Operand) (ho : o.op = .call { callee := .builtin .min, args := #[x, y], argTypes := #[3, 3] }) (hty : o.type = 3)
    (i j k : Int) (hx : a.eval x = .int .i64 i) (hy : a.eval y = .int .i64 j) (hk : (if j < i then j else i) = k) (h : K (a.put o.dst (.int .i64 k)) w) : if Region.wanted o (yielded ops a.tmps) = true then Oper.wp Try.prog o a w K Q else E := by
  rw [if_pos hw]
  have hr : (execOp a.eval o).run Try.prog w = .ok (.value (.int .i64 k)) w := by
    have h1 := run_min3 i j k w hk
    unfold execOp
    simp only [ho, hty]
    show Sem.run Try.prog (do
      let r ← (do pure (Next.value (← Builtin.min_ #[3, 3] 3 (#[x, y].map a.eval))))
      pure r) w = _
    have : (#[x, y].map a.eval) = #[.int .i64 i, .int .i64 j] := by simp [hx, hy]
    rw [this]
    simp only [Sem.run_bind, h1, Result.andThen_ok, Sem.run_pure]
  unfold Oper.wp
  rw [hr]
  exact h
def OpenT (w : World) (t : Nat) (L : List Int) (e : Ending) (w' : World) : Prop := ∃ A c, e = .returned (.slice A t c) ∧ RI w' w'.heap.size A L ∧ Below w.heap.size w w'
theorem below_drop {w w' : World} (h : Below w.drew.heap.size w.drew w') : Below w.heap.size w w' := ⟨h.os, h.tape, h.output, h.size, h.block⟩
theorem OpenOut.t {w : World} {t : Nat} {L : List Int} (h : L.length = t) : ∀ e w', OpenOut w L e w' → OpenT w t L e w' := by
  rintro e w' ⟨A, c, rfl, hI, hb⟩
  exact ⟨A, c, by rw [h], ins_ri hI, hb⟩
theorem ints_t (A B : Option Addr) (c e t : Nat) (L : List Int) (hl : L.length = t) (hL : L.length ≤ 100000) (S T : Nat) (w : World) (hA : RI w S A L) (hB : RI w T B L) : Calls Try.prog 38 #[.slice A t c, .slice B t e] w fun e w' => e = .returned (.bool true) ∧ Below w.heap.size w w' := by
  subst hl
  exact ints_same A B c e L hL S T w hA hB
theorem RI.mono {w : World} {S S' : Nat} {A : Option Addr} {R : List Int} (h : RI w S A R) (hS : S ≤ S') : RI w S' A R := fun i x hx => by
  obtain ⟨ad, h1, h2, h3⟩ := h i x hx
  exact ⟨ad, h1, by omega, h3⟩
theorem RI.take {w : World} {S : Nat} {A : Option Addr} {L : List Int} (h : RI w S A L) (k : Nat) : RI w S A (L.take k) := fun i x hx => by
  rw [List.getElem?_take] at hx
  split at hx
  · exact h i x hx
  · cases hx
set_option maxHeartbeats 8000000 in
set_option maxRecDepth 20000 in
theorem opens_walk (A : Option Addr) (c : Nat) (zs : List Int) (w : World) (hr : RI w w.heap.size A zs) (a0 b0 m0 : Int) :
    Calls Try.prog 25 #[.slice A zs.length c, .int .i64 a0, .int .i64 b0, .int .i64 m0] w fun e w' => e = .returned (.bool true) ∧ Below w.heap.size w w' := by
  by_cases hbig : (200 : Int) < (zs.length : Int)
  · go_enter Try.func25, Try.ntmps25
    go_wp2_with fail
    refine (alive_any w).mono ?_
    rintro e w1 ⟨rfl, hb1⟩
    go_wp2
    go_ret
    exact ⟨rfl, hb1⟩
  have HR := Lib.hid hr
  have hmm := @run_makeMap Try.prog
  have hz := zc_zero
  have hs := zc_size
  have hne := zc_ne
  have hz3 : ∀ w, (zeroValue 3).run Try.prog w = .ok (.int .i64 0) w := fun w => by kernel_rfl
  clear hr
  go_enter Try.func25, Try.ntmps25
  go_wp2_with fail
  refine (alive_any w).mono ?_
  rintro e w1 ⟨rfl, hb1⟩
  go_wp2_with fail
  refine (new_m 20 1 (by omega) (by omega) hb1 hb1.size).mono ?_
  rintro e w2 ⟨p, m, g, gc, rfl, M0, hb2, hd2⟩
  clear hb2 hd2 hb1
  have M1 := Lib.hid (M0.below ((Below.refl _ _).alloc (Nat.le_refl _) (.map #[] 0)))
  have C0 : Hid (MapF Try.prog 3 (w2.alloc (.map #[] 0)) w2.heap.size (cntF [])) := by rw [cntF_nil]; exact MapF.made w2
  have hnm : ¬ Dl p m g gc w2.heap.size := fun h => Nat.lt_irrefl _ (M0.disk.lt h)
  have hlo : w.heap.size ≤ w2.heap.size := M0.siz
  rw [← dO_start] at M1
  clear M0
  go_wp2_with fail
  generalize w2.alloc (.map #[] 0) = w3 at *
  obtain ⟨mw, hmw⟩ : ∃ mw, mw = w2.heap.size := ⟨_, rfl⟩
  rw [← hmw] at C0 hnm hlo ⊢
  clear hmw
  have hlen : zs.length ≤ 200 := by omega
  go_loopw [31] (fun i wr => ∃ (k : Nat), k ≤ zs.length ∧ i = .int .i64 k ∧ Hid (Mine w.heap.size w wr p m g gc (dO (wr20 zs k))) ∧ Hid (MapF Try.prog 3 wr mw (cntF (wr20 zs k)))) (fun i _ => zs.length - (Lib.intOf i).toNat)
  case atStart => exact ⟨0, Nat.zero_le _, rfl, M1, C0⟩
  case round =>
    obtain ⟨k, hk, rfl, hI, hC⟩ := hrel
    by_cases hlt : k < zs.length
    · obtain ⟨ad, hA, hS, hcell0⟩ := HR.out k zs[k] (List.getElem?_eq_getElem hlt)
      have hsn := wr20_snoc zs k zs[k] (List.getElem?_eq_getElem hlt)
      subst hA
      have hcell : wr.cell? (ad.add k) = some (.int .i64 zs[k]) := (hI.out.bel.cell (p := ad.add k) (by rw [addr_add_block]; exact hS)).trans hcell0
      have HSN := Lib.hid hsn
      have hl := wr20_len zs k
      have hrm := Lib.hid (dO_room (wr20 zs k) (by omega))
      have hu := um_eq 20 zs[k] (by omega) (by omega)
      obtain ⟨hu0, hu1⟩ := um_lt 20 zs[k] (by omega)
      clear hcell0 hS hsn
      generalize um 20 zs[k] = y at *
      generalize wr20 zs k = L at *
      have hlk := cnt_look hC.out y ⟨by omega, by omega⟩
      obtain ⟨w4, hup, hm4, hf4⟩ := cnt_up hC.out y ⟨by omega, by omega⟩
      have hcl : L.count y ≤ L.length := List.count_le_length
      have hc0 : (0 : Int) ≤ (L.count y : Nat) := by omega
      have hc1 : ((L.count y : Nat) : Int) ≤ 200 := by omega
      have M4 := Lib.hid (hI.out.keep hf4 (fun k (hk : k = mw) => ⟨by rw [hk]; exact hnm, by rw [hk]; exact hlo⟩))
      have HM4 := Lib.hid hm4
      have hst := one_set 1
      clear hm4 hf4 hC hI hcl
      generalize L.count y = cy at *
      go_wp2_with (first
        | (go_at_call 18; refine (write_m M4.out y (one 1) (Cel.one 1) ⟨hu0, hu1⟩ (off_of rfl rfl) hrm.out).mono ?_; rintro e w5 ⟨rfl, M5, hf5⟩; have HM5 := Lib.hid M5; have HC5 := Lib.hid (hf5.map HM4.out hnm); clear M5 hf5)
        | fail)
      go_roundw
      case rel => exact ⟨k + 1, by omega, by go_num, by rw [HSN.out, ← dO_put]; exact HM5, by rw [HSN.out]; exact HC5⟩
      case measure => simp [Lib.intOf]; omega
    · obtain rfl : k = zs.length := by omega
      have hua := um_eq 20 a0 (by omega) (by omega)
      obtain ⟨ha0, ha1⟩ := um_lt 20 a0 (by omega)
      generalize um 20 a0 = a at *
      have e1 : IntKind.u64.wrap (21 - a) = 21 - a := by simp [IntKind.wrap, IntKind.bits, IntKind.signed]; omega
      have e2 : IntKind.i64.wrap (21 - a) = 21 - a := wrap_ok ⟨by omega, by omega⟩
      have hub := um_eq (21 - a) b0 (by omega) (by omega)
      obtain ⟨hb0, hb1⟩ := um_lt (21 - a) b0 (by omega)
      generalize um (21 - a) b0 = b at *
      have hl := wr20_len zs zs.length
      have hrm := Lib.hid (dO_room (wr20 zs zs.length) (by omega))
      generalize wr20 zs zs.length = L at *
      have hnz : ¬ 21 - a = 0 := by omega
      have F : Calls Try.prog 19 #[.pointer (some ⟨p, 0, none⟩), .int .i64 a, .int .i64 b] wr (LeftF w.heap.size w wr p m g gc .nilIface ((dO L).stepped.settled (inR a b))) := flush_m hI.out a b ⟨by omega, by omega⟩ ⟨by omega, by omega⟩ ⟨ha0, hb0, by show b ≤ 20 - a; omega⟩ (off_of rfl rfl) hrm.out
      have HF := Lib.hid F
      clear F M1 C0
      have hbs0 : ∀ w, (Instr.buildSlice 27 0 #[]).run Try.prog w = .ok (.slice (some ⟨w.heap.size, 0, none⟩) 0 0) (w.alloc (.cells #[] 3)) := fun w => by kernel_rfl
      go_wp2_with (first
        | (go_at_call 19; refine HF.out.mono ?_; rintro e w5 ⟨rfl, M5, hf5⟩; have HM5 := Lib.hid M5; have HC5 := Lib.hid (hf5.map hC.out hnm); clear M5 hf5)
        | fail)
      have hb6 : Below w5.heap.size w5 (w5.alloc (.cells #[] 3)) := (Below.refl _ _).alloc (Nat.le_refl _) _
      have M6 := Lib.hid (HM5.out.below hb6)
      have C6 := Lib.hid (HC5.out.kept' (hb6.block mw HC5.out.lt))
      have hlo5 := HM5.out.siz
      have I6 : Hid (Wanted (w5.alloc (.cells #[] 3)) (.slice (some ⟨w5.heap.size, 0, none⟩) 0 0) w5.heap.size (wantL L a b 0)) := Lib.hid ⟨_, _, rfl, rfl, .inr ⟨w5.heap.size, 0, #[], rfl, Nat.le_refl _, Blk.new _ _ _, Nat.le_refl _, Nat.zero_le _, rfl, rfl⟩⟩
      have hmw5 := HC5.out.lt
      have hD5 : ∀ k, Dl p m g gc k → k < w5.heap.size := fun k hk => HM5.out.disk.lt hk
      have HD5 := Lib.hid hD5
      have hsz6 : w5.heap.size ≤ (w5.alloc (.cells #[] 3)).heap.size := by simp
      have HSZ6 := Lib.hid hsz6
      clear hb6 HM5 HC5 HF hI hC HR hua hub e1 e2 hnz hD5 hsz6
      generalize w5.alloc (.cells #[] 3) = w6 at *
      obtain ⟨S5, hS5⟩ : ∃ S5, S5 = w5.heap.size := ⟨_, rfl⟩
      rw [← hS5] at hlo5 I6 hmw5 HD5 HSZ6 ⊢
      clear hS5
      go_loopw [15, 66] (fun v i wr => ∃ (k : Nat), k ≤ 20 ∧ i = .int .i64 k ∧ Hid (Wanted wr v S5 (wantL L a b k)) ∧ Hid (Mine w.heap.size w wr p m g gc ((dO L).stepped.settled (inR a b))) ∧ Hid (MapF Try.prog 3 wr mw (cntF L)) ∧ Hid (S5 ≤ wr.heap.size)) (fun _ i _ => 20 - (Lib.intOf i).toNat)
      case atStart => exact ⟨0, by omega, rfl, I6, M6, C6, HSZ6⟩
      case round =>
        obtain ⟨k, hk20, rfl, hW, hM, hC, hS⟩ := hrel
        by_cases hkl : k < 20
        · have hlk := cnt_look hC.out (k : Int) ⟨by omega, by omega⟩
          have hk0 : (0 : Int) ≤ (k : Int) := by omega
          have hk1 : (k : Int) < 20 := by omega
          obtain ⟨A6, c6, rfl, hIn⟩ := hW.out
          have hsn := wantL_snoc L a b k
          have hwl := wantL_len L a b k
          have HIN := Lib.hid hIn
          by_cases hw : wants L a b k = true
          · rw [if_pos hw] at hsn
            have HSN := Lib.hid hsn
            unfold wants at hw
            rw [Bool.and_eq_true, Bool.or_eq_true, decide_eq_true_iff, decide_eq_true_iff, decide_eq_true_iff] at hw
            obtain ⟨hw1, hw2⟩ := hw
            have hcp : (0 : Int) < ((L.count (k : Int) : Nat) : Int) := by omega
            generalize L.count (k : Int) = cy at *
            have hbs := buildS_one (k : Int)
            have hb7 : Below wr.heap.size wr (wr.alloc (.cells #[.int .i64 k] 3)) := (Below.refl _ _).alloc (Nat.le_refl _) _
            have M7 := Lib.hid (hM.out.below hb7)
            have C7 := Lib.hid (hC.out.kept' (hb7.block mw hC.out.lt))
            have I7 := Lib.hid (ins_below hIn hb7)
            have B7 := Lib.hid (Blk.new wr #[.int .i64 k] 3)
            have hS7 : S5 ≤ (wr.alloc (.cells #[.int .i64 k] 3)).heap.size := by have := hS.out; simp; omega
            have hl7 : (wantL L a b k).length ≤ 3000 := by omega
            clear hb7 hsn hW hM hC hIn
            rcases hw2 with hw2 | hw2
            all_goals
              go_wp2_with (first
                | (refine appendW_i rfl (.tmp 85) (.tmp 87) rfl S5 _ (wantL L a b k) rfl I7.out wr.heap.size 1 (k : Int) rfl B7.out hl7 hS7 ?_; intro g8 cap8 w8 hl8 hgr8; have HL8 := Lib.hid hl8; have HG8 := Lib.hid hgr8; clear hl8 hgr8)
                | fail)
              have f8 : Fr (fun j => S5 ≤ j ∧ ¬ Dl p m g gc j ∧ j ≠ mw) (wr.alloc (.cells #[.int .i64 k] 3)) w8 := Fr.of_grown HG8.out (fun j hj => by
                have h1 := (ins_lt I7.out j hj).1
                exact ⟨h1, fun hd => by have := HD5.out j hd; omega, by omega⟩)
              go_roundw
              case rel => exact ⟨k + 1, by omega, by go_num, by rw [HSN.out]; exact ⟨_, _, by rw [List.length_append]; rfl, HL8.out⟩, M7.out.keep f8 (fun j hj => ⟨hj.2.1, Nat.le_trans hlo5 hj.1⟩), f8.map C7.out (fun h => h.2.2 rfl), Lib.hid (Nat.le_trans hS7 f8.size)⟩
              case measure => simp [Lib.intOf]; omega
          · rw [if_neg hw] at hsn
            have HSN := Lib.hid hsn
            clear hsn
            unfold wants at hw
            rw [Bool.and_eq_true, Bool.or_eq_true, decide_eq_true_iff, decide_eq_true_iff, decide_eq_true_iff] at hw
            by_cases hc : 0 < L.count (k : Int)
            · have hn1 : ¬ (k : Int) < a := fun h => hw ⟨hc, .inl h⟩
              have hn2 : ¬ a + b ≤ (k : Int) := fun h => hw ⟨hc, .inr h⟩
              have hcp : (0 : Int) < ((L.count (k : Int) : Nat) : Int) := by omega
              generalize L.count (k : Int) = cy at *
              clear hw
              go_wp2
              go_roundw
              case rel => exact ⟨k + 1, by omega, by go_num, by rw [HSN.out]; exact ⟨_, _, rfl, HIN.out⟩, hM, hC, hS⟩
              case measure => simp [Lib.intOf]; omega
            · have hc0 : L.count (k : Int) = 0 := by omega
              rw [hc0] at hlk
              clear hc hc0 hw
              go_wp2
              go_roundw
              case rel => exact ⟨k + 1, by omega, by go_num, by rw [HSN.out]; exact ⟨_, _, rfl, HIN.out⟩, hM, hC, hS⟩
              case measure => simp [Lib.intOf]; omega
        · obtain rfl : k = 20 := by omega
          obtain ⟨A6, c6, rfl, hIn⟩ := hW.out
          have huc := um_eq 25 m0 (by omega) (by omega)
          obtain ⟨hm0, hm1⟩ := um_lt 25 m0 (by omega)
          obtain ⟨q, hq⟩ : ∃ q : Nat, um 25 m0 = (q : Int) := ⟨(um 25 m0).toNat, by omega⟩
          rw [hq] at huc hm0 hm1
          clear hq
          go_wp2_with fail
          rw [huc]
          clear huc
          obtain ⟨t, ht⟩ : ∃ t : Nat, t = min q (wantL L a b 20).length := ⟨_, rfl⟩
          have hmin : (if ((wantL L a b 20).length : Int) < (q : Int) then ((wantL L a b 20).length : Int) else (q : Int)) = (t : Int) := by rw [ht]; split <;> omega
          have hwl := wantL_len L a b 20
          have hlt2 : ((wantL L a b 20).take q).length = t := by rw [List.length_take, ht]
          have C1 := opened_m (Disk.drew hM.out.disk) q (by omega)
          rw [keys_want] at C1
          have HC1 := Lib.hid (C1.mono (OpenOut.t hlt2))
          have hri : RI wr wr.heap.size A6 ((wantL L a b 20).take q) := (ins_ri hIn).take q
          have HRI := Lib.hid hri
          have HM := Lib.hid hM.out.bel
          have hsz := hM.out.siz
          have HL2 := Lib.hid hlt2
          have HLB := Lib.hid (show ((wantL L a b 20).take q).length ≤ 100000 by have := List.length_take_le q (wantL L a b 20); omega)
          have htl : t ≤ (wantL L a b 20).length := by rw [ht]; exact Nat.min_le_right _ _
          have hcap : (wantL L a b 20).length ≤ c6 := by
            rcases hIn.2 with ⟨h1, h2⟩ | ⟨g', cap, cur, h1, _, _, h3, _⟩
            · rw [h2]; exact Nat.zero_le _
            · injection h1 with _ _ h4
              rw [h4]; exact h3
          have ht0 : (0 : Int) ≤ (t : Int) := by omega
          have ht1 : (t : Int) ≤ (c6 : Int) := by omega
          have ht2 : (t : Int) ≤ ((wantL L a b 20).length : Int) := by omega
          have HMIN := Lib.hid hmin
          clear C1 hri hIn hW hM hC hS ht hmin hlt2
          generalize hWL : wantL L a b 20 = WL at *
          clear hWL
          go_region_held3 (fun _ => True) (trivial) (first
            | (refine step_min (by kernel_rfl) (.tmp 98) (.tmp 100) rfl rfl _ _ _ rfl rfl HMIN.out ?_)
            | (go_at_call 24; refine HC1.out.mono ?_; rintro e w7 ⟨A7, c7, rfl, hI7, hb7⟩; have HI7 := Lib.hid hI7; have HB7 := Lib.hid hb7; clear hI7 hb7)
            | (go_at_call 38; refine (ints_t _ _ _ _ t _ HL2.out HLB.out _ _ _ HI7.out (HRI.out.below (below_drop HB7.out))).mono ?_; rintro e w8 ⟨rfl, hb8⟩; have HB8 := Lib.hid hb8; clear hb8)
            | fail)
          all_goals
            have hb8 : Below w.heap.size w w8 := HM.out.trans (((below_drop HB7.out).mono hsz).trans (HB8.out.mono (by have := (below_drop HB7.out).size; omega)))
            go_wp2
            go_ret
            exact ⟨rfl, hb8⟩
set_option maxHeartbeats 1000000 in
theorem platterOpens_walk (A : Option Addr) (c : Nat) (zs : List Int) (a0 b0 m0 : Int) (w : World) (hr : RI w w.heap.size A zs) :
    Calls Try.prog 7 #[.agg #[.slice A zs.length c, .int .i64 a0, .int .i64 b0, .int .i64 m0]] w fun e w' => e = .returned (.bool true) ∧ Below w.heap.size w w' := by
  have hb : Below w.heap.size w (w.alloc (.cells #[.slice A zs.length c, .int .i64 a0, .int .i64 b0, .int .i64 m0] 56)) := (Below.refl _ _).alloc (Nat.le_refl _) _
  have hB := Blk.new w #[.slice A zs.length c, .int .i64 a0, .int .i64 b0, .int .i64 m0] 56
  have x0 := hB.cell (j := 0) rfl
  have x1 := hB.cell (j := 1) rfl
  have x2 := hB.cell (j := 2) rfl
  have x3 := hB.cell (j := 3) rfl
  have HC := Lib.hid (opens_walk A c zs _ ((hr.below hb).mono hb.size) a0 b0 m0)
  have HB := Lib.hid hb
  clear hr hb hB
  go_enter Try.func7, Try.ntmps7
  go_wp2_with (first
    | (go_at_call 25; refine HC.out.mono ?_; rintro e w2 ⟨rfl, hb2⟩)
    | fail)
  go_ret
  exact ⟨rfl, HB.out.trans (hb2.mono HB.out.size)⟩
/-! ### the row's frame -/
theorem platterOpens_own : ownKnob Try.prog.godebug = none := by kernel_rfl
theorem platterOpens_laid : laidOutB Try.prog = true := by kernel_rfl
set_option maxRecDepth 100000 in
theorem platterOpens_lifted (os : Os) (started : os.Started) (H : Type) (enc : TypeId × Value → H) :
    ReturnsInHanded {} Try.checked os 7 .any (Rows.platterOpensSpec.pre6 enc Try.prog Try.f7 Rows.platterOpensRow.domain false) (Rows.platterOpensSpec.post enc Try.prog Try.f7 false true false false) := by
  refine returnsInHanded_of_change (C := Try.checked) platterOpens_own started (by kernel_rfl) Try.func7
    (ChangeSpec.witness6 (enc := enc) (C := Try.checked) false ⟨#[], #[.agg #[.slice none 0 0, .int .i64 0, .int .i64 0, .int .i64 0]], []⟩ 8 (by kernel_rfl) (by kernel_rfl) (by kernel_rfl) (by kernel_rfl)) ?_
  intro W base args ds gs before hval0 hW hcnd _
  have hval : ∀ (j : Nat) t v, Try.f7.params[j]? = some t → args[j]? = some v → Value.okWide Try.prog W .any base t v := hval0
  have hW' := hW
  obtain ⟨p, q, hA0, hV, rfl, hfz, hnd⟩ := hW
  have hlt0 : ∀ x ∈ p, x.block < W.heap.size := fun x hx => hW'.lt x (List.mem_append.2 (.inl hx))
  have hA : DataW.TrodAll enc Try.prog W 0 (fun _ => true) true Try.f7.params.toList args.toList ds p := hA0
  rw [Try.params7] at hA hval
  obtain ⟨v0, vs0, d0, ds0, p0, q0, hargs, rfl, rfl, h0, r0⟩ := trodAll_cons hA
  obtain ⟨rfl, rfl, rfl⟩ := trodAll_nil r0
  obtain rfl : args = #[v0] := by cases args; simp_all
  obtain ⟨rfl, rfl⟩ := trodVars_none hV
  have k0 := h0
  have lt0 : ∀ x ∈ p0, x.block < W.heap.size := fun x hx => hlt0 x (by simp [hx])
  obtain ⟨A0, c0, zs0, x0, y0, z0, rfl, hr0⟩ := asked_of (hval 0 56 v0 rfl rfl) h0
  clear hA0 hval0
  refine (platterOpens_walk A0 c0 zs0 x0 y0 z0 W hr0).mono fun e W' ⟨he, bel⟩ => ?_
  subst he
  exact ⟨_, rfl, _, _, _, [], _, [], hW', trodAll_mk1 (shut_bool Try.underlying4 _), (trodAll_cons_mk (Below.trod platterOpens_laid (by kernel_rfl) (of_decide_eq_true (by kernel_rfl)) k0 bel lt0) trodAll_mk0), rfl, bel.frame _, fun h => by cases h⟩

theorem platterOpens_proved : Rows.PlatterOpensSaid :=
  OpenClaim.holds_of_wide 7 Try.f7 rfl rfl rfl rfl rfl rfl rfl ⟨rfl, rfl, rfl, rfl, rfl⟩ rfl rfl rfl rfl rfl (by kernel_rfl) Try.func7 (by kernel_rfl)
    (of_decide_eq_true (by kernel_rfl)) (by unfold Func.isWrapper; rw [if_neg (of_decide_eq_false (by kernel_rfl))]; exact ⟨rfl, rfl⟩)
    (fun os started H enc _ => platterOpens_lifted os started H enc)
#print axioms platterOpens_proved

end Go.Proofs.Ythfhilinajemhaa
