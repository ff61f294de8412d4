/-
  The document's cache: Clean, Drop; two lists of lines side by side.
-/
import Derived.Test.YtheilnaommcjjaaRef2
namespace Go.Proofs.Ytheilnaommcjjaa
open Go.RowKit

theorem lr_set (M N : List Ln) (x : Ln) : (lr (M ++ x :: N)).set (M.length * 131 + 130) (.bool false) = lr (M ++ cleanLn x :: N) := by
  have h1 : (lr M).length = M.length * 131 := lr_len M
  have h2 : (lnA x).toList.set 130 (.bool false) = (lnA (cleanLn x)).toList := by
    have := ln_set x false
    rw [← Array.toList_setIfInBounds, this]
    rfl
  have h3 : M.length * 131 + 130 - (lr M).length = 130 := by omega
  have h4 : ¬ M.length * 131 + 130 < (lr M).length := by omega
  have h5 : 130 < (lnA x).toList.length := by rw [Array.length_toList, lnA_size]; omega
  rw [lr_append, lr_append, List.set_append, if_neg h4, h3]
  simp only [lr]
  rw [List.set_append, if_pos h5, h2]
def CleanI (w : World) (g cap : Nat) (L : List Ln) (k : Nat) (W : World) : Prop :=
  ∃ cur, Blk W g cur 33 ∧ cur.size = cap * 131 ∧ cur.toList.take (L.length * 131) = lr ((L.take k).map cleanLn ++ L.drop k) ∧ Fr (fun k => k = g) w W
def RSPost (w : World) (r q : Nat) (A : Option Addr) (c : Nat) (v : Value) (L' : List Ln) (e : Ending) (w' : World) : Prop :=
  e = .returned v ∧ RSt w' 0 r q A c L' ∧ Grow (Rm r A) (Rm r A) w w'

set_option maxHeartbeats 1000000 in
set_option maxRecDepth 20000 in
theorem rclean_any (r q c : Nat) (A : Option Addr) (L : List Ln) (w : World) (h : RSt w 0 r q A c L) (hdirty : Calls Try.prog 24 #[.pointer (some ⟨r, 0, none⟩)] w fun e w' => ∃ A' c', e = .returned (.slice A' (dirtyOf L).length c') ∧ Below w.heap.size w w') :
    Calls Try.prog 22 #[.pointer (some ⟨r, 0, none⟩)] w (RSPost w r q A c (.int .i64 (dirtyOf L).length) (L.map cleanLn)) := by
  have hL := h.len
  have hLI : (L.length : Int) ≤ 9 := by omega
  have lr' := h.blk.lt
  go_enter Try.func22, Try.ntmps22
  go_wp2_with fail
  refine hdirty.mono ?_
  rintro e w1 ⟨A1, c1, rfl, hb1⟩
  have h1 := h.below hb1
  go_wp2_with fail
  rcases h1.row.2 with ⟨hv, h0⟩ | ⟨g, cap, cur, hv, _, hg, hn, hcm, hcs, htake⟩
  · have hnil : L = [] := List.eq_nil_of_length_eq_zero h0
    subst hnil
    have b1 := h1.blk.cell (j := 1) rfl
    go_loop [4] (fun i => i = .int .i64 0) (fun _ => 0)
    case atStart => rfl
    case round =>
      cases hrel
      go_wp2
      go_ret
      exact ⟨rfl, h1, Grow.below hb1⟩
  · injection hv with hA _ hc
    subst hA
    subst hc
    have hgr : g ≠ r := fun e => by
      have hb := h1.blk
      unfold Blk at hb
      rw [← e, hg] at hb
      injection hb with hb
      injection hb with _ hb
      exact absurd hb (by decide)
    have hI0 : Hid (CleanI w1 g c L 0 w1) := ⟨cur, hg, hcs, by rw [htake]; simp, Fr.refl _ _⟩
    clear htake hcs
    go_loopw [4] (fun i wr => ∃ k : Nat, k ≤ L.length ∧ i = .int .i64 k ∧ Hid (CleanI w1 g c L k wr)) (fun i _ => (L.length - intOf i).toNat)
    case atStart => exact ⟨0, Nat.zero_le _, rfl, hI0⟩
    case round =>
      obtain ⟨k, hk, rfl, hI⟩ := hrel
      obtain ⟨cu, i1, i2, i3, i4⟩ := hI.out
      have bk := i4.blk h1.blk (Ne.symm hgr)
      have b1 := bk.cell (j := 1) rfl
      by_cases hlt : (k : Int) < (L.length : Int)
      · obtain ⟨x, hx⟩ : ∃ x, L[k]? = some x := ⟨L[k]'(by omega), List.getElem?_eq_getElem (by omega)⟩
        have hkc : k * 131 + 130 < cu.size := by rw [i2]; omega
        obtain ⟨o1, ho1⟩ : ∃ o, cu[k * 131 + 130]? = some o := ⟨_, Array.getElem?_eq_getElem hkc⟩
        have x3 := i1.cell ho1
        have x5 := i1.frozen (k * 131 + 130)
        have fs := fr_set wr ⟨g, k * 131 + 130, none⟩ (.bool false)
        have hnext : Hid (CleanI w1 g c L (k + 1) (wr.setCell ⟨g, k * 131 + 130, none⟩ (.bool false))) := by
          refine ⟨_, i1.set (k * 131 + 130) (.bool false), by rw [Array.size_setIfInBounds]; exact i2, ?_, i4.trans fs (fun j hj => .inl hj)⟩
          have e := (List.getElem?_eq_some_iff.1 hx).2
          have hd : L.drop k = x :: L.drop (k + 1) := by rw [← e, List.getElem_cons_drop]
          have ht : L.take (k + 1) = L.take k ++ [x] := by rw [List.take_add_one, hx]; rfl
          rw [Array.toList_setIfInBounds, List.take_set, i3, hd]
          have hml : ((L.take k).map cleanLn).length = k := by rw [List.length_map, List.length_take]; omega
          have := lr_set ((L.take k).map cleanLn) (L.drop (k + 1)) x
          rw [hml] at this
          rw [this, ht, List.map_append]
          simp
        clear ho1 hx i1 i2 i3 hI
        go_wp2
        exact ⟨⟨k + 1, by omega, rfl, hnext⟩, by simp only [intOf]; omega⟩
      · obtain rfl : k = L.length := by omega
        rw [List.take_length, List.drop_length, List.append_nil] at i3
        have I3 := Lib.hid i3
        have I2 := Lib.hid i2
        clear i2 i3 hI
        go_wp2
        go_ret
        have hml : (L.map cleanLn).length = L.length := List.length_map _
        refine ⟨rfl, ⟨by rw [hml]; exact bk, ?_, by rw [hml]; exact hL⟩, ?_⟩
        · rw [hml]
          unfold Lns
          rw [hml]
          exact ⟨by rw [lr_len, hml], .inr ⟨g, c, cu, rfl, Nat.zero_le _, i1, hn, hcm, I2.out, I3.out⟩⟩
        · exact (Grow.below hb1).trans ⟨i4.weak (fun k hk => .inr ⟨0, by rw [hk]⟩), fun _ h => .inl h⟩

theorem dropL_cons_eq {u : Int} {x : Ln} {M : List Ln} (h : x.u = u) : dropL u (x :: M) = dropL u M := by
  unfold dropL
  rw [List.filter_cons_of_neg (by simp [h])]
theorem dropL_cons_ne {u : Int} {x : Ln} {M : List Ln} (h : x.u ≠ u) : dropL u (x :: M) = x :: dropL u M := by
  unfold dropL
  rw [List.filter_cons_of_pos (by simp [h])]
def RDPost (w : World) (r q : Nat) (A : Option Addr) (v : Value) (L' : List Ln) (e : Ending) (w' : World) : Prop :=
  ∃ A' c', e = .returned v ∧ RSt w' 0 r q A' c' L' ∧ Grow (Rm r A) (Rm r A') w w'
def DropI (w : World) (r q : Nat) (A : Option Addr) (u : Int) (L : List Ln) (j : Nat) (n : Int) (A' : Option Addr) (c' : Nat) (W : World) : Prop :=
  RSt W 0 r q A' c' (L.take j ++ dropL u (L.drop j)) ∧ n = ((L.drop j).length : Int) - ((dropL u (L.drop j)).length : Nat) ∧ Grow (Rm r A) (Rm r A') w W

set_option maxHeartbeats 1000000 in
set_option maxRecDepth 20000 in
theorem rdrop_any (r q c : Nat) (A : Option Addr) (L : List Ln) (u : Int) (w : World) (h : RSt w 0 r q A c L) :
    Calls Try.prog 23 #[.pointer (some ⟨r, 0, none⟩), .int .i64 u] w (RDPost w r q A (.int .i64 ((L.length : Int) - ((dropL u L).length : Nat))) (dropL u L)) := by
  have hL := h.len
  have hLI : (L.length : Int) ≤ 9 := by omega
  have b1 := h.blk.cell (j := 1) rfl
  have hI0 : Hid (DropI w r q A u L L.length 0 A c w) := ⟨by rw [List.take_length, List.drop_length]; simpa [dropL] using h, by simp [dropL], Fr.refl _ _, fun _ hk => .inl hk⟩
  have hl0 : (0 : Int) ≤ (L.length : Int) := by omega
  clear h
  go_enter Try.func23, Try.ntmps23
  go_wp2_with fail
  go_loopw [5, 6] (fun n i wr => ∃ (j : Nat) (nn : Int) (A' : Option Addr) (c' : Nat), j ≤ L.length ∧ n = .int .i64 nn ∧ i = .int .i64 ((j : Int) - 1) ∧ 0 ≤ nn ∧ nn ≤ 9 ∧ Hid (DropI w r q A u L j nn A' c' wr)) (fun _ i _ => (intOf i + 1).toNat)
  case atStart => exact ⟨L.length, 0, A, c, Nat.le_refl _, rfl, rfl, Int.le_refl _, by omega, hI0⟩
  case round =>
    obtain ⟨j, nn, A', c', hj, rfl, rfl, hn0, hn9, hI⟩ := hrel
    obtain ⟨i1, i2, i3⟩ := hI.out
    clear b1
    have b1 := i1.blk.cell (j := 1) rfl
    have I2 := Lib.hid i2
    clear i2
    have hdl : (dropL u (L.drop j)).length ≤ (L.drop j).length := List.length_filter_le _ _
    rw [List.length_drop] at hdl
    by_cases hj0 : 1 ≤ j
    · obtain ⟨k, rfl⟩ : ∃ k, j = k + 1 := ⟨j - 1, by omega⟩
      obtain ⟨x, hx⟩ : ∃ x, L[k]? = some x := ⟨L[k]'(by omega), List.getElem?_eq_getElem (by omega)⟩
      have ht : L.take (k + 1) = L.take k ++ [x] := by rw [List.take_add_one, hx]; rfl
      have e := (List.getElem?_eq_some_iff.1 hx).2
      have hd : L.drop k = x :: L.drop (k + 1) := by rw [← e, List.getElem_cons_drop]
      have hkl : (L.take k).length = k := by rw [List.length_take]; omega
      obtain ⟨N, hN⟩ : ∃ N, L.take (k + 1) ++ dropL u (L.drop (k + 1)) = N := ⟨_, rfl⟩
      have hNk : N[k]? = some x := by
        rw [← hN, ht, List.append_assoc, List.getElem?_append_right (by omega), hkl, Nat.sub_self]
        rfl
      have hNe : N.eraseIdx k = L.take k ++ dropL u (L.drop (k + 1)) := by
        rw [← hN, ht, List.append_assoc, List.eraseIdx_append_of_length_le (by omega), hkl, Nat.sub_self]
        rfl
      have hNkeep : N = L.take k ++ x :: dropL u (L.drop (k + 1)) := by rw [← hN, ht, List.append_assoc]; rfl
      rw [hN] at i1 b1
      obtain ⟨g, rfl, _, hgl, hcl⟩ := i1.at hNk
      have cu := hcl 0 (by omega)
      rw [show lnE x 0 = .int .i64 x.u from rfl, Nat.add_zero] at cu
      have hNl : k < N.length := (List.getElem?_eq_some_iff.1 hNk).1
      have hNlI : (k : Int) < (N.length : Int) := by omega
      have hN9 := i1.len
      have hN9I : (N.length : Int) ≤ 9 := by omega
      have hcast : (((k + 1 : Nat) : Int) - 1) = (k : Int) := by omega
      rw [hcast]
      have hk0 : (0 : Int) ≤ (k : Int) := by omega
      have hkL : k + 1 ≤ L.length := hj
      by_cases hu : x.u = u
      · have hut : (x.u == u) = true := by rw [beq_iff_eq]; exact hu
        have Co := Lib.hid (out_any r q c' _ N k x hNk wr i1)
        have hdk : dropL u (L.drop k) = dropL u (L.drop (k + 1)) := by rw [hd]; exact dropL_cons_eq hu
        have Hdk := Lib.hid hdk
        have HNe := Lib.hid hNe
        have Hd := Lib.hid hd
        clear hN hNk hNe hNkeep hcl ht hd e hx hu hdk hkl hcast hI
        go_wp2_with fail
        refine Co.out.mono ?_
        rintro e w2 ⟨A2, c2, rfl, h2, g2⟩
        have hnn : nn + 1 ≤ 9 := by
          have h3 := I2.out
          rw [List.length_drop] at h3
          omega
        go_wp2
        refine ⟨⟨k, nn + 1, A2, c2, by omega, rfl, rfl, by omega, hnn, ?_⟩, by simp only [intOf]; omega⟩
        refine ⟨by rw [Hdk.out, ← HNe.out]; exact h2, ?_, i3.trans g2⟩
        have h3 := I2.out
        rw [Hdk.out, Hd.out, List.length_cons]
        omega
      · have hut : (x.u == u) = false := beq_eq_false_iff_ne.2 hu
        have hdk : dropL u (L.drop k) = x :: dropL u (L.drop (k + 1)) := by rw [hd]; exact dropL_cons_ne hu
        have Hdk := Lib.hid hdk
        have HNk := Lib.hid hNkeep
        have Hd := Lib.hid hd
        clear hN hNk hNe hNkeep hcl ht hd e hx hu hdk hkl hcast hI
        go_wp2
        refine ⟨⟨k, nn, some ⟨g, 0, none⟩, c', by omega, rfl, rfl, hn0, hn9, ?_⟩, by simp only [intOf]; omega⟩
        refine ⟨by rw [Hdk.out, ← HNk.out]; exact i1, ?_, i3⟩
        have h3 := I2.out
        rw [Hdk.out, Hd.out, List.length_cons, List.length_cons]
        omega
    · obtain rfl : j = 0 := by omega
      have hneg : ¬ (0 : Int) ≤ ((0 : Nat) : Int) - 1 := by omega
      have i1' := Lib.hid i1
      clear hI i1
      go_wp2
      go_ret
      refine ⟨A', c', ?_, ?_, i3⟩
      · have h3 := I2.out
        rw [List.drop_zero] at h3
        exact ret_int h3
      · have := i1'.out
        simpa using this

theorem quiet_loadv {o : Oper} {a : Act} {C : World → Prop} {K : Act → Prop} (t : TypeId) (x : Operand) (ho : o.op = .load t x) (ad : Addr) (hx : a.eval x = .pointer (some ad)) (v : Value)
    (hl : ∀ w, C w → (loadVar t ad).run Try.prog w = .ok v w) (hk : K (a.put o.dst v)) : o.quiet Try.prog a C K :=
  quiet_value (fun w hw => by
    unfold execOp
    simp only [ho, hx, Instr.loadAt, Instr.sureAddr, Sem.run_bind, Sem.run_pure, Result.andThen_ok, hl w hw]) hk

set_option maxHeartbeats 1000000 in
set_option maxRecDepth 20000 in
theorem same_any (A1 A2 : Option Addr) (c1 c2 : Nat) (M : List Ln) (hM : M.length ≤ 9) (w : World) (h1 : Snap (fun _ => False) w A1 M) (h2 : Snap (fun _ => False) w A2 M) :
    Calls Try.prog 25 #[.slice A1 M.length c1, .slice A2 M.length c2] w fun e w' => e = .returned (.bool true) ∧ ∃ n, w' = w.drewN n := by
  have hMI : (M.length : Int) ≤ 9 := by omega
  go_enter Try.func25, Try.ntmps25
  go_wp2_with fail
  go_loopw [5, 13] (fun _ i wr => ∃ k n : Nat, k ≤ M.length ∧ i = .int .i64 k ∧ wr = w.drewN n) (fun _ i _ => (M.length - intOf i).toNat)
  case atStart => exact ⟨0, 0, Nat.zero_le _, rfl, rfl⟩
  case round =>
    obtain ⟨k, n, hk, rfl, rfl⟩ := hrel
    by_cases hlt : (k : Int) < (M.length : Int)
    · obtain ⟨x, hx⟩ : ∃ x, M[k]? = some x := ⟨M[k]'(by omega), List.getElem?_eq_getElem (by omega)⟩
      obtain ⟨g1, rfl, _, _, k1⟩ := h1 k x hx
      obtain ⟨g2, rfl, _, _, k2⟩ := h2 k x hx
      have le := fun w => ln_eq x x w
      rw [eqLn_self] at le
      have K1 := Lib.hid k1
      have K2 := Lib.hid k2
      clear hx k1 k2
      go_wp2_with fail
      refine wp_region_quiet_lit (by kernel_rfl) (by kernel_rfl) ?_
      repeat (first | go_big_quiet_skip | (go_big_quiet_want; (first | (refine quiet_loadv 33 _ rfl ⟨g1, k * 131, none⟩ rfl _ (fun w' hw => by obtain ⟨m, rfl⟩ := hw; exact loadVar_mid x _ _ _ K1.out) ?_; go_simp) | (refine quiet_loadv 33 _ rfl ⟨g2, k * 131, none⟩ rfl _ (fun w' hw => by obtain ⟨m, rfl⟩ := hw; exact loadVar_mid x _ _ _ K2.out) ?_; go_simp) | go_big_quiet_op); go_big_quiet_on))
      refine wpQuiet_nil ?_
      rintro _ ⟨nq, rfl⟩
      go_wp2
      exact ⟨⟨k + 1, n + nq, by omega, rfl, rfl⟩, by simp only [intOf]; omega⟩
    · obtain rfl : k = M.length := by omega
      go_wp2
      go_ret
      exact ⟨rfl, n, rfl⟩
end Go.Proofs.Ytheilnaommcjjaa
