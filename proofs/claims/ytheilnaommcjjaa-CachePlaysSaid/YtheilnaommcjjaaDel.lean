import Derived.Test.YtheilnaommcjjaaIdx
import Derived.Deep.RegionLaw
namespace Go.Proofs.Ytheilnaommcjjaa
open Go.RowKit

/-! ### append with room, and clear, on a row known whole -/
theorem step_append_row {P : Program} {ops : Array Oper} {o : Oper} {a : Act} {w : World} {K : Act → World → Prop} {Q : Exit → Act → World → Prop} {E : Prop}
    (hgd : o.guard = none) (s x : Operand) (t : TypeId) (ho : o.op = Op.call { callee := Callee.builtin Builtin.append, args := #[s, x], argTypes := #[t, t] })
    (e : TypeId) (i : TypeInfo) (size : Nat) (ht : P.underlying t = some (.slice e)) (hi : P.info? e = some i) (hsz : i.size = size)
    (g n cap : Nat) (cur : Array Value) (hg : w.heap[g]? = some (.cells cur e (0, 0))) (hs : a.eval s = .slice (some ⟨g, 0, none⟩) n cap)
    (ad : Addr) (m c : Nat) (news : List Value) (hx : a.eval x = .slice (some ad) m c) (hl : news.length = m * size) (hc : ∀ j u, news[j]? = some u → w.cell? (ad.add j) = some u) (h1 : ∀ u ∈ news, u.oneCell' = true)
    (nm : Nat) (hnm : n + m = nm) (hroom : nm ≤ cap) (hfit : n * size + news.length ≤ cur.size)
    (hK : K (a.put o.dst (.slice (some ⟨g, 0, none⟩) nm cap)) (w.setRow g (cur.toList.take (n * size) ++ news ++ cur.toList.drop (n * size + news.length)).toArray)) :
    if Region.wanted o (yielded ops a.tmps) = true then Oper.wp P o a w K Q else E := by
  have hw : Region.wanted o (yielded ops a.tmps) = true := by simp [Region.wanted, hgd]
  rw [if_pos hw]
  subst hsz
  subst hnm
  have hrun := run_append_room (P := P) w t o.type e i ht hi g n cap cur hg ad m c news hl hc h1 hroom hfit
  unfold Oper.wp execOp
  simp only [ho, resolve, invoke, builtin, Sem.run_bind, Sem.run_pure, Result.andThen_ok, List.map_toArray, List.map_cons, List.map_nil, hs, hx, hrun]
  exact hK

theorem run_clear_spot (w : World) (g k c : Nat) (cur : Array Value) (ty : TypeId) (hg : w.heap[g]? = some (.cells cur 66 (0, 0))) (hfit : k * 2 + 2 ≤ cur.size) :
    (Builtin.clear_ #[62] ty #[.slice (some ⟨g, k * 2, none⟩) 1 c]).run Try.prog w = .ok (.tuple #[]) (w.setRow g (cur.toList.take (k * 2) ++ [Value.int .i64 0, Value.int .i64 0] ++ cur.toList.drop (k * 2 + 2)).toArray) := by
  have hz : ∀ w, (zeroValue 66).run Try.prog w = .ok (.agg #[.int .i64 0, .int .i64 0]) w := fun w => by kernel_rfl
  have hst := run_storeCells_at Try.prog g (k * 2) 66 [.int .i64 0, .int .i64 0] 0 cur w hg (by simpa using hfit) (by intro v hv; simp at hv; subst hv; rfl)
  simp only [Nat.add_zero] at hst
  have hzc : (Builtin.zeroCells (Value.agg #[.int .i64 0, .int .i64 0]).cells 1).toList = [.int .i64 0, .int .i64 0] := by
    simp [Builtin.zeroCells, Value.cells, Array.range]
  simp [Builtin.clear_, run_underlying Try.underlying62, hz, hzc, hst, Result.andThen]

theorem eraseIdx_moved (L : List Spot) (i : Nat) : sc (L.eraseIdx i) = (sc L).take (i * 2) ++ ((sc L).drop ((i + 1) * 2)) := by
  rw [List.eraseIdx_eq_take_drop_succ, sc_append]
  have h1 : ∀ (L : List Spot) (i : Nat), sc (L.take i) = (sc L).take (i * 2) := by
    intro L
    induction L with
    | nil => intro i; simp [sc]
    | cons s r ih =>
      intro i
      cases i with
      | zero => simp [sc]
      | succ i => rw [List.take_succ_cons, show (i + 1) * 2 = i * 2 + 1 + 1 from by omega]; simp [sc, ih]
  have h2 : ∀ (L : List Spot) (i : Nat), sc (L.drop i) = (sc L).drop (i * 2) := by
    intro L
    induction L with
    | nil => intro i; simp [sc]
    | cons s r ih =>
      intro i
      cases i with
      | zero => simp [sc]
      | succ i => rw [List.drop_succ_cons, show (i + 1) * 2 = i * 2 + 1 + 1 from by omega]; simp [sc, ih]
  rw [h1, h2]

set_option maxHeartbeats 800000 in
theorem delete_any (v : Value) (L : List Spot) (i : Nat) (hi : i < L.length) (w : World) (ho : Ord w v L) :
    Calls Try.prog 34 #[v, .int .i64 i, .int .i64 ((i : Int) + 1)] w fun e w' => ∃ v', e = .returned v' ∧ Ord w' v' (L.eraseIdx i) ∧ v'.ownBlock = v.ownBlock ∧ w.grownBy w' v.ownBlock := by
  rcases ho.2 with ⟨rfl, h0⟩ | ⟨g, cap, cur, rfl, _, hg, hn, hcm, hcs, htake⟩
  · omega
  · generalize hN : L.length = N at *
    have hN' := Lib.hid hN
    clear hN
    obtain ⟨M, rfl⟩ : ∃ M, N = M + 1 := ⟨N - 1, by omega⟩
    have hI : ((M + 1 : Nat) : Int) ≤ 9223372036854775807 := by simp only [maxLen] at hcm; omega
    have hIc : (cap : Int) ≤ 9223372036854775807 := by simp only [maxLen] at hcm; omega
    have hne : ((i : Int) == (i : Int) + 1) = false := by rw [beq_eq_false_iff_ne]; omega
    have hp2 : ((i : Int) + 1).toNat = i + 1 := by omega
    have hp3 : ((i : Int) + 1) ≤ ((M + 1 : Nat) : Int) := by omega
    have hp4 : ((M + 1 : Nat) : Int) ≤ (cap : Int) := by omega
    have hp5 : (0 : Int) ≤ (i : Int) + 1 := by omega
    have H1 := Lib.hid hg
    have H2 := Lib.hid hcs
    have H3 := Lib.hid htake
    clear ho hg hcs htake
    have hadd : ∀ (o j : Nat), (⟨g, o, none⟩ : Addr).add j = ⟨g, o + j, none⟩ := fun o j => by unfold Addr.add; split <;> simp_all
    obtain ⟨news, hnews⟩ : ∃ news, news = (sc L).drop ((i + 1) * 2) := ⟨_, rfl⟩
    have hnl : news.length = (M - i) * 2 := by rw [hnews, List.length_drop, sc_len, hN'.out]; omega
    have hatc : ∀ j, j < (M + 1) * 2 → cur[j]? = (sc L)[j]? := fun j hj => by
      rw [← H3.out, List.getElem?_take, if_pos hj]; simp
    obtain ⟨A, hA, hnc⟩ : ∃ A : Addr, (if cap = i + 1 then some (⟨g, 0, none⟩ : Addr) else some ⟨g, (i + 1) * 2, none⟩) = some A ∧ Hid (∀ j u, news[j]? = some u → w.drew.cell? (A.add j) = some u) := by
      by_cases h : cap = i + 1
      · refine ⟨⟨g, 0, none⟩, by rw [if_pos h], fun j u hu => ?_⟩
        have := (List.getElem?_eq_some_iff.1 hu).1
        omega
      · refine ⟨⟨g, (i + 1) * 2, none⟩, by rw [if_neg h], fun j u hu => ?_⟩
        have hj := (List.getElem?_eq_some_iff.1 hu).1
        rw [hadd]
        refine (cell_of_row w g _ cur 66 (0, 0) H1.out).trans ?_
        rw [hatc _ (by omega)]
        rw [hnews, List.getElem?_drop] at hu
        exact hu
    have s1 := Lib.hid hnl
    have s2 : Hid (∀ u ∈ news, u.oneCell' = true) := by
      intro u hu
      rw [hnews] at hu
      exact sc_one L u (List.mem_of_mem_drop hu)
    have Hn := Lib.hid hnews
    have s3 : Hid (w.drew.heap[g]? = some (.cells cur 66 (0, 0))) := H1.out
    have s4 : Hid (i * 2 + news.length ≤ cur.size) := by unfold Hid; rw [hnl, H2.out]; omega
    have Ha := Lib.hid hatc
    clear hatc hnews hnl hadd
    obtain ⟨i0, hi0, hz0, hz1, hz2⟩ := info_parts (show (Try.prog.info? 66).map (fun i => (i.zero, i.size, i.bytes)) = some (some (.agg #[.int .i64 0, .int .i64 0]), 2, 16) by kernel_rfl)
    have Z1 := Lib.hid hz1
    clear hz0 hz1 hz2
    have hic : i ≤ cap := by omega
    go_enter Try.func34, Try.ntmps34
    go_wp2
    have hiM : i ≤ M := by omega
    have hcm1 : ¬ cap = M := by omega
    have hcm2 : (M : Int) ≤ (cap : Int) := by omega
    have hcm3 : (M : Int) ≤ 9223372036854775807 := by omega
    have hMi : M + 1 - (i + 1) = M - i := by omega
    go_region_law (refine step_append_row rfl (.tmp 22) (.tmp 25) 62 rfl 66 i0 2 Try.underlying62 hi0 Z1.out g i cap cur s3.out (by simp [Act.eval, Act.put]) A (M - i) (cap - (i + 1)) news (by simp [Act.eval, Act.put]) s1.out hnc.out s2.out M (by omega) (by omega) s4.out ?_)
    generalize hc1 : (List.take (i * 2) cur.toList ++ (news ++ List.drop (i * 2 + news.length) cur.toList)).toArray = cur1
    have H4 := Lib.hid hc1
    clear hc1
    have hb1 : Hid ((w.drew.setRow g cur1).heap[g]? = some (.cells cur1 66 (0, 0))) := setRow_heap w.drew g cur cur1 66 _ s3.out
    have hg1 : Hid (w.grownBy (w.drew.setRow g cur1) (some g)) := ⟨rfl, rfl, rfl, by rw [size_setRow]; exact Nat.le_refl _, fun k _ hk => setRow_other w.drew g k cur1 (fun e => hk (by rw [e]))⟩
    generalize w.drew.setRow g cur1 = W1 at *
    have hs1 : cur1.size = cap * 2 := by
      rw [← H4.out]
      simp only [List.size_toArray, List.length_append, List.length_take, List.length_drop, Array.length_toList, H2.out]
      have := s1.out
      omega
    have S1 := Lib.hid hs1
    have hclr := fun ty => run_clear_spot W1 g M (cap - M) cur1 ty hb1.out (by rw [hs1]; omega)
    clear hs1
    generalize hc2 : (List.take (M * 2) cur1.toList ++ [Value.int .i64 0, Value.int .i64 0] ++ List.drop (M * 2 + 2) cur1.toList).toArray = cur2 at hclr
    have H5 := Lib.hid hc2
    clear hc2
    go_wp2
    go_ret
    have hl : (L.eraseIdx i).length = M := by rw [List.length_eraseIdx_of_lt (by rw [hN'.out]; exact hi), hN'.out]; rfl
    have e1 : cur2.toList.take (M * 2) = cur1.toList.take (M * 2) := by
      rw [← H5.out]
      simp only [List.append_assoc]
      rw [List.take_append_of_le_length (by rw [List.length_take, Array.length_toList, S1.out]; omega), List.take_take, Nat.min_self]
    have e2 : cur1.toList.take (M * 2) = sc (L.eraseIdx i) := by
      have hlt : (List.take (i * 2) cur.toList).length = i * 2 := by rw [List.length_take, Array.length_toList, H2.out]; omega
      have hln : (List.take (i * 2) cur.toList ++ news).length = M * 2 := by rw [List.length_append, hlt, s1.out]; omega
      rw [← H4.out]
      show List.take (M * 2) (List.take (i * 2) cur.toList ++ (news ++ _)) = _
      rw [← List.append_assoc, ← hln, List.take_left, eraseIdx_moved, Hn.out, ← H3.out, List.take_take, Nat.min_eq_left (by omega)]
    refine ⟨.slice (some ⟨g, 0, none⟩) M cap, rfl, ?_, rfl, ?_⟩
    · unfold Ord
      rw [hl]
      refine ⟨by rw [sc_len, hl], .inr ⟨g, cap, cur2, rfl, Nat.zero_le _, setRow_heap W1 g cur1 cur2 66 _ hb1.out, by omega, hcm, ?_, by rw [e1, e2]⟩⟩
      rw [← H5.out]
      simp only [List.size_toArray, List.length_append, List.length_take, List.length_drop, Array.length_toList, S1.out, List.length_cons, List.length_nil]
      omega
    · exact hg1.out.trans ⟨rfl, rfl, rfl, by rw [size_setRow]; exact Nat.le_refl _, fun k _ hk => setRow_other W1 g k cur2 (fun e => hk (by rw [e]))⟩
end Go.Proofs.Ytheilnaommcjjaa
