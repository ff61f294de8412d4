/-
  slices.DeleteFunc over Drop's closure.
-/
import Derived.Test.YtheilnaommcjjaaDrop1
namespace Go.Proofs.Ytheilnaommcjjaa
open Go.RowKit
open Go.Maps (Keyed)

/-- the map when the spots 'P' have been asked -/
structure Gone (u : Int) (P : List Spot) (f f' : Value → Option Value) : Prop where
  off : ∀ s ∈ P, s.1 = u → f' (spotV s) = none
  on : ∀ y, (∀ s ∈ P, s.1 = u → y ≠ spotV s) → f' y = f y
theorem Gone.start {u : Int} {P : List Spot} {f : Value → Option Value} (h : ∀ s ∈ P, s.1 ≠ u) : Gone u P f f := ⟨fun s hs hu => absurd hu (h s hs), fun _ _ => rfl⟩
theorem Gone.skip {u : Int} {P : List Spot} {f f' : Value → Option Value} (h : Gone u P f f') {s : Spot} (hs : s.1 ≠ u) : Gone u (P ++ [s]) f f' :=
  ⟨fun t ht hu => (List.mem_append.1 ht).elim (fun ht => h.off t ht hu) (fun ht => by rw [List.mem_singleton.1 ht] at hu; exact absurd hu hs), fun y hy => h.on y (fun t ht => hy t (List.mem_append.2 (.inl ht)))⟩
open Classical in
theorem Gone.take {u : Int} {P : List Spot} {f f' : Value → Option Value} (h : Gone u P f f') {s : Spot} (hs : s.1 = u) : ∃ g, g (spotV s) = none ∧ (∀ y, y ≠ spotV s → g y = f' y) ∧ Gone u (P ++ [s]) f g := by
  refine ⟨fun y => if y = spotV s then none else f' y, if_pos rfl, fun y hy => if_neg hy, ⟨fun t ht hu => ?_, fun y hy => ?_⟩⟩
  · show (if _ then _ else _) = _
    split
    · rfl
    · rename_i hne
      rcases List.mem_append.1 ht with ht | ht
      · exact h.off t ht hu
      · rw [List.mem_singleton.1 ht] at hne
        exact absurd rfl hne
  · show (if _ then _ else _) = _
    rw [if_neg (hy s (by simp) hs)]
    exact h.on y (fun t ht => hy t (List.mem_append.2 (.inl ht)))

def keepU (u : Int) (S : List Spot) : List Spot := S.filter (inU u)
theorem keepU_take {u : Int} {S : List Spot} {j : Nat} {s : Spot} (h : S[j]? = some s) : keepU u (S.take (j + 1)) = keepU u (S.take j) ++ (if s.1 = u then [] else [s]) := by
  unfold keepU
  rw [List.take_add_one, h, Option.toList_some, List.filter_append]
  by_cases hx : s.1 = u
  · rw [if_pos hx]; simp [inU, hx]
  · rw [if_neg hx]; simp [inU, hx]
theorem take_add {S : List Spot} {j : Nat} {s : Spot} (h : S[j]? = some s) : S.take (j + 1) = S.take j ++ [s] := by rw [List.take_add_one, h]; rfl

theorem run_clear_spots (w : World) (g k n c : Nat) (cur : Array Value) (ty : TypeId) (hg : w.heap[g]? = some (.cells cur 66 (0, 0))) (hfit : k * 2 + (n + 1) * 2 ≤ cur.size) :
    ∃ zs : List Value, zs.length = (n + 1) * 2 ∧ (Builtin.clear_ #[62] ty #[.slice (some ⟨g, k * 2, none⟩) (n + 1) c]).run Try.prog w = .ok (.tuple #[]) (w.setRow g (cur.toList.take (k * 2) ++ zs ++ cur.toList.drop (k * 2 + (n + 1) * 2)).toArray) := by
  have hz : ∀ w, (zeroValue 66).run Try.prog w = .ok (.agg #[.int .i64 0, .int .i64 0]) w := fun w => by kernel_rfl
  obtain ⟨zs, hzs⟩ : ∃ zs, (Builtin.zeroCells (Value.agg #[.int .i64 0, .int .i64 0]).cells (n + 1)).toList = zs := ⟨_, rfl⟩
  have hlen : zs.length = (n + 1) * 2 := by rw [← hzs]; simp [Builtin.zeroCells, Value.cells]
  have hone : ∀ v ∈ zs, v.oneCell' = true := by
    intro v hv
    rw [← hzs] at hv
    simp only [Builtin.zeroCells, Value.cells, Array.toList_map, List.mem_map] at hv
    obtain ⟨i, _, rfl⟩ := hv
    have h2 : i % (#[Value.int .i64 0, Value.int .i64 0] : Array Value).size < 2 := Nat.mod_lt _ (by decide)
    generalize i % (#[Value.int .i64 0, Value.int .i64 0] : Array Value).size = r at *
    match r, h2 with
    | 0, _ => rfl
    | 1, _ => rfl
  have hst := run_storeCells_at Try.prog g (k * 2) 66 zs 0 cur w hg (by rw [hlen]; omega) hone
  simp only [Nat.add_zero, hlen] at hst
  refine ⟨zs, hlen, ?_⟩
  simp [Builtin.clear_, run_underlying Try.underlying62, hz, hzs, hst, Result.andThen]

theorem set_take (cur : Array Value) (i : Nat) (a b : Value) (h : i * 2 + 2 ≤ cur.size) : ((cur.setIfInBounds (i * 2) a).setIfInBounds (i * 2 + 1) b).toList.take ((i + 1) * 2) = cur.toList.take (i * 2) ++ [a, b] := by
  apply List.ext_getElem?
  intro j
  rw [List.getElem?_take]
  have hl : (cur.toList.take (i * 2)).length = i * 2 := by rw [List.length_take, Array.length_toList]; omega
  by_cases h1 : j < i * 2
  · rw [if_pos (by omega), List.getElem?_append_left (by omega), List.getElem?_take, if_pos h1]
    simp only [Array.getElem?_toList, Array.getElem?_setIfInBounds]
    rw [if_neg (by omega), if_neg (by omega)]
  · rw [List.getElem?_append_right (by omega), hl]
    by_cases h2 : j = i * 2
    · subst h2
      rw [if_pos (by omega), Nat.sub_self]
      simp only [Array.getElem?_toList, Array.getElem?_setIfInBounds]
      rw [if_neg (by omega), if_pos trivial, if_pos (by omega)]
      rfl
    · by_cases h3 : j = i * 2 + 1
      · subst h3
        rw [if_pos (by omega), show i * 2 + 1 - i * 2 = 1 by omega]
        simp only [Array.getElem?_toList, Array.getElem?_setIfInBounds]
        rw [if_pos trivial, if_pos (by rw [Array.size_setIfInBounds]; omega)]
        rfl
      · rw [if_neg (by omega), List.getElem?_eq_none (by simp; omega)]
theorem set_later (cur : Array Value) (i j : Nat) (a b : Value) (h : i * 2 + 1 < j) : ((cur.setIfInBounds (i * 2) a).setIfInBounds (i * 2 + 1) b)[j]? = cur[j]? := by
  simp only [Array.getElem?_setIfInBounds]
  rw [if_neg (by omega), if_neg (by omega)]

/-- what holds in DeleteFunc's loop behind j spots -/
def DelI (w : World) (m g cap : Nat) (u : Int) (f : Value → Option Value) (S : List Spot) (i j : Nat) (W : World) : Prop :=
  i = (keepU u (S.take j)).length ∧ i < j ∧ (∃ cur, Blk W g cur 66 ∧ cur.size = cap * 2 ∧ cur.toList.take (i * 2) = sc (keepU u (S.take j)) ∧ ∀ x, j * 2 ≤ x → x < S.length * 2 → cur[x]? = (sc S)[x]?) ∧
    (∃ f', MapF Try.prog 66 W m f' ∧ Gone u (S.take j) f f') ∧ Fr (fun k => k = m ∨ k = g) w W

def DelPost (w : World) (m : Nat) (v : Value) (u : Int) (f : Value → Option Value) (S : List Spot) (e : Ending) (w' : World) : Prop :=
  ∃ v' f', e = .returned v' ∧ Ord w' v' (keepU u S) ∧ v'.ownBlock = v.ownBlock ∧ Fr (fun k => k = m ∨ v.ownBlock = some k) w w' ∧ MapF Try.prog 66 w' m f' ∧ Gone u S f f'
set_option maxHeartbeats 1000000 in
set_option maxRecDepth 20000 in
theorem deleteU_any (bu bc a m : Nat) (u : Int) (c0 c1 : Value) (f : Value → Option Value) (v : Value) (S : List Spot) (w : World) (ho : Ord w v S) (hok : ∀ s ∈ S, ok64 s.1 ∧ ok64 s.2)
    (h1 : Blk w bu #[.int .i64 u] 3) (h2 : Blk w bc #[.pointer (some ⟨a, 0, none⟩)] 25) (h3 : Blk w a #[c0, c1, .map (some m)] 64) (h4 : MapF Try.prog 66 w m f) :
    Calls Try.prog 29 #[v, .func (.func 30) #[] #[.pointer (some ⟨bu, 0, none⟩), .pointer (some ⟨bc, 0, none⟩)]] w (DelPost w m v u f S) := by
  have C := Lib.hid (indexU_any bu bc a m u c0 c1 f v S w ho hok h1 h2 h3 h4)
  go_enter Try.func29, Try.ntmps29
  go_wp2_with fail
  refine C.out.mono ?_
  rintro e w1 (⟨rfl, hall, hb1⟩ | ⟨p, s, hp, hpu, hbef, rfl, fr1, hm1⟩)
  · have Ha := Lib.hid hall
    clear hall
    go_wp2
    go_ret
    have hk : keepU u S = S := List.filter_eq_self.2 (fun s hs => decide_eq_true (Ha.out s hs))
    exact ⟨v, f, rfl, by rw [hk]; exact ho.below hb1, rfl, Fr.of_below hb1, h4.kept' (hb1.block m h4.lt), Gone.start Ha.out⟩
  · have hplt := (List.getElem?_eq_some_iff.1 hp).1
    rcases ho.2 with ⟨rfl, h0⟩ | ⟨g, cap, cur, rfl, _, hg, hn, hcm, hcs, htake⟩
    · omega
    have hI : (S.length : Int) ≤ 9223372036854775807 := by simp only [maxLen] at hcm; omega
    have hgm : g ≠ m := by
      rintro rfl
      obtain ⟨es, clock, h5, _⟩ := h4
      rw [hg] at h5
      cases h5
    have hgu : bu ≠ g := by
      rintro rfl
      unfold Blk at h1
      rw [hg] at h1
      injection h1 with h1
      injection h1 with _ h6
      exact absurd h6 (by decide)
    have hgc : bc ≠ g := by
      rintro rfl
      unfold Blk at h2
      rw [hg] at h2
      injection h2 with h2
      injection h2 with _ h6
      exact absurd h6 (by decide)
    have hga : a ≠ g := by
      rintro rfl
      unfold Blk at h3
      rw [hg] at h3
      injection h3 with h3
      injection h3 with _ h6
      exact absurd h6 (by decide)
    have hmu : bu ≠ m := h4.ne h1
    have hmc : bc ≠ m := h4.ne h2
    have hma : a ≠ m := h4.ne h3
    have hpre : ∀ x ∈ S.take p, x.1 ≠ u := fun x hx => by
      obtain ⟨j, hj⟩ := List.mem_iff_getElem?.1 hx
      have hjl := (List.getElem?_eq_some_iff.1 hj).1
      rw [List.length_take] at hjl
      rw [List.getElem?_take, if_pos (by omega)] at hj
      exact hbef j x (by omega) hj
    have hkp : keepU u (S.take p) = S.take p := List.filter_eq_self.2 (fun s hs => decide_eq_true (hpre s hs))
    have hI0 : Hid (DelI w m g cap u f S p (p + 1) w1) := by
      obtain ⟨f1, e1, e2, e3⟩ := (Gone.start (f := f) hpre).take hpu
      have hk1 : keepU u (S.take (p + 1)) = S.take p := by rw [keepU_take hp, if_pos hpu, hkp, List.append_nil]
      have hcat : ∀ x, x < S.length * 2 → cur[x]? = (sc S)[x]? := fun x hx => by rw [← htake, List.getElem?_take, if_pos hx]; simp
      refine ⟨by rw [hk1, List.length_take]; omega, by omega, ⟨cur, ?_, hcs, ?_, fun x _ hx => hcat x hx⟩, ⟨f1, hm1 f1 e1 e2, by rw [take_add hp]; exact e3⟩, ⟨fr1.os, fr1.tape, fr1.output, fr1.size, fun k hk hn => fr1.block k hk (fun h => hn (.inl h))⟩⟩
      · unfold Blk; rw [fr1.block g (Array.getElem?_eq_some_iff.1 hg).1 hgm]; exact hg
      · rw [hk1]
        apply List.ext_getElem?
        intro x
        rw [List.getElem?_take]
        have hsl : (sc (S.take p)).length = p * 2 := by rw [sc_len, List.length_take]; omega
        have hsp : sc S = sc (S.take p) ++ sc (S.drop p) := by rw [← sc_append, List.take_append_drop]
        by_cases hx : x < p * 2
        · rw [if_pos hx, Array.getElem?_toList, hcat x (by omega), hsp, List.getElem?_append_left (by omega)]
        · rw [if_neg hx, List.getElem?_eq_none (by omega)]
    have Hp := Lib.hid hp
    have HC := Lib.hid hcs
    have HT := Lib.hid htake
    have HG := Lib.hid hg
    have Hok := Lib.hid hok
    have Hpre := Lib.hid hpre
    have Hkp := Lib.hid hkp
    have K1 := Lib.hid h1
    have K2 := Lib.hid h2
    have K3 := Lib.hid h3
    have hpI : (p : Int) ≤ 9223372036854775806 := by omega
    have hp1 : ((p : Int) == -1) = false := by rw [beq_eq_false_iff_ne]; omega
    have Hpu := Lib.hid hpu
    clear hpu
    clear hp hcs htake hg hok hpre hkp hbef hm1 h1 h2 h3 h4 ho C
    go_wp2_with fail
    go_loopw [5, 6, 7] (fun i j _ wr => ∃ (ki kj : Nat), kj ≤ S.length ∧ i = .int .i64 ki ∧ j = .int .i64 kj ∧ Hid (DelI w m g cap u f S ki kj wr)) (fun _ j _ _ => (S.length - intOf j).toNat)
    case atStart => exact ⟨p, p + 1, by omega, rfl, rfl, hI0⟩
    case round =>
      obtain ⟨ki, kj, hkj, rfl, rfl, hD⟩ := hrel
      obtain ⟨e1, e2, ⟨cur2, e3, e4, e5, e6⟩, ⟨f2, e7, e8⟩, e9⟩ := hD.out
      have E1 := Lib.hid e1
      have E4 := Lib.hid e4
      have E5 := Lib.hid e5
      have E6 := Lib.hid e6
      clear hD e1 e4 e5 e6
      have b1 : Blk wr bu #[.int .i64 u] 3 := e9.blk K1.out (fun h => h.elim hmu hgu)
      have b2 : Blk wr bc #[.pointer (some ⟨a, 0, none⟩)] 25 := e9.blk K2.out (fun h => h.elim hmc hgc)
      have b3 : Blk wr a #[c0, c1, .map (some m)] 64 := e9.blk K3.out (fun h => h.elim hma hga)
      by_cases hlt : (kj : Int) < (S.length : Int)
      · obtain ⟨s2, hs⟩ : ∃ s, S[kj]? = some s := ⟨S[kj]'(by omega), List.getElem?_eq_getElem (by omega)⟩
        have hoks := Hok.out s2 (List.mem_of_getElem? hs)
        have d1 : wr.cell? ⟨g, kj * 2, none⟩ = some (.int .i64 s2.1) := e3.cell (by rw [E6.out _ (Nat.le_refl _) (by omega)]; exact sc_fst S kj s2 hs)
        have d2 : wr.cell? ⟨g, kj * 2 + 1, none⟩ = some (.int .i64 s2.2) := e3.cell (by rw [E6.out _ (by omega) (by omega)]; exact sc_snd S kj s2 hs)
        have hbx : Below wr.heap.size wr (wr.alloc (.cells #[.int .i64 s2.1, .int .i64 s2.2] 66)) := (Below.refl _ _).alloc (Nat.le_refl _) _
        have hbox := Blk.new wr (spotA s2) 66
        unfold spotA at hbox
        have Hs := Lib.hid hs
        have lg := e3.lt
        by_cases hu : s2.1 = u
        · have C := Lib.hid (drop1_yes bu bc a m u c0 c1 f2 s2 hoks hu (wr.alloc (.cells #[.int .i64 s2.1, .int .i64 s2.2] 66)) (b1.alloc _) (b2.alloc _) (b3.alloc _) (e7.alloc _))
          unfold spotV spotA at C
          have HU := Lib.hid hu
          have E7 := Lib.hid e7
          clear hs hu b1 b2 b3 hoks e7
          go_wp2_with fail
          refine C.out.mono ?_
          rintro e w2 ⟨rfl, fr2, hm2⟩
          have HM2 := Lib.hid hm2
          clear hm2
          go_wp2
          obtain ⟨f3, t1, t2, t3⟩ := e8.take HU.out
          have fr3 : Fr (fun k => k = m) wr w2 := (Fr.of_below hbx : Fr (fun k => k = m) _ _).trans fr2 (fun _ h => .inl h)
          have hk2 : keepU u (S.take (kj + 1)) = keepU u (S.take kj) := by rw [keepU_take Hs.out, if_pos HU.out, List.append_nil]
          refine ⟨⟨ki, kj + 1, by omega, rfl, rfl, ?_⟩, by simp only [intOf]; omega⟩
          refine ⟨by rw [hk2]; exact E1.out, by omega, ⟨cur2, fr3.blk e3 hgm, E4.out, by rw [hk2]; exact E5.out, fun x hx hx2 => E6.out x (by omega) hx2⟩, ⟨f3, HM2.out f3 t1 t2, by rw [take_add Hs.out]; exact t3⟩, e9.trans fr3 (fun _ h => .inl (.inl h))⟩
        · have C := Lib.hid (drop1_no bu bc u s2 hu (wr.alloc (.cells #[.int .i64 s2.1, .int .i64 s2.2] 66)) (b1.alloc _))
          unfold spotV spotA at C
          have HU := Lib.hid hu
          have E7 := Lib.hid e7
          clear hs hu b1 b2 b3 hoks e7
          go_wp2_with fail
          refine C.out.mono ?_
          rintro e w2 ⟨rfl, hb2⟩
          have bb := hbx.trans (hb2.mono hbx.size)
          have g3 := e3.below bb e3.lt
          have hbox2 := hbox.below hb2 hbox.lt
          have x1 := hbox2.cell (j := 0) rfl
          have x2 := hbox2.cell (j := 1) rfl
          have hki : ki < cap := by omega
          obtain ⟨o1, ho1⟩ : ∃ o, cur2[ki * 2]? = some o := ⟨cur2[ki * 2]'(by rw [E4.out]; omega), Array.getElem?_eq_getElem (by rw [E4.out]; omega)⟩
          obtain ⟨o2, ho2⟩ : ∃ o, cur2[ki * 2 + 1]? = some o := ⟨cur2[ki * 2 + 1]'(by rw [E4.out]; omega), Array.getElem?_eq_getElem (by rw [E4.out]; omega)⟩
          have x3 := g3.cell ho1
          have x4 := g3.cell ho2
          have x5 := g3.frozen (ki * 2)
          have x6 := g3.frozen (ki * 2 + 1)
          have hkiI : (ki : Int) ≤ 9223372036854775806 := by omega
          have hki2 : (ki : Int) < (S.length : Int) := by omega
          clear ho1 ho2
          go_wp2
          have hk2 : keepU u (S.take (kj + 1)) = keepU u (S.take kj) ++ [s2] := by rw [keepU_take Hs.out, if_neg HU.out]
          have g4 := (g3.set (ki * 2) (.int .i64 s2.1)).set (ki * 2 + 1) (.int .i64 s2.2)
          have fs1 := fr_set w2 ⟨g, ki * 2, none⟩ (.int .i64 s2.1)
          have fs2 := fr_set (w2.setCell ⟨g, ki * 2, none⟩ (.int .i64 s2.1)) ⟨g, ki * 2 + 1, none⟩ (.int .i64 s2.2)
          refine ⟨⟨ki + 1, kj + 1, by omega, rfl, rfl, ?_⟩, by simp only [intOf]; omega⟩
          refine ⟨by rw [hk2, List.length_append, E1.out]; rfl, by omega, ⟨_, g4, by rw [Array.size_setIfInBounds, Array.size_setIfInBounds]; exact E4.out, ?_, fun x hx hx2 => ?_⟩, ⟨f2, ?_, by rw [take_add Hs.out]; exact e8.skip HU.out⟩, ?_⟩
          · rw [set_take cur2 ki _ _ (by rw [E4.out]; omega), E5.out, hk2, sc_append]
            rfl
          · rw [set_later cur2 ki x _ _ (by omega)]
            exact E6.out x (by omega) hx2
          · exact ((E7.out.kept' (bb.block m E7.out.lt)).set _ (by exact hgm) _).set _ (by exact hgm) _
          · exact ((e9.trans (Fr.of_below bb : Fr (fun k => k = m ∨ k = g) wr w2) (fun _ h => .inl h)).trans fs1 (fun k hk => .inl (.inr hk))).trans fs2 (fun k hk => .inl (.inr hk))
      · obtain rfl : kj = S.length := by omega
        have hnecap : ¬ cap = ki := by omega
        have hle1 : (ki : Int) ≤ (S.length : Int) := by omega
        have hle2 : (ki : Int) ≤ (cap : Int) := by omega
        have hle3 : ki ≤ cap := by omega
        have hle4 : (S.length : Int) ≤ (cap : Int) := by omega
        have hcI : (cap : Int) ≤ 9223372036854775807 := by simp only [maxLen] at hcm; omega
        obtain ⟨r, hr⟩ : ∃ r, S.length - ki = r + 1 := ⟨S.length - ki - 1, by omega⟩
        have hclr : ∃ zs : List Value, zs.length = (S.length - ki) * 2 ∧ ∀ ty, (Builtin.clear_ #[62] ty #[.slice (some ⟨g, ki * 2, none⟩) (S.length - ki) (cap - ki)]).run Try.prog wr = .ok (.tuple #[]) (wr.setRow g (cur2.toList.take (ki * 2) ++ zs ++ cur2.toList.drop (ki * 2 + (S.length - ki) * 2)).toArray) := by
          rw [hr]
          obtain ⟨zs, z1, z2⟩ := run_clear_spots wr g ki r (cap - ki) cur2 0 e3 (by rw [E4.out]; omega)
          exact ⟨zs, z1, fun ty => z2⟩
        obtain ⟨zs, hz1, hz2⟩ := hclr
        have Hr := Lib.hid hr
        have Hz1 := Lib.hid hz1
        clear hr hz1
        generalize hc3 : (cur2.toList.take (ki * 2) ++ zs ++ cur2.toList.drop (ki * 2 + (S.length - ki) * 2)).toArray = cur3 at hz2
        have Hc3 := Lib.hid hc3
        clear hc3
        go_wp2
        go_ret
        have htl : S.take S.length = S := List.take_length
        rw [htl] at E1 E5 e8
        have e1 : cur3.toList.take (ki * 2) = sc (keepU u S) := by
          rw [← Hc3.out, ← E5.out]
          simp only [List.append_assoc]
          rw [List.take_append_of_le_length (by rw [List.length_take, Array.length_toList, E4.out]; omega), List.take_take, Nat.min_self]
        have hfin : Fr (fun k => k = g) wr (wr.setRow g cur3) := ⟨rfl, rfl, rfl, by rw [size_setRow]; exact Nat.le_refl _, fun k _ hk => Go.setRow_other wr g k cur3 hk⟩
        refine ⟨.slice (some ⟨g, 0, none⟩) ki cap, f2, rfl, ?_, rfl, ?_, hfin.map e7 (by exact Ne.symm hgm), e8⟩
        · unfold Ord
          rw [← E1.out]
          refine ⟨by rw [sc_len, ← E1.out], .inr ⟨g, cap, cur3, rfl, Nat.zero_le _, setRow_heap wr g cur2 cur3 66 _ e3, by omega, hcm, ?_, e1⟩⟩
          rw [← Hc3.out]
          simp only [List.size_toArray, List.length_append, List.length_take, List.length_drop, Array.length_toList, E4.out, Hz1.out]
          omega
        · have := e9.trans hfin (fun k hk => .inl (.inr hk))
          exact this.weak (fun k hk => hk.elim .inl (fun h => .inr (by rw [h]; rfl)))
end Go.Proofs.Ytheilnaommcjjaa
