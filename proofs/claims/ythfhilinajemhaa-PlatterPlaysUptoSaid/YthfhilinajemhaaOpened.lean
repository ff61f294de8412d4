/-
  The iterator over the open sectors; a nil disk has none.
-/
import Derived.Test.YthfhilinajemhaaKeys
import Derived.Test.YthfhilinajemhaaRanged
import Derived.Test.YthfhilinajemhaaAlive
import Derived.Shelf.RegionOpen
import Derived.OwnWalkIn
import Derived.TacticsInMore
import Derived.LoopNIn
import Derived.LoopIn
import Derived.WalkMore
import Derived.Sort.LoopGhostIn
namespace Go.Proofs.Ythfhilinajemhaa
open Go.RowKit Go.Shelf
attribute [local go_sem] Oper.semAt_some
set_option linter.unusedVariables false

/-- a list taken down: out of reach of the rounds -/
def Snap (G : Nat → Prop) (W : World) (A : Option Addr) (L : List Int) : Prop := ∀ i x, L[i]? = some x → ∃ g, A = some ⟨g, 0, none⟩ ∧ ¬ G g ∧ g < W.heap.size ∧ W.cell? ⟨g, i, none⟩ = some (.int .i64 x)
theorem Snap.fr {G G' : Nat → Prop} {W W' : World} {A : Option Addr} {L : List Int} (h : Snap G W A L) (hg : Grow G G' W W') : Snap G' W' A L := fun i l hi => by
  obtain ⟨g, h1, h2, h3, h4⟩ := h i l hi
  refine ⟨g, h1, fun hc => (hg.2 g hc).elim h2 (fun h => by omega), Nat.lt_of_lt_of_le h3 hg.1.size, ?_⟩
  rw [cell_same (hg.1.block g h3 h2)]
  exact h4
theorem Grow.below {G : Nat → Prop} {W W' : World} (h : Below W.heap.size W W') : Grow G G W W' := ⟨Fr.of_below h, fun _ hk => .inl hk⟩
theorem own_form {W : World} {S : Nat} {v : Value} {L : List Int} (h : W.ownsRow S 3 1 v L.length (L.map (Value.int .i64))) : ∃ A c, v = .slice A L.length c := by
  rcases h.2 with ⟨h1, h2⟩ | ⟨g, cap, cur, rfl, _⟩
  · exact ⟨none, 0, by rw [h1, h2]⟩
  · exact ⟨_, _, rfl⟩
theorem Snap.of_own {G : Nat → Prop} {S : Nat} {W : World} {A : Option Addr} {n c : Nat} {L : List Int} (h : W.ownsRow S 3 1 (.slice A n c) L.length (L.map (Value.int .i64))) (hG : ∀ k, G k → k < S) : Snap G W A L := fun i x hi => by
  rcases h.2 with ⟨h1, h2⟩ | ⟨g, cap, cur, h0, hb, hg, r1, r2, r3, r4⟩
  · have := (List.getElem?_eq_some_iff.1 hi).1
    omega
  · injection h0 with h0 _ _
    subst h0
    refine ⟨g, rfl, fun hc => by have := hG g hc; omega, (Array.getElem?_eq_some_iff.1 hg).1, ?_⟩
    have hadd : (⟨g, 0, none⟩ : Addr).add i = ⟨g, i, none⟩ := by unfold Addr.add; split <;> simp_all
    have := World.ownsRow.cells h (g := g) rfl i (.int .i64 x) (by rw [List.getElem?_map, hi]; rfl)
    rw [hadd] at this
    exact this
theorem open_any (p : Option Addr) (w : World) : Calls Try.prog 51 #[.pointer p] w fun e w' => e = .returned (.func (.func 58) #[] #[.pointer (some ⟨w.heap.size, 0, none⟩)]) ∧ w' = w.alloc (.cells #[.pointer p] 29) := by
  have hmf : ∀ (fn : Fn) (first cap : Array Value) (w : World), (Instr.makeFunc fn first cap).run Try.prog w = .ok (.func fn first cap) w := fun _ _ _ _ => rfl
  go_enter Try.func51, Try.ntmps51
  go_wp2
  go_ret
  exact ⟨rfl, rfl⟩
def encI (x : Int) : Array Value := #[.int .i64 x]
set_option maxHeartbeats 1000000 in
set_option maxRecDepth 20000 in
theorem nil_listed (n : Nat) (hn : 2 ≤ n) (Bc : Nat) (Kb : World → Prop) (hKb : ∀ W, Kb W → Blk W Bc #[.pointer none] 29) :
    Listed n Try.prog 58 #[.pointer (some ⟨Bc, 0, none⟩)] encI [] Kb := by
  intro l J Jx G W hJ hY h0 hG hK
  have hn1 : 1 ≤ n := by omega
  have hbc := (hKb W hK).cell (j := 0) rfl
  refine callsIn_of_wp Try.func58 rfl trivial ?_ rfl
  simp only [Try.ntmps58, List.size_toArray, List.length_cons, List.length_nil, Nat.reduceAdd, Nat.reduceSub, Array.replicate_succ, Array.replicate_zero, List.push_toArray, List.append_toArray, List.nil_append, List.cons_append]
  gi_wp2
  refine wpIn_wide.2 (wp_scope_straight (wpIn_wide (n := n).1 ?_))
  gi_wp2
  rw [Exit.noGoto_ret]
  exact bodyPost_ret (results_none rfl _ _ _) rfl ⟨⟨_, rfl⟩, .inl ⟨G, h0⟩⟩
theorem take_snoc {L : List Int} {k : Nat} {x : Int} (h : L[k]? = some x) : L.take (k + 1) = L.take k ++ [x] := by
  rw [List.take_add_one, h]; rfl
set_option maxHeartbeats 1000000 in
set_option maxRecDepth 20000 in
theorem open_listed (n : Nat) (hn : 2 ≤ n) (Bc p m g gc : Nat) (d : Dk) (Kb : World → Prop) (hKb : ∀ W, Kb W → Blk W Bc #[.pointer (some ⟨p, 0, none⟩)] 29 ∧ Disk W p m g gc d) :
    Listed n Try.prog 58 #[.pointer (some ⟨Bc, 0, none⟩)] encI (keysL d) Kb := by
  intro l J Jx G W hJ hY h0 hG hK
  have hn1 : 1 ≤ n := by omega
  obtain ⟨hbk, hdk⟩ := hKb W hK
  have hbc := hbk.cell (j := 0) (v := .pointer (some ⟨p, 0, none⟩)) rfl
  have y4 := pl4 hdk.p
  have hbz : Below W.heap.size W (W.alloc (.cells #[.map (some m)] 86)) := (Below.refl _ _).alloc (Nat.le_refl _) _
  have C1 := Lib.hid (keys_any (some m) W)
  have C2 := Lib.hid (sorted_any (hdk.below hbz).ok (hdk.below hbz).m (Blk.new W #[.map (some m)] 86))
  have hlen := keysL_len d
  have hn2 := hdk.ok.1.2
  have HBZ := Lib.hid hbz
  clear hbk hdk hbz
  obtain ⟨L, hLd⟩ : ∃ L, keysL d = L := ⟨_, rfl⟩
  rw [hLd] at hY hlen ⊢
  have HLd := Lib.hid hLd
  clear hLd
  refine callsIn_of_wp Try.func58 rfl trivial ?_ rfl
  simp only [Try.ntmps58, List.size_toArray, List.length_cons, List.length_nil, Nat.reduceAdd, Nat.reduceSub, Array.replicate_succ, Array.replicate_zero, List.push_toArray, List.append_toArray, List.nil_append, List.cons_append]
  gi_wp2
  refine wpIn_wide.2 (wp_scope_straight (wpIn_wide (n := n).1 ?_))
  gi_wp2
  refine wpIn_label ?_
  gi_wp2
  refine ⟨trivial, (callsIn_wide.2 C1.out).mono ?_⟩
  rintro e w1 ⟨rfl, rfl⟩
  clear C1
  gi_wp2
  refine ⟨trivial, (callsIn_wide.2 C2.out).mono ?_⟩
  rintro e w1 ⟨v, rfl, hrow, hb1⟩
  clear C2
  rw [HLd.out] at hrow
  obtain ⟨A, c, rfl⟩ := own_form hrow
  have hb01 : Below W.heap.size W w1 := HBZ.out.trans (hb1.mono (by simp))
  have hs1 := Lib.hid (Snap.of_own (G := G) hrow (fun k hk => by have := hG k hk; simp; omega))
  have hj1 := Lib.hid (hJ _ _ _ _ h0 hb01)
  clear hrow h0 hbc hb1 hb01 y4
  gi_wp2
  have hL8 : (L.length : Int) ≤ 2048 := by omega
  gi_loopw [4, 14] (fun _ i wr => ∃ (k : Nat) (G' : Nat → Prop), k ≤ L.length ∧ i = .int .i64 k ∧ Hid (J (L.take k) G' wr) ∧ Hid (Snap G' wr A L)) (fun _ i _ => (L.length - Lib.intOf i).toNat)
  case atStart => exact ⟨0, G, Nat.zero_le _, rfl, hj1, hs1⟩
  case round =>
    obtain ⟨k, G', hk, rfl, hJk, hS⟩ := hrel
    by_cases hlt : (k : Int) < (L.length : Int)
    · obtain ⟨x, hx⟩ : ∃ x, L[k]? = some x := ⟨L[k]'(by omega), List.getElem?_eq_getElem (by omega)⟩
      obtain ⟨g', rfl, hg1, hg2, hcl⟩ := hS.out k x hx
      have Hx := Lib.hid hx
      obtain ⟨fn, tmps, assign, body, hy, hR⟩ := hY (L.take k) x G' wr hJk.out (by rw [← take_snoc hx]; exact List.take_prefix _ _)
      rw [← take_snoc hx] at hR
      unfold encI at hy
      have HG1 := Lib.hid hg1
      clear hx hg1
      gi_wp2
      refine hR.mono ?_
      rintro e W' (⟨rfl, G2, hJ', hgr⟩ | ⟨rfl, hJx'⟩)
      · have hS7 := Lib.hid (hS.out.fr hgr)
        gi_wp2
        exact ⟨⟨k + 1, G2, by omega, by go_num, hJ', hS7⟩, by simp only [Lib.intOf]; omega⟩
      · gi_wp2
        rw [Exit.noGoto_normal]
        gi_wp2
        go_end0
        exact ⟨⟨_, rfl⟩, .inr ⟨_, List.take_prefix _ _, hJx'⟩⟩
    · obtain rfl : k = L.length := by omega
      gi_wp2
      go_end0
      have := hJk.out
      rw [List.take_length] at this
      exact ⟨⟨_, rfl⟩, .inl ⟨G', this⟩⟩
end Go.Proofs.Ythfhilinajemhaa
