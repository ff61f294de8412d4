/-
  The iterator of the dirty lines: it hands on the dirty ones of the lines that it has taken down ahead of the first round.
-/
import Derived.Test.YtheilnaommcjjaaRanged
import Derived.Test.YtheilnaommcjjaaNew
import Derived.Shelf.RegionOpen
import Derived.OwnWalkIn
import Derived.TacticsInMore
import Derived.LoopNIn
import Derived.LoopIn
import Derived.Deep.MidRow
import Derived.WalkMore
import Derived.Sort.LoopGhostIn
namespace Go.Proofs.Ytheilnaommcjjaa
open Go.RowKit Go.Shelf
attribute [local go_sem] Oper.semAt_some

section
variable {F : Fence} {n : Nat} {P : Program} {ops : Array Oper} {rest : List Oper} {o : Oper} {a : Act} {w : World} {Q : Exit → Act → World → Prop}
theorem loadIn (hgd : o.guard = none) (ty : TypeId) (x : Operand) (ho : o.op = .load ty x) (ad : Addr) (hx : a.eval x = .pointer (some ad)) (v : Value) (hl : (loadVar ty ad).run P w = .ok v w)
    (h : wpListIn F n P ops Q rest (a.put o.dst v) w) : wpListIn F n P ops Q (o :: rest) a w := by
  refine wpListIn_plain hgd fun K hK => ?_
  unfold Oper.wpIn
  refine ⟨?_, ?_⟩
  · simp [Oper.about, ho]
  · rw [Oper.semAt_plain F _ _ (by rw [ho]; intro c hc'; cases hc')]
    simp only [execOp, ho, hx, Instr.loadAt, Instr.sureAddr, Sem.run_bind, Sem.run_pure, Result.andThen_ok, hl]
    exact hK _ _ h
theorem storeIn (hgd : o.guard = none) (ty : TypeId) (x y : Operand) (ho : o.op = .store ty x y) (ad : Addr) (hx : a.eval x = .pointer (some ad)) (v : Value) (hy : a.eval y = v) (w' : World) (hl : (storeVar ty ad v).run P w = .ok () w')
    (h : wpListIn F n P ops Q rest (a.put o.dst undef) w') : wpListIn F n P ops Q (o :: rest) a w := by
  refine wpListIn_plain hgd fun K hK => ?_
  unfold Oper.wpIn
  refine ⟨?_, ?_⟩
  · simp [Oper.about, ho]
  · rw [Oper.semAt_plain F _ _ (by rw [ho]; intro c hc'; cases hc')]
    simp only [execOp, ho, hx, hy, Instr.storeAt, Instr.sureAddr, Sem.run_bind, Sem.run_pure, Result.andThen_ok, hl]
    exact hK _ _ h
end
theorem storeVar_ln (l l0 : Ln) (w : World) (B : Nat) (h : Blk w B (lnA l0) 33) : (storeVar 33 ⟨B, 0, none⟩ (.agg (lnA l))).run Try.prog w = .ok () (w.setRow B (lnA l)) :=
  run_storeVar_row w B 33 33 (lnA l0) (lnA l) h (lnA_info l) (by rw [lnA_size, lnA_size]) (lnA_all l)
theorem loadVar_mid (l : Ln) (w : World) (g o : Nat) (h : ∀ j, j < 131 → w.cell? ⟨g, o + j, none⟩ = some (lnE l j)) : (loadVar 33 ⟨g, o, none⟩).run Try.prog w = .ok (.agg (lnA l)) w := by
  have := run_loadVar_mid (P := Try.prog) w g o 33 (lnA l).toList (.struct (Try.prog.fieldsOf 33)) (fun j v hv => by
    have hj : j < 131 := by
      have := (List.getElem?_eq_some_iff.1 hv).1
      rw [Array.length_toList, lnA_size] at this
      exact this
    rw [h j hj]
    rw [Array.getElem?_toList, lnA_at l j hj] at hv
    exact hv) (by kernel_rfl) rfl (by rw [Array.length_toList]; exact lnA_info l)
  exact this

/-- the lines taken down: out of reach of the rounds -/
def Snap (G : Nat → Prop) (W : World) (A : Option Addr) (L : List Ln) : Prop := ∀ i l, L[i]? = some l → ∃ g, A = some ⟨g, 0, none⟩ ∧ ¬ G g ∧ g < W.heap.size ∧ ∀ j, j < 131 → W.cell? ⟨g, i * 131 + j, none⟩ = some (lnE l j)
theorem Snap.fr {G G' : Nat → Prop} {W W' : World} {A : Option Addr} {L : List Ln} (h : Snap G W A L) (hg : Grow G G' W W') : Snap G' W' A L := fun i l hi => by
  obtain ⟨g, h1, h2, h3, h4⟩ := h i l hi
  refine ⟨g, h1, fun hc => (hg.2 g hc).elim h2 (fun h => by omega), Nat.lt_of_lt_of_le h3 hg.1.size, fun j hj => ?_⟩
  rw [World.cell?_of_block (w := W) (w' := W') (a := ⟨g, i * 131 + j, none⟩) (hg.1.block g h3 h2)]
  exact h4 j hj
theorem Grow.below {G : Nat → Prop} {W W' : World} (h : Below W.heap.size W W') : Grow G G W W' := ⟨Fr.of_below h, fun _ hk => .inl hk⟩
theorem Snap.of_lns {G : Nat → Prop} {S : Nat} {W : World} {A : Option Addr} {n c : Nat} {L : List Ln} (h : Lns W S (.slice A n c) L) (hG : ∀ k, G k → k < S) : Snap G W A L := fun i l hi => by
  rcases h.2 with ⟨h1, h2⟩ | ⟨g, cap, cur, h1, hb, hg, _⟩
  · have := (List.getElem?_eq_some_iff.1 hi).1
    omega
  · injection h1 with h1
    subst h1
    refine ⟨g, rfl, fun hc => by have := hG g hc; omega, (Array.getElem?_eq_some_iff.1 hg).1, fun j hj => ?_⟩
    have hadd : (⟨g, 0, none⟩ : Addr).add (i * 131 + j) = ⟨g, i * 131 + j, none⟩ := by unfold Addr.add; split <;> simp_all
    have := World.ownsRow.cells h (g := g) rfl (i * 131 + j) _ (lr_at L i j l hi hj)
    rw [hadd] at this
    exact this

def dirtyOf (L : List Ln) : List Ln := L.filter Ln.d
theorem dirtyOf_take {L : List Ln} {k : Nat} {l : Ln} (h : L[k]? = some l) : dirtyOf (L.take (k + 1)) = dirtyOf (L.take k) ++ (if l.d = true then [l] else []) := by
  unfold dirtyOf
  rw [List.take_add_one, h, Option.toList_some, List.filter_append]
  by_cases hx : l.d = true
  · rw [if_pos hx]; simp [hx]
  · rw [if_neg hx]; simp [hx]
theorem dirtyOf_pre (L : List Ln) (k : Nat) : dirtyOf (L.take k) <+: dirtyOf L := by
  unfold dirtyOf
  exact (List.take_prefix k L).filter _

set_option maxHeartbeats 1000000 in
set_option maxRecDepth 20000 in
theorem dirty_listed (n : Nat) (hn : 2 ≤ n) (Bc : Nat) (p : Option Addr) (L : List Ln) (hL : L.length ≤ 100) (Kb : World → Prop) (hKb : ∀ W, Kb W → Blk W Bc #[.pointer p] 25)
    (hlines : ∀ W, Kb W → Calls Try.prog 12 #[.pointer p] W fun e w' => ∃ A c, e = .returned (.slice A L.length c) ∧ Lns w' W.heap.size (.slice A L.length c) L ∧ Below W.heap.size W w') :
    Listed n Try.prog 37 #[.pointer (some ⟨Bc, 0, none⟩)] (fun l : Ln => #[.agg (lnA l)]) (dirtyOf L) Kb := by
  intro l J Jx G W hJ hY h0 hG hK
  have hn1 : 1 ≤ n := by omega
  have hbc := (hKb W hK).cell (j := 0) rfl
  have hCl := Lib.hid (hlines W hK)
  clear hlines
  refine callsIn_of_wp Try.func37 rfl trivial ?_ rfl
  simp only [Try.ntmps37, List.size_toArray, List.length_cons, List.length_nil, Nat.reduceAdd, Nat.reduceSub, Array.replicate_succ, Array.replicate_zero, List.push_toArray, List.append_toArray, List.nil_append, List.cons_append]
  gi_wp2
  refine wpIn_wide.2 (wp_scope_straight (wpIn_wide (n := n).1 ?_))
  refine wpIn_seq_k fun K hK' => wpIn_label ?_
  refine hK' _ _ ?_
  clear hK' K
  gi_wp2
  refine ⟨trivial, (callsIn_wide.2 hCl.out).mono ?_⟩
  rintro e w1 ⟨A, c, rfl, hln, hb1⟩
  have hs1 := Snap.of_lns hln hG
  have hj1 := hJ _ _ _ _ h0 hb1
  clear hln h0 hCl hbc
  gi_wp2
  have hL8 : (L.length : Int) ≤ 100 := by omega
  gi_loopw [4, 8, 12, 16] (fun _ i _ _ wr => ∃ (k : Nat) (G' : Nat → Prop), k ≤ L.length ∧ i = .int .i64 k ∧ Hid (J (dirtyOf (L.take k)) G' wr) ∧ Hid (Snap G' wr A L)) (fun _ i _ _ _ => (L.length - intOf i).toNat)
  case atStart => exact ⟨0, G, Nat.zero_le _, rfl, hj1, hs1⟩
  case round =>
    obtain ⟨k, G', hk, rfl, hJk, hS⟩ := hrel
    by_cases hlt : (k : Int) < (L.length : Int)
    · obtain ⟨x, hx⟩ : ∃ x, L[k]? = some x := ⟨L[k]'(by omega), List.getElem?_eq_getElem (by omega)⟩
      obtain ⟨g, rfl, hg1, hg2, hcl⟩ := hS.out k x hx
      have Hx := Lib.hid hx
      have Hl := Lib.hid (loadVar_mid x wr g (k * 131) hcl)
      have HG := Lib.hid hg1
      clear hx hcl hg1
      have hz := lnA_zero
      have hfs := lnA_size
      have hbx : Below wr.heap.size wr ((wr.alloc (.cells (lnA zeroLn) 33)).setRow wr.heap.size (lnA x)) := below_setRow ((Below.refl _ _).alloc (Nat.le_refl _) _) (Nat.le_refl _) _
      have hJ6 := Lib.hid (hJ _ _ _ _ hJk.out hbx)
      have hS6 := Lib.hid (hS.out.fr (Grow.below (G := G') hbx))
      have hB6 : Blk ((wr.alloc (.cells (lnA zeroLn) 33)).setRow wr.heap.size (lnA x)) wr.heap.size (lnA x) 33 := Blk.setRow (Blk.new _ _ _) _
      have hc6 : ((wr.alloc (.cells (lnA zeroLn) 33)).setRow wr.heap.size (lnA x)).cell? ⟨wr.heap.size, 130, none⟩ = some (.bool x.d) := by
        rw [hB6.cell (lnA_at x 130 (by omega))]; rfl
      have Hst := Lib.hid (storeVar_ln x zeroLn (wr.alloc (.cells (lnA zeroLn) 33)) wr.heap.size (Blk.new _ _ _))
      clear hbx hS hJk hs1 hj1
      generalize hW6 : (wr.alloc (.cells (lnA zeroLn) 33)).setRow wr.heap.size (lnA x) = w6 at *
      clear hW6
      cases hd : x.d
      · rw [hd] at hc6
        have HD := Lib.hid hd
        clear hd
        gi_wp2_with (first | (refine loadIn rfl _ _ rfl ⟨g, k * 131, none⟩ rfl _ Hl.out ?_) | (refine storeIn rfl 33 _ _ rfl ⟨wr.heap.size, 0, none⟩ rfl (.agg (lnA x)) rfl w6 Hst.out ?_) | fail)
        refine ⟨⟨k + 1, G', by omega, rfl, ?_, hS6⟩, by simp only [intOf]; omega⟩
        unfold Hid
        rw [dirtyOf_take Hx.out, HD.out]
        simpa using hJ6.out
      · rw [hd] at hc6
        have HD := Lib.hid hd
        clear hd
        have hp6 : dirtyOf (L.take k) ++ [x] = dirtyOf (L.take (k + 1)) := by rw [dirtyOf_take Hx.out, if_pos HD.out]
        obtain ⟨fn, tmps, assign, body, hy, hR⟩ := hY (dirtyOf (L.take k)) x G' w6 hJ6.out (by rw [hp6]; exact dirtyOf_pre L (k + 1))
        rw [hp6] at hR
        clear hp6
        gi_wp2_with (first | (refine loadIn rfl _ _ rfl ⟨g, k * 131, none⟩ rfl _ Hl.out ?_) | (refine loadIn rfl _ _ rfl ⟨wr.heap.size, 0, none⟩ rfl _ (load_ln x w6 _ hB6) ?_) | (refine storeIn rfl 33 _ _ rfl ⟨wr.heap.size, 0, none⟩ rfl (.agg (lnA x)) rfl w6 Hst.out ?_) | fail)
        refine hR.mono ?_
        rintro e W' (⟨rfl, G2, hJ', hgr⟩ | ⟨rfl, hJx'⟩)
        · have hS7 := hS6.out.fr hgr
          gi_wp2
          exact ⟨⟨k + 1, G2, by omega, rfl, hJ', hS7⟩, by simp only [intOf]; omega⟩
        · gi_wp2
          rw [Exit.noGoto_normal]
          gi_wp2
          go_end0
          exact ⟨⟨_, rfl⟩, .inr ⟨_, dirtyOf_pre L (k + 1), hJx'⟩⟩
    · obtain rfl : k = L.length := by omega
      gi_wp2
      go_end0
      have := hJk.out
      rw [List.take_length] at this
      exact ⟨⟨_, rfl⟩, .inl ⟨G', this⟩⟩
end Go.Proofs.Ytheilnaommcjjaa
