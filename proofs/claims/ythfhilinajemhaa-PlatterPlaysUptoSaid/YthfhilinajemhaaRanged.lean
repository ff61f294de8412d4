/-
  A loop over an iterator that hands on the members of a list, taken down ahead of the first round: a law for the walk. No function of the program.
  'I pre G W': what holds behind the rounds 'pre'; G: the blocks that the body writes. 'Ix c pre W': what holds when a round has been left by the jump c.
-/
import Derived.RangeFuncNested
import Derived.RangeFuncBound
import Derived.RangeFuncCalls
import Derived.RangeFuncLeaves
import Derived.Test.YthfhilinajemhaaRaise
namespace Go.Proofs.Ythfhilinajemhaa
open Go.RowKit

/-- A step that writes in G and in new blocks alone. -/
def Grow (G G' : Nat → Prop) (W W' : World) : Prop := Fr G W W' ∧ ∀ k, G' k → G k ∨ W.heap.size ≤ k

theorem Grow.trans {A B C : Nat → Prop} {a b c : World} (h : Grow A B a b) (k : Grow B C b c) : Grow A C a c :=
  ⟨h.1.trans k.1 h.2, fun i hi => (k.2 i hi).elim (h.2 i) (fun hg => .inr (Nat.le_trans h.1.size hg))⟩

/-- What the iterator is to do, at whatever rounds. -/
def Listed {α : Type} (n : Nat) (P : Program) (g : Nat) (lb : Array Value) (encs : α → Array Value) (xs : List α) (Kb : World → Prop) : Prop :=
  ∀ (l : Nat) (J : List α → (Nat → Prop) → World → Prop) (Jx : List α → World → Prop) (G : Nat → Prop) (W : World),
    (∀ pre G W W', J pre G W → Below W.heap.size W W' → J pre G W') →
    (∀ pre x G W, J pre G W → (pre ++ [x]) <+: xs → YieldAt Fence.wide (n - 1) P l (encs x) W fun e W' => (e = .returned (.bool true) ∧ ∃ G', J (pre ++ [x]) G' W' ∧ Grow G G' W W') ∨ (e = .returned (.bool false) ∧ Jx (pre ++ [x]) W')) →
    J [] G W → (∀ k, G k → k < W.heap.size) → Kb W →
    CallsIn Fence.wide n P g (#[.func (.yield l) #[] #[]] ++ lb) W fun e W' => (∃ v, e = .returned v) ∧ ((∃ G', J xs G' W') ∨ ∃ pre, pre <+: xs ∧ Jx pre W')


/-- How a round's body may be left. S: the heap's size as the round began: what lies beyond is the round's own. -/
def listPost {α : Type} (G : Nat → Prop) (S : Nat) (I : List α → (Nat → Prop) → World → Prop) (Ix : Code → List α → World → Prop) (xs : List α) (l D : Nat) (W : World) : Exit → Act → World → Prop
  | .normal, _, W' => ∃ G', I xs G' W' ∧ Fr (fun k => G k ∨ S ≤ k) W W' ∧ ∀ k, G' k → G k ∨ S ≤ k
  | .ret, _, W' => Ix .ret xs W' ∧ W'.heap[l]? = W.heap[l]? ∧ W'.heap[D]? = W.heap[D]?
  | .exit id, _, W' => Ix (.exit id) xs W' ∧ W'.heap[l]? = W.heap[l]? ∧ W'.heap[D]? = W.heap[D]?
  | _, _, _ => False

theorem range_listed {P : Program} {α : Type} {n : Nat} {g : Operand} {ps : Array Tmp} {assign body : Code} {Q : Exit → Act → World → Prop} {a : Act} {w : World} {gf : Nat} {lb : Array Value}
    (hg : a.eval g = .func (.func gf) #[] lb) (eg : ∀ args w, (callFunc gf args).run P w = .ok (.enter gf args) w)
    {encs : α → Array Value} (hps : ∀ x, (encs x).size = ps.size) {xs : List α} {Kb : World → Prop} (hit : Listed (n - 1) P gf lb encs xs Kb)
    (hKb : ∀ o o', Kb ((w.alloc o).alloc o'))
    (I : List α → (Nat → Prop) → World → Prop) (Ix : Code → List α → World → Prop) (G0 : Nat → Prop)
    (hG0 : ∀ k, G0 k → k < w.heap.size)
    (hIb : ∀ pre G W W', I pre G W → Below W.heap.size W W' → I pre G W')
    (hI : ∀ pre G W l o', I pre G W → w.heap.size ≤ l → ¬ G l → I pre G (W.putObj l o')) (hIx : ∀ c pre W l o', Ix c pre W → (l = w.heap.size ∨ l = w.heap.size + 1) → Ix c pre (W.putObj l o'))
    (h0 : ∀ o o', I [] G0 ((w.alloc o).alloc o'))
    (hround : ∀ (pre : List α) (x : α) (G : Nat → Prop) (W : World), I pre G W → (pre ++ [x]) <+: xs → w.heap.size + 1 < W.heap.size → ¬ G w.heap.size → ¬ G (w.heap.size + 1) →
      ∀ K : Act → World → Prop,
      (∀ a₁ W1, Below W.heap.size W W1 → (∀ W2, (∃ o, W2 = W1.putObj (w.heap.size + 1) o) → I pre G W2 → body.wpIn (Fence.wide.inRound (w.heap.size + 1)) (n - 1 - 1) P (listPost G W.heap.size I Ix (pre ++ [x]) (w.heap.size + 1) w.heap.size W2) a₁ W2) → K a₁ W1) →
      assign.wpIn (Fence.wide.inRound (w.heap.size + 1)) (n - 1 - 1) P (Exit.then K (fun _ _ _ => False)) { tmps := (ps.zip (encs x)).foldl (fun t (p, v) => t.setIfInBounds p v) a.tmps, defers := [] } W)
    (hdone : ∀ (G : Nat → Prop) (W : World), I xs G W → ¬ G w.heap.size → W.heap[w.heap.size]? = some (.deferred (some [])) → Q .normal { a with defers := { target := .collected w.heap.size, args := #[] } :: a.defers } W)
    (hstop : ∀ (c : Code) (pre : List α) (W : World), pre <+: xs → Ix c pre W → W.heap[w.heap.size]? = some (.deferred (some [])) → c.wpIn Fence.wide n P Q { a with defers := { target := .collected w.heap.size, args := #[] } :: a.defers } W) :
    (Code.rangeFunc g ps assign body).wpIn Fence.wide n P Q a w := by
  refine wpIn_rangeFunc fun fn hfn => ?_
  obtain ⟨rec, hrec⟩ : ∃ rec : LoopState → Option Code → Loop, rec = fun st pe => { state := st, pending := pe, fn, tmps := a.tmps, params := ps, assign, body, defers := w.heap.size } := ⟨_, rfl⟩
  obtain ⟨L, hL⟩ : ∃ L, L = w.heap.size + 1 := ⟨_, rfl⟩
  obtain ⟨D, hD⟩ : ∃ D, D = w.heap.size := ⟨_, rfl⟩
  rw [← hL, ← hD] at hround
  rw [← hD] at hdone hstop
  let W1 := (w.alloc (.deferred (some []))).alloc (.loop (rec .ready none))
  have hD1 : W1.heap[D]? = some (.deferred (some [])) := by rw [hD]; exact (Below.heap_alloc _ _ _ (by simp)).trans (heap_alloc_new w _)
  have hL1 : W1.heap[L]? = some (.loop (rec .ready none)) := by rw [hL]; exact heap_alloc2_new w _ _
  refine ⟨L, [{ target := .collected D, args := #[] }], W1, { target := .fn (.func gf) lb, args := #[.func (.yield L) #[] #[]] }, W1, gf, #[.func (.yield L) #[] #[]] ++ lb, W1, ?_, ?_, fun _ _ => trivial, ?_, (fun h => by cases h), ?_⟩
  · have := run_enterLoop_outer (P := P) (w := w) fn a.tmps ps assign body
    rw [show Fence.wide.round = none from rfl, this, hL, hD]
    simp only [W1, hrec]
  · simp only [resolve, hg]; simp [go_sem]
  · simp [invoke, go_sem, eg]
  have at_ : ∀ {W : World} {k : Nat} {o : Obj} (o' : Obj), W.heap[k]? = some o → (W.putObj k o').heap[k]? = some o' := fun o' h => World.putObj_heap_same (Array.getElem?_eq_some_iff.1 h).1
  have off : ∀ {W : World} {k j : Nat} (o' : Obj), j ≠ k → (W.putObj k o').heap[j]? = W.heap[j]? := fun o' h => World.putObj_heap_other h
  have hDL : D ≠ L := by omega
  have hwL : w.heap.size ≤ L := by omega
  have hLk : L < W1.heap.size := (Array.getElem?_eq_some_iff.1 hL1).1
  -- the blocks written by the body, and the record
  have putFr : ∀ (W : World) (o : Obj), Fr (fun k => k = L) W (W.putObj L o) := fun W o => ⟨rfl, rfl, rfl, by simp, fun k _ hk => World.putObj_heap_other hk⟩
  refine (hit L
    (fun pre F W => ∃ G, (∀ k, F k ↔ G k ∨ k = L) ∧ ¬ G L ∧ ¬ G D ∧ I pre G W ∧ W.heap[L]? = some (.loop (rec .ready none)) ∧ W.heap[D]? = some (.deferred (some [])))
    (fun pre W => ∃ c, Ix c pre W ∧ W.heap[L]? = some (.loop (rec .done (some c))) ∧ W.heap[D]? = some (.deferred (some []))) (fun k => G0 k ∨ k = L) W1 ?_ ?_
    ⟨G0, fun _ => Iff.rfl, fun h => by have := hG0 _ h; omega, fun h => by have := hG0 _ h; omega, h0 _ _, hL1, hD1⟩ (fun k hk => hk.elim (fun h => by have := hG0 k h; omega) (fun h => by omega)) (hKb _ _)).mono ?_
  · -- memory grows
    rintro pre F W W' ⟨G, hF, g1, g2, hi, hl, hd⟩ hb
    exact ⟨G, hF, g1, g2, hIb _ _ _ _ hi hb, (hb.block _ (Array.getElem?_eq_some_iff.1 hl).1).trans hl, (hb.block _ (Array.getElem?_eq_some_iff.1 hd).1).trans hd⟩
  · -- one round
    rintro pre x F W ⟨G, hF, g1, g2, hi, hl, hd⟩ hpr
    have hy := run_yield (P := P) (args := encs x) hl (by rw [hrec]; exact hps x)
    rw [hrec] at hy
    refine ⟨fn, _, assign, body, hy, roundIn_of_wpIn hfn (hround pre x G W hi hpr (Array.getElem?_eq_some_iff.1 hl).1 g2 g1 _ (fun a₁ Wa hba hbody => ?_))⟩
    have hla : Wa.heap[L]? = some (.loop (rec .ready none)) := (hba.block _ (Array.getElem?_eq_some_iff.1 hl).1).trans hl
    have hda : Wa.heap[D]? = some (.deferred (some [])) := (hba.block _ (Array.getElem?_eq_some_iff.1 hd).1).trans hd
    refine ⟨_, run_beginRound hla (by rw [hrec]), ?_⟩
    have hib := hI _ _ _ L (.loop { rec .ready none with state := .busy }) (hIb _ _ _ _ hi hba) hwL g1
    have hbusy : (Wa.putObj L (.loop { rec .ready none with state := .busy })).heap[L]? = some (.loop { rec .ready none with state := .busy }) := at_ _ hla
    have hd2 : (Wa.putObj L (.loop { rec .ready none with state := .busy })).heap[D]? = some (.deferred (some [])) := (off _ hDL).trans hda
    have fr0 : Fr (fun k => G k ∨ k = L) W (Wa.putObj L (.loop { rec .ready none with state := .busy })) :=
      (Fr.of_below hba : Fr (fun k => G k ∨ k = L) W Wa).trans (putFr Wa _) (fun i h => .inl (.inr h))
    generalize hW2 : Wa.putObj L (.loop { rec .ready none with state := .busy }) = W2 at *
    have ends : ∀ (jump : Option Code) (W3 : World), W3.heap[L]? = W2.heap[L]? → W3.heap[D]? = W2.heap[D]? →
        (Instr.endRound L jump).run P W3 = .ok (.bool jump.isNone) (W3.putObj L (.loop (rec (if jump.isNone then .ready else .done) jump))) ∧
        (W3.putObj L (.loop (rec (if jump.isNone then .ready else .done) jump))).heap[L]? = some (.loop (rec (if jump.isNone then .ready else .done) jump)) ∧
        (W3.putObj L (.loop (rec (if jump.isNone then .ready else .done) jump))).heap[D]? = some (.deferred (some [])) := fun jump W3 hk hk2 => by
      have hl3 := hk.trans hbusy
      have := run_endRound (P := P) jump hl3
      rw [hrec] at this ⊢
      exact ⟨this, at_ _ hl3, (off _ hDL).trans (hk2.trans hd2)⟩
    refine wpIn_mono (hbody W2 ⟨_, hW2.symm⟩ hib) ?_
    rintro e a3 W3 hp
    cases e with
    | normal =>
      obtain ⟨G', hi3, hgr, hG'⟩ := hp
      have hLW : L < W.heap.size := (Array.getElem?_eq_some_iff.1 hl).1
      have hDW : D < W.heap.size := (Array.getElem?_eq_some_iff.1 hd).1
      have hLW2 : L < W2.heap.size := (Array.getElem?_eq_some_iff.1 hbusy).1
      have hDW2 : D < W2.heap.size := (Array.getElem?_eq_some_iff.1 hd2).1
      have g1' : ¬ G' L := fun h => (hG' _ h).elim g1 (fun h => by omega)
      have g2' : ¬ G' D := fun h => (hG' _ h).elim g2 (fun h => by omega)
      obtain ⟨hr, h4, h5⟩ := ends none W3 (hgr.block _ hLW2 (fun h => h.elim g1 (fun h => by omega))) (hgr.block _ hDW2 (fun h => h.elim g2 (fun h => by omega)))
      refine ⟨_, _, hr, .inl ⟨rfl, fun k => G' k ∨ k = L, ⟨G', fun _ => Iff.rfl, g1', g2', hI _ _ _ _ _ hi3 hwL g1', h4, h5⟩, ?_, ?_⟩⟩
      · have t1 := (fr0.trans hgr (fun i h => h.elim (fun h => .inl (.inl h)) .inr)).trans (putFr W3 (.loop (rec .ready none))) (fun i h => .inl (.inr h))
        exact ⟨t1.os, t1.tape, t1.output, t1.size, fun k hk hn => t1.block k hk (fun h => hn ((hF k).2 h))⟩
      · intro k hk
        rcases hk with hk | hk
        · rcases hG' k hk with h | h
          · exact .inl ((hF k).2 (.inl h))
          · exact .inr h
        · exact .inl ((hF k).2 (.inr hk))
    | ret =>
      obtain ⟨hi3, e1, e2⟩ := hp
      obtain ⟨hr, h4, h5⟩ := ends (some .ret) W3 e1 e2
      exact ⟨_, _, hr, .inr ⟨rfl, .ret, hIx _ _ _ _ _ hi3 (.inr hL), h4, h5⟩⟩
    | exit id =>
      obtain ⟨hi3, e1, e2⟩ := hp
      obtain ⟨hr, h4, h5⟩ := ends (some (.exit id)) W3 e1 e2
      exact ⟨_, _, hr, .inr ⟨rfl, .exit id, hIx _ _ _ _ _ hi3 (.inr hL), h4, h5⟩⟩
    | goto t => exact hp.elim
    | panic ch => exact hp.elim
    | outgrown => exact hp.elim
  · -- behind the iterator
    rintro e W2 ⟨⟨v, rfl⟩, ⟨F, G, hF, g1, g2, hi, hl, hd⟩ | ⟨pre, hSp, c, hi, hl, hd⟩⟩
    · have := run_endLoop (P := P) hl (by rw [hrec]; simp)
      rw [hrec] at this
      exact ⟨none, _, this, hdone G _ (hI _ _ _ _ _ hi hwL g1) g2 ((off _ hDL).trans hd)⟩
    · have := run_endLoop (P := P) hl (by rw [hrec]; simp)
      rw [hrec] at this
      exact ⟨some c, _, this, hstop c pre _ hSp (hIx _ _ _ _ _ hi (.inr hL)) ((off _ hDL).trans hd)⟩
end Go.Proofs.Ythfhilinajemhaa
