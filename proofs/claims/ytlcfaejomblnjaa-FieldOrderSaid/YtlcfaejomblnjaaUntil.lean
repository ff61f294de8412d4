/-
  A loop over an iterator that never ends by itself ('for p := range powers'), left by its own body: a law for the walk. No function of the program.
  'I pre W': what holds behind the rounds 'pre'; it bounds their number. 'Ix c pre W': what holds when a round has been left by the jump c. 'Pr pre x': what the iterator says of x, handed on behind 'pre'.
-/
import Derived.RangeFuncNested
import Derived.RangeFuncBound
import Derived.RangeFuncCalls
import Derived.RangeFuncLeaves
import Derived.Test.YtlcfaejomblnjaaCells
namespace Go.Proofs.Ytlcfaejomblnjaa
open Go.RowKit

/-- What the iterator is to do, at whatever rounds: it is told that the rounds are bounded, and that what it reads itself ('Kb') is there in each of them. -/
def Endless {α : Type} (n : Nat) (P : Program) (g : Nat) (lb : Array Value) (encs : α → Array Value) (Sp : List α → Prop) (Kb : World → Prop) (Pr : List α → α → Prop) : Prop :=
  ∀ (l N : Nat) (J Jx : List α → World → Prop) (W : World),
    (∀ pre W1, J pre W1 → pre.length < N ∧ Kb W1) →
    (∀ pre x W1, J pre W1 → Pr pre x → YieldAt Fence.wide (n - 1) P l (encs x) W1 fun e W' => (e = .returned (.bool true) ∧ J (pre ++ [x]) W') ∨ (e = .returned (.bool false) ∧ Jx (pre ++ [x]) W')) →
    J [] W →
    CallsIn Fence.wide n P g (#[.func (.yield l) #[] #[]] ++ lb) W fun e W' => (∃ v, e = .returned v) ∧ ∃ pre, Sp pre ∧ Jx pre W'

/-- How a round's body may be left. -/
def untilPost {α : Type} (B : Nat) (I : List α → World → Prop) (Ix : Code → List α → World → Prop) (xs : List α) (W : World) : Exit → Act → World → Prop
  | .normal, _, W' => KeepsFrom B W W' ∧ I xs W'
  | .ret, _, W' => KeepsFrom B W W' ∧ Ix .ret xs W'
  | .exit id, _, W' => KeepsFrom B W W' ∧ Ix (.exit id) xs W'
  | _, _, _ => False

theorem range_until {P : Program} {α : Type} {n : Nat} {g : Operand} {ps : Array Tmp} {assign body : Code} {Q : Exit → Act → World → Prop} {a : Act} {w : World} {gf : Nat} {lb : Array Value}
    (hg : a.eval g = .func (.func gf) #[] lb) (eg : ∀ args w, (callFunc gf args).run P w = .ok (.enter gf args) w)
    {encs : α → Array Value} (hps : ∀ x, (encs x).size = ps.size) {Sp : List α → Prop} {Kb : World → Prop} {Pr : List α → α → Prop} (hit : Endless (n - 1) P gf lb encs Sp Kb Pr)
    (N : Nat) (I : List α → World → Prop) (Ix : Code → List α → World → Prop)
    (hN : ∀ pre W, I pre W → pre.length < N ∧ Kb W)
    (hI : ∀ pre W l o', I pre W → w.heap.size ≤ l → I pre (W.putObj l o')) (hIx : ∀ c pre W l o', Ix c pre W → w.heap.size ≤ l → Ix c pre (W.putObj l o'))
    (h0 : ∀ o o', I [] ((w.alloc o).alloc o')) (a₁ : α → Act)
    (hassign : ∀ (l : Nat) (x : α) (W : World) (K : Act → World → Prop), K (a₁ x) W →
      assign.wpIn (Fence.wide.inRound l) (n - 1 - 1) P (Exit.then K (fun _ _ _ => False)) { tmps := (ps.zip (encs x)).foldl (fun t (p, v) => t.setIfInBounds p v) a.tmps, defers := [] } W)
    (hbody : ∀ (l : Nat) (pre : List α) (x : α) (W : World), I pre W → Pr pre x → body.wpIn (Fence.wide.inRound l) (n - 1 - 1) P (untilPost w.heap.size I Ix (pre ++ [x]) W) (a₁ x) W)
    (hstop : ∀ (D : Nat) (c : Code) (pre : List α) (W : World), w.heap.size ≤ D → Sp pre → Ix c pre W → W.heap[D]? = some (.deferred (some [])) → c.wpIn Fence.wide n P Q { a with defers := { target := .collected D, args := #[] } :: a.defers } W) :
    (Code.rangeFunc g ps assign body).wpIn Fence.wide n P Q a w := by
  refine wpIn_rangeFunc fun fn hfn => ?_
  -- the loop's record, in each of its states
  obtain ⟨rec, hrec⟩ : ∃ rec : LoopState → Option Code → Loop, rec = fun st pe => { state := st, pending := pe, fn, tmps := a.tmps, params := ps, assign, body, defers := w.heap.size } := ⟨_, rfl⟩
  let L := w.heap.size + 1
  let D := w.heap.size
  have hLw : w.heap.size ≤ L := Nat.le_succ _
  let W1 := (w.alloc (.deferred (some []))).alloc (.loop (rec .ready none))
  have hD1 : W1.heap[D]? = some (.deferred (some [])) := (Below.heap_alloc _ _ _ (by simp [D])).trans (heap_alloc_new w _)
  have hL1 : W1.heap[L]? = some (.loop (rec .ready none)) := heap_alloc2_new w _ _
  refine ⟨L, [{ target := .collected D, args := #[] }], W1, { target := .fn (.func gf) lb, args := #[.func (.yield L) #[] #[]] }, W1, gf, #[.func (.yield L) #[] #[]] ++ lb, W1, ?_, ?_, fun _ _ => trivial, ?_, (fun h => by cases h), ?_⟩
  · have := run_enterLoop_outer (P := P) (w := w) fn a.tmps ps assign body
    rw [show Fence.wide.round = none from rfl, this]
    simp only [W1, hrec]; rfl
  · simp only [resolve, hg]; simp [go_sem]
  · simp [invoke, go_sem, eg]
  have at_ : ∀ {W : World} {k : Nat} {o : Obj} (o' : Obj), W.heap[k]? = some o → (W.putObj k o').heap[k]? = some o' := fun o' h => World.putObj_heap_same (Array.getElem?_eq_some_iff.1 h).1
  have off : ∀ {W : World} {k j : Nat} (o' : Obj), j ≠ k → (W.putObj k o').heap[j]? = W.heap[j]? := fun o' h => World.putObj_heap_other h
  have hDL : D ≠ L := by simp [D, L]
  have hlD : ∀ {st pe}, (Obj.loop (rec st pe)).isCells = false := rfl
  refine (hit L N (fun pre W => I pre W ∧ W.heap[L]? = some (.loop (rec .ready none)) ∧ W.heap[D]? = some (.deferred (some [])))
    (fun pre W => ∃ c, Ix c pre W ∧ W.heap[L]? = some (.loop (rec .done (some c))) ∧ W.heap[D]? = some (.deferred (some []))) W1 (fun pre W h => hN pre W h.1) ?_ ⟨h0 _ _, hL1, hD1⟩).mono ?_
  · -- one round
    rintro pre x W ⟨hi, hl, hd⟩ hpr
    have hy := run_yield (P := P) (args := encs x) hl (by rw [hrec]; exact hps x)
    rw [hrec] at hy
    refine ⟨fn, _, assign, body, hy, roundIn_of_wpIn hfn (hassign _ x W _ ⟨_, run_beginRound hl (by rw [hrec]), ?_⟩)⟩
    have hbusy : (W.putObj L (.loop { rec .ready none with state := .busy })).heap[L]? = some (.loop { rec .ready none with state := .busy }) := at_ _ hl
    have hd2 : (W.putObj L (.loop { rec .ready none with state := .busy })).heap[D]? = some (.deferred (some [])) := (off _ hDL).trans hd
    have ends : ∀ (jump : Option Code) (W3 : World), KeepsFrom w.heap.size (W.putObj L (.loop { rec .ready none with state := .busy })) W3 →
        (Instr.endRound L jump).run P W3 = .ok (.bool jump.isNone) (W3.putObj L (.loop (rec (if jump.isNone then .ready else .done) jump))) ∧
        (W3.putObj L (.loop (rec (if jump.isNone then .ready else .done) jump))).heap[L]? = some (.loop (rec (if jump.isNone then .ready else .done) jump)) ∧
        (W3.putObj L (.loop (rec (if jump.isNone then .ready else .done) jump))).heap[D]? = some (.deferred (some [])) := fun jump W3 hk => by
      have hl3 := hk.same _ _ hLw hbusy rfl
      have := run_endRound (P := P) jump hl3
      rw [hrec] at this ⊢
      exact ⟨this, at_ _ hl3, (off _ hDL).trans (hk.same _ _ (Nat.le_refl _) hd2 rfl)⟩
    refine wpIn_mono (hbody _ pre x _ (hI _ _ _ _ hi hLw) hpr) ?_
    rintro e a3 W3 hp
    cases e with
    | normal =>
      obtain ⟨hk, hi3⟩ := hp
      obtain ⟨hr, h4, h5⟩ := ends none W3 hk
      exact ⟨_, _, hr, .inl ⟨rfl, hI _ _ _ _ hi3 hLw, h4, h5⟩⟩
    | ret =>
      obtain ⟨hk, hi3⟩ := hp
      obtain ⟨hr, h4, h5⟩ := ends (some .ret) W3 hk
      exact ⟨_, _, hr, .inr ⟨rfl, .ret, hIx _ _ _ _ _ hi3 hLw, h4, h5⟩⟩
    | exit id =>
      obtain ⟨hk, hi3⟩ := hp
      obtain ⟨hr, h4, h5⟩ := ends (some (.exit id)) W3 hk
      exact ⟨_, _, hr, .inr ⟨rfl, .exit id, hIx _ _ _ _ _ hi3 hLw, h4, h5⟩⟩
    | goto t => exact hp.elim
    | panic ch => exact hp.elim
    | outgrown => exact hp.elim
  · -- behind the iterator
    rintro e W2 ⟨⟨v, rfl⟩, pre, hSp, c, hi, hl, hd⟩
    have := run_endLoop (P := P) hl (by rw [hrec]; simp)
    rw [hrec] at this
    exact ⟨some c, _, this, hstop D c pre _ (Nat.le_refl _) hSp (hIx _ _ _ _ _ hi hLw) ((off _ hDL).trans hd)⟩

end Go.Proofs.Ytlcfaejomblnjaa
