/-
  A block of cells that is known whole: reading, writing, keeping it. No function of the program.
-/
import Derived.WalkKit
import Derived.WalkSpells
import Derived.WalkLawsBesides
import Derived.Deep.QuietTactic
import Derived.BigQuiet
import Derived.StillTailTactics
import Derived.Lib.Hide
namespace Go.Proofs.Ythfhilinajemhaa
open Go.RowKit

/-- Block B holds just these cells, none frozen. -/
def Blk (w : World) (B : Nat) (vs : Array Value) (t : TypeId) : Prop := w.heap[B]? = some (.cells vs t (0, 0))

theorem Blk.cell {w : World} {B : Nat} {vs : Array Value} {t : TypeId} (h : Blk w B vs t) {j : Nat} {v : Value} (hv : vs[j]? = some v) : w.cell? ⟨B, j, none⟩ = some v := by
  unfold Blk at h
  simp [World.cell?, h, hv]
theorem Blk.frozen {w : World} {B : Nat} {vs : Array Value} {t : TypeId} (h : Blk w B vs t) (j : Nat) : w.frozen? ⟨B, j, none⟩ = false := by
  unfold Blk at h
  simp [World.frozen?, h]
theorem Blk.set {w : World} {B : Nat} {vs : Array Value} {t : TypeId} (h : Blk w B vs t) (j : Nat) (v : Value) : Blk (w.setCell ⟨B, j, none⟩ v) B (vs.setIfInBounds j v) t := by
  unfold Blk at h ⊢
  simp [World.setCell, Array.getElem?_modify, h]
theorem Blk.other {w : World} {B : Nat} {vs : Array Value} {t : TypeId} (h : Blk w B vs t) {a : Addr} (hB : a.block ≠ B) (v : Value) : Blk (w.setCell a v) B vs t := by
  unfold Blk at h ⊢
  rw [Below.heap_setCell _ _ _ _ (Ne.symm hB)]; exact h
theorem Blk.lt {w : World} {B : Nat} {vs : Array Value} {t : TypeId} (h : Blk w B vs t) : B < w.heap.size := (Array.getElem?_eq_some_iff.1 h).1
theorem Blk.drew {w : World} {B : Nat} {vs : Array Value} {t : TypeId} (h : Blk w B vs t) : Blk w.drew B vs t := h
theorem Blk.drewN {w : World} {B : Nat} {vs : Array Value} {t : TypeId} (h : Blk w B vs t) (n : Nat) : Blk (w.drewN n) B vs t := h
theorem Blk.new (w : World) (vs : Array Value) (t : TypeId) : Blk (w.alloc (.cells vs t)) w.heap.size vs t := by
  unfold Blk; show (w.heap.push _)[w.heap.size]? = _; simp
theorem Blk.alloc {w : World} {B : Nat} {vs : Array Value} {t : TypeId} (h : Blk w B vs t) (o : Obj) : Blk (w.alloc o) B vs t := by
  unfold Blk at h ⊢
  rw [Below.heap_alloc _ _ _ (Blk.lt h)]; exact h
theorem Blk.below {w w' : World} {B C : Nat} {vs : Array Value} {t : TypeId} (h : Blk w B vs t) (hb : Below C w w') (hB : B < C) : Blk w' B vs t := by
  unfold Blk at h ⊢
  rw [hb.block B hB]; exact h
theorem Below.drewN {B : Nat} {a w : World} (h : Below B a w) (n : Nat) : Below B a (w.drewN n) := ⟨h.os, h.tape, h.output, h.size, h.block⟩

/-- A result's ending, by the equation of its numbers. -/
theorem ret_int {k : IntKind} {a b : Int} (h : a = b) : Ending.returned (.int k a) = .returned (.int k b) := by rw [h]
theorem val_int {k : IntKind} {a b : Int} (h : a = b) : Value.int k a = .int k b := by rw [h]
theorem ret_bool {a b : Bool} (h : a = b) : Ending.returned (.bool a) = .returned (.bool b) := by rw [h]

/-! ### A region that draws its order, all of whose operations yield one value in every world of a class -/
theorem wp_region_class {P : Program} {id : Nat} {Q : Exit → Act → World → Prop} {a : Act} {w : World} {l : List Oper} (C : World → Prop) (hm : P.follows .mixedOrders = true) (hB : Region.lexB .any l.toArray = true) (hC : C w.drew)
    (h : wpQuiet P l.toArray C (fun a' => ∀ w', C w' → Q .normal a' w') l a) : (Code.region id l.toArray true).wp P Q a w :=
  wp_region_quiet (C := C) hm hB hC (by simpa using h)
theorem quiet_value {P : Program} {o : Oper} {a : Act} {C : World → Prop} {K : Act → Prop} {v : Value} (h : ∀ w, C w → (execOp a.eval o).run P w = .ok (.value v) w) (hk : K (a.put o.dst v)) : o.quiet P a C K :=
  ⟨v, fun w hw => by unfold Oper.quietAt; rw [h w hw]; exact ⟨rfl, rfl⟩, hk⟩
theorem quiet_skip {P : Program} {o : Oper} {a : Act} {C : World → Prop} {K : Act → Prop} (h : ∀ w, C w → (execOp a.eval o).run P w = .ok .skip w) (hk : K (a.put o.dst undef)) : o.quiet P a C K :=
  ⟨undef, fun w hw => by unfold Oper.quietAt; rw [h w hw]; exact ⟨rfl, rfl⟩, hk⟩
theorem quiet_call {P : Program} {o : Oper} {a : Act} {C : World → Prop} {K : Act → Prop} {v : Value} {f : FuncId} {args : Array Value} (h : ∀ w, (execOp a.eval o).run P w = .ok (.enter f args) w)
    (hc : ∀ w, C w → Calls P f args w fun e w' => e = .returned v ∧ C w') (hk : K (a.put o.dst v)) : o.quiet P a C K :=
  ⟨v, fun w hw => by unfold Oper.quietAt; rw [h w]; exact ⟨rfl, hc w hw⟩, hk⟩
/-- The class 'what was there below B is as it was'. -/
theorem class_call {P : Program} {B : Nat} {W : World} {f : FuncId} {args : Array Value} {v : Value} (hB : B ≤ W.heap.size) (h : ∀ w, Calls P f args w fun e w' => e = .returned v ∧ Below w.heap.size w w') :
    ∀ w, Below B W w → Calls P f args w fun e w' => e = .returned v ∧ Below B W w' :=
  fun w hw => (h w).mono fun _ _ ⟨he, hb⟩ => ⟨he, hw.trans (hb.mono (Nat.le_trans hB hw.size))⟩

theorem class_same {P : Program} {C : World → Prop} {f : FuncId} {args : Array Value} {v : Value} (h : ∀ w, C w → Calls P f args w fun e w' => e = .returned v ∧ w' = w) :
    ∀ w, C w → Calls P f args w fun e w' => e = .returned v ∧ C w' :=
  fun w hw => (h w hw).mono fun _ _ ⟨he, hb⟩ => ⟨he, by rw [hb]; exact hw⟩

/-- The class of worlds in which what lay below B in W is as it was: behind a name that a walk does not open. -/
def Cls (B : Nat) (W w : World) : Prop := Below B W w
theorem Cls.drew (B : Nat) (W : World) : Cls B W W.drew := (Below.refl _ _).drew
theorem Cls.out {B : Nat} {W w : World} (h : Cls B W w) : Below B W w := h
theorem cls_call {P : Program} {B : Nat} {W : World} {f : FuncId} {args : Array Value} {v : Value} (hB : B ≤ W.heap.size) (h : ∀ w, Calls P f args w fun e w' => e = .returned v ∧ Below w.heap.size w w') :
    ∀ w, Cls B W w → Calls P f args w fun e w' => e = .returned v ∧ Cls B W w' := class_call hB h
theorem cls_same {P : Program} {B : Nat} {W : World} {f : FuncId} {args : Array Value} {v : Value} (h : ∀ w, Cls B W w → Calls P f args w fun e w' => e = .returned v ∧ w' = w) :
    ∀ w, Cls B W w → Calls P f args w fun e w' => e = .returned v ∧ Cls B W w' := class_same h
theorem cls_blk {B C : Nat} {W : World} {vs : Array Value} {t : TypeId} (h : Blk W C vs t) (hC : C < B) : ∀ w, Cls B W w → Blk w C vs t := fun _ hw => h.below hw hC

end Go.Proofs.Ythfhilinajemhaa
