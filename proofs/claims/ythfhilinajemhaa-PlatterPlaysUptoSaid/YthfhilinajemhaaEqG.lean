/-
  Sectors compared, as one step of a walk.
-/
import Derived.Test.YthfhilinajemhaaAlive
namespace Go.Proofs.Ythfhilinajemhaa
open Go.RowKit
set_option linter.unusedVariables false

theorem run_guard_eql (x y : Operand) (c e : Array Value) (w : World) : (eqGuard .eql 45 x y (.agg c) (.agg e)).run Try.prog w = .ok () w := by kernel_rfl
theorem run_guard_neq (x y : Operand) (c e : Array Value) (w : World) : (eqGuard .neq 45 x y (.agg c) (.agg e)).run Try.prog w = .ok () w := by kernel_rfl
section
variable {ops : Array Oper} {rest : List Oper} {o : Oper} {a : Act} {w : World} {Q : Exit → Act → World → Prop}
theorem run_eql45 (c e : Array Value) (w : World) : (binOp .eql 45 (.agg c) (.agg e)).run Try.prog w = ((Op.equalIn Op.maxDepth 45 (.agg c) (.agg e)).run Try.prog w).andThen fun b w => .ok (.bool b) w := by
  unfold binOp Op.equal
  rw [Sem.run_bind]; rfl
theorem run_neq45 (c e : Array Value) (w : World) : (binOp .neq 45 (.agg c) (.agg e)).run Try.prog w = ((Op.equalIn Op.maxDepth 45 (.agg c) (.agg e)).run Try.prog w).andThen fun b w => .ok (.bool (!b)) w := by
  unfold binOp Op.equal
  rw [Sem.run_bind]; rfl
theorem eqlG (hw : Region.wanted o (yielded ops a.tmps) = true) (x y : Operand) (ho : o.op = .binOp .eql 45 x y 45) (c e : Array Value) (hx : a.eval x = .agg c) (hy : a.eval y = .agg e) (r : Bool) (he : (Op.equalIn Op.maxDepth 45 (.agg c) (.agg e)).run Try.prog w = .ok r w)
    (h : wpList Try.prog ops Q rest (a.put o.dst (.bool r)) w) : wpList Try.prog ops Q (o :: rest) a w :=
  wpList_step fun K hK => by
    rw [if_pos hw]
    unfold Oper.wp execOp
    simp only [ho, hx, hy]
    have h1 : (binOp .eql 45 (.agg c) (.agg e)).run Try.prog w = .ok (.bool r) w := by
      rw [run_eql45, he]; rfl
    simp only [Sem.run_bind, run_guard_eql, h1, Result.andThen_ok, Sem.run_pure]
    exact hK _ _ h
theorem neqG (hw : Region.wanted o (yielded ops a.tmps) = true) (x y : Operand) (ho : o.op = .binOp .neq 45 x y 45) (c e : Array Value) (hx : a.eval x = .agg c) (hy : a.eval y = .agg e) (r : Bool) (he : (Op.equalIn Op.maxDepth 45 (.agg c) (.agg e)).run Try.prog w = .ok r w)
    (h : wpList Try.prog ops Q rest (a.put o.dst (.bool (!r))) w) : wpList Try.prog ops Q (o :: rest) a w :=
  wpList_step fun K hK => by
    rw [if_pos hw]
    unfold Oper.wp execOp
    simp only [ho, hx, hy]
    have h1 : (binOp .neq 45 (.agg c) (.agg e)).run Try.prog w = .ok (.bool (!r)) w := by
      rw [run_neq45, he]; rfl
    simp only [Sem.run_bind, run_guard_neq, h1, Result.andThen_ok, Sem.run_pure]
    exact hK _ _ h
theorem loadG (hw : Region.wanted o (yielded ops a.tmps) = true) (x : Operand) (ho : o.op = .load 45 x) (B : Nat) (hx : a.eval x = .pointer (some ⟨B, 0, none⟩)) (c : Array Value) (hc : c.size = 128) (hB : Blk w B c 45)
    (h : wpList Try.prog ops Q rest (a.put o.dst (.agg c)) w) : wpList Try.prog ops Q (o :: rest) a w :=
  wpList_step fun K hK => by
    rw [if_pos hw]
    exact loadO 45 x ho ⟨B, 0, none⟩ hx (.agg c) (load_c c hc w B hB) (hK _ _ h)
end
section
variable {P : Program} {ops : Array Oper} {rest : List Oper} {o : Oper} {a : Act} {w : World} {Q : Exit → Act → World → Prop}
/-- guards: only at a store, a load, a comparison -/
theorem at_st (t : TypeId) (x y : Operand) (_ : o.op = .store t x y) (h : wpList P ops Q (o :: rest) a w) : wpList P ops Q (o :: rest) a w := h
theorem at_ld (t : TypeId) (x : Operand) (_ : o.op = .load t x) (h : wpList P ops Q (o :: rest) a w) : wpList P ops Q (o :: rest) a w := h
theorem at_eql (x y : Operand) (_ : o.op = .binOp .eql 45 x y 45) (h : wpList P ops Q (o :: rest) a w) : wpList P ops Q (o :: rest) a w := h
theorem at_neq (x y : Operand) (_ : o.op = .binOp .neq 45 x y 45) (h : wpList P ops Q (o :: rest) a w) : wpList P ops Q (o :: rest) a w := h
end
end Go.Proofs.Ythfhilinajemhaa
