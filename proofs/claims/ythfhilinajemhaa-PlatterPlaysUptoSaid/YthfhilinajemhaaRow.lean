/-
  Sectors as rows of 128 cells: zero, load, store, build.
-/
import Derived.Test.YthfhilinajemhaaWrite2
namespace Go.Proofs.Ythfhilinajemhaa
open Go.RowKit
open Go.Maps (Keyed int_keyed)
set_option linter.unusedVariables false
/-- a sector of noughts -/
def zc : Array Value := Array.replicate 128 (.int .u8 0)
theorem zc_size : zc.size = 128 := by kernel_rfl
theorem zc_zero (w : World) : (zeroValue 45).run Try.prog w = .ok (.agg zc) w := by kernel_rfl
theorem build_zc (w : World) : (Instr.build 45 #[]).run Try.prog w = .ok (.agg zc) w := by kernel_rfl
theorem info45 {c : Array Value} (hc : c.size = 128) : (Try.prog.info? 45).map (·.size) = some c.size := by rw [hc]; kernel_rfl
section
variable {P : Program} {ops : Array Oper} {rest : List Oper} {o : Oper} {a : Act} {w : World} {Q : Exit → Act → World → Prop}
theorem buildW (hgd : o.guard = none) (t : TypeId) (parts : Array (Nat × Operand)) (ho : o.op = .build t parts) (vs : Array (Nat × Value)) (hvs : (parts.map fun (i, x) => (i, a.eval x)) = vs) (v : Value) (hr : (Instr.build t vs).run P w = .ok v w)
    (h : wpList P ops Q rest (a.put o.dst v) w) : wpList P ops Q (o :: rest) a w :=
  wpList_plain hgd fun K hK => by
    unfold Oper.wp execOp
    simp only [ho, hvs, Sem.run_bind, hr, Result.andThen_ok, Sem.run_pure]
    exact hK _ _ h
theorem load_cW (hgd : o.guard = none) (x : Operand) (ho : o.op = .load 45 x) (B : Nat) (hx : a.eval x = .pointer (some ⟨B, 0, none⟩)) (c : Array Value) (hc : c.size = 128) (hB : Blk w B c 45)
    (h : wpList Try.prog ops Q rest (a.put o.dst (.agg c)) w) : wpList Try.prog ops Q (o :: rest) a w :=
  wpList_load_row hgd 45 x ho B hx 45 c (0, 0) _ hB Try.underlying45 rfl (info45 hc) h
theorem store_cW (hgd : o.guard = none) (x y : Operand) (ho : o.op = .store 45 x y) (B : Nat) (c : Array Value) (hx : a.eval x = .pointer (some ⟨B, 0, none⟩)) (hy : a.eval y = .agg c)
    (c0 : Array Value) (hB : Blk w B c0 45) (hc0 : c0.size = 128) (hc : c.size = 128) (h1 : c.all (·.oneCell') = true)
    (h : wpList Try.prog ops Q rest (a.put o.dst undef) (w.setRow B c)) : wpList Try.prog ops Q (o :: rest) a w :=
  wpList_store_row hgd 45 x y ho B c hx hy 45 c0 hB (info45 hc) (by rw [hc, hc0]) h1 h
end
end Go.Proofs.Ythfhilinajemhaa
