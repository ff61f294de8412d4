/-
  Loads as quiet operations: one cell; a block known whole.
-/
import Derived.Test.YtheilnaommcjjaaState
namespace Go.Proofs.Ytheilnaommcjjaa
open Go.RowKit

theorem quiet_load_cell {o : Oper} {a : Act} {C : World → Prop} {K : Act → Prop} (t : TypeId) (x : Operand) (ho : o.op = .load t x) (ad : Addr) (hx : a.eval x = .pointer (some ad)) (v : Value)
    (hag : ∀ w, (isAgg t).run Try.prog w = .ok false w) (hc : ∀ w, C w → w.cell? ad = some v) (hk : K (a.put o.dst v)) : o.quiet Try.prog a C K :=
  quiet_value (fun w hw => by
    have k := hc w hw
    unfold execOp
    simp only [ho, hx, Instr.loadAt, Instr.sureAddr, Sem.run_bind, Sem.run_pure, Result.andThen_ok, loadVar, hag w]
    go_simp) hk
theorem quiet_load_row {o : Oper} {a : Act} {C : World → Prop} {K : Act → Prop} (t : TypeId) (x : Operand) (ho : o.op = .load t x) (B : Nat) (hx : a.eval x = .pointer (some ⟨B, 0, none⟩)) (vs : Array Value)
    (hl : ∀ w, C w → (loadVar t ⟨B, 0, none⟩).run Try.prog w = .ok (.agg vs) w)
    (hk : K (a.put o.dst (.agg vs))) : o.quiet Try.prog a C K :=
  quiet_value (fun w hw => by
    unfold execOp
    simp only [ho, hx, Instr.loadAt, Instr.sureAddr, Sem.run_bind, Sem.run_pure, Result.andThen_ok, hl w hw]) hk
theorem load_spot (s : Spot) (w : World) (B : Nat) (h : Blk w B (spotA s) 66) : (loadVar 66 ⟨B, 0, none⟩).run Try.prog w = .ok (.agg (spotA s)) w :=
  run_loadVar_row w B 66 66 (spotA s) (0, 0) _ h Try.underlying66 rfl (by show _ = some 2; kernel_rfl)
theorem load_ln (l : Ln) (w : World) (B : Nat) (h : Blk w B (lnA l) 33) : (loadVar 33 ⟨B, 0, none⟩).run Try.prog w = .ok (.agg (lnA l)) w :=
  run_loadVar_row w B 33 33 (lnA l) (0, 0) _ h Try.underlying33 rfl (lnA_info l)
theorem cls_cell {B C : Nat} {W : World} {vs : Array Value} {t : TypeId} {j : Nat} {v : Value} (h : Blk W C vs t) (hv : vs[j]? = some v) (hC : C < B) : ∀ w, Cls B W w → w.cell? ⟨C, j, none⟩ = some v :=
  fun _ hw => (h.below hw hC).cell hv
end Go.Proofs.Ytheilnaommcjjaa
