/-
  The document's disk: its state; a step.
-/
import Derived.Test.YthfhilinajemhaaAlive
import Derived.Test.YthfhilinajemhaaRanged
import Derived.Deep.AppendLies
namespace Go.Proofs.Ythfhilinajemhaa
open Go.RowKit
open Go.Maps (Keyed int_keyed)
set_option linter.unusedVariables false

/-- the document's disk: sure, since, counters, steps, armed, left, down -/
def rfA (sv nv cv : Value) (st : Int) (ar : Bool) (lf : Int) (dn : Bool) : Array Value := #[sv, nv, cv, .int .i64 st, .bool ar, .int .i64 lf, .bool dn]
section
variable {w : World} {p : Nat} {ar dn : Bool} {lf st : Int} {sv nv cv : Value}
theorem rf0 (h : Blk w p (rfA sv nv cv st ar lf dn) 77) : w.cell? ⟨p, 0, none⟩ = some sv := h.cell (j := 0) rfl
theorem rf1 (h : Blk w p (rfA sv nv cv st ar lf dn) 77) : w.cell? ⟨p, 1, none⟩ = some nv := h.cell (j := 1) rfl
theorem rf2 (h : Blk w p (rfA sv nv cv st ar lf dn) 77) : w.cell? ⟨p, 2, none⟩ = some cv := h.cell (j := 2) rfl
theorem rf3 (h : Blk w p (rfA sv nv cv st ar lf dn) 77) : w.cell? ⟨p, 3, none⟩ = some (.int .i64 st) := h.cell (j := 3) rfl
theorem rf4 (h : Blk w p (rfA sv nv cv st ar lf dn) 77) : w.cell? ⟨p, 4, none⟩ = some (.bool ar) := h.cell (j := 4) rfl
theorem rf5 (h : Blk w p (rfA sv nv cv st ar lf dn) 77) : w.cell? ⟨p, 5, none⟩ = some (.int .i64 lf) := h.cell (j := 5) rfl
theorem rf6 (h : Blk w p (rfA sv nv cv st ar lf dn) 77) : w.cell? ⟨p, 6, none⟩ = some (.bool dn) := h.cell (j := 6) rfl
def RStep (w : World) (p : Nat) (n : Int) (vs : Array Value) (e : Ending) (w' : World) : Prop := e = .returned (.int .i64 n) ∧ Blk w' p vs 77 ∧ Fr (fun k => k = p) w w'
theorem rstep_no (h : Blk w p (rfA sv nv cv st ar lf dn) 77) (hd : dn = true ∨ (ar = true ∧ lf = 0)) : Calls Try.prog 52 #[.pointer (some ⟨p, 0, none⟩)] w (RStep w p 5 (rfA sv nv cv st ar lf true)) := by
  have b4 := rf4 h
  have b5 := rf5 h
  have b6 := rf6 h
  have f6 := h.frozen 6
  have hs := Lib.hid (h.set 6 (.bool true))
  have hf := Lib.hid (Fr.cell w p 6 (.bool true))
  have H := Lib.hid h
  clear h
  cases dn
  · obtain ⟨rfl, rfl⟩ := hd.resolve_left (by simp)
    clear hd
    go_enter Try.func52, Try.ntmps52
    go_wp2
    go_ret
    exact ⟨rfl, hs.out, hf.out⟩
  · clear hd
    go_enter Try.func52, Try.ntmps52
    go_wp2
    go_ret
    exact ⟨rfl, H.out, Fr.refl _ _⟩
theorem rstep_yes (h : Blk w p (rfA sv nv cv st ar lf false) 77) (hd : ¬ (ar = true ∧ lf = 0)) (hs64 : 0 ≤ st ∧ st < 1000000) (hl64 : ar = true → ok64 (lf - 1)) : Calls Try.prog 52 #[.pointer (some ⟨p, 0, none⟩)] w (RStep w p 0 (rfA sv nv cv (st + 1) ar (if ar = true then lf - 1 else lf) false)) := by
  have b3 := rf3 h
  have b4 := rf4 h
  have b5 := rf5 h
  have b6 := rf6 h
  have e6 : IntKind.i64.wrap (st + 1) = st + 1 := wrap_ok ⟨by omega, by omega⟩
  cases ar
  · have f3 := h.frozen 3
    have HS := Lib.hid (h.set 3 (.int .i64 (st + 1)))
    have HF := Lib.hid (Fr.cell w p 3 (.int .i64 (st + 1)))
    clear h hd
    go_enter Try.func52, Try.ntmps52
    go_wp2
    go_ret
    exact ⟨rfl, HS.out, HF.out⟩
  · have e1 : IntKind.i64.wrap (lf - 1) = lf - 1 := wrap_ok (hl64 rfl)
    have h0 : ¬ lf = 0 := fun e => hd ⟨rfl, e⟩
    have f5 := h.frozen 5
    have hs := h.set 5 (.int .i64 (lf - 1))
    have c3 := hs.cell (j := 3) (v := .int .i64 st) rfl
    have f3 := hs.frozen 3
    have HS := Lib.hid (hs.set 3 (.int .i64 (st + 1)))
    have HF := Lib.hid ((Fr.cell w p 5 (.int .i64 (lf - 1))).trans (Fr.cell (w.setCell ⟨p, 5, none⟩ (.int .i64 (lf - 1))) p 3 (.int .i64 (st + 1))) (fun i hi => .inl hi))
    clear h hd hs
    go_enter Try.func52, Try.ntmps52
    go_wp2
    go_ret
    exact ⟨rfl, HS.out, HF.out⟩
end
end Go.Proofs.Ythfhilinajemhaa
