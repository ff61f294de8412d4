/-
  The platter's small functions: Size, has, Steps, Down, counted, Counter, step, Arm, Raise; errors as numbers.
-/
import Derived.Test.YthfhilinajemhaaFrames
import Derived.Deep.RegionHeld3
import Derived.Test.YthfhilinajemhaaCells
namespace Go.Proofs.Ythfhilinajemhaa
open Go.RowKit
open Go.Maps (Keyed)
set_option linter.unusedVariables false

def ok64 (a : Int) : Prop := -9223372036854775808 ≤ a ∧ a ≤ 9223372036854775807
theorem wrap_ok {a : Int} (h : ok64 a) : IntKind.i64.wrap a = a := by
  unfold ok64 at h
  simp [IntKind.wrap, IntKind.bits, IntKind.signed]
  omega
/-- a disk's block: fuse (armed, left, down), sure, open, counters, steps -/
def plA (ar : Bool) (lf : Int) (dn : Bool) (sv mv cv : Value) (st : Int) : Array Value := #[.bool ar, .int .i64 lf, .bool dn, sv, mv, cv, .int .i64 st]
def errP (n : Int) : Value := .iface 36 (.int .i64 n)
section
variable {w : World} {p : Nat} {ar dn : Bool} {lf st : Int} {sv mv cv : Value}
theorem pl0 (h : Blk w p (plA ar lf dn sv mv cv st) 90) : w.cell? ⟨p, 0, none⟩ = some (.bool ar) := h.cell (j := 0) rfl
theorem pl1 (h : Blk w p (plA ar lf dn sv mv cv st) 90) : w.cell? ⟨p, 1, none⟩ = some (.int .i64 lf) := h.cell (j := 1) rfl
theorem pl2 (h : Blk w p (plA ar lf dn sv mv cv st) 90) : w.cell? ⟨p, 2, none⟩ = some (.bool dn) := h.cell (j := 2) rfl
theorem pl3 (h : Blk w p (plA ar lf dn sv mv cv st) 90) : w.cell? ⟨p, 3, none⟩ = some sv := h.cell (j := 3) rfl
theorem pl4 (h : Blk w p (plA ar lf dn sv mv cv st) 90) : w.cell? ⟨p, 4, none⟩ = some mv := h.cell (j := 4) rfl
theorem pl5 (h : Blk w p (plA ar lf dn sv mv cv st) 90) : w.cell? ⟨p, 5, none⟩ = some cv := h.cell (j := 5) rfl
theorem pl6 (h : Blk w p (plA ar lf dn sv mv cv st) 90) : w.cell? ⟨p, 6, none⟩ = some (.int .i64 st) := h.cell (j := 6) rfl
theorem size_nil (w : World) : Calls Try.prog 43 #[.pointer none] w fun e w' => e = .returned (.int .i64 0) ∧ w' = w := by
  go_enter Try.func43, Try.ntmps43
  go_wp2
  go_ret
  exact ⟨rfl, rfl⟩
theorem size_any {A : Option Addr} {n c : Nat} (h : Blk w p (plA ar lf dn (.slice A n c) mv cv st) 90) : Calls Try.prog 43 #[.pointer (some ⟨p, 0, none⟩)] w fun e w' => e = .returned (.int .i64 n) ∧ w' = w := by
  have b3 := pl3 h
  go_enter Try.func43, Try.ntmps43
  go_wp2
  go_ret
  exact ⟨rfl, rfl⟩
theorem steps_nil (w : World) : Calls Try.prog 21 #[.pointer none] w fun e w' => e = .returned (.int .i64 0) ∧ w' = w := by
  go_enter Try.func21, Try.ntmps21
  go_wp2
  go_ret
  exact ⟨rfl, rfl⟩
theorem steps_any (h : Blk w p (plA ar lf dn sv mv cv st) 90) : Calls Try.prog 21 #[.pointer (some ⟨p, 0, none⟩)] w fun e w' => e = .returned (.int .i64 st) ∧ w' = w := by
  have b6 := pl6 h
  go_enter Try.func21, Try.ntmps21
  go_wp2
  go_ret
  exact ⟨rfl, rfl⟩
theorem down_nil (w : World) : Calls Try.prog 22 #[.pointer none] w fun e w' => e = .returned (.bool true) ∧ w' = w := by
  go_enter Try.func22, Try.ntmps22
  go_wp2
  go_ret
  exact ⟨rfl, rfl⟩
theorem down_any (h : Blk w p (plA ar lf dn sv mv cv st) 90) : Calls Try.prog 22 #[.pointer (some ⟨p, 0, none⟩)] w fun e w' => e = .returned (.bool dn) ∧ w' = w := by
  have b2 := pl2 h
  go_enter Try.func22, Try.ntmps22
  go_wp2
  go_ret
  exact ⟨rfl, rfl⟩
theorem has_nil (at_ : Int) (w : World) : Calls Try.prog 49 #[.pointer none, .int .i64 at_] w fun e w' => e = .returned (.bool false) ∧ w' = w := by
  by_cases h0 : 0 ≤ at_
  · have h1 : ¬ at_ < 0 := by omega
    go_enter Try.func49, Try.ntmps49
    have h2 : decide (at_ < 0) = false := decide_eq_false h1
    go_wp2_with (refine (size_nil w).mono ?_; rintro e w' ⟨rfl, rfl⟩)
    go_ret
    exact ⟨rfl, rfl⟩
  · go_enter Try.func49, Try.ntmps49
    go_wp2
    go_ret
    exact ⟨rfl, rfl⟩
theorem has_any {A : Option Addr} {n c : Nat} (at_ : Int) (h : Blk w p (plA ar lf dn (.slice A n c) mv cv st) 90) : Calls Try.prog 49 #[.pointer (some ⟨p, 0, none⟩), .int .i64 at_] w fun e w' => e = .returned (.bool (decide (0 ≤ at_ ∧ at_ < n))) ∧ w' = w := by
  by_cases h0 : 0 ≤ at_
  · rw [show decide (0 ≤ at_ ∧ at_ < n) = decide (at_ < (n : Int)) from by simp [h0]]
    have C := size_any h
    go_enter Try.func49, Try.ntmps49
    go_wp2_with (refine C.mono ?_; rintro e w' ⟨rfl, rfl⟩)
    go_ret
    exact ⟨rfl, rfl⟩
  · rw [show decide (0 ≤ at_ ∧ at_ < n) = false from by simp [h0]]
    go_enter Try.func49, Try.ntmps49
    go_wp2
    go_ret
    exact ⟨rfl, rfl⟩
theorem counted_nil (i : Int) (w : World) : Calls Try.prog 44 #[.pointer none, .int .i64 i] w fun e w' => e = .returned (.bool false) ∧ w' = w := by
  go_enter Try.func44, Try.ntmps44
  go_wp2
  go_ret
  exact ⟨rfl, rfl⟩
theorem counted_any {A : Option Addr} {n c : Nat} (i : Int) (h : Blk w p (plA ar lf dn sv mv (.slice A n c) st) 90) : Calls Try.prog 44 #[.pointer (some ⟨p, 0, none⟩), .int .i64 i] w fun e w' => e = .returned (.bool (decide (0 ≤ i ∧ i < n))) ∧ w' = w := by
  have b5 := pl5 h
  by_cases h0 : 0 ≤ i
  · rw [show decide (0 ≤ i ∧ i < n) = decide (i < (n : Int)) from by simp [h0]]
    go_enter Try.func44, Try.ntmps44
    go_wp2
    go_ret
    exact ⟨rfl, rfl⟩
  · rw [show decide (0 ≤ i ∧ i < n) = false from by simp [h0]]
    go_enter Try.func44, Try.ntmps44
    go_wp2
    go_ret
    exact ⟨rfl, rfl⟩
theorem Fr.cell (w : World) (p j : Nat) (v : Value) : Fr (fun k => k = p) w (w.setCell ⟨p, j, none⟩ v) :=
  ⟨rfl, rfl, rfl, by simp [World.setCell], fun k _ hn => Go.RowKit.Below.heap_setCell _ _ _ _ hn⟩
theorem step_no (h : Blk w p (plA ar lf dn sv mv cv st) 90) (hd : dn = true ∨ (ar = true ∧ lf = 0)) : Calls Try.prog 45 #[.pointer (some ⟨p, 0, none⟩)] w fun e w' => e = .returned (errP 5) ∧ Blk w' p (plA ar lf true sv mv cv st) 90 ∧ Fr (fun k => k = p) w w' := by
  have b0 := pl0 h
  have b1 := pl1 h
  have b2 := pl2 h
  have f2 := h.frozen 2
  have hs := h.set 2 (.bool true)
  have hf := Fr.cell w p 2 (.bool true)
  have H := Lib.hid h
  have HS := Lib.hid hs
  clear h hs
  rcases hd with rfl | ⟨rfl, rfl⟩
  · go_enter Try.func45, Try.ntmps45
    go_wp2
    go_ret
    exact ⟨rfl, HS.out, hf⟩
  · cases dn
    · go_enter Try.func45, Try.ntmps45
      go_wp2
      go_ret
      exact ⟨rfl, HS.out, hf⟩
    · go_enter Try.func45, Try.ntmps45
      go_wp2
      go_ret
      exact ⟨rfl, HS.out, hf⟩
theorem step_yes (h : Blk w p (plA ar lf false sv mv cv st) 90) (hd : ¬ (ar = true ∧ lf = 0)) (hs64 : 0 ≤ st ∧ st < 1000000) (hl64 : ok64 (lf - 1)) : Calls Try.prog 45 #[.pointer (some ⟨p, 0, none⟩)] w fun e w' => e = .returned .nilIface ∧ Blk w' p (plA ar (lf - 1) false sv mv cv (st + 1)) 90 ∧ Fr (fun k => k = p) w w' := by
  have b0 := pl0 h
  have b1 := pl1 h
  have b2 := pl2 h
  have b6 := pl6 h
  have f1 := h.frozen 1
  have hs := h.set 1 (.int .i64 (lf - 1))
  have hs2 := hs.set 6 (.int .i64 (st + 1))
  have f6 := hs.frozen 6
  have c6 := hs.cell (j := 6) (v := .int .i64 st) rfl
  have hf := (Fr.cell w p 1 (.int .i64 (lf - 1))).trans (Fr.cell (w.setCell ⟨p, 1, none⟩ (.int .i64 (lf - 1))) p 6 (.int .i64 (st + 1))) (fun i hi => .inl hi)
  have e1 : IntKind.i64.wrap (lf - 1) = lf - 1 := wrap_ok hl64
  have e6 : IntKind.i64.wrap (st + 1) = st + 1 := wrap_ok ⟨by omega, by omega⟩
  have HF := Lib.hid hf
  have HS := Lib.hid hs2
  clear h hs hs2 hf
  cases ar
  · go_enter Try.func45, Try.ntmps45
    go_wp2
    go_ret
    exact ⟨rfl, HS.out, HF.out⟩
  · have h0 : ¬ lf = 0 := fun e => hd ⟨rfl, e⟩
    clear hd
    go_enter Try.func45, Try.ntmps45
    go_wp2
    go_ret
    exact ⟨rfl, HS.out, HF.out⟩
theorem is_any (n m : Int) (hn : n ≠ 0) (hn64 : 0 ≤ n ∧ n < 100) (w : World) : Calls Try.prog 28 #[errP n] w fun e w' => e = .returned (.int .i64 n) ∧ w' = w := by
  have hta : ∀ w, (Instr.typeAssert (.iface 36 (.int .i64 n)) 31 36 true).run Try.prog w = .ok (.tuple #[.int .i64 n, .bool true]) w := fun w => by kernel_rfl
  unfold errP
  go_enter Try.func28, Try.ntmps28
  go_wp2
  go_ret
  exact ⟨rfl, rfl⟩
end
end Go.Proofs.Ythfhilinajemhaa
