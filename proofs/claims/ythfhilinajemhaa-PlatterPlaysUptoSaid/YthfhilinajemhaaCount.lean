/-
  The platter's counters: Counter, Raise; Arm; Is.
-/
import Derived.Test.YthfhilinajemhaaSmall
namespace Go.Proofs.Ythfhilinajemhaa
open Go.RowKit
open Go.Maps (Keyed)
set_option linter.unusedVariables false
section
variable {w : World} {p : Nat} {ar dn : Bool} {lf st : Int} {sv mv cv : Value}
theorem isC_any (n m : Int) (hn : n ≠ 0) (hn64 : 0 ≤ n ∧ n < 100) (w : World) : Calls Try.prog 14 #[errP n, .int .i64 m] w fun e w' => e = .returned (.bool (decide (n = m))) ∧ w' = w := by
  have C := is_any n m hn hn64
  unfold errP at C ⊢
  go_enter Try.func14, Try.ntmps14
  go_wp2_with (refine (C w).mono ?_; rintro e w' ⟨rfl, rfl⟩)
  go_ret
  exact ⟨rfl, rfl⟩
theorem num_nil (w : World) : Calls Try.prog 28 #[.nilIface] w fun e w' => e = .returned (.int .i64 0) ∧ w' = w := by
  go_enter Try.func28, Try.ntmps28
  go_wp2
  go_ret
  exact ⟨rfl, rfl⟩
theorem is_nil (m : Int) (hm : m ≠ 0) (w : World) : Calls Try.prog 14 #[.nilIface, .int .i64 m] w fun e w' => e = .returned (.bool false) ∧ w' = w := by
  have h0 : ¬ 0 = m := fun e => hm e.symm
  go_enter Try.func14, Try.ntmps14
  go_wp2_with (refine (num_nil w).mono ?_; rintro e w' ⟨rfl, rfl⟩)
  go_ret
  refine ⟨?_, rfl⟩
  show Ending.returned (.bool (0 == m)) = _
  rw [beq_eq_false_iff_ne.2 h0]
theorem arm_nil (n : Int) (w : World) : Calls Try.prog 17 #[.pointer none, .int .i64 n] w fun e w' => e = .returned (errP 1) ∧ w' = w := by
  go_enter Try.func17, Try.ntmps17
  go_wp2
  go_ret
  exact ⟨rfl, rfl⟩
theorem arm_no (n : Int) (hn : n < 0) (w : World) : Calls Try.prog 17 #[.pointer (some ⟨p, 0, none⟩), .int .i64 n] w fun e w' => e = .returned (errP 1) ∧ w' = w := by
  go_enter Try.func17, Try.ntmps17
  go_wp2
  go_ret
  exact ⟨rfl, rfl⟩
theorem arm_yes (n : Int) (hn : 0 ≤ n) (h : Blk w p (plA ar lf dn sv mv cv st) 90) : Calls Try.prog 17 #[.pointer (some ⟨p, 0, none⟩), .int .i64 n] w fun e w' => e = .returned .nilIface ∧ Blk w' p (plA true n dn sv mv cv st) 90 ∧ Fr (fun k => k = p) w w' := by
  have b0 := pl0 h
  have b1 := pl1 h
  have f0 := h.frozen 0
  have hs := h.set 0 (.bool true)
  have f1 := hs.frozen 1
  have c1 := hs.cell (j := 1) (v := .int .i64 lf) rfl
  have HS := Lib.hid (hs.set 1 (.int .i64 n))
  have HF := Lib.hid ((Fr.cell w p 0 (.bool true)).trans (Fr.cell (w.setCell ⟨p, 0, none⟩ (.bool true)) p 1 (.int .i64 n)) (fun i hi => .inl hi))
  clear h hs
  go_enter Try.func17, Try.ntmps17
  go_wp2
  go_ret
  exact ⟨rfl, HS.out, HF.out⟩
theorem counter_nil (i : Int) (w : World) : Calls Try.prog 16 #[.pointer none, .int .i64 i] w fun e w' => e = .returned (.tuple #[.int .i64 0, errP 1]) ∧ w' = w := by
  go_enter Try.func16, Try.ntmps16
  go_wp2_with (refine (counted_nil i w).mono ?_; rintro e w' ⟨rfl, rfl⟩)
  go_ret2
  exact ⟨rfl, rfl⟩
theorem counter_no {A : Option Addr} {n c : Nat} (i : Int) (hi : ¬ (0 ≤ i ∧ i < n)) (h : Blk w p (plA ar lf dn sv mv (.slice A n c) st) 90) : Calls Try.prog 16 #[.pointer (some ⟨p, 0, none⟩), .int .i64 i] w fun e w' => e = .returned (.tuple #[.int .i64 0, errP 1]) ∧ w' = w := by
  have C := counted_any i h
  rw [decide_eq_false hi] at C
  clear hi
  go_enter Try.func16, Try.ntmps16
  go_wp2_with (refine C.mono ?_; rintro e w' ⟨rfl, rfl⟩)
  go_ret2
  exact ⟨rfl, rfl⟩
theorem counter_any {gc n c i : Nat} {x : Int} (hi : i < n) (h : Blk w p (plA ar lf dn sv mv (.slice (some ⟨gc, 0, none⟩) n c) st) 90) (hx : w.cell? ⟨gc, i, none⟩ = some (.int .i64 x)) : Calls Try.prog 16 #[.pointer (some ⟨p, 0, none⟩), .int .i64 i] w fun e w' => e = .returned (.tuple #[.int .i64 x, .nilIface]) ∧ w' = w := by
  have C := counted_any i h
  rw [decide_eq_true (show (0 : Int) ≤ i ∧ (i : Int) < n from ⟨by omega, by omega⟩)] at C
  have b5 := pl5 h
  have h1 : (i : Int) < (n : Int) := by omega
  have h2 : (0 : Int) ≤ (i : Int) := by omega
  clear h
  go_enter Try.func16, Try.ntmps16
  go_wp2_with (refine C.mono ?_; rintro e w' ⟨rfl, rfl⟩)
  go_ret2
  exact ⟨rfl, rfl⟩
end
end Go.Proofs.Ythfhilinajemhaa
