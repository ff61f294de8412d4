/-
  Lines and cells side by side; a line's cell read out of it. No function of the program.
-/
import Derived.Test.YtheilnaommcjjaaNil
import Derived.ChangeKeysEq
namespace Go.Proofs.Ytheilnaommcjjaa
open Go.RowKit

def cellE (c : Nat) (j : Nat) : Value := if j = 0 then .int .u8 c else .int .u8 0
theorem cellA_row (c : Nat) : cellA c = row (cellE c) 128 := rfl
theorem cellA_size (c : Nat) : (cellA c).size = 128 := row_size _ _
theorem cellA_at (c j : Nat) (h : j < 128) : (cellA c)[j]? = some (cellE c j) := row_at _ _ _ h
theorem ln_extract (l : Ln) : (lnA l).extract 2 130 = cellA l.c := by
  apply Array.ext_getElem?
  intro i
  by_cases hi : i < 128
  · rw [Array.getElem?_extract, if_pos (by rw [lnA_size]; omega), lnA_at l (2 + i) (by omega), cellA_at _ _ hi]
    congr 1
    unfold lnE cellE
    rw [if_neg (by omega), if_neg (by omega)]
    by_cases h0 : i = 0
    · subst h0; rfl
    · rw [if_neg (by omega), if_neg (by omega), if_neg h0]
  · rw [Array.getElem?_extract, if_neg (by rw [lnA_size]; omega), Array.getElem?_eq_none (by rw [cellA_size]; omega)]

def byteOf : Value → Int
  | .int _ n => n
  | _ => 0
theorem cellE_int (c j : Nat) : cellE c j = .int .u8 (byteOf (cellE c j)) := by unfold cellE; split <;> rfl
theorem run_eqItems_cells (d : Nat) (x y : Nat) (w : World) : ∀ (is : List Nat), (∀ i ∈ is, i < 128) →
    (Op.eqItems (d + 1) 5 1 (cellA x) (cellA y) is).run Try.prog w = .ok (is.all fun i => byteOf (cellE x i) == byteOf (cellE y i)) w
  | [], _ => by simp [Op.eqItems]
  | i :: is, h => by
    have h2 : Try.prog.underlying 5 = some (.int .u8) := Try.underlying5
    have hi := h i (by simp)
    have ih := run_eqItems_cells d x y w is (fun j hj => h j (by simp [hj]))
    have p1 : ∀ c : Nat, (part 5 (cellA c) (i * 1)).run Try.prog w = .ok (.int .u8 (byteOf (cellE c i))) w := fun c => by
      rw [← cellE_int]
      simp only [part, isAgg, Sem.run_bind, run_underlying h2, Result.andThen_ok, Sem.run_pure, Nat.mul_one, cellA_at _ _ hi]
      rfl
    simp only [Op.eqItems, Sem.run_bind, p1, Result.andThen_ok, run_equalIn_int w d 5 .u8 .u8 _ _ h2, List.all_cons]
    cases hfg : (byteOf (cellE x i) == byteOf (cellE y i))
    · simp
    · simpa using ih
theorem cell_eqd (d : Nat) (x y : Nat) (w : World) : (Op.equalIn (d + 1 + 1) 31 (.agg (cellA x)) (.agg (cellA y))).run Try.prog w = .ok (decide (x = y)) w := by
  have h1 : Try.prog.underlying 31 = some (.array 128 5) := Try.underlying31
  have hs : Try.prog.info? 5 = some (Try.prog.info? 5).get! := by kernel_rfl
  have hc : Try.prog.cellsOf 5 = 1 := by kernel_rfl
  rw [run_equalIn_array w (d + 1) (cellA x) (cellA y) h1 hs, hc, run_eqItems_cells d x y w (List.range 128) (fun i hi => List.mem_range.1 hi)]
  congr 1
  rw [Bool.eq_iff_iff, List.all_eq_true, decide_eq_true_iff]
  constructor
  · intro h
    have := h 0 (by simp)
    rw [beq_iff_eq] at this
    have : (x : Int) = (y : Int) := this
    omega
  · rintro rfl i _
    simp
theorem cell_eq (x y : Nat) (w : World) : (Op.equalIn 10000 31 (.agg (cellA x)) (.agg (cellA y))).run Try.prog w = .ok (decide (x = y)) w := cell_eqd 9998 x y w

def eqLn (l k : Ln) : Bool := l.u == k.u && (l.b == k.b && (l.c == k.c && l.d == k.d))
theorem eqLn_iff {l k : Ln} : eqLn l k = true ↔ l = k := by
  unfold eqLn
  obtain ⟨a, b, c, d⟩ := l
  obtain ⟨a', b', c', d'⟩ := k
  simp
theorem eqLn_self (l : Ln) : eqLn l l = true := eqLn_iff.2 rfl
set_option maxRecDepth 20000 in
theorem ln_eq (l k : Ln) (w : World) : (Op.equalIn 10000 33 (.agg (lnA l)) (.agg (lnA k))).run Try.prog w = .ok (eqLn l k) w := by
  have u3 := Try.underlying3
  have u4 := Try.underlying4
  have hS : Try.prog.underlying 33 = some (.struct (Try.prog.fieldsOf 33)) := by kernel_rfl
  have hp : Try.prog.stoodInHeld 33 = false := by kernel_rfl
  rw [show (10000 : Nat) = 9999 + 1 from rfl, run_equalIn_agg w 9999 33 _ _ hS hp]
  have h0 : ∀ l, (lnA l)[0]? = some (.int .i64 l.u) := fun l => lnA_at l 0 (by omega)
  have h1 : ∀ l, (lnA l)[1]? = some (.int .i64 l.b) := fun l => lnA_at l 1 (by omega)
  have h2 : ∀ l, (lnA l)[130]? = some (.bool l.d) := fun l => lnA_at l 130 (by omega)
  have hx := ln_extract
  have q0 : ∀ l w, (part 3 (lnA l) 0).run Try.prog w = .ok (.int .i64 l.u) w := fun l w => by
    simp only [part, isAgg, Sem.run_bind, run_underlying u3, Result.andThen_ok, Sem.run_pure, h0]; rfl
  have q1 : ∀ l w, (part 3 (lnA l) 1).run Try.prog w = .ok (.int .i64 l.b) w := fun l w => by
    simp only [part, isAgg, Sem.run_bind, run_underlying u3, Result.andThen_ok, Sem.run_pure, h1]; rfl
  have q2 : ∀ l w, (part 4 (lnA l) 130).run Try.prog w = .ok (.bool l.d) w := fun l w => by
    simp only [part, isAgg, Sem.run_bind, run_underlying u4, Result.andThen_ok, Sem.run_pure, h2]; rfl
  have hsz : ∀ w, (sizeOf 31).run Try.prog w = .ok 128 w := fun w => by kernel_rfl
  have q3 : ∀ l w, (part 31 (lnA l) 2).run Try.prog w = .ok (.agg (cellA l.c)) w := fun l w => by
    simp only [part, isAgg, Sem.run_bind, run_underlying Try.underlying31, Result.andThen_ok, Sem.run_pure, if_true, hsz]
    rw [← hx l]
  have hc : ∀ x y w, (Op.equalIn 9999 31 (.agg (cellA x)) (.agg (cellA y))).run Try.prog w = .ok (decide (x = y)) w := fun x y w => cell_eqd 9997 x y w
  have e1 : ∀ a b w, (Op.equalIn 9999 3 (.int .i64 a) (.int .i64 b)).run Try.prog w = .ok (a == b) w := fun a b w => run_equalIn_int w 9998 3 .i64 .i64 a b u3
  have e2 : ∀ a b w, (Op.equalIn 9999 4 (.bool a) (.bool b)).run Try.prog w = .ok (a == b) w := fun a b w => run_equalIn_bool w 9998 4 a b u4
  simp only [Program.fieldsOf, Try.underlying33, Op.eqFields]
  rw [if_pos (by decide), if_pos (by decide), if_pos (by decide), if_pos (by decide)]
  unfold eqLn
  cases k1 : (l.u == k.u)
  · simp [Sem.run_bind, q0, e1, k1, Result.andThen]
  cases k2 : (l.b == k.b)
  · simp [Sem.run_bind, q0, q1, e1, k1, k2, Result.andThen]
  by_cases k3 : l.c = k.c
  · cases k4 : (l.d == k.d)
    · simp [Sem.run_bind, q0, q1, q2, q3, hc, e1, e2, k1, k2, k3, k4, Result.andThen]
    · simp [Sem.run_bind, q0, q1, q2, q3, hc, e1, e2, k1, k2, k3, k4, Result.andThen]
  · have k3' : (l.c == k.c) = false := beq_eq_false_iff_ne.2 k3
    simp [Sem.run_bind, q0, q1, q3, hc, e1, k1, k2, k3, k3', Result.andThen]
/-- a line's cell, read where it lies in a block of its own -/
theorem loadVar_cell (l : Ln) (w : World) (B : Nat) (h : Blk w B (lnA l) 33) : (loadVar 31 ⟨B, 2, none⟩).run Try.prog w = .ok (.agg (cellA l.c)) w := by
  have := run_loadVar_mid (P := Try.prog) w B 2 31 (cellA l.c).toList (.array 128 5) (fun j v hv => by
    have hj : j < 128 := by
      have := (List.getElem?_eq_some_iff.1 hv).1
      rw [Array.length_toList, cellA_size] at this
      exact this
    rw [Array.getElem?_toList, cellA_at _ j hj] at hv
    rw [← hv]
    refine h.cell ((lnA_at l (2 + j) (by omega)).trans (congrArg some ?_))
    unfold lnE cellE
    rw [if_neg (by omega), if_neg (by omega)]
    by_cases h0 : j = 0
    · subst h0; rfl
    · rw [if_neg (by omega), if_neg (by omega), if_neg h0]) Try.underlying31 rfl (by rw [Array.length_toList, cellA_size]; kernel_rfl)
  exact this
end Go.Proofs.Ytheilnaommcjjaa
