/-
  Rows of cells and blocks of 16 bytes ('keys') as numbers below 2^128: reading, writing, comparing them in the program's memory.
-/
import Derived.Test.YtlcfaejomblnjaaProg
import Derived.Test.YtlcfaejomblnjaaCells
import Derived.Test.YtlcfaejomblnjaaNums
import Derived.ChangeKeysEq
import Derived.Deep.MidRow
namespace Go.Proofs.Ytlcfaejomblnjaa
open Go.RowKit

/-! ### rows -/
def row (e : Nat → Value) (n : Nat) : Array Value := ((List.range n).map e).toArray
theorem row_size (e : Nat → Value) (n : Nat) : (row e n).size = n := by simp [row]
theorem row_at (e : Nat → Value) (n j : Nat) (h : j < n) : (row e n)[j]? = some (e j) := by simp [row, h]
theorem row_none (e : Nat → Value) (n j : Nat) (h : n ≤ j) : (row e n)[j]? = none := by simp [row, h]
theorem row_congr {e e' : Nat → Value} {n : Nat} (h : ∀ j, j < n → e j = e' j) : row e n = row e' n := by
  unfold row; congr 1; exact List.map_congr_left fun j hj => h j (List.mem_range.1 hj)
def upd (e : Nat → Value) (j : Nat) (v : Value) : Nat → Value := fun i => if i = j then v else e i
theorem row_set (e : Nat → Value) (n j : Nat) (v : Value) : (row e n).setIfInBounds j v = row (upd e j v) n := by
  apply Array.ext_getElem?
  intro i
  rw [Array.getElem?_setIfInBounds]
  by_cases hi : i < n
  · rw [row_at _ _ _ hi, row_at _ _ _ hi]
    by_cases hij : j = i
    · subst hij
      rw [if_pos rfl, if_pos (by rw [row_size]; exact hi)]; simp [upd]
    · rw [if_neg hij]; simp [upd, Ne.symm hij]
  · rw [row_none _ _ _ (by omega), row_none _ _ _ (by omega)]
    split
    · rw [if_neg (by rw [row_size]; omega)]
    · rfl
theorem row_all (e : Nat → Value) (n : Nat) (h : ∀ j, (e j).oneCell' = true) : (row e n).all (·.oneCell') = true := by
  refine Array.all_eq_true_iff_forall_mem.2 fun v hv => ?_
  simp only [row, List.mem_toArray, List.mem_map] at hv
  obtain ⟨j, _, rfl⟩ := hv
  exact h j

/-! ### numbers as rows of bytes -/
def kb (K j : Nat) : Nat := K / 256 ^ j % 256
theorem kb_lt (K j : Nat) : kb K j < 256 := Nat.mod_lt _ (by decide)
theorem kb_eq (K j : Nat) : kb K j = K / 2 ^ (8 * j) % 2 ^ 8 := by
  unfold kb; rw [show (256 : Nat) = 2 ^ 8 from rfl, ← Nat.pow_mul]
theorem kb_xor (a b j : Nat) : kb (a ^^^ b) j = kb a j ^^^ kb b j := by
  rw [kb_eq, kb_eq, kb_eq, Nums.div_xor, Nums.mod_xor]
/-- Two numbers with the same bytes are one. -/
theorem kb_ext : ∀ (n a b : Nat), a < 256 ^ n → b < 256 ^ n → (∀ j, j < n → kb a j = kb b j) → a = b
  | 0, a, b, ha, hb, _ => by simp at ha hb; omega
  | n + 1, a, b, ha, hb, h => by
    have h0 := h 0 (by omega)
    simp [kb] at h0
    have e : a / 256 = b / 256 := kb_ext n _ _ (by rw [Nat.pow_succ] at ha; omega) (by rw [Nat.pow_succ] at hb; omega) (fun j hj => by
      have := h (j + 1) (by omega)
      simp only [kb, Nat.pow_succ'] at this ⊢
      rw [Nat.div_div_eq_div_mul, Nat.div_div_eq_div_mul]; exact this)
    omega
/-- Bytes make a number. -/
theorem of_bytes : ∀ (n : Nat) (f : Nat → Nat), (∀ j, j < n → f j < 256) → ∃ K, K < 256 ^ n ∧ ∀ j, j < n → kb K j = f j
  | 0, _, _ => ⟨0, by decide, fun j hj => by omega⟩
  | n + 1, f, h => by
    obtain ⟨K, hK, hj⟩ := of_bytes n (fun j => f (j + 1)) (fun j hj => h (j + 1) (by omega))
    have h0 := h 0 (by omega)
    refine ⟨K * 256 + f 0, by rw [Nat.pow_succ]; omega, fun j hlt => ?_⟩
    cases j with
    | zero => simp only [kb, Nat.pow_zero, Nat.div_one]; omega
    | succ j =>
      have e : (K * 256 + f 0) / 256 = K := by omega
      have := hj j (by omega)
      simp only [kb, Nat.pow_succ'] at this ⊢
      rw [← Nat.div_div_eq_div_mul, e]; exact this

def byteV (K j : Nat) : Value := .int .u8 (kb K j : Nat)
def keyA (K : Nat) : Array Value := row (byteV K) 16
theorem keyA_size (K : Nat) : (keyA K).size = 16 := row_size _ _
theorem keyA_at (K j : Nat) (h : j < 16) : (keyA K)[j]? = some (.int .u8 (kb K j : Nat)) := row_at _ _ _ h
theorem zero16 : (#[.int .u8 0, .int .u8 0, .int .u8 0, .int .u8 0, .int .u8 0, .int .u8 0, .int .u8 0, .int .u8 0, .int .u8 0, .int .u8 0, .int .u8 0, .int .u8 0, .int .u8 0, .int .u8 0, .int .u8 0, .int .u8 0] : Array Value) = keyA 0 := by simp [keyA, row, byteV, kb, List.range_succ]
theorem keyA_all (K : Nat) : (keyA K).all (·.oneCell') = true := row_all _ _ fun _ => rfl
theorem keyA_info (K : Nat) : (Try.prog.info? 26).map (·.size) = some (keyA K).size := by
  rw [keyA_size]; kernel_rfl
theorem keyA_of (e : Nat → Value) (K : Nat) (h : ∀ j, j < 16 → e j = .int .u8 (kb K j : Nat)) : row e 16 = keyA K := row_congr h

/-! ### loads, stores, comparisons, indexes -/
section
variable {ops : Array Oper} {rest : List Oper} {o : Oper} {a : Act} {w : World} {Q : Exit → Act → World → Prop}
theorem load_key (hgd : o.guard = none) (x : Operand) (ho : o.op = .load 26 x) (B : Nat) (hx : a.eval x = .pointer (some ⟨B, 0, none⟩)) (K : Nat) (hB : Blk w B (keyA K) 26)
    (h : wpList Try.prog ops Q rest (a.put o.dst (.agg (keyA K))) w) : wpList Try.prog ops Q (o :: rest) a w :=
  wpList_load_row hgd 26 x ho B hx 26 (keyA K) (0, 0) _ hB Try.underlying26 rfl (keyA_info K) h
theorem store_key (hgd : o.guard = none) (x y : Operand) (ho : o.op = .store 26 x y) (B : Nat) (K : Nat) (hx : a.eval x = .pointer (some ⟨B, 0, none⟩)) (hy : a.eval y = .agg (keyA K))
    (old : Array Value) (hB : Blk w B old 26) (hold : old.size = 16)
    (h : wpList Try.prog ops Q rest (a.put o.dst undef) (w.setRow B (keyA K))) : wpList Try.prog ops Q (o :: rest) a w :=
  wpList_store_row hgd 26 x y ho B (keyA K) hx hy 26 old hB (keyA_info K) (by rw [hold, keyA_size]) (keyA_all K) h
end

theorem quiet_load_key {o : Oper} {a : Act} {C : World → Prop} {K : Act → Prop} (x : Operand) (ho : o.op = .load 26 x) (B : Nat) (hx : a.eval x = .pointer (some ⟨B, 0, none⟩)) (k : Nat) (hB : ∀ w, C w → Blk w B (keyA k) 26)
    (hk : K (a.put o.dst (.agg (keyA k)))) : o.quiet Try.prog a C K :=
  quiet_value (fun w hw => by
    unfold execOp
    simp only [ho, hx, Instr.loadAt, Instr.sureAddr, Sem.run_bind, Sem.run_pure, Result.andThen_ok, run_loadVar_row w B 26 26 (keyA k) (0, 0) _ (hB w hw) Try.underlying26 rfl (keyA_info k)]) hk

theorem Blk.setRow {w : World} {B : Nat} {vs : Array Value} {t : TypeId} (h : Blk w B vs t) (cs : Array Value) : Blk (w.setRow B cs) B cs t := setRow_heap w B vs cs t _ h
theorem Blk.setRow_other {w : World} {B C : Nat} {vs : Array Value} {t : TypeId} (h : Blk w B vs t) (cs : Array Value) (hne : B ≠ C) : Blk (w.setRow C cs) B vs t := by
  unfold Blk at h ⊢; rw [Go.setRow_other w C B cs hne]; exact h
theorem below_setRow {B : Nat} {a w : World} (h : Below B a w) {g : Nat} (hg : B ≤ g) (cs : Array Value) : Below B a (w.setRow g cs) :=
  h.trans ⟨rfl, rfl, rfl, by rw [size_setRow]; exact Nat.le_refl _, fun k hk => Go.setRow_other w g k cs (by omega)⟩

theorem key_results (fn : Func) (p : Tmp) (h : fn.results = #[.cell p 26]) (tmps : Array Value) (w : World) (B K : Nat) (hp : tmps.getD p undef = .pointer (some ⟨B, 0, none⟩)) (hB : Blk w B (keyA K) 26) :
    (results fn tmps).run Try.prog w = .ok (.agg (keyA K)) w :=
  results_cell_row h tmps w B 26 (keyA K) (0, 0) _ hp hB Try.underlying26 rfl (keyA_info K)

theorem key_index (K n : Nat) (hn : n < 16) (w : World) : (Instr.index 26 (.agg (keyA K)) (.int .i64 n)).run Try.prog w = .ok (.int .u8 (kb K n : Nat)) w := by
  have h1 : Try.prog.underlying 26 = some (.array 16 5) := Try.underlying26
  have h2 : Try.prog.underlying 5 = some (.int .u8) := Try.underlying5
  have hs : Try.prog.info? 5 = some (Try.prog.info? 5).get! := by kernel_rfl
  have hs2 : (Try.prog.info? 5).get!.size = 1 := by kernel_rfl
  have hb : (0 : Int) ≤ (n : Int) ∧ (n : Int) < ((16 : Nat) : Int) := by omega
  simp only [Instr.index, asIntOf, Sem.run_bind, Sem.run_pure, Result.andThen_ok, run_underlying h1, if_pos hb, sizeOf, typeInfo, run_program]
  rw [hs]
  simp only [Sem.run_bind, Sem.run_pure, Result.andThen_ok, hs2, part, isAgg, run_underlying h2, Nat.mul_one, Int.toNat_natCast, keyA_at _ _ hn]
  rfl

theorem run_eqItems_bytes (d : Nat) (f g : Nat → Nat) (w : World) : ∀ (is : List Nat), (∀ i ∈ is, i < 16) →
    (Op.eqItems (d + 1) 5 1 (row (fun j => .int .u8 (f j : Nat)) 16) (row (fun j => .int .u8 (g j : Nat)) 16) is).run Try.prog w = .ok (is.all fun i => f i == g i) w
  | [], _ => by simp [Op.eqItems]
  | i :: is, h => by
    have h2 : Try.prog.underlying 5 = some (.int .u8) := Try.underlying5
    have hi := h i (by simp)
    have ih := run_eqItems_bytes d f g w is (fun j hj => h j (by simp [hj]))
    have p1 : ∀ e : Nat → Value, (part 5 (row e 16) (i * 1)).run Try.prog w = .ok (e i) w := fun e => by
      simp only [part, isAgg, Sem.run_bind, run_underlying h2, Result.andThen_ok, Sem.run_pure, Nat.mul_one, row_at _ _ _ hi]
      rfl
    simp only [Op.eqItems, Sem.run_bind, p1, Result.andThen_ok, run_equalIn_int w d 5 .u8 .u8 _ _ h2, List.all_cons]
    have e : (((f i : Nat) : Int) == ((g i : Nat) : Int)) = (f i == g i) := by
      rw [Bool.eq_iff_iff, beq_iff_eq, beq_iff_eq]; omega
    rw [e]
    cases hfg : (f i == g i)
    · simp
    · simpa using ih

theorem key_eqs (a b : Nat) (ha : a < 2 ^ 128) (hb : b < 2 ^ 128) (w : World) : (Op.equalIn 10000 26 (.agg (keyA a)) (.agg (keyA b))).run Try.prog w = .ok (decide (a = b)) w := by
  have h1 : Try.prog.underlying 26 = some (.array 16 5) := Try.underlying26
  have hs : Try.prog.info? 5 = some (Try.prog.info? 5).get! := by kernel_rfl
  have hc : Try.prog.cellsOf 5 = 1 := by kernel_rfl
  rw [run_equalIn_array w 9999 (keyA a) (keyA b) h1 hs, hc]
  have := run_eqItems_bytes 9998 (kb a) (kb b) w (List.range 16) (fun i hi => List.mem_range.1 hi)
  rw [show keyA a = row (fun j => .int .u8 (kb a j : Nat)) 16 from rfl, show keyA b = row (fun j => .int .u8 (kb b j : Nat)) 16 from rfl, this]
  congr 1
  rw [Bool.eq_iff_iff, List.all_eq_true, decide_eq_true_iff]
  constructor
  · intro h
    exact kb_ext 16 a b (by rw [show (256 : Nat) ^ 16 = 2 ^ 128 from by decide]; exact ha) (by rw [show (256 : Nat) ^ 16 = 2 ^ 128 from by decide]; exact hb) (fun j hj => by simpa using h j (List.mem_range.2 hj))
  · rintro rfl j _; simp

end Go.Proofs.Ytlcfaejomblnjaa
