/-
  The document's disk: made.
-/
import Derived.Test.YthfhilinajemhaaRef1
namespace Go.Proofs.Ythfhilinajemhaa
open Go.RowKit
open Go.Maps (Keyed int_keyed)
set_option linter.unusedVariables false

theorem rnew_no (n k : Int) (h : n < 1 ∨ 2048 < n ∨ k < 1 ∨ 16 < k) (w : World) : Calls Try.prog 27 #[.int .i64 n, .int .i64 k] w fun e w' => e = .returned (.tuple #[.pointer none, .int .i64 1]) ∧ w' = w := by
  by_cases h1 : n < 1
  · go_enter Try.func27, Try.ntmps27
    go_wp2
    go_ret2
    exact ⟨rfl, rfl⟩
  by_cases h2 : 2048 < n
  · go_enter Try.func27, Try.ntmps27
    go_wp2
    go_ret2
    exact ⟨rfl, rfl⟩
  by_cases h3 : k < 1
  · go_enter Try.func27, Try.ntmps27
    go_wp2
    go_ret2
    exact ⟨rfl, rfl⟩
  have h4 : 16 < k := by omega
  clear h
  go_enter Try.func27, Try.ntmps27
  go_wp2
  go_ret2
  exact ⟨rfl, rfl⟩
def zeroN (n : Nat) : Array Value := madeCells #[.slice none 0 0] n
theorem zeroN_row (n : Nat) : zeroN n = row (fun _ => .slice none 0 0) n := by
  apply Array.ext_getElem?
  intro i
  unfold zeroN madeCells
  by_cases hi : i < n
  · rw [row_at _ _ _ hi, Array.getElem?_map, Array.getElem?_eq_getElem (by simpa using hi)]; simp [Nat.mod_one]
  · rw [row_none _ _ _ (by omega)]; simp; omega
theorem make_N (n : Nat) (h1 : 1 ≤ n) (h : n ≤ 2048) (w : World) : (Instr.makeSlice 75 (.int .i64 n) (.int .i64 n)).run Try.prog w = .ok (.slice (some ⟨w.heap.size, 0, none⟩) n n) (w.alloc (.cells (zeroN n) 74)) := by
  obtain ⟨i, hi, hz, hs, hb⟩ : ∃ i, Try.prog.info? 74 = some i ∧ i.zero = some (.slice none 0 0) ∧ i.size = 1 ∧ i.bytes = 24 := by
    refine ⟨(Try.prog.info? 74).get!, by kernel_rfl, by kernel_rfl, by kernel_rfl, by kernel_rfl⟩
  have := run_makeSlice w 75 74 i _ Try.underlying75 hi hz .i64 .i64 (n : Int) (n : Int) (by omega) (Int.le_refl _) (by rw [hs]; omega) (by rw [hb]; omega) (by omega)
  rw [hs, Nat.mul_one] at this
  exact this
def RNewO (w : World) (n k : Nat) (e : Ending) (w' : World) : Prop := ∃ r gs gn gk, e = .returned (.tuple #[.pointer (some ⟨r, 0, none⟩), .int .i64 0]) ∧
    Blk w' r (rfA (.slice (some ⟨gs, 0, none⟩) n n) (.slice (some ⟨gn, 0, none⟩) n n) (.slice (some ⟨gk, 0, none⟩) k k) 0 false 0 false) 77 ∧ Blk w' gs (zeroS n) 45 ∧ Blk w' gn (zeroN n) 74 ∧ Blk w' gk (zeroK k) 3 ∧ Below w.heap.size w w' ∧ w.heap.size ≤ r ∧ w.heap.size ≤ gs ∧ w.heap.size ≤ gn ∧ w.heap.size ≤ gk
set_option maxHeartbeats 2000000 in
theorem rnew_any (n k : Nat) (hn : 1 ≤ n ∧ n ≤ 2048) (hk : 1 ≤ k ∧ k ≤ 16) (w : World) : Calls Try.prog 27 #[.int .i64 n, .int .i64 k] w (RNewO w n k) := by
  have hS := make_S n hn.1 hn.2
  have hK := make_K k hk.1 hk.2
  have hN := make_N n hn.1 hn.2
  have i1 : (1 : Int) ≤ (n : Int) := by omega
  have i2 : (n : Int) ≤ 2048 := by omega
  have i3 : (1 : Int) ≤ (k : Int) := by omega
  have i4 : (k : Int) ≤ 16 := by omega
  clear hn hk
  unfold RNewO
  generalize zeroS n = SZ at *
  generalize zeroK k = KZ at *
  generalize zeroN n = NZ at *
  go_enter Try.func27, Try.ntmps27
  go_wp2
  go_region
  all_goals
    go_wp2
    go_ret2
    refine ⟨_, _, _, _, rfl, Blk.drew (blk_new' (by simp)), ?_, ?_, ?_, ?_, ?_, ?_, ?_, ?_⟩
    · show (World.heap _)[_]? = _; rw [heap_dr]; simp only [heap_al, World.size_alloc]; repeat (first | rw [if_pos trivial] | rw [if_pos (by omega)] | rw [if_neg (by omega)])
    · show (World.heap _)[_]? = _; rw [heap_dr]; simp only [heap_al, World.size_alloc]; repeat (first | rw [if_pos trivial] | rw [if_pos (by omega)] | rw [if_neg (by omega)])
    · show (World.heap _)[_]? = _; rw [heap_dr]; simp only [heap_al, World.size_alloc]; repeat (first | rw [if_pos trivial] | rw [if_pos (by omega)] | rw [if_neg (by omega)])
    · refine Below.drew (Below.alloc (Below.alloc (Below.alloc (Below.alloc (Below.refl _ _) ?_ _) ?_ _) ?_ _) ?_ _) <;> simp <;> omega
    all_goals omega
end Go.Proofs.Ythfhilinajemhaa
