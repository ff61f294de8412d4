/-
  New: a disk of noughts.
-/
import Derived.Test.YthfhilinajemhaaRaise
import Derived.Laws.MakeOwn
namespace Go.Proofs.Ythfhilinajemhaa
open Go.RowKit
open Go.Maps (Keyed)
set_option linter.unusedVariables false
theorem new_no (n k : Int) (h : n < 1 ∨ 2048 < n ∨ k < 1 ∨ 16 < k) (w : World) : Calls Try.prog 12 #[.int .i64 n, .int .i64 k] w fun e w' => e = .returned (.tuple #[.pointer none, errP 1]) ∧ w' = w := by
  unfold errP
  by_cases h1 : n < 1
  · go_enter Try.func12, Try.ntmps12
    go_wp2
    go_ret2
    exact ⟨rfl, rfl⟩
  by_cases h2 : 2048 < n
  · go_enter Try.func12, Try.ntmps12
    go_wp2
    go_ret2
    exact ⟨rfl, rfl⟩
  by_cases h3 : k < 1
  · go_enter Try.func12, Try.ntmps12
    go_wp2
    go_ret2
    exact ⟨rfl, rfl⟩
  have h4 : 16 < k := by omega
  clear h
  go_enter Try.func12, Try.ntmps12
  go_wp2
  go_ret2
  exact ⟨rfl, rfl⟩
/-- n cells of noughts, flat -/
def zeroS (n : Nat) : Array Value := madeCells (Array.replicate 128 (.int .u8 0)) (n * 128)
def zeroK (k : Nat) : Array Value := madeCells #[.int .i64 0] k
theorem make_S (n : Nat) (h1 : 1 ≤ n) (h : n ≤ 2048) (w : World) : (Instr.makeSlice 74 (.int .i64 n) (.int .i64 n)).run Try.prog w = .ok (.slice (some ⟨w.heap.size, 0, none⟩) n n) (w.alloc (.cells (zeroS n) 45)) := by
  obtain ⟨i, hi, hz, hs, hb⟩ : ∃ i, Try.prog.info? 45 = some i ∧ i.zero = some (.agg (Array.replicate 128 (.int .u8 0))) ∧ i.size = 128 ∧ i.bytes = 128 := by
    refine ⟨(Try.prog.info? 45).get!, by kernel_rfl, by kernel_rfl, by kernel_rfl, by kernel_rfl⟩
  have := run_makeSlice w 74 45 i _ Try.underlying74 hi hz .i64 .i64 (n : Int) (n : Int) (by omega) (Int.le_refl _) (by rw [hs]; omega) (by rw [hb]; omega) (by omega)
  rw [hs] at this
  exact this
theorem make_K (n : Nat) (h1 : 1 ≤ n) (h : n ≤ 16) (w : World) : (Instr.makeSlice 27 (.int .i64 n) (.int .i64 n)).run Try.prog w = .ok (.slice (some ⟨w.heap.size, 0, none⟩) n n) (w.alloc (.cells (zeroK n) 3)) := by
  obtain ⟨i, hi, hz, hs, hb⟩ : ∃ i, Try.prog.info? 3 = some i ∧ i.zero = some (.int .i64 0) ∧ i.size = 1 ∧ i.bytes = 8 := by
    refine ⟨(Try.prog.info? 3).get!, by kernel_rfl, by kernel_rfl, by kernel_rfl, by kernel_rfl⟩
  have := run_makeSlice w 27 3 i _ Try.underlying27 hi hz .i64 .i64 (n : Int) (n : Int) (by omega) (Int.le_refl _) (by rw [hs]; omega) (by rw [hb]; omega) (by omega)
  rw [hs, Nat.mul_one] at this
  exact this
theorem blk_new' {W : World} {vs : Array Value} {t : TypeId} {B : Nat} (h : B = W.heap.size) : Blk (W.alloc (.cells vs t)) B vs t := by
  rw [h]; exact Blk.new W vs t
theorem heap_al (W : World) (o : Obj) (k : Nat) : (W.alloc o).heap[k]? = if k = W.heap.size then some o else W.heap[k]? := by
  show (W.heap.push o)[k]? = _
  rw [Array.getElem?_push]
theorem heap_dr (W : World) (k : Nat) : W.drew.heap[k]? = W.heap[k]? := rfl
theorem map_new' {P : Program} {k : TypeId} {W : World} {B : Nat} (h : B = W.heap.size) : MapF P k (W.alloc (.map #[] 0)) B (fun _ => none) := by
  rw [h]; exact MapF.made W
set_option maxHeartbeats 2000000 in
theorem new_any (n k : Nat) (hn : 1 ≤ n ∧ n ≤ 2048) (hk : 1 ≤ k ∧ k ≤ 16) (w : World) : Calls Try.prog 12 #[.int .i64 n, .int .i64 k] w fun e w' => ∃ p g m gc, e = .returned (.tuple #[.pointer (some ⟨p, 0, none⟩), .nilIface]) ∧
    Blk w' p (plA false 0 false (.slice (some ⟨g, 0, none⟩) n n) (.map (some m)) (.slice (some ⟨gc, 0, none⟩) k k) 0) 90 ∧ Blk w' g (zeroS n) 45 ∧ MapF Try.prog 3 w' m (fun _ => none) ∧ Blk w' gc (zeroK k) 3 ∧ Below w.heap.size w w' ∧ w.heap.size ≤ p ∧ w.heap.size ≤ g ∧ w.heap.size ≤ m ∧ w.heap.size ≤ gc := by
  have hmm := @run_makeMap Try.prog
  have hS := make_S n hn.1 hn.2
  have hK := make_K k hk.1 hk.2
  have i1 : (1 : Int) ≤ (n : Int) := by omega
  have i2 : (n : Int) ≤ 2048 := by omega
  have i3 : (1 : Int) ≤ (k : Int) := by omega
  have i4 : (k : Int) ≤ 16 := by omega
  clear hn hk
  generalize zeroS n = SZ at *
  generalize zeroK k = KZ at *
  go_enter Try.func12, Try.ntmps12
  go_wp2
  go_region
  all_goals
    go_wp2
    go_ret2
    refine ⟨_, _, _, _, rfl, Blk.drew (blk_new' (by simp)), ?_, ?_, ?_, ?_, ?_, ?_, ?_, ?_⟩
    · show (World.heap _)[_]? = _; rw [heap_dr]; simp only [heap_al, World.size_alloc]; repeat (first | rw [if_pos trivial] | rw [if_pos (by omega)] | rw [if_neg (by omega)])
    · refine ⟨#[], 0, ?_, ⟨by simp, by simp⟩, by simp, by simp, by simp⟩; rw [heap_dr]; simp only [heap_al, World.size_alloc]; repeat (first | rw [if_pos trivial] | rw [if_pos (by omega)] | rw [if_neg (by omega)])
    · show (World.heap _)[_]? = _; rw [heap_dr]; simp only [heap_al, World.size_alloc]; repeat (first | rw [if_pos trivial] | rw [if_pos (by omega)] | rw [if_neg (by omega)])
    · refine Below.drew (Below.alloc (Below.alloc (Below.alloc (Below.alloc (Below.refl _ _) ?_ _) ?_ _) ?_ _) ?_ _) <;> simp <;> omega
    all_goals omega
end Go.Proofs.Ythfhilinajemhaa
