/-
  Read.
-/
import Derived.Test.YthfhilinajemhaaRow
namespace Go.Proofs.Ythfhilinajemhaa
open Go.RowKit
open Go.Maps (Keyed int_keyed)
set_option linter.unusedVariables false
theorem c_results (fn : Func) (p u : Tmp) (h : fn.results = #[.cell p 45, .tmp u]) (tmps : Array Value) (w : World) (B : Nat) (c : Array Value) (hc : c.size = 128) (r : Value) (hp : tmps.getD p undef = .pointer (some ⟨B, 0, none⟩)) (hu : tmps.getD u undef = r) (hB : Blk w B c 45) :
    (results fn tmps).run Try.prog w = .ok (.tuple #[.agg c, r]) w := by
  rw [results_cell_tmp h, hp, hu]
  simp [asAddr, load_c c hc w B hB, Result.andThen]
theorem zc_all : zc.all (·.oneCell') = true := by kernel_rfl
set_option maxRecDepth 20000 in
theorem read_nil (i : Int) (w : World) : Calls Try.prog 20 #[.pointer none, .int .i64 i] w fun e w' => e = .returned (.tuple #[.agg zc, errP 1]) ∧ Below w.heap.size w w' := by
  have hz := zc_zero
  have hs := zc_size
  have hB := Blk.new w zc 45
  have hb : Below w.heap.size w ((w.alloc (.cells zc 45)).setRow w.heap.size zc) := below_setRow ((Below.refl _ _).alloc (Nat.le_refl _) _) (Nat.le_refl _) _
  go_enter Try.func20, Try.ntmps20
  go_wp2_with fail
  refine (has_nil i _).mono ?_
  rintro e w' ⟨rfl, rfl⟩
  go_wp2_with (first | (refine buildW rfl 45 #[] rfl #[] (by simp) (.agg zc) (build_zc _) ?_) | (refine store_cW rfl _ _ rfl w.heap.size zc rfl rfl zc hB zc_size zc_size zc_all ?_) | fail)
  exact bodyPost_ret (c_results _ 4 5 rfl _ _ w.heap.size zc zc_size _ rfl rfl (hB.setRow zc)) rfl ⟨rfl, hb⟩
section
variable {w : World} {p : Nat} {ar dn : Bool} {lf st : Int} {sv mv cv : Value}
set_option maxRecDepth 20000 in
theorem read_none {A : Option Addr} {n z : Nat} (i : Int) (hi : ¬ (0 ≤ i ∧ i < n)) (h : Blk w p (plA ar lf dn (.slice A n z) mv cv st) 90) : Calls Try.prog 20 #[.pointer (some ⟨p, 0, none⟩), .int .i64 i] w fun e w' => e = .returned (.tuple #[.agg zc, errP 1]) ∧ Below w.heap.size w w' := by
  have hz := zc_zero
  have hs := zc_size
  have hB := Blk.new w zc 45
  have hb : Below w.heap.size w ((w.alloc (.cells zc 45)).setRow w.heap.size zc) := below_setRow ((Below.refl _ _).alloc (Nat.le_refl _) _) (Nat.le_refl _) _
  have C0 := has_any i (h.alloc (.cells zc 45))
  rw [decide_eq_false hi] at C0
  have C := Lib.hid C0
  clear C0 hi h
  go_enter Try.func20, Try.ntmps20
  go_wp2_with fail
  refine C.out.mono ?_
  rintro e w' ⟨rfl, rfl⟩
  go_wp2_with (first | (refine buildW rfl 45 #[] rfl #[] (by simp) (.agg zc) (build_zc _) ?_) | (refine store_cW rfl _ _ rfl w.heap.size zc rfl rfl zc hB zc_size zc_size zc_all ?_) | fail)
  exact bodyPost_ret (c_results _ 4 5 rfl _ _ w.heap.size zc zc_size _ rfl rfl (hB.setRow zc)) rfl ⟨rfl, hb⟩
set_option maxRecDepth 20000 in
theorem read_down {A : Option Addr} {n z : Nat} (i : Int) (hi : 0 ≤ i ∧ i < n) (h : Blk w p (plA ar lf true (.slice A n z) mv cv st) 90) : Calls Try.prog 20 #[.pointer (some ⟨p, 0, none⟩), .int .i64 i] w fun e w' => e = .returned (.tuple #[.agg zc, errP 5]) ∧ Below w.heap.size w w' := by
  have hz := zc_zero
  have hs := zc_size
  have hB := Blk.new w zc 45
  have hb : Below w.heap.size w ((w.alloc (.cells zc 45)).setRow w.heap.size zc) := below_setRow ((Below.refl _ _).alloc (Nat.le_refl _) _) (Nat.le_refl _) _
  have h2 := h.alloc (.cells zc 45)
  have C0 := has_any i h2
  rw [decide_eq_true hi] at C0
  have C := Lib.hid C0
  have y2 := pl2 h2
  clear C0 hi h h2
  go_enter Try.func20, Try.ntmps20
  go_wp2_with fail
  refine C.out.mono ?_
  rintro e w' ⟨rfl, hw'⟩
  subst hw'
  go_wp2_with (first | (refine buildW rfl 45 #[] rfl #[] (by simp) (.agg zc) (build_zc _) ?_) | (refine store_cW rfl _ _ rfl w.heap.size zc rfl rfl zc hB zc_size zc_size zc_all ?_) | fail)
  exact bodyPost_ret (c_results _ 4 5 rfl _ _ w.heap.size zc zc_size _ rfl rfl (hB.setRow zc)) rfl ⟨rfl, hb⟩
end
end Go.Proofs.Ythfhilinajemhaa
