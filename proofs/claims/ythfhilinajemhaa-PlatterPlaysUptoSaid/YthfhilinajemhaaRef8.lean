/-
  The document's disk: a sector read; a crash.
-/
import Derived.Test.YthfhilinajemhaaRef7
namespace Go.Proofs.Ythfhilinajemhaa
open Go.RowKit
open Go.Maps (Keyed int_keyed)
set_option linter.unusedVariables false

section
variable {w w' : World} {r gs gn gk B : Nat} {v : Nat → Value} {d : Dk} {sn : Nat → List (Array Value)} {lf : Int}
set_option maxRecDepth 20000 in
theorem rread_none (h : RSt w r gs gn gk B v d sn lf) (i : Int) (hi : ¬ (0 ≤ i ∧ i < d.n)) : Calls Try.prog 39 #[.pointer (some ⟨r, 0, none⟩), .int .i64 i] w (ReadV (.tuple #[.agg zc, .int .i64 1]) w) := by
  have hz := zc_zero
  have hs := zc_size
  have hB := Blk.new w zc 45
  have hb : Below w.heap.size w ((w.alloc (.cells zc 45)).setRow w.heap.size zc) := below_setRow ((Below.refl _ _).alloc (Nat.le_refl _) _) (Nat.le_refl _) _
  have h2 := h.below ((Below.refl w.heap.size w).alloc (Nat.le_refl _) (.cells zc 45))
  have y0 := rf0 h2.hr
  clear h h2
  by_cases h1 : i < 0
  · go_enter Try.func39, Try.ntmps39
    go_wp2_with (first | (refine buildW rfl 45 #[] rfl #[] (by simp) (.agg zc) (build_zc _) ?_) | (refine store_cW rfl _ _ rfl w.heap.size zc rfl rfl zc hB zc_size zc_size zc_all ?_) | fail)
    exact bodyPost_ret (c_results _ 4 5 rfl _ _ w.heap.size zc zc_size _ rfl rfl (hB.setRow zc)) rfl ⟨rfl, hb⟩
  · have h3 : (d.n : Int) ≤ i := by omega
    have h2 : ¬ i < (d.n : Int) := by omega
    clear hi
    go_enter Try.func39, Try.ntmps39
    go_wp2_with (first | (refine buildW rfl 45 #[] rfl #[] (by simp) (.agg zc) (build_zc _) ?_) | (refine store_cW rfl _ _ rfl w.heap.size zc rfl rfl zc hB zc_size zc_size zc_all ?_) | fail)
    exact bodyPost_ret (c_results _ 4 5 rfl _ _ w.heap.size zc zc_size _ rfl rfl (hB.setRow zc)) rfl ⟨rfl, hb⟩
set_option maxRecDepth 20000 in
theorem rread_down (h : RSt w r gs gn gk B v d sn lf) (i : Nat) (hi : i < d.n) (hd : d.dn = true) : Calls Try.prog 39 #[.pointer (some ⟨r, 0, none⟩), .int .i64 i] w (ReadV (.tuple #[.agg zc, .int .i64 5]) w) := by
  have hz := zc_zero
  have hs := zc_size
  have hB := Blk.new w zc 45
  have hb : Below w.heap.size w ((w.alloc (.cells zc 45)).setRow w.heap.size zc) := below_setRow ((Below.refl _ _).alloc (Nat.le_refl _) _) (Nat.le_refl _) _
  have h2 := h.below ((Below.refl w.heap.size w).alloc (Nat.le_refl _) (.cells zc 45))
  have y0 := rf0 h2.hr
  have y6 := rf6 h2.hr
  rw [hd] at y6
  have i1 : (i : Int) < (d.n : Int) := by omega
  have i2 : (0 : Int) ≤ (i : Int) := by omega
  clear h h2 hd
  go_enter Try.func39, Try.ntmps39
  go_wp2_with (first | (refine buildW rfl 45 #[] rfl #[] (by simp) (.agg zc) (build_zc _) ?_) | (refine store_cW rfl _ _ rfl w.heap.size zc rfl rfl zc hB zc_size zc_size zc_all ?_) | fail)
  exact bodyPost_ret (c_results _ 4 5 rfl _ _ w.heap.size zc zc_size _ rfl rfl (hB.setRow zc)) rfl ⟨rfl, hb⟩
set_option maxRecDepth 20000 in
theorem rread_yes (h : RSt w r gs gn gk B v d sn lf) (i : Nat) (hi : i < d.n) (hd : d.dn = false) (hst : d.st ≤ 100000) : Calls Try.prog 39 #[.pointer (some ⟨r, 0, none⟩), .int .i64 i] w (ReadV (.tuple #[.agg (d.now i), .int .i64 0]) w) := by
  have hz := zc_zero
  have hs := zc_size
  have hB := Blk.new w zc 45
  have hb1 : Below w.heap.size w (w.alloc (.cells zc 45)) := (Below.refl _ _).alloc (Nat.le_refl _) _
  have h2 := h.below hb1
  have hc := Dk.now_cel h.ok i
  have HN := Lib.hid (rnow_any h2 i hi hst)
  have y0 := rf0 h2.hr
  have y6 := rf6 h2.hr
  rw [hd] at y6
  have i1 : (i : Int) < (d.n : Int) := by omega
  have i2 : (0 : Int) ≤ (i : Int) := by omega
  have HB := Lib.hid hb1
  have HX := Lib.hid hB
  have HC := Lib.hid hc
  have ec : Hid (d.now i = d.now i) := rfl
  generalize d.now i = c at *
  clear h h2 hd hb1 hB hc ec
  go_enter Try.func39, Try.ntmps39
  go_wp2_with (first
    | (go_at_call 54; refine HN.out.mono ?_; rintro e W2 ⟨rfl, B2⟩; have b2 := Lib.hid (HB.out.trans (B2.mono HB.out.size)); have X2 := Lib.hid (HX.out.below B2 HX.out.lt); clear B2)
    | (refine store_cW rfl _ _ rfl w.heap.size c rfl rfl zc X2.out zc_size HC.out.size HC.out.all ?_)
    | fail)
  exact bodyPost_ret (c_results _ 4 5 rfl _ _ w.heap.size c HC.out.size _ rfl rfl (X2.out.setRow c)) rfl ⟨rfl, below_setRow b2.out (Nat.le_refl _) _⟩
end
end Go.Proofs.Ythfhilinajemhaa
