/-
  Read: an open sector.
-/
import Derived.Test.YthfhilinajemhaaRead
namespace Go.Proofs.Ythfhilinajemhaa
open Go.RowKit
open Go.Maps (Keyed int_keyed)
set_option linter.unusedVariables false
section
variable {w : World} {p m : Nat} {ar : Bool} {lf st : Int} {sv cv : Value}
set_option maxRecDepth 20000 in
theorem read_open {A : Option Addr} {n z : Nat} {f : Value → Option Value} (i : Int) (hi64 : ok64 i) (hi : 0 ≤ i ∧ i < n) (h : Blk w p (plA ar lf false (.slice A n z) (.map (some m)) cv st) 90) (hm : MapF Try.prog 3 w m f) (c : Array Value) (hc : c.size = 128) (hall : c.all (·.oneCell') = true) (hf : f (.int .i64 i) = some (.agg c)) :
    Calls Try.prog 20 #[.pointer (some ⟨p, 0, none⟩), .int .i64 i] w fun e w' => e = .returned (.tuple #[.agg c, .nilIface]) ∧ Below w.heap.size w w' := by
  have hz := zc_zero
  have hs := zc_size
  have hB := Blk.new w zc 45
  have hB2 : Blk ((w.alloc (.cells zc 45)).alloc (.cells zc 45)) (w.heap.size + 1) zc 45 := by simpa using Blk.new (w.alloc (.cells zc 45)) zc 45
  have hL := hB2.setRow c
  have hS := (hB.alloc (.cells zc 45)).setRow_other c (C := w.heap.size + 1) (by omega)
  have hb : Below w.heap.size w ((((w.alloc (.cells zc 45)).alloc (.cells zc 45)).setRow (w.heap.size + 1) c).setRow w.heap.size c) := below_setRow (below_setRow (((Below.refl _ _).alloc (Nat.le_refl _) _).alloc (by simp) _) (by omega) _) (Nat.le_refl _) _
  have h2 := h.alloc (.cells zc 45)
  have C0 := has_any i h2
  rw [decide_eq_true hi] at C0
  have C := Lib.hid C0
  have y2 := pl2 h2
  have y4 := pl4 h2
  obtain ⟨l, hl⟩ := key_int i hi64
  have hlk : (Instr.lookup 86 (.map (some m)) (.int .i64 i) true).run Try.prog (w.alloc (.cells zc 45)) = .ok (.tuple #[.agg c, .bool true]) (w.alloc (.cells zc 45)) := by
    have := (hm.alloc (.cells zc 45)).lookup_ok keyed3 Try.underlying86 (zc_zero _) hl
    rw [hf] at this
    exact this
  have HR := Lib.hid (hS.setRow c)
  clear C0 hi h h2 hl hf
  go_enter Try.func20, Try.ntmps20
  go_wp2_with fail
  refine C.out.mono ?_
  rintro e w' ⟨rfl, hw'⟩
  subst hw'
  go_wp2_with (first | (refine store_cW rfl _ _ rfl (w.heap.size + 1) c rfl rfl zc hB2 zc_size hc hall ?_) | (refine load_cW rfl _ rfl (w.heap.size + 1) rfl c hc hL ?_) | (refine store_cW rfl _ _ rfl w.heap.size c rfl rfl zc hS zc_size hc hall ?_) | fail)
  exact bodyPost_ret (c_results _ 4 5 rfl _ _ w.heap.size c hc _ rfl rfl HR.out) rfl ⟨rfl, hb⟩
end
end Go.Proofs.Ythfhilinajemhaa
