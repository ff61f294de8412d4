/-
  Write: no such sector; the power gone; written.
-/
import Derived.Test.YthfhilinajemhaaRaise
namespace Go.Proofs.Ythfhilinajemhaa
open Go.RowKit
open Go.Maps (Keyed)
set_option linter.unusedVariables false
section
variable {w : World} {p : Nat} {ar dn : Bool} {lf st : Int} {sv mv cv : Value}
theorem write_nil (i : Int) (c : Array Value) (hc : c.size = 128) (w : World) : Calls Try.prog 18 #[.pointer none, .int .i64 i, .agg c] w fun e w' => e = .returned (errP 1) ∧ Below w.heap.size w w' := by
  have hb : Below w.heap.size w (w.alloc (.cells c 45)) := (Below.refl _ _).alloc (Nat.le_refl _) _
  go_enter Try.func18, Try.ntmps18
  go_wp2_with fail
  refine (has_nil i _).mono ?_
  rintro e w' ⟨rfl, rfl⟩
  go_wp2
  go_ret
  exact ⟨rfl, hb⟩
theorem write_none {A : Option Addr} {n z : Nat} (i : Int) (c : Array Value) (hc : c.size = 128) (hi : ¬ (0 ≤ i ∧ i < n)) (h : Blk w p (plA ar lf dn (.slice A n z) mv cv st) 90) : Calls Try.prog 18 #[.pointer (some ⟨p, 0, none⟩), .int .i64 i, .agg c] w fun e w' => e = .returned (errP 1) ∧ Below w.heap.size w w' := by
  have hb : Below w.heap.size w (w.alloc (.cells c 45)) := (Below.refl _ _).alloc (Nat.le_refl _) _
  have C := has_any i (h.alloc (.cells c 45))
  rw [decide_eq_false hi] at C
  have C := Lib.hid C
  clear hi h
  go_enter Try.func18, Try.ntmps18
  go_wp2_with fail
  refine C.out.mono ?_
  rintro e w' ⟨rfl, rfl⟩
  go_wp2
  go_ret
  exact ⟨rfl, hb⟩
theorem write_down {A : Option Addr} {n z : Nat} (i : Int) (c : Array Value) (hc : c.size = 128) (hi : 0 ≤ i ∧ i < n) (h : Blk w p (plA ar lf dn (.slice A n z) mv cv st) 90) (hd : dn = true ∨ (ar = true ∧ lf = 0)) : Calls Try.prog 18 #[.pointer (some ⟨p, 0, none⟩), .int .i64 i, .agg c] w fun e w' => e = .returned (errP 5) ∧ Blk w' p (plA ar lf true (.slice A n z) mv cv st) 90 ∧ Fr (fun k => k = p) w w' := by
  have hb : Fr (fun k => k = p) w (w.alloc (.cells c 45)) := Fr.of_below ((Below.refl _ _).alloc (Nat.le_refl _) _)
  have C := has_any i (h.alloc (.cells c 45))
  rw [decide_eq_true hi] at C
  have C := Lib.hid C
  have D := Lib.hid (step_no (h.alloc (.cells c 45)) hd)
  have HB := Lib.hid hb
  clear hi h hd hb
  go_enter Try.func18, Try.ntmps18
  go_wp2_with fail
  generalize w.alloc (.cells c 45) = W at *
  refine C.out.mono ?_
  rintro e w' ⟨rfl, rfl⟩
  go_wp2_with fail
  refine D.out.mono ?_
  rintro e w2 ⟨rfl, hb, hf⟩
  unfold errP
  have Hb := Lib.hid hb
  have Hf := Lib.hid (HB.out.trans hf (fun i hi => Or.inl hi))
  clear hb hf
  go_wp2
  go_ret
  exact ⟨rfl, Hb.out, Hf.out⟩
end
end Go.Proofs.Ythfhilinajemhaa
