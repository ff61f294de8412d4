/-
  The chapter's example ('alive') holds.
-/
import Derived.Test.YthfhilinajemhaaEqG
namespace Go.Proofs.Ythfhilinajemhaa
open Go.RowKit
open Go.Maps (Keyed int_keyed)
set_option linter.unusedVariables false
def dA1 : Dk := (d0 2 1).stepped.put 0 (one 1)
def dA2 : Dk := dA1.stepped.settled (inR 0 1)
def dA3 : Dk := dA2.stepped.put 0 (one 2)
def dA4 : Dk := dA3.stepped.put 1 (one 3)
def dA5 : Dk := dA4.crashed [1]
set_option maxHeartbeats 1000000 in
set_option maxRecDepth 20000 in
theorem alive_any (w : World) : Calls Try.prog 11 #[] w fun e w' => e = .returned (.bool true) ∧ Below w.heap.size w w' := by
  have hb1 := one_set 1
  have hb2 := one_set 2
  have hb3 := one_set 3
  have hne := zc_ne
  have hz := zc_zero
  have hs := zc_size
  have hbs := buildS_one 1
  go_enter Try.func11, Try.ntmps11
  go_wp2_with fail
  refine (new_m 2 1 (by omega) (by omega) (Below.refl _ _) (Nat.le_refl _)).mono ?_
  rintro e w1 ⟨p, m, g, gc, rfl, M0, hb0, hd0⟩
  clear hb0 hd0
  go_wp2_with fail
  refine (write_m M0 0 (one 1) (Cel.one 1) ⟨by decide, by decide⟩ (off_of rfl rfl) (room_of (a := 0) (b := 0) rfl rfl (by omega))).mono ?_
  rintro e x1 ⟨rfl, M1, _⟩
  clear M0
  replace M1 : Mine w.heap.size w x1 p m g gc dA1 := M1
  go_wp2_with fail
  refine (flush_m M1 0 1 ⟨by decide, by decide⟩ ⟨by decide, by decide⟩ ⟨by decide, by decide, by decide⟩ (off_of rfl rfl) (room_of (a := 1) (b := -1) rfl rfl (by omega))).mono ?_
  rintro e x2 ⟨rfl, M2, _⟩
  clear M1
  replace M2 : Mine w.heap.size w x2 p m g gc dA2 := M2
  go_wp2_with fail
  refine (write_m M2 0 (one 2) (Cel.one 2) ⟨by decide, by decide⟩ (off_of rfl rfl) (room_of (a := 2) (b := -2) rfl rfl (by omega))).mono ?_
  rintro e x3 ⟨rfl, M3, _⟩
  clear M2
  replace M3 : Mine w.heap.size w x3 p m g gc dA3 := M3
  go_wp2_with fail
  refine (write_m M3 1 (one 3) (Cel.one 3) ⟨by decide, by decide⟩ (off_of rfl rfl) (room_of (a := 3) (b := -3) rfl rfl (by omega))).mono ?_
  rintro e x4 ⟨rfl, M4, _⟩
  clear M3
  replace M4 : Mine w.heap.size w x4 p m g gc dA4 := M4
  have M5 := M4.below ((Below.refl _ _).alloc (Nat.le_refl _) (.cells #[.int .i64 1] 3))
  have hR := ri_one (S := x4.heap.size + 1) (Blk.new x4 #[.int .i64 1] 3) (by omega)
  have C := Lib.hid (crash_m M5 (some ⟨x4.heap.size, 0, none⟩) 1 [1] (by unfold maxLen; simp) (x4.heap.size + 1) (by simp) hR (fun ad h _ hd => by cases h; exact Nat.lt_irrefl _ (M4.disk.lt hd)))
  clear M4 M5 hR
  go_wp2_with fail
  refine C.out.mono ?_
  rintro e x5 ⟨rfl, M6, _⟩
  clear C
  replace M6 : Mine w.heap.size w x5 p m g gc dA5 := M6
  go_wp2_with fail
  refine (read_m M6 0 ⟨by decide, by decide⟩ rfl).mono ?_
  rintro e x6 ⟨rfl, M7, _⟩
  rw [show dA5.now 0 = one 1 from rfl]
  clear M6
  go_wp2_with (first | ((with_reducible refine at_st 45 _ _ rfl ?_); refine store_cW rfl _ _ rfl x6.heap.size (one 1) rfl rfl zc (Blk.new x6 _ _) zc_size (Cel.one 1).size (Cel.one 1).all ?_) | fail)
  have hbx : Below x6.heap.size x6 ((x6.alloc (.cells zc 45)).setRow x6.heap.size (one 1)) := below_setRow ((Below.refl _ _).alloc (Nat.le_refl _) _) (Nat.le_refl _) _
  have hB1 : Blk ((x6.alloc (.cells zc 45)).setRow x6.heap.size (one 1)) x6.heap.size (one 1) 45 := Blk.setRow (Blk.new _ _ _) _
  have M8 := M7.below hbx
  have hn8 : ¬ Dl p m g gc x6.heap.size := fun h => Nat.lt_irrefl _ (M7.disk.lt h)
  clear M7 hbx
  generalize (x6.alloc (.cells zc 45)).setRow x6.heap.size (one 1) = y6 at *
  refine (read_m M8 1 ⟨by decide, by decide⟩ rfl).mono ?_
  rintro e x7 ⟨rfl, M9, hf9⟩
  rw [show dA5.now 1 = one 3 from rfl]
  have hB2 := hf9.blk hB1 hn8
  clear M8 hf9 hB1
  go_wp2_with (first
    | ((with_reducible refine at_st 45 _ _ rfl ?_); refine store_cW rfl _ _ rfl x7.heap.size (one 3) rfl rfl zc (Blk.new x7 _ _) zc_size (Cel.one 3).size (Cel.one 3).all ?_; have hbx : Below x7.heap.size x7 ((x7.alloc (.cells zc 45)).setRow x7.heap.size (one 3)) := below_setRow ((Below.refl _ _).alloc (Nat.le_refl _) _) (Nat.le_refl _) _; have hB3 : Blk ((x7.alloc (.cells zc 45)).setRow x7.heap.size (one 3)) x7.heap.size (one 3) 45 := Blk.setRow (Blk.new _ _ _) _; have M10 := Lib.hid (M9.below hbx); have hB4 := Lib.hid (hB2.below hbx hB2.lt); clear hbx M9 hB2)
    | ((with_reducible refine at_ld 45 (.tmp 3) rfl ?_); refine loadG (by kernel_rfl) (.tmp 3) rfl x6.heap.size rfl (one 1) (Cel.one 1).size hB4.out ?_)
    | ((with_reducible refine at_ld 45 (.tmp 4) rfl ?_); refine loadG (by kernel_rfl) (.tmp 4) rfl x7.heap.size rfl (one 3) (Cel.one 3).size hB3 ?_)
    | ((with_reducible refine at_eql (.tmp 59) (.tmp 60) rfl ?_); refine eqlG (by kernel_rfl) (.tmp 59) (.tmp 60) rfl (one 1) (one 1) rfl rfl true (cel_same (Cel.one 1) _) ?_)
    | ((with_reducible refine at_eql (.tmp 64) (.tmp 65) rfl ?_); refine eqlG (by kernel_rfl) (.tmp 64) (.tmp 65) rfl (one 3) (one 3) rfl rfl true (cel_same (Cel.one 3) _) ?_)
    | (go_at_call 21; refine (stepsd M10.out.disk).mono ?_; rintro e x8 ⟨rfl, rfl⟩)
    | fail)
  go_ret
  exact ⟨rfl, M10.out.bel⟩
end Go.Proofs.Ythfhilinajemhaa
