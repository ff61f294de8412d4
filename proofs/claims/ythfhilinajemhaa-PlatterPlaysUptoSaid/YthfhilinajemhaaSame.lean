/-
  Does a disk read what the document's does?
-/
import Derived.Test.YthfhilinajemhaaRef8
import Derived.Test.YthfhilinajemhaaEqG
namespace Go.Proofs.Ythfhilinajemhaa
open Go.RowKit
open Go.Maps (Keyed int_keyed)
set_option linter.unusedVariables false

section
variable {w : World} {p m g gc r gs gn gk B : Nat} {v : Nat → Value} {d : Dk} {sn : Nat → List (Array Value)} {lf : Int}
def NumOf (er : Value) (en : Int) : Prop := ∀ W : World, Calls Try.prog 28 #[er] W fun e w' => e = .returned (.int .i64 en) ∧ w' = W
theorem both_read (hd : Disk w p m g gc d) (hr : RSt w r gs gn gk B v d sn lf) (hst : d.st ≤ 100000) (i : Int) : ∃ (c : Array Value) (er : Value) (en : Int), Cel c ∧
    (∀ W, Below w.heap.size w W → Calls Try.prog 20 #[.pointer (some ⟨p, 0, none⟩), .int .i64 i] W (ReadV (.tuple #[.agg c, er]) W)) ∧
    (∀ W, Below w.heap.size w W → Calls Try.prog 39 #[.pointer (some ⟨r, 0, none⟩), .int .i64 i] W (ReadV (.tuple #[.agg c, .int .i64 en]) W)) ∧ NumOf er en := by
  by_cases hi : 0 ≤ i ∧ i < d.n
  · obtain ⟨j, rfl⟩ : ∃ j : Nat, i = j := ⟨i.toNat, by omega⟩
    have hj : j < d.n := by omega
    cases hdn : d.dn with
    | true => exact ⟨zc, errP 5, 5, Cel.zero, fun W hW => readd_down (hd.below hW) _ hi hdn, fun W hW => rread_down (hr.below hW) j hj hdn, fun W => is_any 5 5 (by omega) (by omega) W⟩
    | false => exact ⟨d.now j, .nilIface, 0, Dk.now_cel hd.ok j, fun W hW => readd_yes (hd.below hW) _ hi hdn, fun W hW => rread_yes (hr.below hW) j hj hdn hst, fun W => num_nil W⟩
  · exact ⟨zc, errP 1, 1, Cel.zero, fun W hW => readd_no (hd.below hW) _ hi, fun W hW => rread_none (hr.below hW) i hi, fun W => is_any 1 1 (by omega) (by omega) W⟩
set_option maxHeartbeats 2000000 in
set_option maxRecDepth 20000 in
theorem same_any (hd : Disk w p m g gc d) (hr : RSt w r gs gn gk B v d sn lf) (hst : d.st ≤ 100000) (hk : d.k ≤ 16) : Calls Try.prog 41 #[.pointer (some ⟨p, 0, none⟩), .pointer (some ⟨r, 0, none⟩)] w fun e w' => e = .returned (.bool true) ∧ Below w.heap.size w w' := by
  have HD := Lib.hid hd
  have HR := Lib.hid hr
  have hn2 := hd.ok.1
  have y2 := rf2 hr.hr
  have y0 := rf0 hr.hr
  have C16 := Lib.hid (counterd_no hd (d.k : Int) (by omega))
  have C14 := Lib.hid (isC_any 1 1 (by omega) (by omega))
  unfold errP at C16 C14
  clear hd hr
  go_enter Try.func41, Try.ntmps41
  go_wp2
  go_loop [20] (fun i => ∃ k : Nat, k ≤ d.k ∧ i = .int .i64 k) (fun i => d.k - (Lib.intOf i).toNat)
  case atStart => exact ⟨0, Nat.zero_le _, rfl⟩
  case round =>
    obtain ⟨k, hkk, rfl⟩ := hrel
    by_cases hlt : k < d.k
    · have k0 : (0 : Int) ≤ (k : Int) := by omega
      have k1 : (k : Int) < (d.k : Int) := by omega
      have C := Lib.hid (counterd_any HD.out k hlt)
      have y3 : w.cell? ⟨gk, k, none⟩ = some (.int .i64 (d.ct k)) := HR.out.hc.cell (row_at _ _ k hlt)
      generalize d.ct k = x at *
      go_wp2_with (first | (go_at_call 16; refine C.out.mono ?_; rintro e w' ⟨rfl, rfl⟩) | fail)
      go_round
      case rel => exact ⟨k + 1, by omega, by go_num⟩
      case measure => simp [Lib.intOf]; omega
    · obtain rfl : k = d.k := by omega
      go_wp2_with (first
        | (go_at_call 16; refine C16.out.mono ?_; rintro e w' ⟨rfl, rfl⟩)
        | (go_at_call 14; refine (C14.out _).mono ?_; rintro e w' ⟨rfl, rfl⟩)
        | fail)
      clear C16 C14
      go_loopw [61] (fun i wr => ∃ k : Nat, k ≤ d.n ∧ i = .int .i64 k ∧ Below w'.heap.size w' wr) (fun i _ => d.n - (Lib.intOf i).toNat)
      case atStart => exact ⟨0, Nat.zero_le _, rfl, Below.refl _ _⟩
      case round =>
        obtain ⟨k, hkn, rfl, hb⟩ := hrel
        by_cases hlt : k < d.n
        · have k0 : (0 : Int) ≤ (k : Int) := by omega
          have k1 : (k : Int) < (d.n : Int) := by omega
          obtain ⟨c, er, en, hc, A1, A2, A3⟩ := both_read HD.out HR.out hst (k : Int)
          have HB := Lib.hid hb
          have HA1 := Lib.hid (A1 _ hb)
          have HA2 := Lib.hid A2
          have HA3 := Lib.hid A3
          have HC := Lib.hid hc
          have hz := zc_zero
          have hs := zc_size
          clear hb A1 A2 A3 hc
          go_wp2_with fail
          refine HA1.out.mono ?_
          rintro e W1 ⟨rfl, B1⟩
          have hX1 := Lib.hid (Blk.new W1 zc 45)
          go_wp2_with (first
            | ((with_reducible refine at_st 45 _ _ rfl ?_); refine store_cW rfl _ _ rfl W1.heap.size c rfl rfl zc hX1.out zc_size HC.out.size HC.out.all ?_)
            | fail)
          have bx : Below W1.heap.size W1 ((W1.alloc (.cells zc 45)).setRow W1.heap.size c) := below_setRow ((Below.refl _ _).alloc (Nat.le_refl _) _) (Nat.le_refl _) _
          have X1 := Lib.hid ((Blk.new W1 zc 45).setRow c)
          have b2 := HB.out.trans (B1.mono HB.out.size)
          have b3 := b2.trans (bx.mono b2.size)
          generalize (W1.alloc (.cells zc 45)).setRow W1.heap.size c = W2 at *
          refine (HA2.out W2 b3).mono ?_
          rintro e W3 ⟨rfl, B3⟩
          have hX3 := Lib.hid (Blk.new W3 zc 45)
          have bx3 : Below W3.heap.size W3 ((W3.alloc (.cells zc 45)).setRow W3.heap.size c) := below_setRow ((Below.refl _ _).alloc (Nat.le_refl _) _) (Nat.le_refl _) _
          have x13 := X1.out.below B3 X1.out.lt
          have X3 := Lib.hid (x13.below bx3 x13.lt)
          have X4 := Lib.hid ((Blk.new W3 zc 45).setRow c)
          have b4 := b3.trans (B3.mono b3.size)
          have b5 := Lib.hid (b4.trans (bx3.mono b4.size))
          clear bx b2 b3 B1 B3 bx3 x13 b4
          go_wp2_with (first
            | ((with_reducible refine at_st 45 _ _ rfl ?_); refine store_cW rfl _ _ rfl W3.heap.size c rfl rfl zc hX3.out zc_size HC.out.size HC.out.all ?_; generalize (W3.alloc (.cells zc 45)).setRow W3.heap.size c = W4 at *)
            | ((with_reducible refine at_ld 45 (.tmp 11) rfl ?_); refine loadG (by kernel_rfl) (.tmp 11) rfl W1.heap.size rfl c HC.out.size X3.out ?_)
            | ((with_reducible refine at_ld 45 (.tmp 13) rfl ?_); refine loadG (by kernel_rfl) (.tmp 13) rfl W3.heap.size rfl c HC.out.size X4.out ?_)
            | ((with_reducible refine at_neq (.tmp 76) (.tmp 77) rfl ?_); refine neqG (by kernel_rfl) (.tmp 76) (.tmp 77) rfl c c rfl rfl true (cel_same HC.out _) ?_)
            | (go_at_call 28; refine (HA3.out _).mono ?_; rintro e W5 ⟨rfl, rfl⟩)
            | fail)
          go_roundw
          case rel => exact ⟨k + 1, by omega, by go_num, b5.out⟩
          case measure => simp [Lib.intOf]; omega
        · obtain rfl : k = d.n := by omega
          have HB := Lib.hid hb
          have h2 := HR.out.below hb
          have z0 := rf0 h2.hr
          have CS := Lib.hid (sized (HD.out.below hb).drew)
          have BD := Lib.hid hb.drew
          clear hb h2
          go_wp2_with fail
          go_region_held3 (fun W => W.cell? ⟨r, 0, none⟩ = some (.slice (some ⟨gs, 0, none⟩) d.n d.n)) (first | exact z0 | fail) (first | (go_at_call 43; refine CS.out.mono ?_; rintro e W9 ⟨rfl, rfl⟩) | fail)
          go_wp2
          go_ret
          exact ⟨rfl, BD.out⟩
end
end Go.Proofs.Ythfhilinajemhaa
