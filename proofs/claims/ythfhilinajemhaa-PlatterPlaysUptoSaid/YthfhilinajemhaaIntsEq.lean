/-
  citadelnum.Ints: the same numbers.
-/
import Derived.Test.YthfhilinajemhaaColl
import Derived.Test.YthfhilinajemhaaTally
namespace Go.Proofs.Ythfhilinajemhaa
open Go.RowKit
open Go.Maps (Keyed int_keyed)
set_option linter.unusedVariables false

theorem RI.drewN {w : World} {S : Nat} {A : Option Addr} {R : List Int} (h : RI w S A R) (n : Nat) : RI (w.drewN n) S A R := h
set_option maxHeartbeats 1000000 in
theorem ints_same (A B : Option Addr) (c e : Nat) (L : List Int) (hL : L.length ≤ 100000) (S T : Nat) (w : World) (hA : RI w S A L) (hB : RI w T B L) : Calls Try.prog 38 #[.slice A L.length c, .slice B L.length e] w fun e w' => e = .returned (.bool true) ∧ Below w.heap.size w w' := by
  have HA := Lib.hid hA
  have HB := Lib.hid hB
  clear hA hB
  go_enter Try.func38, Try.ntmps38
  go_wp2
  go_loopw [13] (fun i wr => ∃ k n : Nat, k ≤ L.length ∧ i = .int .i64 k ∧ wr = w.drewN n) (fun i _ => L.length - (Lib.intOf i).toNat)
  case atStart => exact ⟨0, 0, Nat.zero_le _, rfl, rfl⟩
  case round =>
    obtain ⟨k, n, hk, rfl, rfl⟩ := hrel
    by_cases hlt : k < L.length
    · obtain ⟨ad, h1, _, hc⟩ := (HA.out.drewN n) k L[k] (List.getElem?_eq_getElem hlt)
      obtain ⟨ad', h1', _, hc'⟩ := (HB.out.drewN n) k L[k] (List.getElem?_eq_getElem hlt)
      subst h1
      subst h1'
      generalize L[k] = x at *
      have hca : w.cell? (ad.add k) = some (.int .i64 x) := hc
      have hcb : w.cell? (ad'.add k) = some (.int .i64 x) := hc'
      have hk0 : (0 : Int) ≤ (k : Int) := by omega
      have hkl : (k : Int) < (L.length : Int) := by omega
      go_wp2_with fail
      go_quiet (fail)
      go_wp2
      go_roundw
      case rel => exact ⟨k + 1, n + nq, by omega, by go_num, rfl⟩
      case measure => simp [Lib.intOf]; omega
    · go_wp2
      go_ret
      exact ⟨rfl, Below.drewN (Below.refl _ _) _⟩
end Go.Proofs.Ythfhilinajemhaa
