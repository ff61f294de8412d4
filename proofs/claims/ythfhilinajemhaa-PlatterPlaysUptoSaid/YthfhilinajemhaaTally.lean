/-
  A map that counts numbers; numbers cut down to a range. No function of the program.
-/
import Derived.Test.YthfhilinajemhaaAlive
namespace Go.Proofs.Ythfhilinajemhaa
open Go.RowKit
open Go.Maps (Keyed int_keyed)
set_option linter.unusedVariables false

def cntF (L : List Int) : Value → Option Value
  | .int .i64 i => if i ∈ L then some (.int .i64 (L.count i : Nat)) else none
  | _ => none
theorem cntF_get (L : List Int) (i : Int) : (cntF L (.int .i64 i)).getD (.int .i64 0) = .int .i64 (L.count i : Nat) := by
  unfold cntF
  by_cases h : i ∈ L
  · simp [h]
  · have : L.count i = 0 := List.count_eq_zero.2 h
    simp [h, this]
theorem cntF_nil : cntF [] = fun _ => none := by
  funext x
  unfold cntF
  split <;> simp
theorem cntF_snoc (L : List Int) (i : Int) : cntF (L ++ [i]) (.int .i64 i) = some (.int .i64 ((L.count i : Nat) + 1)) := by
  unfold cntF
  have : (L ++ [i]).count i = L.count i + 1 := by rw [List.count_append]; simp
  simp [this]
theorem cntF_other (L : List Int) (i : Int) (y : Value) (h : y ≠ .int .i64 i) : cntF (L ++ [i]) y = cntF L y := by
  unfold cntF
  split
  · rename_i j
    have hj : j ≠ i := fun e => h (by rw [e])
    have hc : (L ++ [i]).count j = L.count j := by
      rw [List.count_append, List.count_cons]
      simp [Ne.symm hj]
    simp [hj, hc]
  · rfl
theorem cnt_look {w : World} {b : Nat} {L : List Int} (h : MapF Try.prog 3 w b (cntF L)) (i : Int) (hi : ok64 i) : (Instr.lookup 52 (.map (some b)) (.int .i64 i) false).run Try.prog w = .ok (.int .i64 (L.count i : Nat)) w := by
  have hz : (zeroValue 3).run Try.prog w = .ok (.int .i64 0) w := by kernel_rfl
  obtain ⟨l, hl⟩ := key_int i hi
  have := h.lookup keyed3 Try.underlying52 hz hl
  rw [cntF_get] at this
  exact this
theorem cnt_up {w : World} {b : Nat} {L : List Int} (h : MapF Try.prog 3 w b (cntF L)) (i : Int) (hi : ok64 i) : ∃ w', (Instr.mapUpdate 52 (.map (some b)) (.int .i64 i) (.int .i64 ((L.count i : Nat) + 1))).run Try.prog w = .ok () w' ∧ MapF Try.prog 3 w' b (cntF (L ++ [i])) ∧ Fr (fun k => k = b) w w' := by
  obtain ⟨l, hl⟩ := key_int i hi
  obtain ⟨w', hu, hg, hm⟩ := h.update keyed3 Try.underlying52 hl (.int .i64 ((L.count i : Nat) + 1))
  exact ⟨w', hu, hm _ (cntF_snoc L i) (fun y hy => cntF_other L i y hy), Fr.of_grown hg (fun k hk => (Option.some.inj hk).symm)⟩
/-- a number's rest, as Go's unsigned numbers have it -/
def um (k x : Int) : Int := (x % 18446744073709551616) % k
theorem um_lt (k x : Int) (hk : 0 < k) : 0 ≤ um k x ∧ um k x < k := by
  unfold um
  exact ⟨Int.emod_nonneg _ (by omega), Int.emod_lt_of_pos _ hk⟩
theorem um_eq (k x : Int) (hk : 0 < k) (hk2 : k ≤ 1000000) : wrap64 ((IntKind.u64.wrap x).tmod k) = um k x := by
  have h : IntKind.u64.wrap x = x % 18446744073709551616 := by simp [IntKind.wrap, IntKind.bits, IntKind.signed]
  have h0 := Int.emod_nonneg x (show (18446744073709551616 : Int) ≠ 0 by decide)
  rw [h, Int.tmod_eq_emod_of_nonneg h0]
  have := um_lt k x hk
  unfold um at this ⊢
  unfold wrap64
  omega
end Go.Proofs.Ythfhilinajemhaa
