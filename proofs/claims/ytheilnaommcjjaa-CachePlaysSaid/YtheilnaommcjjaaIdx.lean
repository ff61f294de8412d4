import Derived.Test.YtheilnaommcjjaaState
namespace Go.Proofs.Ytheilnaommcjjaa
open Go.RowKit
theorem spot_eq (s t : Spot) (w : World) : (Op.equalIn 10000 66 (.agg #[.int .i64 s.1, .int .i64 s.2]) (.agg #[.int .i64 t.1, .int .i64 t.2])).run Try.prog w = .ok (decide (s = t)) w := by
  have u3 := Try.underlying3
  have a3 := Try.isAgg3
  have z3 := Try.sizeOf3
  have hS : Try.prog.underlying 66 = some (.struct (Try.prog.fieldsOf 66)) := by kernel_rfl
  have hp : Try.prog.stoodInHeld 66 = false := by kernel_rfl
  rw [show (10000 : Nat) = 9999 + 1 from rfl, run_equalIn_agg w 9999 66 _ _ hS hp]
  simp only [Program.fieldsOf, Try.underlying66]
  go_simp
  by_cases h1 : s.1 = t.1 <;> by_cases h2 : s.2 = t.2 <;> simp [h1, h2, Prod.ext_iff]

set_option maxHeartbeats 400000 in
theorem index_any (v : Value) (L : List Spot) (s : Spot) (w : World) (ho : Ord w v L) :
    Calls Try.prog 33 #[v, spotV s] w fun e w' => e = .returned (.int .i64 (pos s L)) ∧ Below w.heap.size w w' := by
  rcases ho.form with ⟨rfl, rfl⟩ | ⟨g, cap, rfl, hn, hc, hg, hcell⟩
  · unfold spotV spotA
    go_enter Try.func33, Try.ntmps33
    go_wp2
    go_loop [5, 8] (fun _ i => i = .int .i64 0) (fun _ _ => 0)
    case atStart => rfl
    case round =>
      cases hrel
      go_wp2
      go_ret
      exact ⟨rfl, (Below.refl _ _).alloc (Nat.le_refl _) _⟩
  · unfold spotV spotA
    go_enter Try.func33, Try.ntmps33
    go_wp2
    have hbox := Blk.new w (spotA s) 66
    have hb0 := (Below.refl w.heap.size w).alloc (Nat.le_refl _) (.cells (spotA s) 66)
    have ho0 := ho.below hb0
    unfold spotA at hbox hb0 ho0
    generalize w.alloc (.cells #[.int .i64 s.1, .int .i64 s.2] 66) = w0 at *
    have hI : (L.length : Int) ≤ 9223372036854775807 := by simp only [maxLen] at hc; omega
    go_loopw [5, 8] (fun _ i wr => ∃ k : Nat, k ≤ L.length ∧ i = .int .i64 k ∧ Hid (∀ j, j < k → L[j]? ≠ some s) ∧ Blk wr w.heap.size #[.int .i64 s.1, .int .i64 s.2] 66 ∧ Below w.heap.size w wr) (fun _ i _ => (L.length - intOf i).toNat)
    case atStart => exact ⟨0, Nat.zero_le _, rfl, by unfold Hid; intro j hj; omega, hbox, hb0⟩
    case round =>
      obtain ⟨k, hk, rfl, hH, hbx, hb⟩ := hrel
      by_cases hlt : (k : Int) < (L.length : Int)
      · obtain ⟨t, ht⟩ : ∃ t, L[k]? = some t := ⟨L[k]'(by omega), List.getElem?_eq_getElem (by omega)⟩
        obtain ⟨c1, c2⟩ := hcell k t ht
        rw [← hb.cell (p := ⟨g, k * 2, none⟩) hg] at c1
        rw [← hb.cell (p := ⟨g, k * 2 + 1, none⟩) hg] at c2
        have d1 := hbx.cell (j := 0) rfl
        have d2 := hbx.cell (j := 1) rfl
        clear hcell ho ho0 hbox hb0
        by_cases hst : s = t
        · have hE := fun w => spot_eq s t w
          rw [decide_eq_true hst] at hE
          have H := Lib.hid hst
          have Ht := Lib.hid ht
          clear hst ht
          go_wp2
          go_quiet (fail)
          go_wp2
          go_ret
          refine ⟨?_, Below.drewN hb _⟩
          rw [pos_at (by rw [H.out]; exact Ht.out) hH.out]
          rfl
        · have hE := fun w => spot_eq s t w
          rw [decide_eq_false hst] at hE
          have H := Lib.hid hst
          have Ht := Lib.hid ht
          clear hst ht
          go_wp2
          go_quiet (fail)
          go_wp2
          refine ⟨⟨k + 1, by omega, rfl, ?_, hbx.drewN _, Below.drewN hb _⟩, by simp only [intOf]; omega⟩
          unfold Hid
          intro j hj
          by_cases hjk : j = k
          · subst hjk
            rw [Ht.out]
            intro he
            exact H.out (Option.some.inj he).symm
          · exact hH.out j (by omega)
      · obtain rfl : k = L.length := by omega
        go_wp2
        go_ret
        refine ⟨?_, hb⟩
        rw [pos_not hH.out]
        rfl
end Go.Proofs.Ytheilnaommcjjaa
