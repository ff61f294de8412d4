/-
  The walk over a block doubled (halved) many times: for every block and every whole number.
-/
import Derived.Test.YtlcfaejomblnjaaBlocks
namespace Go.Proofs.Ytlcfaejomblnjaa
open Go.RowKit

set_option maxHeartbeats 1000000 in
theorem times_far (K : Nat) (n : Int) (hn : n < -4096 ∨ 4096 < n) (w : World) :
    Calls Try.prog 24 #[.agg (keyA K), .int .i64 n] w fun e w' => e = .returned (.agg (keyA K)) ∧ Below w.heap.size w w' := by
  obtain ⟨n1, n2, nb⟩ := two_new w (keyA K) #[.int .u8 0, .int .u8 0, .int .u8 0, .int .u8 0, .int .u8 0, .int .u8 0, .int .u8 0, .int .u8 0, .int .u8 0, .int .u8 0, .int .u8 0, .int .u8 0, .int .u8 0, .int .u8 0, .int .u8 0, .int .u8 0] 26
  have z2 : (#[.int .u8 0, .int .u8 0, .int .u8 0, .int .u8 0, .int .u8 0, .int .u8 0, .int .u8 0, .int .u8 0, .int .u8 0, .int .u8 0, .int .u8 0, .int .u8 0, .int .u8 0, .int .u8 0, .int .u8 0, .int .u8 0] : Array Value).size = 16 := rfl
  by_cases h1 : n < -4096
  · go_enter Try.func24, Try.ntmps24
    go_wp2_with (first | (refine load_key rfl _ rfl _ rfl K n1 ?_) | (refine store_key rfl _ _ rfl _ K rfl rfl _ n2 z2 ?_))
    exact bodyPost_ret (key_results Try.f24 4 rfl _ _ _ _ rfl (n2.setRow _)) rfl ⟨rfl, below_setRow nb (by omega) _⟩
  · have h2 : 4096 < n := by omega
    go_enter Try.func24, Try.ntmps24
    go_wp2_with (first | (refine load_key rfl _ rfl _ rfl K n1 ?_) | (refine store_key rfl _ _ rfl _ K rfl rfl _ n2 z2 ?_))
    exact bodyPost_ret (key_results Try.f24 4 rfl _ _ _ _ rfl (n2.setRow _)) rfl ⟨rfl, below_setRow nb (by omega) _⟩

set_option maxHeartbeats 1000000 in
theorem times_up (K : Nat) (hK : K < 2 ^ 128) (n : Nat) (hn : n ≤ 4096) (w : World) :
    Calls Try.prog 24 #[.agg (keyA K), .int .i64 n] w fun e w' => e = .returned (.agg (keyA (Nums.dbls K n))) ∧ Below w.heap.size w w' := by
  obtain ⟨n1, n2, nb⟩ := two_new w (keyA K) #[.int .u8 0, .int .u8 0, .int .u8 0, .int .u8 0, .int .u8 0, .int .u8 0, .int .u8 0, .int .u8 0, .int .u8 0, .int .u8 0, .int .u8 0, .int .u8 0, .int .u8 0, .int .u8 0, .int .u8 0, .int .u8 0] 26
  have h1 : ¬ (n : Int) < -4096 := by omega
  have h2 : ¬ (4096 : Int) < n := by omega
  go_enter Try.func24, Try.ntmps24
  go_wp2
  go_loopw [1] (fun i wr => ∃ m : Nat, m ≤ n ∧ i = .int .i64 m ∧ Blk wr w.heap.size (keyA (Nums.dbls K (n - m))) 26 ∧ Blk wr (w.heap.size + 1) (keyA 0) 26 ∧ Below w.heap.size w wr) (fun i _ => (intOf i).toNat)
  case atStart => exact ⟨n, Nat.le_refl _, rfl, by rw [Nat.sub_self]; exact n1, by rw [← zero16]; exact n2, nb⟩
  case round =>
    clear n1 n2 nb
    obtain ⟨m, hm, rfl, hA, hC, hb⟩ := hrel
    by_cases hlt : (0 : Int) < m
    · have hd := double_any (Nums.dbls K (n - m)) (Nums.dbls_lt K hK _)
      have he : Nums.dbl (Nums.dbls K (n - m)) = Nums.dbls K (n - (m - 1)) := by rw [show n - (m - 1) = n - m + 1 from by omega]; rfl
      rw [he] at hd
      generalize Nums.dbls K (n - m) = x at *
      generalize hy : Nums.dbls K (n - (m - 1)) = y at *
      have HY := Lib.hid hy
      have HD := Lib.hid hd
      clear hy hd he
      go_wp2_with (refine load_key rfl _ rfl _ rfl x hA ?_)
      refine (HD.out _).mono ?_
      rintro e w1 ⟨rfl, b1⟩
      have hA1 := hA.below b1 hA.lt
      have hC1 := hC.below b1 hC.lt
      have hb1 := hb.trans (b1.mono hb.size)
      go_wp2_with (refine store_key rfl _ _ rfl _ y rfl rfl (keyA x) hA1 (keyA_size x) ?_)
      refine ⟨⟨m - 1, by omega, by go_num, by rw [HY.out]; exact hA1.setRow _, hC1.setRow_other _ (by omega), below_setRow hb1 (Nat.le_refl _) _⟩, by simp only [intOf]; omega⟩
    · obtain rfl : m = 0 := by omega
      rw [Nat.sub_zero] at hA
      generalize hy : Nums.dbls K n = y at *
      have HY := Lib.hid hy
      clear hy
      go_wp2
      refine wp_loop_rounds 1 ?_
      rw [rounds_succ]
      go_wp2_with (first | (refine load_key rfl _ rfl _ rfl y hA ?_) | (refine store_key rfl _ _ rfl _ y rfl rfl (keyA 0) hC (keyA_size 0) ?_))
      exact bodyPost_ret (key_results Try.f24 4 rfl _ _ _ _ rfl (hC.setRow _)) rfl ⟨by rw [HY.out], below_setRow hb (by omega) _⟩

set_option maxHeartbeats 1000000 in
theorem times_down (K : Nat) (hK : K < 2 ^ 128) (n : Nat) (h0 : 1 ≤ n) (hn : n ≤ 4096) (w : World) :
    Calls Try.prog 24 #[.agg (keyA K), .int .i64 (-(n : Int))] w fun e w' => e = .returned (.agg (keyA (Nums.hlvs K n))) ∧ Below w.heap.size w w' := by
  obtain ⟨n1, n2, nb⟩ := two_new w (keyA K) #[.int .u8 0, .int .u8 0, .int .u8 0, .int .u8 0, .int .u8 0, .int .u8 0, .int .u8 0, .int .u8 0, .int .u8 0, .int .u8 0, .int .u8 0, .int .u8 0, .int .u8 0, .int .u8 0, .int .u8 0, .int .u8 0] 26
  obtain ⟨i, hi⟩ : ∃ i : Int, i = -(n : Int) := ⟨_, rfl⟩
  rw [← hi]
  have h1 : ¬ i < -4096 := by omega
  have h2 : ¬ (4096 : Int) < i := by omega
  have h3 : ¬ (0 : Int) < i := by omega
  have HI := Lib.hid hi
  clear hi
  go_enter Try.func24, Try.ntmps24
  go_wp2
  refine wp_loop_rounds 1 ?_
  rw [rounds_succ]
  go_wp2
  go_loopw [1] (fun i wr => ∃ m : Nat, m ≤ n ∧ i = .int .i64 (-(m : Int)) ∧ Blk wr w.heap.size (keyA (Nums.hlvs K (n - m))) 26 ∧ Blk wr (w.heap.size + 1) (keyA 0) 26 ∧ Below w.heap.size w wr) (fun i _ => (- intOf i).toNat)
  case atStart => exact ⟨n, Nat.le_refl _, by rw [HI.out], by rw [Nat.sub_self]; exact n1, by rw [← zero16]; exact n2, nb⟩
  case round =>
    clear n1 n2 nb
    obtain ⟨m, hm, rfl, hA, hC, hb⟩ := hrel
    by_cases hlt : -(m : Int) < 0
    · have hd := halve_any (Nums.hlvs K (n - m)) (Nums.hlvs_lt K hK _)
      have he : Nums.hlv (Nums.hlvs K (n - m)) = Nums.hlvs K (n - (m - 1)) := by rw [show n - (m - 1) = n - m + 1 from by omega]; rfl
      rw [he] at hd
      generalize Nums.hlvs K (n - m) = x at *
      generalize hy : Nums.hlvs K (n - (m - 1)) = y at *
      have HY := Lib.hid hy
      have HD := Lib.hid hd
      clear hy hd he
      go_wp2_with (refine load_key rfl _ rfl _ rfl x hA ?_)
      refine (HD.out _).mono ?_
      rintro e w1 ⟨rfl, b1⟩
      have hA1 := hA.below b1 hA.lt
      have hC1 := hC.below b1 hC.lt
      have hb1 := hb.trans (b1.mono hb.size)
      go_wp2_with (refine store_key rfl _ _ rfl _ y rfl rfl (keyA x) hA1 (keyA_size x) ?_)
      refine ⟨⟨m - 1, by omega, by go_num, by rw [HY.out]; exact hA1.setRow _, hC1.setRow_other _ (by omega), below_setRow hb1 (Nat.le_refl _) _⟩, by simp only [intOf]; omega⟩
    · obtain rfl : m = 0 := by omega
      rw [Nat.sub_zero] at hA
      generalize hy : Nums.hlvs K n = y at *
      have HY := Lib.hid hy
      clear hy
      go_wp2_with (first | (refine load_key rfl _ rfl _ rfl y hA ?_) | (refine store_key rfl _ _ rfl _ y rfl rfl (keyA 0) hC (keyA_size 0) ?_))
      exact bodyPost_ret (key_results Try.f24 4 rfl _ _ _ _ rfl (hC.setRow _)) rfl ⟨by rw [HY.out], below_setRow hb (by omega) _⟩

end Go.Proofs.Ytlcfaejomblnjaa
