/-
  FieldTimes: for every block and every whole number the law returns true. No condition.
-/
import Derived.Test.YtlcfaejomblnjaaRows
import Derived.Test.YtlcfaejomblnjaaBytes
import Derived.Test.YtlcfaejomblnjaaRDbl
import Derived.Test.YtlcfaejomblnjaaTimes
import Derived.Test.YtlcfaejomblnjaaOpen
import Derived.ProofKit
import Derived.OpenShut
import Derived.ChangeOld
import Derived.Below
namespace Go.Proofs.Ytlcfaejomblnjaa
open Go.ChangeShapes Go.WideShapes Go.ChangeAt Go.RowKit
set_option linter.unusedVariables false

theorem times_19 (w : World) : Calls Try.prog 24 #[.agg #[.int .u8 1, .int .u8 0, .int .u8 0, .int .u8 0, .int .u8 0, .int .u8 0, .int .u8 0, .int .u8 0, .int .u8 0, .int .u8 0, .int .u8 0, .int .u8 0, .int .u8 0, .int .u8 0, .int .u8 0, .int .u8 0], .int .i64 9] w fun e w' => e = .returned (.agg #[.int .u8 0, .int .u8 2, .int .u8 0, .int .u8 0, .int .u8 0, .int .u8 0, .int .u8 0, .int .u8 0, .int .u8 0, .int .u8 0, .int .u8 0, .int .u8 0, .int .u8 0, .int .u8 0, .int .u8 0, .int .u8 0]) ∧ Below w.heap.size w w' := by
  have := times_up 1 (by decide) 9 (by decide) w
  rw [show Nums.dbls 1 9 = 512 from by decide +kernel, show keyA 1 = #[.int .u8 1, .int .u8 0, .int .u8 0, .int .u8 0, .int .u8 0, .int .u8 0, .int .u8 0, .int .u8 0, .int .u8 0, .int .u8 0, .int .u8 0, .int .u8 0, .int .u8 0, .int .u8 0, .int .u8 0, .int .u8 0] from by simp [keyA, row, byteV, kb, List.range_succ], show keyA 512 = #[.int .u8 0, .int .u8 2, .int .u8 0, .int .u8 0, .int .u8 0, .int .u8 0, .int .u8 0, .int .u8 0, .int .u8 0, .int .u8 0, .int .u8 0, .int .u8 0, .int .u8 0, .int .u8 0, .int .u8 0, .int .u8 0] from by simp [keyA, row, byteV, kb, List.range_succ]] at this
  exact this
theorem eq_02 (w : World) : (Op.equalIn 10000 26 (.agg #[.int .u8 0, .int .u8 2, .int .u8 0, .int .u8 0, .int .u8 0, .int .u8 0, .int .u8 0, .int .u8 0, .int .u8 0, .int .u8 0, .int .u8 0, .int .u8 0, .int .u8 0, .int .u8 0, .int .u8 0, .int .u8 0]) (.agg #[.int .u8 0, .int .u8 2, .int .u8 0, .int .u8 0, .int .u8 0, .int .u8 0, .int .u8 0, .int .u8 0, .int .u8 0, .int .u8 0, .int .u8 0, .int .u8 0, .int .u8 0, .int .u8 0, .int .u8 0, .int .u8 0])).run Try.prog w = .ok true w := by
  have := key_eqs 512 512 (by decide) (by decide) w
  rw [show keyA 512 = #[.int .u8 0, .int .u8 2, .int .u8 0, .int .u8 0, .int .u8 0, .int .u8 0, .int .u8 0, .int .u8 0, .int .u8 0, .int .u8 0, .int .u8 0, .int .u8 0, .int .u8 0, .int .u8 0, .int .u8 0, .int .u8 0] from by simp [keyA, row, byteV, kb, List.range_succ]] at this
  simpa using this
theorem key_eq_self (a : Nat) (ha : a < 2 ^ 128) (w : World) : (Op.equalIn 10000 26 (.agg (keyA a)) (.agg (keyA a))).run Try.prog w = .ok true w := by
  have := key_eqs a a ha ha w
  simpa using this

set_option maxHeartbeats 1000000 in
theorem fieldTimes_far (K : Nat) (hK : K < 2 ^ 128) (n : Int) (hn : n < -4096 ∨ 4096 < n) (w : World) :
    Calls Try.prog 11 #[.agg (keyA K), .int .i64 n] w fun e w' => e = .returned (.bool true) ∧ Below w.heap.size w w' := by
  have hq := key_eq_self K hK
  have hcall := times_far K n hn
  have h02 := eq_02
  have HC := Lib.hid hcall
  have n0 := Blk.new w (keyA K) 26
  have nb := (Below.refl w.heap.size w).alloc (Nat.le_refl _) (.cells (keyA K) 26)
  go_enter Try.func11, Try.ntmps11
  go_wp2_with (refine load_key rfl _ rfl _ rfl K n0 ?_)
  refine (HC.out _).mono ?_
  rintro e w1 ⟨rfl, b1⟩
  have m0 := n0.below b1 n0.lt
  have mb := nb.trans (b1.mono nb.size)
  have l0 := m0.lt
  obtain ⟨tb, htb⟩ : ∃ tb, tb = w1.heap.size := ⟨_, rfl⟩
  have t0 := Blk.new w1 #[.int .u8 0, .int .u8 0, .int .u8 0, .int .u8 0, .int .u8 0, .int .u8 0, .int .u8 0, .int .u8 0, .int .u8 0, .int .u8 0, .int .u8 0, .int .u8 0, .int .u8 0, .int .u8 0, .int .u8 0, .int .u8 0] 26
  have k0 := m0.alloc (.cells #[.int .u8 0, .int .u8 0, .int .u8 0, .int .u8 0, .int .u8 0, .int .u8 0, .int .u8 0, .int .u8 0, .int .u8 0, .int .u8 0, .int .u8 0, .int .u8 0, .int .u8 0, .int .u8 0, .int .u8 0, .int .u8 0] 26)
  have kb0 := mb.alloc mb.size (.cells #[.int .u8 0, .int .u8 0, .int .u8 0, .int .u8 0, .int .u8 0, .int .u8 0, .int .u8 0, .int .u8 0, .int .u8 0, .int .u8 0, .int .u8 0, .int .u8 0, .int .u8 0, .int .u8 0, .int .u8 0, .int .u8 0] 26)
  rw [← htb] at t0 l0
  clear n0 nb b1 m0 mb
  have sz : (#[.int .u8 0, .int .u8 0, .int .u8 0, .int .u8 0, .int .u8 0, .int .u8 0, .int .u8 0, .int .u8 0, .int .u8 0, .int .u8 0, .int .u8 0, .int .u8 0, .int .u8 0, .int .u8 0, .int .u8 0, .int .u8 0] : Array Value).size = 16 := rfl
  rw [htb] at t0
  go_wp2_with (refine store_key rfl _ _ rfl _ K rfl rfl _ t0 sz ?_)
  rw [← htb] at t0 ⊢
  have t1 := t0.setRow (keyA K)
  have k1 := k0.setRow_other (keyA K) (C := tb) (by omega)
  have kb1 := below_setRow kb0 (g := tb) (by omega) (keyA K)
  generalize (w1.alloc (.cells #[.int .u8 0, .int .u8 0, .int .u8 0, .int .u8 0, .int .u8 0, .int .u8 0, .int .u8 0, .int .u8 0, .int .u8 0, .int .u8 0, .int .u8 0, .int .u8 0, .int .u8 0, .int .u8 0, .int .u8 0, .int .u8 0] 26)).setRow tb (keyA K) = W2 at *
  clear t0 k0 kb0 htb
  refine (times_19 _).mono ?_
  rintro e w3 ⟨rfl, b3⟩
  have t2 := t1.below b3 t1.lt
  have k2 := k1.below b3 k1.lt
  have kb2 := kb1.trans (b3.mono kb1.size)
  clear t1 k1 kb1 b3
  clear hcall
  by_cases h1 : n < -4096
  · go_wp2_with (first | (refine load_key rfl _ rfl _ rfl K t2 ?_) | (refine load_key rfl _ rfl _ rfl K k2 ?_))
    go_ret
    exact ⟨rfl, kb2⟩
  · have h2 : 4096 < n := by omega
    clear hn
    go_wp2_with (first | (refine load_key rfl _ rfl _ rfl K t2 ?_) | (refine load_key rfl _ rfl _ rfl K k2 ?_))
    go_ret
    exact ⟨rfl, kb2⟩

set_option maxHeartbeats 1000000 in
theorem fieldTimes_up (K : Nat) (hK : K < 2 ^ 128) (n : Nat) (hn : n ≤ 4096) (w : World) :
    Calls Try.prog 11 #[.agg (keyA K), .int .i64 n] w fun e w' => e = .returned (.bool true) ∧ Below w.heap.size w w' := by
  have hX := hK
  have hq := key_eq_self (Nums.dbls K n) (Nums.dbls_lt K hK n)
  have hcall := times_up K hK n hn
  have h1 : ¬ (n : Int) < -4096 := by omega
  have h2 : ¬ (4096 : Int) < n := by omega
  have h3 : ¬ (n : Int) < 0 := by omega
  generalize hT : Nums.dbls K n = T at *
  have HT := Lib.hid hT
  clear hT
  have h02 := eq_02
  have HC := Lib.hid hcall
  have n0 := Blk.new w (keyA K) 26
  have nb := (Below.refl w.heap.size w).alloc (Nat.le_refl _) (.cells (keyA K) 26)
  go_enter Try.func11, Try.ntmps11
  go_wp2_with (refine load_key rfl _ rfl _ rfl K n0 ?_)
  refine (HC.out _).mono ?_
  rintro e w1 ⟨rfl, b1⟩
  have m0 := n0.below b1 n0.lt
  have mb := nb.trans (b1.mono nb.size)
  have l0 := m0.lt
  obtain ⟨tb, htb⟩ : ∃ tb, tb = w1.heap.size := ⟨_, rfl⟩
  have t0 := Blk.new w1 #[.int .u8 0, .int .u8 0, .int .u8 0, .int .u8 0, .int .u8 0, .int .u8 0, .int .u8 0, .int .u8 0, .int .u8 0, .int .u8 0, .int .u8 0, .int .u8 0, .int .u8 0, .int .u8 0, .int .u8 0, .int .u8 0] 26
  have k0 := m0.alloc (.cells #[.int .u8 0, .int .u8 0, .int .u8 0, .int .u8 0, .int .u8 0, .int .u8 0, .int .u8 0, .int .u8 0, .int .u8 0, .int .u8 0, .int .u8 0, .int .u8 0, .int .u8 0, .int .u8 0, .int .u8 0, .int .u8 0] 26)
  have kb0 := mb.alloc mb.size (.cells #[.int .u8 0, .int .u8 0, .int .u8 0, .int .u8 0, .int .u8 0, .int .u8 0, .int .u8 0, .int .u8 0, .int .u8 0, .int .u8 0, .int .u8 0, .int .u8 0, .int .u8 0, .int .u8 0, .int .u8 0, .int .u8 0] 26)
  rw [← htb] at t0 l0
  clear n0 nb b1 m0 mb
  have sz : (#[.int .u8 0, .int .u8 0, .int .u8 0, .int .u8 0, .int .u8 0, .int .u8 0, .int .u8 0, .int .u8 0, .int .u8 0, .int .u8 0, .int .u8 0, .int .u8 0, .int .u8 0, .int .u8 0, .int .u8 0, .int .u8 0] : Array Value).size = 16 := rfl
  rw [htb] at t0
  go_wp2_with (refine store_key rfl _ _ rfl _ T rfl rfl _ t0 sz ?_)
  rw [← htb] at t0 ⊢
  have t1 := t0.setRow (keyA T)
  have k1 := k0.setRow_other (keyA T) (C := tb) (by omega)
  have kb1 := below_setRow kb0 (g := tb) (by omega) (keyA T)
  generalize (w1.alloc (.cells #[.int .u8 0, .int .u8 0, .int .u8 0, .int .u8 0, .int .u8 0, .int .u8 0, .int .u8 0, .int .u8 0, .int .u8 0, .int .u8 0, .int .u8 0, .int .u8 0, .int .u8 0, .int .u8 0, .int .u8 0, .int .u8 0] 26)).setRow tb (keyA T) = W2 at *
  clear t0 k0 kb0 htb
  refine (times_19 _).mono ?_
  rintro e w3 ⟨rfl, b3⟩
  have t2 := t1.below b3 t1.lt
  have k2 := k1.below b3 k1.lt
  have kb2 := kb1.trans (b3.mono kb1.size)
  clear t1 k1 kb1 b3
  clear hcall
  go_wp2
  go_loopw [1] (fun i wr => ∃ m : Nat, m ≤ n ∧ i = .int .i64 m ∧ Blk wr w.heap.size (keyA (Nums.dbls K (n - m))) 26 ∧ Blk wr tb (keyA T) 26 ∧ Below w.heap.size w wr) (fun i _ => (intOf i).toNat)
  case atStart => exact ⟨n, Nat.le_refl _, rfl, by rw [Nat.sub_self]; exact k2, t2, kb2⟩
  case round =>
    clear k2 t2 kb2
    obtain ⟨m, hm, rfl, hA, hC, hb⟩ := hrel
    by_cases hlt : (0 : Int) < m
    · have hd := rdouble_any (Nums.dbls K (n - m)) (Nums.dbls_lt K hX _)
      have he : Nums.dbl (Nums.dbls K (n - m)) = Nums.dbls K (n - (m - 1)) := by rw [show n - (m - 1) = n - m + 1 from by omega]; rfl
      rw [he] at hd
      generalize Nums.dbls K (n - m) = x at *
      generalize hy : Nums.dbls K (n - (m - 1)) = y at *
      have HY := Lib.hid hy
      have HD := Lib.hid hd
      clear hy hd he
      go_wp2_with (refine load_key rfl _ rfl _ rfl x hA ?_)
      refine (HD.out _).mono ?_
      rintro e w5 ⟨rfl, b5⟩
      have hA1 := hA.below b5 hA.lt
      have hC1 := hC.below b5 hC.lt
      have hb1 := hb.trans (b5.mono hb.size)
      go_wp2_with (refine store_key rfl _ _ rfl _ y rfl rfl (keyA x) hA1 (keyA_size x) ?_)
      refine ⟨⟨m - 1, by omega, by go_num, by rw [HY.out]; exact hA1.setRow _, hC1.setRow_other _ (by omega), below_setRow hb1 (Nat.le_refl _) _⟩, by simp only [intOf]; omega⟩
    · obtain rfl : m = 0 := by omega
      rw [Nat.sub_zero, HT.out] at hA
      go_wp2_with (first | (refine load_key rfl _ rfl _ rfl T hC ?_) | (refine load_key rfl _ rfl _ rfl T hA ?_))
      go_ret
      exact ⟨rfl, hb⟩

set_option maxHeartbeats 1000000 in
theorem fieldTimes_down (K : Nat) (hK : K < 2 ^ 128) (n : Nat) (h0 : 1 ≤ n) (hn : n ≤ 4096) (w : World) :
    Calls Try.prog 11 #[.agg (keyA K), .int .i64 (-(n : Int))] w fun e w' => e = .returned (.bool true) ∧ Below w.heap.size w w' := by
  have hX := Nums.hlvs_lt K hK n
  have hq := key_eq_self K hK
  have hcall := times_down K hK n h0 hn
  have hfin := Nums.dbls_hlvs K hK n
  generalize Nums.hlvs K n = T at *
  obtain ⟨i, hi⟩ : ∃ i : Int, i = -(n : Int) := ⟨_, rfl⟩
  rw [← hi] at hcall ⊢
  have hneg : -i = (n : Int) := by omega
  have h1 : ¬ i < -4096 := by omega
  have h2 : ¬ (4096 : Int) < i := by omega
  have h3 : i < 0 := by omega
  have HF := Lib.hid hfin
  have HI := Lib.hid hi
  have HN := Lib.hid hneg
  clear hfin hi hneg
  have h02 := eq_02
  have HC := Lib.hid hcall
  have n0 := Blk.new w (keyA K) 26
  have nb := (Below.refl w.heap.size w).alloc (Nat.le_refl _) (.cells (keyA K) 26)
  go_enter Try.func11, Try.ntmps11
  go_wp2_with (refine load_key rfl _ rfl _ rfl K n0 ?_)
  refine (HC.out _).mono ?_
  rintro e w1 ⟨rfl, b1⟩
  have m0 := n0.below b1 n0.lt
  have mb := nb.trans (b1.mono nb.size)
  have l0 := m0.lt
  obtain ⟨tb, htb⟩ : ∃ tb, tb = w1.heap.size := ⟨_, rfl⟩
  have t0 := Blk.new w1 #[.int .u8 0, .int .u8 0, .int .u8 0, .int .u8 0, .int .u8 0, .int .u8 0, .int .u8 0, .int .u8 0, .int .u8 0, .int .u8 0, .int .u8 0, .int .u8 0, .int .u8 0, .int .u8 0, .int .u8 0, .int .u8 0] 26
  have k0 := m0.alloc (.cells #[.int .u8 0, .int .u8 0, .int .u8 0, .int .u8 0, .int .u8 0, .int .u8 0, .int .u8 0, .int .u8 0, .int .u8 0, .int .u8 0, .int .u8 0, .int .u8 0, .int .u8 0, .int .u8 0, .int .u8 0, .int .u8 0] 26)
  have kb0 := mb.alloc mb.size (.cells #[.int .u8 0, .int .u8 0, .int .u8 0, .int .u8 0, .int .u8 0, .int .u8 0, .int .u8 0, .int .u8 0, .int .u8 0, .int .u8 0, .int .u8 0, .int .u8 0, .int .u8 0, .int .u8 0, .int .u8 0, .int .u8 0] 26)
  rw [← htb] at t0 l0
  clear n0 nb b1 m0 mb
  have sz : (#[.int .u8 0, .int .u8 0, .int .u8 0, .int .u8 0, .int .u8 0, .int .u8 0, .int .u8 0, .int .u8 0, .int .u8 0, .int .u8 0, .int .u8 0, .int .u8 0, .int .u8 0, .int .u8 0, .int .u8 0, .int .u8 0] : Array Value).size = 16 := rfl
  rw [htb] at t0
  go_wp2_with (refine store_key rfl _ _ rfl _ T rfl rfl _ t0 sz ?_)
  rw [← htb] at t0 ⊢
  have t1 := t0.setRow (keyA T)
  have k1 := k0.setRow_other (keyA T) (C := tb) (by omega)
  have kb1 := below_setRow kb0 (g := tb) (by omega) (keyA T)
  generalize (w1.alloc (.cells #[.int .u8 0, .int .u8 0, .int .u8 0, .int .u8 0, .int .u8 0, .int .u8 0, .int .u8 0, .int .u8 0, .int .u8 0, .int .u8 0, .int .u8 0, .int .u8 0, .int .u8 0, .int .u8 0, .int .u8 0, .int .u8 0] 26)).setRow tb (keyA T) = W2 at *
  clear t0 k0 kb0 htb
  refine (times_19 _).mono ?_
  rintro e w3 ⟨rfl, b3⟩
  have t2 := t1.below b3 t1.lt
  have k2 := k1.below b3 k1.lt
  have kb2 := kb1.trans (b3.mono kb1.size)
  clear t1 k1 kb1 b3
  clear hcall
  go_wp2_with (first | (refine load_key rfl _ rfl _ rfl K k2 ?_) | (refine load_key rfl _ rfl _ rfl T t2 ?_) | (refine store_key rfl _ _ rfl _ K rfl rfl _ t2 (keyA_size T) ?_) | (refine store_key rfl _ _ rfl _ T rfl rfl _ (k2.setRow_other (keyA K) (by omega)) (keyA_size K) ?_))
  have t3 := (t2.setRow (keyA K)).setRow_other (keyA T) (C := w.heap.size) (by omega)
  have k3 := (k2.setRow_other (keyA K) (C := tb) (by omega)).setRow (keyA T)
  have kb3 := below_setRow (below_setRow kb2 (g := tb) (by omega) (keyA K)) (g := w.heap.size) (Nat.le_refl _) (keyA T)
  clear t2 k2 kb2
  generalize (w3.setRow tb (keyA K)).setRow w.heap.size (keyA T) = W4 at *
  go_loopw [1] (fun i wr => ∃ m : Nat, m ≤ n ∧ i = .int .i64 m ∧ Blk wr w.heap.size (keyA (Nums.dbls T (n - m))) 26 ∧ Blk wr tb (keyA K) 26 ∧ Below w.heap.size w wr) (fun i _ => (intOf i).toNat)
  case atStart => exact ⟨n, Nat.le_refl _, by rw [HN.out], by rw [Nat.sub_self]; exact k3, t3, kb3⟩
  case round =>
    clear k3 t3 kb3
    obtain ⟨m, hm, rfl, hA, hC, hb⟩ := hrel
    by_cases hlt : (0 : Int) < m
    · have hd := rdouble_any (Nums.dbls T (n - m)) (Nums.dbls_lt T hX _)
      have he : Nums.dbl (Nums.dbls T (n - m)) = Nums.dbls T (n - (m - 1)) := by rw [show n - (m - 1) = n - m + 1 from by omega]; rfl
      rw [he] at hd
      generalize Nums.dbls T (n - m) = x at *
      generalize hy : Nums.dbls T (n - (m - 1)) = y at *
      have HY := Lib.hid hy
      have HD := Lib.hid hd
      clear hy hd he
      go_wp2_with (refine load_key rfl _ rfl _ rfl x hA ?_)
      refine (HD.out _).mono ?_
      rintro e w5 ⟨rfl, b5⟩
      have hA1 := hA.below b5 hA.lt
      have hC1 := hC.below b5 hC.lt
      have hb1 := hb.trans (b5.mono hb.size)
      go_wp2_with (refine store_key rfl _ _ rfl _ y rfl rfl (keyA x) hA1 (keyA_size x) ?_)
      refine ⟨⟨m - 1, by omega, by go_num, by rw [HY.out]; exact hA1.setRow _, hC1.setRow_other _ (by omega), below_setRow hb1 (Nat.le_refl _) _⟩, by simp only [intOf]; omega⟩
    · obtain rfl : m = 0 := by omega
      rw [Nat.sub_zero, HF.out] at hA
      go_wp2_with (first | (refine load_key rfl _ rfl _ rfl K hC ?_) | (refine load_key rfl _ rfl _ rfl K hA ?_))
      go_ret
      exact ⟨rfl, hb⟩

theorem fieldTimes_walk (K : Nat) (hK : K < 2 ^ 128) (n : Int) (_hw : (Lit.int .i64 n).wf = true) (w : World) :
    Calls Try.prog 11 #[.agg (keyA K), .int .i64 n] w fun e w' => e = .returned (.bool true) ∧ Below w.heap.size w w' := by
  by_cases h1 : n < -4096 ∨ 4096 < n
  · exact fieldTimes_far K hK n h1 w
  · by_cases h2 : n < 0
    · have := fieldTimes_down K hK (-n).toNat (by omega) (by omega) w
      rw [show -(((-n).toNat : Nat) : Int) = n from by omega] at this
      exact this
    · have := fieldTimes_up K hK n.toNat (by omega) w
      rw [show ((n.toNat : Nat) : Int) = n from by omega] at this
      exact this


/-! ### the row's frame -/
theorem fieldTimes_own : ownKnob Try.prog.godebug = none := by kernel_rfl
theorem fieldTimes_laid : laidOutB Try.prog = true := by kernel_rfl
set_option maxRecDepth 100000 in
theorem fieldTimes_lifted (os : Os) (started : os.Started) (H : Type) (enc : TypeId × Value → H) :
    ReturnsInHanded {} Try.checked os 11 .any (Rows.fieldTimesSpec.pre6 enc Try.prog Try.f11 Rows.fieldTimesRow.domain false) (Rows.fieldTimesSpec.post enc Try.prog Try.f11 false true false false) := by
  refine returnsInHanded_of_change (C := Try.checked) fieldTimes_own started (by kernel_rfl) Try.func11
    (ChangeSpec.witness6 (enc := enc) (C := Try.checked) false ⟨#[], #[.agg #[.int .u8 0, .int .u8 0, .int .u8 0, .int .u8 0, .int .u8 0, .int .u8 0, .int .u8 0, .int .u8 0, .int .u8 0, .int .u8 0, .int .u8 0, .int .u8 0, .int .u8 0, .int .u8 0, .int .u8 0, .int .u8 0], .int .i64 0], []⟩ 8 (by kernel_rfl) (by kernel_rfl) (by kernel_rfl) (by kernel_rfl)) ?_
  intro W base args ds gs before hval0 hW hcnd _
  have hval : ∀ (j : Nat) t v, Try.f11.params[j]? = some t → args[j]? = some v → Value.okWide Try.prog W .any base t v := hval0
  have hW' := hW
  obtain ⟨p, q, hA0, hV, rfl, hfz, hnd⟩ := hW
  have hA : DataW.TrodAll enc Try.prog W 0 (fun _ => true) true Try.f11.params.toList args.toList ds p := hA0
  rw [Try.params11] at hA hval
  obtain ⟨v0, vs0, d0, ds0, p0, q0, hargs, rfl, rfl, h0, r0⟩ := trodAll_cons hA
  obtain ⟨v1, vs1, d1, ds1, p1, q1, rfl, rfl, rfl, h1, r1⟩ := trodAll_cons r0
  obtain ⟨rfl, rfl, rfl⟩ := trodAll_nil r1
  obtain rfl : args = #[v0, v1] := by cases args; simp_all
  obtain ⟨rfl, rfl⟩ := trodVars_none hV
  have k0 := h0
  have lt0 : ∀ x ∈ p0, x.block < W.heap.size := by obtain ⟨m, hm⟩ := k0; exact DataW.trod_lt m _ _ _ hm
  have k1 := h1
  have lt1 : ∀ x ∈ p1, x.block < W.heap.size := by obtain ⟨m, hm⟩ := k1; exact DataW.trod_lt m _ _ _ hm
  obtain ⟨b0, rfl, hb0⟩ := key_of (hval 0 26 v0 rfl rfl) h0
  obtain ⟨a1, rfl, rfl, rfl, w1⟩ := open_int Try.underlying3 (hval 1 3 v1 rfl rfl) h1
  clear hA0 hval0
  refine (fieldTimes_walk b0 hb0 a1 w1 W).mono fun e W' ⟨he, bel⟩ => ?_
  subst he
  exact ⟨_, rfl, _, _, _, [], _, [], hW', trodAll_mk1 (shut_bool Try.underlying4 _), (trodAll_cons_mk (Below.trod fieldTimes_laid (by kernel_rfl) (of_decide_eq_true (by kernel_rfl)) k0 bel lt0) (trodAll_cons_mk (Below.trod fieldTimes_laid (by kernel_rfl) (of_decide_eq_true (by kernel_rfl)) k1 bel lt1) trodAll_mk0)), rfl, bel.frame _, fun h => by cases h⟩

theorem fieldTimes_proved : Rows.FieldTimesSaid :=
  OpenClaim.holds_of_wide 11 Try.f11 rfl rfl rfl rfl rfl rfl rfl ⟨rfl, rfl, rfl, rfl, rfl⟩ rfl rfl rfl rfl rfl (by kernel_rfl) Try.func11 (by kernel_rfl)
    (of_decide_eq_true (by kernel_rfl)) (by unfold Func.isWrapper; rw [if_neg (of_decide_eq_false (by kernel_rfl))]; exact ⟨rfl, rfl⟩)
    (fun os started H enc _ => fieldTimes_lifted os started H enc)
#print axioms fieldTimes_proved

end Go.Proofs.Ytlcfaejomblnjaa
