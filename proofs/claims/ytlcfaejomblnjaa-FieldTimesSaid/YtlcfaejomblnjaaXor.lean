/-
  The walks over sums of blocks: the program's and the document's function return the exclusive or, for every two blocks.
-/
import Derived.Test.YtlcfaejomblnjaaBytes
import Derived.Test.YtlcfaejomblnjaaArr
namespace Go.Proofs.Ytlcfaejomblnjaa
open Go.RowKit

/-- the first n bytes summed -/
def mixV (a b n : Nat) (j : Nat) : Value := .int .u8 ((if j < n then kb (a ^^^ b) j else kb a j : Nat) : Int)
theorem mixV_zero (a b : Nat) : keyA a = row (mixV a b 0) 16 := row_congr fun j _ => by simp [mixV, byteV]
theorem mixV_all (a b : Nat) : row (mixV a b 16) 16 = keyA (a ^^^ b) := row_congr fun j hj => by simp [mixV, byteV, hj]
theorem mixV_step (a b n : Nat) (v : Int) (hv : v = ((kb a n ^^^ kb b n : Nat) : Int)) : row (upd (mixV a b n) n (.int .u8 v)) 16 = row (mixV a b (n + 1)) 16 := row_congr fun j _ => by
  unfold upd mixV
  by_cases hjn : j = n
  · subst hjn; rw [if_pos rfl, if_pos (by omega), hv, kb_xor]
  · rw [if_neg hjn]
    by_cases h : j < n
    · rw [if_pos h, if_pos (by omega)]
    · rw [if_neg h, if_neg (by omega)]

/-- three new blocks behind one another: how they lie -/
theorem three_new (w : World) (x y z : Array Value) (t : TypeId) :
    Blk (((w.alloc (.cells x t)).alloc (.cells y t)).alloc (.cells z t)) w.heap.size x t ∧ Blk (((w.alloc (.cells x t)).alloc (.cells y t)).alloc (.cells z t)) (w.heap.size + 1) y t ∧
    Blk (((w.alloc (.cells x t)).alloc (.cells y t)).alloc (.cells z t)) (w.heap.size + 1 + 1) z t ∧ Below w.heap.size w (((w.alloc (.cells x t)).alloc (.cells y t)).alloc (.cells z t)) := by
  refine ⟨((Blk.new _ _ _).alloc _).alloc _, ?_, ?_, (((Below.refl _ _).alloc (Nat.le_refl _) _).alloc (by simp) _).alloc (by simp; omega) _⟩
  · have := (Blk.new (w.alloc (.cells x t)) y t).alloc (.cells z t); simpa using this
  · have := Blk.new ((w.alloc (.cells x t)).alloc (.cells y t)) z t; simpa using this

set_option maxHeartbeats 400000 in
theorem xor_any (a b : Nat) (w : World) :
    Calls Try.prog 15 #[.agg (keyA a), .agg (keyA b)] w fun e w' => e = .returned (.agg (keyA (a ^^^ b))) ∧ Below w.heap.size w w' := by
  obtain ⟨hA, hB1, hC, hb⟩ := three_new w (keyA a) (keyA b) #[.int .u8 0, .int .u8 0, .int .u8 0, .int .u8 0, .int .u8 0, .int .u8 0, .int .u8 0, .int .u8 0, .int .u8 0, .int .u8 0, .int .u8 0, .int .u8 0, .int .u8 0, .int .u8 0, .int .u8 0, .int .u8 0] 26
  go_enter Try.func15, Try.ntmps15
  go_wp2_with (refine load_key rfl _ rfl _ rfl b hB1 ?_)
  go_loopw [8] (fun i wr => ∃ n : Nat, n ≤ 16 ∧ i = .int .i64 n ∧ Blk wr w.heap.size (row (mixV a b n) 16) 26 ∧ Blk wr (w.heap.size + 1 + 1) (keyA 0) 26 ∧ Below w.heap.size w wr) (fun i _ => (16 - intOf i).toNat)
  case atStart => exact ⟨0, by omega, rfl, by rw [← mixV_zero]; exact hA, by rw [← zero16]; exact hC, hb⟩
  case round =>
    clear hA hB1 hC hb
    obtain ⟨n, hn, rfl, hA, hC, hb⟩ := hrel
    by_cases hlt : (n : Int) < 16
    · have hix := key_index b n (by omega)
      have hc : wr.cell? ⟨w.heap.size, n, none⟩ = some (.int .u8 (kb a n : Nat)) := by
        rw [hA.cell (row_at _ _ _ (by omega))]; simp [mixV]
      have hf := hA.frozen n
      have k1 := kb_lt a n
      have k2 := kb_lt b n
      have hv := u8_xor_nat _ _ k1 k2
      have HV := Lib.hid hv
      clear hv
      go_wp2
      refine ⟨⟨n + 1, by omega, by go_num, ?_, hC.other (by show w.heap.size ≠ _; omega) _, hb.setCell (Nat.le_refl _) _⟩, by simp only [intOf]; omega⟩
      have hs := hA.set n (.int .u8 (bits .xor .u8 (kb a n : Nat) (kb b n : Nat)))
      rw [row_set, mixV_step a b n _ HV.out] at hs
      exact hs
    · obtain rfl : n = 16 := by omega
      rw [mixV_all] at hA
      go_wp2_with (first | (refine load_key rfl _ rfl _ rfl (a ^^^ b) hA ?_) | (refine store_key rfl _ _ rfl _ (a ^^^ b) rfl rfl (keyA 0) hC (keyA_size 0) ?_))
      exact bodyPost_ret (key_results Try.f15 4 rfl _ _ _ _ rfl (hC.setRow _)) rfl ⟨rfl, below_setRow hb (by omega) _⟩

/-! ### the document's sum, bit by bit -/
/-- bytes below n are laid whole, byte n is laid down to bit m -/
def outV (x n m : Nat) (j : Nat) : Value := .int .u8 ((if j < n then kb x j else if j = n then kb x n / 2 ^ m else 0 : Nat) : Int)
theorem outV_zero (x : Nat) : keyA 0 = row (outV x 0 8) 16 := row_congr fun j _ => by
  simp only [outV, byteV, Nat.not_lt_zero, if_false]
  have : kb x 0 / 2 ^ 8 = 0 := Nat.div_eq_of_lt (kb_lt x 0)
  rw [this]; simp [kb]
theorem outV_next (x n : Nat) : row (outV x n 0) 16 = row (outV x (n + 1) 8) 16 := row_congr fun j _ => by
  simp only [outV]
  have : kb x (n + 1) / 2 ^ 8 = 0 := Nat.div_eq_of_lt (kb_lt x _)
  rw [this, Nat.pow_zero, Nat.div_one]
  by_cases h1 : j < n
  · rw [if_pos h1, if_pos (by omega)]
  · by_cases h2 : j = n
    · rw [if_neg h1, if_pos h2, if_pos (by omega), h2]
    · rw [if_neg h1, if_neg h2, if_neg (by omega)]; split <;> rfl
theorem outV_all (x : Nat) : row (outV x 16 8) 16 = keyA x := row_congr fun j hj => by simp [outV, byteV, hj]
theorem outV_at (x n m : Nat) : outV x n m n = .int .u8 ((kb x n / 2 ^ m : Nat) : Int) := by simp [outV]
theorem outV_step (x n m : Nat) (v : Int) (hv : v = ((kb x n / 2 ^ m : Nat) : Int)) : row (upd (outV x n (m + 1)) n (.int .u8 v)) 16 = row (outV x n m) 16 := row_congr fun j _ => by
  unfold upd outV
  by_cases hjn : j = n
  · subst hjn; simp [hv]
  · simp [hjn]
/-- one bit more -/
theorem bit_more (y m : Nat) (hy : y < 256) : y / 2 ^ m = y / 2 ^ (m + 1) * 2 + bt y m ∧ y / 2 ^ (m + 1) < 128 := by
  unfold bt
  have : y / 2 ^ (m + 1) = y / 2 ^ m / 2 := by rw [Nat.pow_succ, Nat.div_div_eq_div_mul]
  have h2 : y / 2 ^ m ≤ y := Nat.div_le_self _ _
  rw [this]
  constructor <;> omega
theorem bt_xor (a b m : Nat) : bt (a ^^^ b) m = (bt a m + bt b m) % 2 := by
  have h1 := bt_lt a m
  have h2 := bt_lt b m
  have : bt (a ^^^ b) m = bt a m ^^^ bt b m := Nums.bit_xor a b m
  rw [this]
  generalize bt a m = x at *
  generalize bt b m = y at *
  obtain rfl | rfl : x = 0 ∨ x = 1 := by omega
  all_goals obtain rfl | rfl : y = 0 ∨ y = 1 := by omega
  all_goals rfl

theorem four_new (w : World) (x y z u : Array Value) (t : TypeId) :
    Blk ((((w.alloc (.cells x t)).alloc (.cells y t)).alloc (.cells z t)).alloc (.cells u t)) w.heap.size x t ∧ Blk ((((w.alloc (.cells x t)).alloc (.cells y t)).alloc (.cells z t)).alloc (.cells u t)) (w.heap.size + 1) y t ∧
    Blk ((((w.alloc (.cells x t)).alloc (.cells y t)).alloc (.cells z t)).alloc (.cells u t)) (w.heap.size + 1 + 1) z t ∧ Blk ((((w.alloc (.cells x t)).alloc (.cells y t)).alloc (.cells z t)).alloc (.cells u t)) (w.heap.size + 1 + 1 + 1) u t ∧
    Below w.heap.size w ((((w.alloc (.cells x t)).alloc (.cells y t)).alloc (.cells z t)).alloc (.cells u t)) := by
  obtain ⟨h1, h2, h3, hb⟩ := three_new w x y z t
  refine ⟨h1.alloc _, h2.alloc _, h3.alloc _, ?_, hb.alloc (by simp; omega) _⟩
  have := Blk.new (((w.alloc (.cells x t)).alloc (.cells y t)).alloc (.cells z t)) u t; simpa using this

set_option maxHeartbeats 1000000 in
theorem rxor_any (a b : Nat) (w : World) :
    Calls Try.prog 16 #[.agg (keyA a), .agg (keyA b)] w fun e w' => e = .returned (.agg (keyA (a ^^^ b))) ∧ Below w.heap.size w w' := by
  obtain ⟨hA, hB, hC, hD, hb⟩ := four_new w (keyA a) (keyA b) #[.int .u8 0, .int .u8 0, .int .u8 0, .int .u8 0, .int .u8 0, .int .u8 0, .int .u8 0, .int .u8 0, .int .u8 0, .int .u8 0, .int .u8 0, .int .u8 0, .int .u8 0, .int .u8 0, .int .u8 0, .int .u8 0] #[.int .u8 0, .int .u8 0, .int .u8 0, .int .u8 0, .int .u8 0, .int .u8 0, .int .u8 0, .int .u8 0, .int .u8 0, .int .u8 0, .int .u8 0, .int .u8 0, .int .u8 0, .int .u8 0, .int .u8 0, .int .u8 0] 26
  obtain ⟨x, hx⟩ : ∃ x, x = a ^^^ b := ⟨_, rfl⟩
  have HX := Lib.hid hx
  rw [← hx]
  clear hx
  go_enter Try.func16, Try.ntmps16
  go_wp2
  go_loopw [6, 7] (fun i _ wr => ∃ n : Nat, n ≤ 16 ∧ i = .int .i64 n ∧ Blk wr w.heap.size (keyA a) 26 ∧ Blk wr (w.heap.size + 1) (keyA b) 26 ∧ Blk wr (w.heap.size + 1 + 1) (keyA 0) 26 ∧ Blk wr (w.heap.size + 1 + 1 + 1) (row (outV x n 8) 16) 26 ∧ Below w.heap.size w wr) (fun i _ _ => (16 - intOf i).toNat)
  case atStart => exact ⟨0, by omega, rfl, hA, hB, by rw [← zero16]; exact hC, by rw [← outV_zero, ← zero16]; exact hD, hb⟩
  case round =>
    clear hA hB hC hD hb
    obtain ⟨n, hn, rfl, hA, hB, hC, hD, hb⟩ := hrel
    by_cases hlt : (n : Int) < 16
    · go_wp2
      obtain ⟨wo, rfl⟩ : ∃ wo : World, wo = wr := ⟨_, rfl⟩
      go_loopw [7] (fun k wr => ∃ m : Nat, m ≤ 8 ∧ k = .int .i64 ((m : Int) - 1) ∧ Blk wr w.heap.size (keyA a) 26 ∧ Blk wr (w.heap.size + 1) (keyA b) 26 ∧ Blk wr (w.heap.size + 1 + 1) (keyA 0) 26 ∧ Blk wr (w.heap.size + 1 + 1 + 1) (row (outV x n m) 16) 26 ∧ Below w.heap.size w wr) (fun i _ => (intOf i + 1).toNat)
      case atStart => exact ⟨8, by omega, rfl, hA, hB, hC, hD, hb⟩
      case round =>
        clear hA hB hC hD hb
        obtain ⟨m, hm, rfl, hA, hB, hC, hD, hb⟩ := hrel
        by_cases hlt2 : (0 : Int) ≤ (m : Int) - 1
        · obtain ⟨m, rfl⟩ : ∃ m', m = m' + 1 := ⟨m - 1, by omega⟩
          have hca : wr.cell? ⟨w.heap.size, n, none⟩ = some (.int .u8 (kb a n : Nat)) := hA.cell (keyA_at _ _ (by omega))
          have hcb : wr.cell? ⟨w.heap.size + 1, n, none⟩ = some (.int .u8 (kb b n : Nat)) := hB.cell (keyA_at _ _ (by omega))
          have hcd : wr.cell? ⟨w.heap.size + 1 + 1 + 1, n, none⟩ = some (.int .u8 (kb x n / 2 ^ (m + 1) : Nat)) := by
            rw [hD.cell (row_at _ _ _ (by omega)), outV_at]
          have hf := hD.frozen n
          obtain ⟨q1, q2⟩ := bit_more (kb x n) m (kb_lt _ _)
          have q3 : bt (kb x n) m = (bt (kb a n) m + bt (kb b n) m) % 2 := by rw [HX.out, kb_xor, bt_xor]
          have Q1 := Lib.hid q1
          have Q3 := Lib.hid q3
          clear q1 q3
          generalize kb x n / 2 ^ (m + 1) = v at *
          have b1 := bt_lt (kb a n) m
          have b2 := bt_lt (kb b n) m
          have ka := kb_lt a n
          have kb' := kb_lt b n
          have e1 : ((m + 1 : Nat) : Int) - 1 = (m : Int) := by omega
          rw [e1]
          have x1 : (n : Int) ≤ 15 := by omega
          have x2 : (m : Int) ≤ 7 := by omega
          have w1 : (0 : Int) ≤ (n : Int) := by omega
          have w2 : (n : Int) < 16 := by omega
          have w3 : ((n : Int)).toNat = n := by omega
          clear e1 hlt2 hlt
          go_wp2
          refine wp_region_still_tail 20 (by kernel_rfl) (by kernel_rfl) ?_
          simp only [List.take_succ_cons, List.take_zero, List.drop_succ_cons, List.drop_zero]
          repeat (refine wpStill_step (fun K hK => ?_); go_simp; (try go_ints); (try go_simp); refine hK _ ?_; clear hK K)
          still_call (bit_any (kb a n) m ka (by omega) _)
          repeat (refine wpStill_step (fun K hK => ?_); go_simp; (try go_ints); (try go_simp); refine hK _ ?_; clear hK K)
          still_call (bit_any (kb b n) m kb' (by omega) _)
          repeat (refine wpStill_step (fun K hK => ?_); go_simp; (try go_ints); (try go_simp); refine hK _ ?_; clear hK K)
          refine wpStill_nil ?_
          change wpList _ _ _ _ _ wr.drew
          go_wp2
          have hs := hD.set n (.int .u8 ((v : Int) * 2 + ((bt (kb a n) m : Nat) + (bt (kb b n) m : Nat)) % 2))
          rw [row_set, outV_step x n m _ (by rw [Q1.out, Q3.out]; omega)] at hs
          refine ⟨⟨m, by omega, rfl, (hA.other (by show w.heap.size + 1 + 1 + 1 ≠ _; omega) _).drew, (hB.other (by show w.heap.size + 1 + 1 + 1 ≠ _; omega) _).drew, (hC.other (by show w.heap.size + 1 + 1 + 1 ≠ _; omega) _).drew, hs.drew, (hb.setCell (by show w.heap.size ≤ w.heap.size + 1 + 1 + 1; omega) _).drew⟩, by simp only [intOf]; omega⟩
        · obtain rfl : m = 0 := by omega
          go_wp2
          rw [outV_next] at hD
          refine ⟨⟨n + 1, by omega, by go_num, hA, hB, hC, hD, hb⟩, by simp only [intOf]; omega⟩
    · obtain rfl : n = 16 := by omega
      rw [outV_all] at hD
      go_wp2_with (first | (refine load_key rfl _ rfl _ rfl x hD ?_) | (refine store_key rfl _ _ rfl _ x rfl rfl (keyA 0) hC (keyA_size 0) ?_))
      exact bodyPost_ret (key_results Try.f16 4 rfl _ _ _ _ rfl (hC.setRow _)) rfl ⟨rfl, below_setRow hb (by omega) _⟩

end Go.Proofs.Ytlcfaejomblnjaa
