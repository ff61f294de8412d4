/-
  The walks over the functions on bytes: what each of them returns, for every byte. Condition: the arguments are bytes (0 to 255).
-/
import Derived.Test.YtlcfaejomblnjaaProg
import Derived.Test.YtlcfaejomblnjaaCells
import Derived.Test.YtlcfaejomblnjaaNums
namespace Go.Proofs.Ytlcfaejomblnjaa
open Go.RowKit

theorem tw_int (b : Nat) (hb : b < 256) : bits .xor .u8 ((b : Int) * 2 % 256) (27 * ((b : Int) / 128)) = ((Nums.tw b : Nat) : Int) := by
  have h1 : ((b : Int) * 2 % 256) = ((b * 2 % 256 : Nat) : Int) := by omega
  have h2 : 27 * ((b : Int) / 128) = ((27 * (b / 128) : Nat) : Int) := by omega
  rw [h1, h2, u8_xor_nat _ _ (Nat.mod_lt _ (by decide)) (by omega)]
  rfl

set_option maxHeartbeats 400000 in
theorem twice_any (b : Nat) (hb : b < 256) (w : World) :
    Calls Try.prog 13 #[.int .u8 b] w fun e w' => e = .returned (.int .u8 (Nums.tw b : Nat)) ∧ w' = w := by
  have hb1 : (b : Int) ≤ 255 := by omega
  go_enter Try.func13, Try.ntmps13
  go_wp2
  go_ret
  exact ⟨ret_int (tw_int b hb), rfl⟩

/-- a bit, as the document's function returns it -/
def bt (b i : Nat) : Nat := b / 2 ^ i % 2
theorem bt_lt (b i : Nat) : bt b i < 2 := Nat.mod_lt _ (by decide)

set_option maxHeartbeats 400000 in
theorem bit_any (b i : Nat) (hb : b < 256) (hi : i ≤ 7) (w : World) :
    Calls Try.prog 25 #[.int .u8 b, .int .i64 i] w fun e w' => e = .returned (.int .i64 (bt b i : Nat)) ∧ w' = w := by
  go_enter Try.func25, Try.ntmps25
  go_wp2
  go_loop [0, 5] (fun x k => ∃ n m : Nat, n ≤ i ∧ m < 256 ∧ Hid (m = b / 2 ^ n) ∧ k = .int .i64 n ∧ x = .int .u8 m) (fun _ k => i - (intOf k).toNat)
  case atStart => exact ⟨0, b, Nat.zero_le _, hb, by unfold Hid; simp, rfl, rfl⟩
  case round =>
    obtain ⟨n, m, hn, hm, hd, rfl, rfl⟩ := hrel
    by_cases hlt : (n : Int) < i
    · go_wp2
      refine ⟨⟨n + 1, m / 2, by omega, by omega, ?_, by go_num, by go_num⟩, by simp [intOf]; omega⟩
      unfold Hid; rw [hd.out, Nat.pow_succ, Nat.div_div_eq_div_mul]
    · go_wp2
      go_ret
      refine ⟨ret_int ?_, rfl⟩
      have : n = i := by omega
      subst this
      unfold bt
      rw [← hd.out]; omega

/-! ### the program's product -/
theorem and_one (b : Nat) (hb : b < 256) : bits .and .u8 (b : Int) 1 = ((b % 2 : Nat) : Int) := by
  have := u8_and_nat b 1 hb (by decide)
  rw [show ((1 : Nat) : Int) = 1 from rfl] at this
  rw [this, Nat.and_one_is_mod]

theorem mul_step (a b o : Nat) (ha : a < 256) (hb : b < 256) (ho : o < 256) : bits .xor .u8 (o : Int) (((a : Int) * bits .and .u8 (b : Int) 1) % 256) = ((o ^^^ a * (b % 2) : Nat) : Int) := by
  rw [and_one b hb]
  have h := Nums.mulbit_lt a b ha
  have : ((a : Int) * ((b % 2 : Nat) : Int)) % 256 = ((a * (b % 2) : Nat) : Int) := by
    rw [← Int.natCast_mul]
    generalize a * (b % 2) = x at h
    omega
  rw [this, u8_xor_nat _ _ ho h]

theorem mulF_stop (f a b o : Nat) (hb : b = 0) : Nums.mulF f a b o = o := by subst hb; exact Nums.mulF_zero f a o

set_option maxHeartbeats 400000 in
theorem mul_any (a b : Nat) (ha : a < 256) (hb : b < 256) (w : World) :
    Calls Try.prog 17 #[.int .u8 a, .int .u8 b] w fun e w' => e = .returned (.int .u8 (Nums.mul a b : Nat)) ∧ w' = w := by
  go_enter Try.func17, Try.ntmps17
  go_wp2
  go_loop [0, 1, 5] (fun x y z => ∃ f p q o : Nat, p < 256 ∧ q < 256 ∧ o < 256 ∧ Hid (q < 2 ^ f) ∧ Hid (Nums.mulF f p q o = Nums.mul a b) ∧ x = .int .u8 p ∧ y = .int .u8 q ∧ z = .int .u8 o) (fun _ y _ => (intOf y).toNat)
  case atStart => exact ⟨8, a, b, 0, ha, hb, by decide, hb, rfl, rfl, rfl, rfl⟩
  case round =>
    obtain ⟨f, p, q, o, hp, hq, ho, hf, hd, rfl, rfl, rfl⟩ := hrel
    by_cases hlt : (0 : Int) < q
    · have hq1 : (q : Int) ≤ 255 := by omega
      go_wp2_with (go_at_call 13; refine (twice_any p hp _).mono ?_; rintro e w' ⟨rfl, rfl⟩)
      have hq0 : 0 < q := by omega
      obtain ⟨f', rfl⟩ : ∃ f', f = f' + 1 := by
        cases f with
        | zero => have := hf.out; simp at this; omega
        | succ f => exact ⟨f, rfl⟩
      refine ⟨⟨f', Nums.tw p, q / 2, o ^^^ p * (q % 2), Nums.tw_lt p hp, by omega, Nums.lt_xor ho (Nums.mulbit_lt p q hp), ?_, hd, rfl, by go_num, val_int (mul_step p q o hp hq ho)⟩, by simp only [intOf]; omega⟩
      have := hf.out
      unfold Hid
      rw [Nat.pow_succ] at this; omega
    · go_wp2
      go_ret
      exact ⟨ret_int (by rw [← hd.out, mulF_stop f p q o (by omega)]), rfl⟩

/-! ### the document's product -/
/-- a number's bits, as a row of cells -/
def bitRow (N k : Nat) : Array Value := ((List.range k).map fun j => Value.int .i64 (bt N j : Nat)).toArray
theorem bitRow_at (N k j : Nat) (h : j < k) : (bitRow N k)[j]? = some (.int .i64 (bt N j : Nat)) := by simp [bitRow, h]
theorem sh_bit (x j i : Nat) (hx : x < 2) (hij : ¬ j = i) : (x <<< j) / 2 ^ i % 2 = 0 := by
  rw [Nat.shiftLeft_eq]
  by_cases h : i < j
  · have : x * 2 ^ j = 2 * (x * 2 ^ (j - i - 1)) * 2 ^ i := by
      rw [Nat.mul_assoc, Nat.mul_assoc, ← Nat.pow_add, Nat.mul_left_comm, ← Nat.pow_succ']; congr 2; omega
    rw [this, Nat.mul_div_cancel _ (Nat.two_pow_pos i)]; omega
  · have h2 : x * 2 ^ j < 2 ^ i := by
      have : 2 ^ (j + 1) ≤ 2 ^ i := Nat.pow_le_pow_right (by decide) (by omega)
      rw [Nat.pow_succ] at this
      have h3 := Nat.two_pow_pos j
      obtain rfl | rfl : x = 0 ∨ x = 1 := by omega
      · have := Nat.two_pow_pos i; omega
      · omega
    rw [Nat.div_eq_of_lt h2]
theorem bt_other (N j i : Nat) (hij : ¬ j = i) : bt (N ^^^ (1 <<< j)) i = bt N i := by
  unfold bt; rw [Nums.bit_xor, sh_bit 1 j i (by decide) hij, Nat.xor_zero]
theorem bitRow_set (N k j x : Nat) (y : Int) (hx : x < 2) (hy : y = ((bt N j ^^^ x : Nat) : Int)) : (bitRow N k).setIfInBounds j (.int .i64 y) = bitRow (N ^^^ (x <<< j)) k := by
  apply Array.ext_getElem?
  intro i
  rw [Array.getElem?_setIfInBounds]
  by_cases hi : i < k
  · rw [bitRow_at _ _ _ hi, bitRow_at _ _ _ hi]
    by_cases hij : j = i
    · subst hij
      rw [if_pos rfl, if_pos (by simp [bitRow]; omega), hy]
      unfold bt
      rw [Nums.bit_xor]
      congr 3
      rw [Nat.shiftLeft_eq, Nat.mul_div_cancel _ (Nat.two_pow_pos j), Nat.mod_eq_of_lt hx]
    · rw [if_neg hij]
      unfold bt
      rw [Nums.bit_xor]
      congr 3
      have := sh_bit x j i hx hij
      rw [this]; simp
  · have e1 : (bitRow N k)[i]? = none := by simp [bitRow]; omega
    have e2 : (bitRow (N ^^^ (x <<< j)) k)[i]? = none := by simp [bitRow]; omega
    rw [e1, e2]
    split
    · simp [bitRow]; omega
    · rfl

theorem new15 : (#[Value.int IntKind.i64 0, Value.int IntKind.i64 0, Value.int IntKind.i64 0, Value.int IntKind.i64 0, Value.int IntKind.i64 0, Value.int IntKind.i64 0, Value.int IntKind.i64 0, Value.int IntKind.i64 0, Value.int IntKind.i64 0, Value.int IntKind.i64 0, Value.int IntKind.i64 0, Value.int IntKind.i64 0, Value.int IntKind.i64 0, Value.int IntKind.i64 0, Value.int IntKind.i64 0] : Array Value) = bitRow 0 15 := by simp [bitRow, bt, List.range_succ]

theorem flip (z : Nat) (hz : z < 2) : (1 : Int) - (z : Int) = ((z ^^^ 1 : Nat) : Int) := by
  obtain rfl | rfl : z = 0 ∨ z = 1 := by omega
  all_goals decide
/-- what a round of the reduction lays -/
theorem red_store (N k : Nat) (h8 : 8 ≤ k) (hk : bt N k = 1) :
    (((((bitRow N 15).setIfInBounds k (.int .i64 0)).setIfInBounds (k - 8) (.int .i64 (1 - (bt N (k - 8) : Nat)))).setIfInBounds (k - 7) (.int .i64 (1 - (bt N (k - 7) : Nat)))).setIfInBounds (k - 5) (.int .i64 (1 - (bt N (k - 5) : Nat)))).setIfInBounds (k - 4) (.int .i64 (1 - (bt N (k - 4) : Nat))) = bitRow (Nums.redS k N) 15 := by
  have e : Nums.redS k N = N ^^^ (1 <<< k) ^^^ (1 <<< (k - 8)) ^^^ (1 <<< (k - 7)) ^^^ (1 <<< (k - 5)) ^^^ (1 <<< (k - 4)) := if_pos hk
  rw [e]
  rw [bitRow_set N 15 k 1 0 (by decide) (by rw [hk]; rfl)]
  rw [bitRow_set _ 15 (k - 8) 1 _ (by decide) (by rw [bt_other _ _ _ (by omega)]; exact flip _ (bt_lt _ _))]
  rw [bitRow_set _ 15 (k - 7) 1 _ (by decide) (by rw [bt_other _ _ _ (by omega), bt_other _ _ _ (by omega)]; exact flip _ (bt_lt _ _))]
  rw [bitRow_set _ 15 (k - 5) 1 _ (by decide) (by rw [bt_other _ _ _ (by omega), bt_other _ _ _ (by omega), bt_other _ _ _ (by omega)]; exact flip _ (bt_lt _ _))]
  rw [bitRow_set _ 15 (k - 4) 1 _ (by decide) (by rw [bt_other _ _ _ (by omega), bt_other _ _ _ (by omega), bt_other _ _ _ (by omega), bt_other _ _ _ (by omega)]; exact flip _ (bt_lt _ _))]

/-- what a round of the innermost loop lays -/
theorem pair_val (x y z : Nat) (hx : x < 2) (hy : y < 2) (hz : z < 2) : ((z : Int) + (x : Int) * (y : Int)) % 2 = ((z ^^^ (x * y) : Nat) : Int) ∧ 0 ≤ (x : Int) * (y : Int) ∧ (x : Int) * (y : Int) ≤ 1 ∧ x * y < 2 := by
  obtain rfl | rfl : x = 0 ∨ x = 1 := by omega
  all_goals obtain rfl | rfl : y = 0 ∨ y = 1 := by omega
  all_goals obtain rfl | rfl : z = 0 ∨ z = 1 := by omega
  all_goals decide

/-- a round of the last loop -/
theorem out_step (N k : Nat) (h1 : 1 ≤ k) (h8 : k ≤ 8) : N % 256 / 2 ^ (k - 1) = 2 * (N % 256 / 2 ^ k) + bt N (k - 1) := by
  unfold bt
  obtain rfl | rfl | rfl | rfl | rfl | rfl | rfl | rfl : k = 1 ∨ k = 2 ∨ k = 3 ∨ k = 4 ∨ k = 5 ∨ k = 6 ∨ k = 7 ∨ k = 8 := by omega
  all_goals simp only [Nat.reduceSub, Nat.reducePow]
  all_goals omega

set_option maxHeartbeats 1000000 in
theorem rmul_any (a b : Nat) (ha : a < 256) (hb : b < 256) (w : World) :
    Calls Try.prog 14 #[.int .u8 a, .int .u8 b] w fun e w' => e = .returned (.int .u8 (Nums.rmul a b : Nat)) ∧ Below w.heap.size w w' := by
  go_enter Try.func14, Try.ntmps14
  go_wp2
  go_loopw [6, 7] (fun i _ wr => ∃ n : Nat, n ≤ 8 ∧ i = .int .i64 n ∧ Blk wr w.heap.size (bitRow (Nums.clO a b n) 15) 40 ∧ Below w.heap.size w wr) (fun i _ _ => (8 - intOf i).toNat)
  case atStart => exact ⟨0, by omega, rfl, by rw [new15]; exact Blk.new _ _ _, (Below.refl _ _).alloc (Nat.le_refl _) _⟩
  case round =>
    obtain ⟨n, hn, rfl, hB, hw⟩ := hrel
    by_cases hlt : (n : Int) < 8
    · go_wp2
      obtain ⟨wo, rfl⟩ : ∃ wo : World, wo = wr := ⟨_, rfl⟩
      go_loopw [7] (fun k wr => ∃ m : Nat, m ≤ 8 ∧ k = .int .i64 m ∧ Blk wr w.heap.size (bitRow (Nums.clI a b n m (Nums.clO a b n)) 15) 40 ∧ Below w.heap.size w wr) (fun i _ => (8 - intOf i).toNat)
      case atStart => exact ⟨0, by omega, rfl, hB, hw⟩
      case round =>
        obtain ⟨m, hm, rfl, hB2, hw2⟩ := hrel
        by_cases hlt2 : (m : Int) < 8
        · have hc : wr.cell? ⟨w.heap.size, n + m, none⟩ = some (.int .i64 (bt (Nums.clI a b n m (Nums.clO a b n)) (n + m) : Nat)) := hB2.cell (bitRow_at _ _ _ (by omega))
          have hf : wr.frozen? ⟨w.heap.size, n + m, none⟩ = false := hB2.frozen _
          have x1 : (n:Int) ≤ 7 := by omega
          have x3 : 0 ≤ (n:Int) + m := by omega
          have x4 : (n:Int) + m < 15 := by omega
          have x5 : ((n:Int) + m).toNat = n + m := by omega
          have x2 : (m:Int) ≤ 7 := by omega
          obtain ⟨p1, p2, p3, p4⟩ := pair_val (bt a n) (bt b m) (bt (Nums.clI a b n m (Nums.clO a b n)) (n + m)) (bt_lt _ _) (bt_lt _ _) (bt_lt _ _)
          have P1 := Lib.hid p1
          have p5 := bt_lt (Nums.clI a b n m (Nums.clO a b n)) (n + m)
          clear p1
          go_wp2
          refine wp_region_still_tail 18 (by kernel_rfl) (by kernel_rfl) ?_
          simp only [List.take_succ_cons, List.take_zero, List.drop_succ_cons, List.drop_zero]
          repeat (refine wpStill_step (fun K hK => ?_); go_simp; (try go_ints); (try go_simp); refine hK _ ?_; clear hK K)
          still_call (bit_any a n ha (by omega) _)
          repeat (refine wpStill_step (fun K hK => ?_); go_simp; (try go_ints); (try go_simp); refine hK _ ?_; clear hK K)
          still_call (bit_any b m hb (by omega) _)
          repeat (refine wpStill_step (fun K hK => ?_); go_simp; (try go_ints); (try go_simp); refine hK _ ?_; clear hK K)
          refine wpStill_nil ?_
          change wpList _ _ _ _ _ wr.drew
          go_wp2
          refine ⟨⟨m + 1, by omega, by go_num, ?_, ?_⟩, by simp [intOf]; omega⟩
          · have hs := hB2.set (n + m) (.int .i64 (((bt (Nums.clI a b n m (Nums.clO a b n)) (n + m) : Nat) + (bt a n : Nat) * (bt b m : Nat)) % 2))
            rw [bitRow_set _ _ _ _ _ p4 P1.out] at hs
            exact hs.drew
          · exact (hw2.setCell (Nat.le_refl _) _).drew
        · go_wp2
          obtain rfl : m = 8 := by omega
          refine ⟨⟨n + 1, by omega, by go_num, hB2, hw2⟩, by simp [intOf]; omega⟩
    · go_wp2
      obtain rfl : n = 8 := by omega
      obtain ⟨N0, hN0⟩ : ∃ N0, N0 = Nums.clO a b 8 := ⟨_, rfl⟩
      have HN := Lib.hid hN0
      rw [← hN0] at hB
      clear hN0
      obtain ⟨wo, rfl⟩ : ∃ wo : World, wo = wr := ⟨_, rfl⟩
      go_loopw [8] (fun i wr => ∃ k : Nat, 7 ≤ k ∧ k ≤ 14 ∧ i = .int .i64 k ∧ Blk wr w.heap.size (bitRow (Nums.red (14 - k) N0) 15) 40 ∧ Below w.heap.size w wr) (fun i _ => (intOf i).toNat)
      case atStart => exact ⟨14, by omega, by omega, rfl, hB, hw⟩
      case round =>
        obtain ⟨k, hk1, hk2, rfl, hB2, hw2⟩ := hrel
        by_cases hlt2 : (8 : Int) ≤ k
        · obtain ⟨N, hN⟩ : ∃ N, N = Nums.red (14 - k) N0 := ⟨_, rfl⟩
          have HN2 := Lib.hid hN
          rw [← hN] at hB2
          clear hN
          have hf : ∀ j, wr.frozen? ⟨w.heap.size, j, none⟩ = false := fun j => hB2.frozen j
          have hz := bt_lt N k
          by_cases hbit : bt N k = 1
          · have hc : wr.cell? ⟨w.heap.size, k, none⟩ = some (.int .i64 1) := by rw [hB2.cell (bitRow_at _ _ _ (by omega)), hbit]; rfl
            have hc8 : wr.cell? ⟨w.heap.size, k - 8, none⟩ = some (.int .i64 (bt N (k - 8) : Nat)) := hB2.cell (bitRow_at _ _ _ (by omega))
            have hc7 : wr.cell? ⟨w.heap.size, k - 7, none⟩ = some (.int .i64 (bt N (k - 7) : Nat)) := hB2.cell (bitRow_at _ _ _ (by omega))
            have hc5 : wr.cell? ⟨w.heap.size, k - 5, none⟩ = some (.int .i64 (bt N (k - 5) : Nat)) := hB2.cell (bitRow_at _ _ _ (by omega))
            have hc4 : wr.cell? ⟨w.heap.size, k - 4, none⟩ = some (.int .i64 (bt N (k - 4) : Nat)) := hB2.cell (bitRow_at _ _ _ (by omega))
            have HB := Lib.hid hbit
            clear hbit hz
            have q8 := bt_lt N (k - 8)
            have q7 := bt_lt N (k - 7)
            have q5 := bt_lt N (k - 5)
            have q4 := bt_lt N (k - 4)
            go_wp2
            refine ⟨⟨k - 1, by omega, by omega, by go_num, ?_, ((((hw2.setCell (Nat.le_refl _) _).setCell (Nat.le_refl _) _).setCell (Nat.le_refl _) _).setCell (Nat.le_refl _) _).setCell (Nat.le_refl _) _⟩, by simp only [intOf]; omega⟩
            have hs := ((((hB2.set k (.int .i64 0)).set (k - 8) (.int .i64 (1 - (bt N (k - 8) : Nat)))).set (k - 7) (.int .i64 (1 - (bt N (k - 7) : Nat)))).set (k - 5) (.int .i64 (1 - (bt N (k - 5) : Nat)))).set (k - 4) (.int .i64 (1 - (bt N (k - 4) : Nat)))
            rw [red_store N k (by omega) HB.out] at hs
            have : Nums.red (14 - (k - 1)) N0 = Nums.redS k N := by
              rw [show 14 - (k - 1) = (14 - k) + 1 from by omega, HN2.out]
              show Nums.redS (14 - (14 - k)) _ = _
              rw [show 14 - (14 - k) = k from by omega]
            rw [this]; exact hs
          · have hc : wr.cell? ⟨w.heap.size, k, none⟩ = some (.int .i64 0) := by rw [hB2.cell (bitRow_at _ _ _ (by omega)), show bt N k = 0 from by omega]; rfl
            have HB := Lib.hid hbit
            clear hbit hz
            go_wp2
            refine ⟨⟨k - 1, by omega, by omega, by go_num, ?_, hw2⟩, by simp only [intOf]; omega⟩
            have : Nums.red (14 - (k - 1)) N0 = N := by
              rw [show 14 - (k - 1) = (14 - k) + 1 from by omega]
              show Nums.redS (14 - (14 - k)) _ = _
              rw [show 14 - (14 - k) = k from by omega, ← HN2.out]
              exact if_neg HB.out
            rw [this]; exact hB2
        · go_wp2
          obtain rfl : k = 7 := by omega
          obtain ⟨N, hN⟩ : ∃ N, N = Nums.red 7 N0 := ⟨_, rfl⟩
          have HN2 := Lib.hid hN
          rw [← hN] at hB2
          clear hN
          obtain ⟨wo, rfl⟩ : ∃ wo : World, wo = wr := ⟨_, rfl⟩
          go_loopw [9, 10] (fun o i wr => ∃ k x : Nat, k ≤ 8 ∧ x < 256 ∧ Hid (x = N % 256 / 2 ^ k) ∧ i = .int .i64 ((k : Int) - 1) ∧ o = .int .i64 x ∧ wr = wo) (fun _ i _ => (intOf i + 1).toNat)
          case atStart => exact ⟨8, 0, by omega, by omega, by unfold Hid; omega, rfl, rfl, rfl⟩
          case round =>
            obtain ⟨k, x, hk, hx, hd, rfl, rfl, rfl⟩ := hrel
            by_cases hlt3 : (0 : Int) ≤ (k : Int) - 1
            · have hc : wr.cell? ⟨w.heap.size, k - 1, none⟩ = some (.int .i64 (bt N (k - 1) : Nat)) := hB2.cell (bitRow_at _ _ _ (by omega))
              have hz := bt_lt N (k - 1)
              go_wp2
              have hv := out_step N k (by omega) hk
              rw [← hd.out] at hv
              refine ⟨⟨k - 1, 2 * x + bt N (k - 1), by omega, by rw [← hv]; exact Nat.lt_of_le_of_lt (Nat.div_le_self _ _) (Nat.mod_lt _ (by decide)), hv.symm, by go_num, by go_num, trivial⟩, by simp only [intOf]; omega⟩
            · go_wp2
              go_ret
              refine ⟨ret_int ?_, hw2⟩
              obtain rfl : k = 0 := by omega
              rw [hd.out, HN2.out, HN.out, Nat.pow_zero, Nat.div_one]; rfl

/-! ### inverses -/
theorem invF_take (k b o : Nat) : Nums.invF (k + 1) b o = Nums.invF k (Nums.mul b b) (Nums.mul o (Nums.mul b b)) := rfl

set_option maxHeartbeats 400000 in
theorem inv_any (b : Nat) (hb : b < 256) (w : World) :
    Calls Try.prog 18 #[.int .u8 b] w fun e w' => e = .returned (.int .u8 (Nums.inv b : Nat)) ∧ w' = w := by
  go_enter Try.func18, Try.ntmps18
  go_wp2
  go_loop [0, 3, 4] (fun x y i => ∃ k p o : Nat, k ≤ 7 ∧ p < 256 ∧ o < 256 ∧ Hid (Nums.invF (7 - k) p o = Nums.inv b) ∧ x = .int .u8 p ∧ y = .int .u8 o ∧ i = .int .i64 k) (fun _ _ i => 7 - (intOf i).toNat)
  case atStart => exact ⟨0, b, 1, by omega, hb, by omega, rfl, rfl, rfl, rfl⟩
  case round =>
    obtain ⟨k, p, o, hk, hp, ho, hd, rfl, rfl, rfl⟩ := hrel
    by_cases hlt : (k : Int) < 7
    · go_wp2_with fail
      refine (mul_any p p hp hp _).mono ?_
      rintro e w' ⟨rfl, rfl⟩
      go_wp2_with fail
      refine (mul_any o (Nums.mul p p) ho (Nums.mul_lt p p hp) _).mono ?_
      rintro e w' ⟨rfl, rfl⟩
      go_wp2
      refine ⟨⟨k + 1, Nums.mul p p, Nums.mul o (Nums.mul p p), by omega, Nums.mul_lt _ _ hp, Nums.mul_lt _ _ ho, ?_, rfl, rfl, by go_num⟩, by simp only [intOf]; omega⟩
      have := hd.out
      rw [show 7 - k = 7 - (k + 1) + 1 from by omega, invF_take] at this
      exact this
    · go_wp2
      go_ret
      refine ⟨ret_int ?_, rfl⟩
      obtain rfl : k = 7 := by omega
      rw [← hd.out]; rfl

set_option maxHeartbeats 400000 in
theorem rinv_any (b : Nat) (hb : b < 256) (w : World) :
    Calls Try.prog 19 #[.int .u8 b] w fun e w' => e = .returned (.int .u8 (Nums.inv b : Nat)) ∧ Below w.heap.size w w' := by
  go_enter Try.func19, Try.ntmps19
  go_wp2
  go_loopw [3] (fun i wr => ∃ k : Nat, k ≤ 256 ∧ i = .int .i64 k ∧ Hid (∀ j, j < k → Nums.mul b j ≠ 1) ∧ Below w.heap.size w wr) (fun i _ => 256 - (intOf i).toNat)
  case atStart => exact ⟨0, by omega, rfl, fun j hj => by omega, Below.refl _ _⟩
  case round =>
    obtain ⟨k, hk, rfl, hd, hw⟩ := hrel
    by_cases hlt : (k : Int) < 256
    · have hk2 : k < 256 := by omega
      have em := Nums.rmul_mul b k hb hk2
      have EM := Lib.hid em
      clear em
      have hcv : (k : Int) % 256 = (k : Int) := by omega
      have HCV := Lib.hid hcv
      clear hcv
      by_cases h1 : Nums.mul b k = 1
      · go_wp2_with fail
        refine (rmul_any b k hb hk2 _).mono ?_
        rintro e w' ⟨rfl, hw'⟩
        rw [EM.out, h1]
        go_wp2
        go_ret
        exact ⟨ret_int (by rw [← Nums.inv_one b k hb hk2 h1]), hw.trans (hw'.mono hw.size)⟩
      · go_wp2_with fail
        refine (rmul_any b k hb hk2 _).mono ?_
        rintro e w' ⟨rfl, hw'⟩
        rw [EM.out]
        have h2 : ((((Nums.mul b k : Nat) : Int)) == 1) = false := by simp; omega
        go_wp2
        refine ⟨⟨k + 1, by omega, by go_num, ?_, hw.trans (hw'.mono hw.size)⟩, by simp only [intOf]; omega⟩
        intro j hj
        by_cases hjk : j = k
        · rw [hjk]; exact h1
        · exact hd.out j (by omega)
    · go_wp2
      go_ret
      refine ⟨ret_int ?_, hw⟩
      obtain rfl : k = 256 := by omega
      by_cases h0 : b = 0
      · rw [h0, Nums.inv_zero]; rfl
      · exact absurd (Nums.mul_inv b hb h0) (hd.out _ (Nums.inv_lt b hb))

end Go.Proofs.Ytlcfaejomblnjaa
