/-
  The walk over the document's doubling of a block, bit by bit: it returns what the program's doubling returns, for every block.
-/
import Derived.Test.YtlcfaejomblnjaaXor
import Derived.Test.YtlcfaejomblnjaaBlocks
import Derived.Deep.DeepCutAuto
namespace Go.Proofs.Ytlcfaejomblnjaa
open Go.RowKit

theorem bt_kb (K n : Nat) : bt (kb K (n / 8)) (n % 8) = bt K n := by
  unfold bt kb
  have h : n % 8 < 8 := Nat.mod_lt _ (by decide)
  rw [show (256 : Nat) = 2 ^ (n % 8) * (2 * 2 ^ (7 - n % 8)) from by rw [← Nat.pow_succ', ← Nat.pow_add, show n % 8 + (7 - n % 8 + 1) = 8 from by omega],
    Nat.mod_mul_right_div_self, Nat.mod_mul_right_mod, ← show (256 : Nat) = 2 ^ (n % 8) * (2 * 2 ^ (7 - n % 8)) from by rw [← Nat.pow_succ', ← Nat.pow_add, show n % 8 + (7 - n % 8 + 1) = 8 from by omega]]
  rw [show (256 : Nat) ^ (n / 8) = 2 ^ (8 * (n / 8)) from by rw [show (256 : Nat) = 2 ^ 8 from rfl, ← Nat.pow_mul], Nat.div_div_eq_div_mul, ← Nat.pow_add, show 8 * (n / 8) + n % 8 = n from by omega]

/-- the bits below n, one place on -/
def shl (K n : Nat) : Nat := K % 2 ^ n * 2
theorem shl_set (K n : Nat) : (bitRow (shl K n) 129).setIfInBounds (n + 1) (.int .i64 (bt K n : Nat)) = bitRow (shl K (n + 1)) 129 := by
  have hlt : shl K n < 2 ^ (n + 1) := by
    unfold shl; have : K % 2 ^ n < 2 ^ n := Nat.mod_lt _ (Nat.two_pow_pos n); rw [Nat.pow_succ]; omega
  rw [bitRow_set (shl K n) 129 (n + 1) (bt K n) _ (bt_lt _ _) (by
    have : bt (shl K n) (n + 1) = 0 := by unfold bt; rw [Nat.div_eq_of_lt hlt]
    rw [this, Nat.zero_xor])]
  congr 1
  have h1 := Nat.two_pow_add_eq_or_of_lt hlt (bt K n)
  have e : shl K n ^^^ (bt K n <<< (n + 1)) = 2 ^ (n + 1) * bt K n + shl K n := by
    rw [Nat.shiftLeft_eq, Nat.mul_comm (bt K n)]
    obtain h | h : bt K n = 0 ∨ bt K n = 1 := by have := bt_lt K n; omega
    · rw [h]; simp
    · rw [h, Nat.mul_one, Nat.xor_comm]
      have : 2 ^ (n + 1) ^^^ shl K n = 2 ^ (n + 1) + shl K n := by
        apply Nat.eq_of_testBit_eq
        intro i
        have h5 := Nat.two_pow_add_eq_or_of_lt hlt 1
        rw [Nat.mul_one] at h5
        rw [h5, Nat.testBit_xor, Nat.testBit_or]
        by_cases hi : i = n + 1
        · subst hi; rw [Nat.testBit_two_pow_self, Nat.testBit_lt_two_pow hlt]; rfl
        · rw [Nat.testBit_two_pow_of_ne (by omega)]; simp
      exact this
  rw [e]
  unfold shl bt
  have h3 := Nat.div_add_mod (K % 2 ^ (n + 1)) (2 ^ n)
  have h4 : K % 2 ^ (n + 1) / 2 ^ n = K / 2 ^ n % 2 := by rw [Nat.pow_succ, Nat.mod_mul_right_div_self]
  have h5 : K % 2 ^ (n + 1) % 2 ^ n = K % 2 ^ n := by rw [Nat.pow_succ, Nat.mod_mul_right_mod]
  rw [h4, h5] at h3
  rw [← h3, Nat.pow_succ, Nat.add_mul, Nat.mul_assoc, Nat.mul_assoc, Nat.mul_comm 2 (K / 2 ^ n % 2)]

/-- the flips that stand for x^128 -/
def flipT (N : Nat) : Nat → Nat
  | 0 => N
  | 1 => N ^^^ (1 <<< 0)
  | 2 => N ^^^ (1 <<< 0) ^^^ (1 <<< 1)
  | 3 => N ^^^ (1 <<< 0) ^^^ (1 <<< 1) ^^^ (1 <<< 2)
  | _ => N ^^^ (1 <<< 0) ^^^ (1 <<< 1) ^^^ (1 <<< 2) ^^^ (1 <<< 7)
def flipAt : Nat → Nat
  | 0 => 0
  | 1 => 1
  | 2 => 2
  | _ => 7
theorem flip_set (N t : Nat) (ht : t < 4) : (bitRow (flipT N t) 129).setIfInBounds (flipAt t) (.int .i64 (1 - (bt (flipT N t) (flipAt t) : Nat))) = bitRow (flipT N (t + 1)) 129 := by
  rw [bitRow_set _ 129 (flipAt t) 1 _ (by decide) (flip _ (bt_lt _ _))]
  obtain rfl | rfl | rfl | rfl : t = 0 ∨ t = 1 ∨ t = 2 ∨ t = 3 := by omega
  all_goals rfl

/-- what the bits come to -/
theorem rdbl_val (K : Nat) (hK : K < 2 ^ 128) : (if bt (shl K 128) 128 = 1 then flipT (shl K 128) 4 else shl K 128) % 2 ^ 128 = Nums.dbl K := by
  have e : shl K 128 = K * 2 := by unfold shl; rw [Nat.mod_eq_of_lt hK]
  have e2 : bt (K * 2) 128 = K / 2 ^ 127 := by
    unfold bt
    have := Nums.top_bit K hK
    omega
  have ht := Nums.top_bit K hK
  rw [e, e2]
  unfold Nums.dbl
  obtain h | h : K / 2 ^ 127 = 0 ∨ K / 2 ^ 127 = 1 := by omega
  · rw [h, if_neg (by decide)]; simp
  · rw [h, if_pos rfl]
    show ((K * 2) ^^^ (1 <<< 0) ^^^ (1 <<< 1) ^^^ (1 <<< 2) ^^^ (1 <<< 7)) % 2 ^ 128 = _
    rw [Nat.xor_assoc, Nat.xor_assoc, Nat.xor_assoc, Nums.mod_xor]
    rfl

/-- the bytes laid down to bit m -/
def lowV (X m : Nat) (j : Nat) : Value := .int .u8 ((kb X j / 2 ^ (m - 8 * j) : Nat) : Int)
theorem kb_gone (X j e : Nat) (he : 8 ≤ e) : kb X j / 2 ^ e = 0 := by
  refine Nat.div_eq_of_lt (Nat.lt_of_lt_of_le (kb_lt X j) ?_)
  have : 2 ^ 8 ≤ 2 ^ e := Nat.pow_le_pow_right (by decide) he
  exact this
theorem lowV_top (X : Nat) : keyA 0 = row (lowV X 128) 16 := row_congr fun j hj => by
  unfold lowV byteV
  rw [kb_gone X j _ (by omega)]
  simp [kb]
theorem lowV_end (X : Nat) : row (lowV X 0) 16 = keyA X := row_congr fun j _ => by simp [lowV, byteV]
theorem lowV_step (X m : Nat) (v : Int) (hv : v = ((kb X (m / 8) / 2 ^ (m % 8) : Nat) : Int)) : row (upd (lowV X (m + 1)) (m / 8) (.int .u8 v)) 16 = row (lowV X m) 16 := row_congr fun j _ => by
  unfold upd lowV
  by_cases hj : j = m / 8
  · subst hj; rw [if_pos rfl, hv, show m - 8 * (m / 8) = m % 8 from by omega]
  · rw [if_neg hj]
    by_cases h : j < m / 8
    · rw [kb_gone X j _ (by omega), kb_gone X j _ (by omega)]
    · rw [show m + 1 - 8 * j = m - 8 * j from by omega]

theorem bitRow_size (N k : Nat) : (bitRow N k).size = k := by simp [bitRow]

theorem zero129 (w : World) : (zeroValue 46).run Try.prog w = .ok (.agg (bitRow 0 129)) w := by kernel_rfl

theorem three_new' (w : World) (x y z : Array Value) (t u : TypeId) :
    Blk (((w.alloc (.cells x t)).alloc (.cells y t)).alloc (.cells z u)) w.heap.size x t ∧ Blk (((w.alloc (.cells x t)).alloc (.cells y t)).alloc (.cells z u)) (w.heap.size + 1) y t ∧
    Blk (((w.alloc (.cells x t)).alloc (.cells y t)).alloc (.cells z u)) (w.heap.size + 1 + 1) z u ∧ Below w.heap.size w (((w.alloc (.cells x t)).alloc (.cells y t)).alloc (.cells z u)) := by
  refine ⟨((Blk.new _ _ _).alloc _).alloc _, ?_, ?_, (((Below.refl _ _).alloc (Nat.le_refl _) _).alloc (by simp) _).alloc (by simp; omega) _⟩
  · have := (Blk.new (w.alloc (.cells x t)) y t).alloc (.cells z u); simpa using this
  · have := Blk.new ((w.alloc (.cells x t)).alloc (.cells y t)) z u; simpa using this

set_option maxHeartbeats 2000000 in
set_option maxRecDepth 20000 in
theorem rdouble_any (K : Nat) (hK : K < 2 ^ 128) (w : World) :
    Calls Try.prog 21 #[.agg (keyA K)] w fun e w' => e = .returned (.agg (keyA (Nums.dbl K))) ∧ Below w.heap.size w w' := by
  have hz := zero129
  obtain ⟨hA, hC, hP, hb⟩ := three_new' w (keyA K) #[.int .u8 0, .int .u8 0, .int .u8 0, .int .u8 0, .int .u8 0, .int .u8 0, .int .u8 0, .int .u8 0, .int .u8 0, .int .u8 0, .int .u8 0, .int .u8 0, .int .u8 0, .int .u8 0, .int .u8 0, .int .u8 0] (bitRow 0 129) 26 46
  go_enter Try.func21, Try.ntmps21
  go_wp2
  go_loopw [4] (fun i wr => ∃ n : Nat, n ≤ 128 ∧ i = .int .i64 n ∧ Blk wr w.heap.size (keyA K) 26 ∧ Blk wr (w.heap.size + 1) (keyA 0) 26 ∧ Blk wr (w.heap.size + 1 + 1) (bitRow (shl K n) 129) 46 ∧ Below w.heap.size w wr) (fun i _ => (128 - intOf i).toNat)
  case atStart => exact ⟨0, by omega, rfl, hA, by rw [← zero16]; exact hC, by rw [show shl K 0 = 0 from by simp [shl, Nat.mod_one]]; exact hP, hb⟩
  case round =>
    clear hA hC hP hb
    obtain ⟨n, hn, rfl, hA, hC, hP, hb⟩ := hrel
    by_cases hlt : (n : Int) < 128
    · have hca : wr.cell? ⟨w.heap.size, n / 8, none⟩ = some (.int .u8 (kb K (n / 8) : Nat)) := hA.cell (keyA_at _ _ (by omega))
      have hcp : ∃ o, wr.cell? ⟨w.heap.size + 1 + 1, n + 1, none⟩ = some o := ⟨_, hP.cell (bitRow_at _ _ _ (by omega))⟩
      obtain ⟨o, hcp⟩ := hcp
      have hf := hP.frozen (n + 1)
      have hk := bit_any (kb K (n / 8)) (n % 8) (kb_lt _ _) (by omega) wr
      have HK := Lib.hid hk
      clear hk
      have hbk := bt_kb K n
      have HBK := Lib.hid hbk
      clear hbk
      go_wp2_with fail
      refine HK.out.mono ?_
      rintro e w' ⟨rfl, rfl⟩
      rw [HBK.out]
      go_wp2
      refine ⟨⟨n + 1, by omega, by go_num, hA.other (by show w.heap.size + 1 + 1 ≠ _; omega) _, hC.other (by show w.heap.size + 1 + 1 ≠ _; omega) _, ?_, hb.setCell (by show w.heap.size ≤ w.heap.size + 1 + 1; omega) _⟩, by simp only [intOf]; omega⟩
      have hs := hP.set (n + 1) (.int .i64 (bt K n : Nat))
      rw [shl_set] at hs
      exact hs
    · obtain rfl : n = 128 := by omega
      have hval := rdbl_val K hK
      have HVAL := Lib.hid hval
      clear hval
      generalize shl K 128 = N at *
      have hc128 : wr.cell? ⟨w.heap.size + 1 + 1, 128, none⟩ = some (.int .i64 (bt N 128 : Nat)) := hP.cell (bitRow_at _ _ _ (by omega))
      go_upto_if 25 with (fail)
      go_cut [6] from 9 to 38 (fun _ wx => ∃ N', Hid (N' % 2 ^ 128 = Nums.dbl K) ∧ Blk wx (w.heap.size + 1) (keyA 0) 26 ∧ Blk wx (w.heap.size + 1 + 1) (bitRow N' 129) 46 ∧ Below w.heap.size w wx)
      case first =>
        by_cases hbit : bt N 128 = 1
        · have hv := HVAL.out
          rw [if_pos hbit] at hv
          have HV := Lib.hid hv
          clear hv HVAL
          have htest : (((bt N 128 : Nat) : Int) == 1) = true := by rw [hbit]; rfl
          clear hbit
          go_wp2_with fail
          obtain ⟨sb, hsb⟩ : ∃ sb, sb = wr.heap.size := ⟨_, rfl⟩
          have hS : Blk (wr.alloc (.cells #[.int .i64 0, .int .i64 1, .int .i64 2, .int .i64 7] 3)) sb #[.int .i64 0, .int .i64 1, .int .i64 2, .int .i64 7] 3 := by rw [hsb]; exact Blk.new _ _ _
          have hC1 := hC.alloc (.cells #[.int .i64 0, .int .i64 1, .int .i64 2, .int .i64 7] 3)
          have hP1 := hP.alloc (.cells #[.int .i64 0, .int .i64 1, .int .i64 2, .int .i64 7] 3)
          have hb1 := hb.alloc hb.size (.cells #[.int .i64 0, .int .i64 1, .int .i64 2, .int .i64 7] 3)
          have hlt3 : w.heap.size + 1 + 1 < sb := by rw [hsb]; exact hP.lt
          rw [← hsb]
          clear hsb hC hP hb hA hc128 htest
          go_loopw [28] (fun i wr => ∃ t : Nat, t ≤ 4 ∧ i = .int .i64 t ∧ Blk wr sb #[.int .i64 0, .int .i64 1, .int .i64 2, .int .i64 7] 3 ∧ Blk wr (w.heap.size + 1) (keyA 0) 26 ∧ Blk wr (w.heap.size + 1 + 1) (bitRow (flipT N t) 129) 46 ∧ Below w.heap.size w wr) (fun i _ => (4 - intOf i).toNat)
          case atStart => exact ⟨0, by omega, rfl, hS, hC1, hP1, hb1⟩
          case round =>
            clear hS hC1 hP1 hb1
            obtain ⟨t, ht, rfl, hS, hC, hP, hb⟩ := hrel
            by_cases hlt4 : (t : Int) < 4
            · have hS2 : wr.cell? ⟨sb, t, none⟩ = some (.int .i64 (flipAt t : Nat)) := by
                refine hS.cell ?_
                obtain rfl | rfl | rfl | rfl : t = 0 ∨ t = 1 ∨ t = 2 ∨ t = 3 := by omega
                all_goals rfl
              have hfa : flipAt t ≤ 7 := by
                obtain rfl | rfl | rfl | rfl : t = 0 ∨ t = 1 ∨ t = 2 ∨ t = 3 := by omega
                all_goals decide
              have hcp : wr.cell? ⟨w.heap.size + 1 + 1, flipAt t, none⟩ = some (.int .i64 (bt (flipT N t) (flipAt t) : Nat)) := hP.cell (bitRow_at _ _ _ (by omega))
              have hf := hP.frozen (flipAt t)
              have hbl := bt_lt (flipT N t) (flipAt t)
              have fs := flip_set N t (by omega)
              have FS := Lib.hid fs
              clear fs
              generalize bt (flipT N t) (flipAt t) = bb at *
              generalize flipAt t = fa at *
              go_wp2_with fail
              have hs := hP.set fa (.int .i64 (1 - (bb : Nat)))
              rw [FS.out] at hs
              refine ⟨⟨t + 1, by omega, by go_num, hS.other (by show w.heap.size + 1 + 1 ≠ sb; omega) _, hC.other (by show w.heap.size + 1 + 1 ≠ _; omega) _, hs, hb.setCell (by show w.heap.size ≤ w.heap.size + 1 + 1; omega) _⟩, by simp only [intOf]; omega⟩
            · obtain rfl : t = 4 := by omega
              go_wp2_with fail
              go_meet
              exact ⟨_, HV, hC, hP, hb⟩
        · have hv := HVAL.out
          rw [if_neg hbit] at hv
          have HV := Lib.hid hv
          clear hv HVAL
          have htest : (((bt N 128 : Nat) : Int) == 1) = false := by rw [beq_eq_false_iff_ne]; omega
          clear hbit
          go_wp2_with fail
          go_meet
          exact ⟨N, HV, hC, hP, hb⟩
      case rest =>
        obtain ⟨N', hN', hC, hP, hb⟩ := hcut
        go_wp2_with fail
        obtain ⟨ob, hob⟩ : ∃ ob, ob = wc.heap.size := ⟨_, rfl⟩
        have hO := Blk.new wc #[.int .u8 0, .int .u8 0, .int .u8 0, .int .u8 0, .int .u8 0, .int .u8 0, .int .u8 0, .int .u8 0, .int .u8 0, .int .u8 0, .int .u8 0, .int .u8 0, .int .u8 0, .int .u8 0, .int .u8 0, .int .u8 0] 26
        have hC1 := hC.alloc (.cells #[.int .u8 0, .int .u8 0, .int .u8 0, .int .u8 0, .int .u8 0, .int .u8 0, .int .u8 0, .int .u8 0, .int .u8 0, .int .u8 0, .int .u8 0, .int .u8 0, .int .u8 0, .int .u8 0, .int .u8 0, .int .u8 0] 26)
        have hP1 := hP.alloc (.cells #[.int .u8 0, .int .u8 0, .int .u8 0, .int .u8 0, .int .u8 0, .int .u8 0, .int .u8 0, .int .u8 0, .int .u8 0, .int .u8 0, .int .u8 0, .int .u8 0, .int .u8 0, .int .u8 0, .int .u8 0, .int .u8 0] 26)
        have hb1 := hb.alloc hb.size (.cells #[.int .u8 0, .int .u8 0, .int .u8 0, .int .u8 0, .int .u8 0, .int .u8 0, .int .u8 0, .int .u8 0, .int .u8 0, .int .u8 0, .int .u8 0, .int .u8 0, .int .u8 0, .int .u8 0, .int .u8 0, .int .u8 0] 26)
        have hlt3 : w.heap.size + 1 + 1 < ob := by rw [hob]; exact hP.lt
        rw [← hob] at hO ⊢
        rw [zero16] at hO hC1 hP1 hb1 ⊢
        clear hob hC hP hb hA hc128
        have hN2 : Nums.dbl K = N' % 2 ^ 128 := hN'.out.symm
        have HX := Lib.hid hN2
        generalize hxx : Nums.dbl K = X at *
        have HXX := Lib.hid hxx
        clear hxx
        clear hN2 hN' HVAL
        go_loopw [8] (fun i wr => ∃ m : Nat, m ≤ 128 ∧ i = .int .i64 ((m : Int) - 1) ∧ Blk wr ob (row (lowV X m) 16) 26 ∧ Blk wr (w.heap.size + 1) (keyA 0) 26 ∧ Blk wr (w.heap.size + 1 + 1) (bitRow N' 129) 46 ∧ Below w.heap.size w wr) (fun i _ => (intOf i + 1).toNat)
        case atStart => exact ⟨128, by omega, rfl, by rw [← lowV_top]; exact hO, hC1, hP1, hb1⟩
        case round =>
          clear hO hC1 hP1 hb1
          obtain ⟨m, hm, rfl, hO, hC, hP, hb⟩ := hrel
          by_cases hlt4 : (0 : Int) ≤ (m : Int) - 1
          · obtain ⟨m, rfl⟩ : ∃ m', m = m' + 1 := ⟨m - 1, by omega⟩
            have e1 : ((m + 1 : Nat) : Int) - 1 = (m : Int) := by omega
            rw [e1]
            obtain ⟨q1, q2⟩ := bit_more (kb X (m / 8)) (m % 8) (kb_lt _ _)
            rw [bt_kb, HX.out, show bt (N' % 2 ^ 128) m = bt N' m from by unfold bt; rw [show (2 : Nat) ^ 128 = 2 ^ m * (2 * 2 ^ (127 - m)) from by rw [← Nat.pow_succ', ← Nat.pow_add, show m + (127 - m + 1) = 128 from by omega], Nat.mod_mul_right_div_self, Nat.mod_mul_right_mod], ← HX.out] at q1
            have hco : wr.cell? ⟨ob, m / 8, none⟩ = some (.int .u8 (kb X (m / 8) / 2 ^ (m % 8 + 1) : Nat)) := by
              rw [hO.cell (row_at _ _ _ (by omega))]
              unfold lowV
              rw [show m + 1 - 8 * (m / 8) = m % 8 + 1 from by omega]
            have hcp : wr.cell? ⟨w.heap.size + 1 + 1, m, none⟩ = some (.int .i64 (bt N' m : Nat)) := hP.cell (bitRow_at _ _ _ (by omega))
            have hf := hO.frozen (m / 8)
            have hbl := bt_lt N' m
            have Q1 := Lib.hid q1
            clear q1 e1 hlt4
            generalize kb X (m / 8) / 2 ^ (m % 8 + 1) = v at *
            have x1 : (m : Int) < 128 := by omega
            have x2 : (0 : Int) ≤ (m : Int) / 8 := by omega
            have x3 : (m : Int) / 8 < 16 := by omega
            have x4 : ((m : Int) / 8).toNat = m / 8 := by omega
            have x5 : (m : Int) < 129 := by omega
            have x6 : (0 : Int) ≤ (m : Int) := by omega
            have x7 : ((m : Int)).toNat = m := by omega
            go_wp2
            refine wp_region_still_tail 13 (by kernel_rfl) (by kernel_rfl) ?_
            simp only [List.take_succ_cons, List.take_zero, List.drop_succ_cons, List.drop_zero]
            repeat (refine wpStill_step (fun K hK => ?_); go_simp; (try go_ints); (try go_simp); refine hK _ ?_; clear hK K)
            refine wpStill_nil ?_
            change wpList _ _ _ _ _ wr.drew
            go_wp2
            have hs := hO.set (m / 8) (.int .u8 ((v : Int) * 2 + (bt N' m : Nat)))
            rw [row_set, lowV_step X m _ (by rw [Q1.out]; omega)] at hs
            refine ⟨⟨m, by omega, rfl, hs.drew, (hC.other (by show ob ≠ _; omega) _).drew, (hP.other (by show ob ≠ _; omega) _).drew, (hb.setCell (by show w.heap.size ≤ ob; omega) _).drew⟩, by simp only [intOf]; omega⟩
          · obtain rfl : m = 0 := by omega
            rw [lowV_end] at hO
            go_wp2_with (first | (refine load_key rfl _ rfl _ rfl X hO ?_) | (refine store_key rfl _ _ rfl _ X rfl rfl (keyA 0) hC (keyA_size 0) ?_))
            exact bodyPost_ret (key_results Try.f21 2 rfl _ _ _ _ rfl (hC.setRow _)) rfl ⟨by rw [HXX.out], below_setRow hb (by omega) _⟩

end Go.Proofs.Ytlcfaejomblnjaa
