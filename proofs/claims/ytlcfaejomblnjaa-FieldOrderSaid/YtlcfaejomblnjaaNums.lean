/-
  Plain facts on bytes and their products, in Lean alone: no program in sight.
  What the program's products compute ('mul'), what the document's compute ('rmul'), that they are one; the laws of a ring; powers and inverses.
-/
namespace Go.Proofs.Ytlcfaejomblnjaa
namespace Nums

/-- a byte times x -/
def tw (b : Nat) : Nat := (b * 2 % 256) ^^^ (27 * (b / 128))
/-- the program's loop: so many rounds -/
def mulF : Nat → Nat → Nat → Nat → Nat
  | 0, _, _, o => o
  | f + 1, a, b, o => mulF f (tw a) (b / 2) (o ^^^ a * (b % 2))
def mul (a b : Nat) : Nat := mulF 8 a b 0
/-- the document's loops: all pairs of bits -/
def clI (a b i : Nat) : Nat → Nat → Nat
  | 0, N => N
  | m + 1, N => clI a b i m N ^^^ ((a / 2 ^ i % 2 * (b / 2 ^ m % 2)) <<< (i + m))
def clO (a b : Nat) : Nat → Nat
  | 0 => 0
  | n + 1 => clI a b n 8 (clO a b n)
/-- one round of its reduction, at place i -/
def redS (i N : Nat) : Nat := if N / 2 ^ i % 2 = 1 then N ^^^ (1 <<< i) ^^^ (1 <<< (i - 8)) ^^^ (1 <<< (i - 7)) ^^^ (1 <<< (i - 5)) ^^^ (1 <<< (i - 4)) else N
def red : Nat → Nat → Nat
  | 0, N => N
  | k + 1, N => redS (14 - k) (red k N)
def rmul (a b : Nat) : Nat := red 7 (clO a b 8) % 256

/-! ### exclusive ors -/
theorem xor4 (a b c d : Nat) : (a ^^^ b) ^^^ (c ^^^ d) = (a ^^^ c) ^^^ (b ^^^ d) := by
  rw [Nat.xor_assoc, Nat.xor_assoc, ← Nat.xor_assoc b, Nat.xor_comm b c, Nat.xor_assoc c]
theorem div_xor (a b i : Nat) : (a ^^^ b) / 2 ^ i = a / 2 ^ i ^^^ b / 2 ^ i := by
  rw [← Nat.shiftRight_eq_div_pow, ← Nat.shiftRight_eq_div_pow, ← Nat.shiftRight_eq_div_pow, Nat.shiftRight_xor_distrib]
theorem mod_xor (a b i : Nat) : (a ^^^ b) % 2 ^ i = a % 2 ^ i ^^^ b % 2 ^ i := Nat.xor_mod_two_pow
theorem two (x : Nat) : x % 2 = 0 ∨ x % 2 = 1 := Nat.mod_two_eq_zero_or_one x
theorem bit_xor (a b i : Nat) : (a ^^^ b) / 2 ^ i % 2 = (a / 2 ^ i % 2) ^^^ (b / 2 ^ i % 2) := by
  rw [div_xor]; exact mod_xor _ _ 1
theorem lt_xor {a b : Nat} (ha : a < 256) (hb : b < 256) : a ^^^ b < 256 := Nat.xor_lt_two_pow (n := 8) ha hb

theorem tw_lt (b : Nat) (h : b < 256) : tw b < 256 := by
  unfold tw
  have h2 : 27 * (b / 128) < 256 := by have : b / 128 < 2 := by omega
                                       omega
  exact lt_xor (Nat.mod_lt _ (by decide)) h2

theorem tw_xor (a b : Nat) (ha : a < 256) (hb : b < 256) : tw (a ^^^ b) = tw a ^^^ tw b := by
  unfold tw
  have e1 : (a ^^^ b) * 2 % 256 = (a * 2 % 256) ^^^ (b * 2 % 256) := by
    have : (a ^^^ b) * 2 = a * 2 ^^^ b * 2 := by
      have := Nat.shiftLeft_xor_distrib (a := a) (b := b) (i := 1)
      simpa [Nat.shiftLeft_eq] using this
    rw [this]; exact mod_xor _ _ 8
  have e2 : (a ^^^ b) / 128 = a / 128 ^^^ b / 128 := div_xor a b 7
  rw [e1, e2]
  have : 27 * (a / 128 ^^^ b / 128) = 27 * (a / 128) ^^^ 27 * (b / 128) := by
    have h1 : a / 128 = 0 ∨ a / 128 = 1 := by omega
    have h2 : b / 128 = 0 ∨ b / 128 = 1 := by omega
    rcases h1 with h1 | h1 <;> rcases h2 with h2 | h2 <;> rw [h1, h2] <;> decide
  rw [this, xor4]

theorem mulbit_lt (a x : Nat) (h : a < 256) : a * (x % 2) < 256 := by
  rcases two x with e | e <;> rw [e] <;> omega

theorem mulF_lt : ∀ (f a b o : Nat), a < 256 → o < 256 → mulF f a b o < 256
  | 0, _, _, _, _, ho => ho
  | f + 1, a, b, _, ha, ho => mulF_lt f _ _ _ (tw_lt a ha) (lt_xor ho (mulbit_lt a b ha))
theorem mul_lt (a b : Nat) (ha : a < 256) : mul a b < 256 := mulF_lt 8 a b 0 ha (by decide)

theorem mulF_zero : ∀ (f a o : Nat), mulF f a 0 o = o
  | 0, _, _ => rfl
  | f + 1, a, o => by simp [mulF, mulF_zero f]

theorem mulF_xor : ∀ (f a a' b o o' : Nat), a < 256 → a' < 256 → mulF f (a ^^^ a') b (o ^^^ o') = mulF f a b o ^^^ mulF f a' b o'
  | 0, _, _, _, _, _, _, _ => rfl
  | f + 1, a, a', b, o, o', ha, ha' => by
    simp only [mulF]
    rw [tw_xor a a' ha ha']
    have : (o ^^^ o') ^^^ (a ^^^ a') * (b % 2) = (o ^^^ a * (b % 2)) ^^^ (o' ^^^ a' * (b % 2)) := by
      rcases two b with e | e <;> rw [e]
      · simp
      · simp only [Nat.mul_one]; exact xor4 _ _ _ _
    rw [this]
    exact mulF_xor f _ _ _ _ _ (tw_lt a ha) (tw_lt a' ha')

theorem mulF_xor2 : ∀ (f a b b' o o' : Nat), mulF f a (b ^^^ b') (o ^^^ o') = mulF f a b o ^^^ mulF f a b' o'
  | 0, _, _, _, _, _ => rfl
  | f + 1, a, b, b', o, o' => by
    simp only [mulF]
    have e1 : (b ^^^ b') / 2 = b / 2 ^^^ b' / 2 := div_xor b b' 1
    have e2 : (b ^^^ b') % 2 = (b % 2) ^^^ (b' % 2) := mod_xor b b' 1
    have : (o ^^^ o') ^^^ a * ((b ^^^ b') % 2) = (o ^^^ a * (b % 2)) ^^^ (o' ^^^ a * (b' % 2)) := by
      rw [e2, xor4]
      congr 1
      rcases two b with e | e <;> rcases two b' with e' | e' <;> rw [e, e'] <;> simp
    rw [this, e1]
    exact mulF_xor2 f _ _ _ _ _

theorem mul_xor1 (a a' b : Nat) (ha : a < 256) (ha' : a' < 256) : mul (a ^^^ a') b = mul a b ^^^ mul a' b := mulF_xor 8 a a' b 0 0 ha ha'
theorem mul_xor2 (a b b' : Nat) : mul a (b ^^^ b') = mul a b ^^^ mul a b' := mulF_xor2 8 a b b' 0 0

/-- What holds of 0, of each power of two, and of sums, holds of all bytes. -/
theorem by_bits (P : Nat → Prop) (h0 : P 0) (hx : ∀ a b, a < 256 → b < 256 → P a → P b → P (a ^^^ b)) (hb : ∀ i, i < 8 → P (2 ^ i)) : ∀ a, a < 256 → P a := by
  have key : ∀ n, n ≤ 8 → ∀ a, a < 2 ^ n → P a := by
    intro n
    induction n with
    | zero => intro _ a ha; obtain rfl : a = 0 := by omega
              exact h0
    | succ n ih =>
      intro hn a ha
      by_cases h : a < 2 ^ n
      · exact ih (by omega) a h
      · have hp : 2 ^ (n + 1) ≤ 2 ^ 8 := Nat.pow_le_pow_right (by decide) hn
        have e : a = (a - 2 ^ n) ^^^ 2 ^ n := by
          have h3 : a - 2 ^ n < 2 ^ n := by rw [Nat.pow_succ] at ha; omega
          have := Nat.two_pow_add_eq_or_of_lt h3 1
          apply Nat.eq_of_testBit_eq
          intro i
          have h4 : a = 2 ^ n * 1 + (a - 2 ^ n) := by omega
          rw [Nat.testBit_xor]
          by_cases hi : i = n
          · subst hi
            rw [Nat.testBit_two_pow_self, Nat.testBit_lt_two_pow h3]
            have : a.testBit i = true := by
              rw [Nat.testBit_eq_decide_div_mod_eq]
              have : a / 2 ^ i = 1 := by
                apply Nat.div_eq_of_lt_le <;> omega
              rw [this]; rfl
            rw [this]; rfl
          · rw [Nat.testBit_two_pow_of_ne (by omega)]
            simp only [Bool.bne_false]
            by_cases hi2 : i < n
            · rw [h4, Nat.testBit_eq_decide_div_mod_eq, Nat.testBit_eq_decide_div_mod_eq]
              have : 2 ^ n * 1 + (a - 2 ^ n) = (a - 2 ^ n) + 2 ^ i * (2 * 2 ^ (n - i - 1)) := by
                have : 2 ^ i * (2 * 2 ^ (n - i - 1)) = 2 ^ n := by
                  rw [← Nat.pow_succ', ← Nat.pow_add]; congr 1; omega
                omega
              rw [this, Nat.add_mul_div_left _ _ (Nat.two_pow_pos i), Nat.add_mul_mod_self_left]
              congr 2
              rw [show a - 2 ^ n + 2 ^ i * (2 * 2 ^ (n - i - 1)) - 2 ^ n = a - 2 ^ n from by omega]
            · have h5 : a < 2 ^ i := Nat.lt_of_lt_of_le ha (Nat.pow_le_pow_right (by decide) (by omega))
              rw [Nat.testBit_lt_two_pow h5, Nat.testBit_lt_two_pow (by omega)]
        rw [e]
        have h3 : a - 2 ^ n < 2 ^ n := by rw [Nat.pow_succ] at ha; omega
        have h6 : 2 ^ n < 256 := by rw [Nat.pow_succ] at hp; have := Nat.two_pow_pos n; omega
        exact hx _ _ (by omega) h6 (ih (by omega) _ h3) (hb n (by omega))
  exact fun a ha => key 8 (Nat.le_refl _) a ha

theorem mul_zero (a : Nat) : mul a 0 = 0 := mulF_zero 8 a 0
theorem zero_mul (b : Nat) : mul 0 b = 0 := by
  have : ∀ f b, mulF f 0 b 0 = 0 := by
    intro f; induction f with
    | zero => intro _; rfl
    | succ f ih => intro b; simp [mulF, tw]; exact ih _
  exact this 8 b

theorem mul_comm (a b : Nat) (ha : a < 256) (hb : b < 256) : mul a b = mul b a := by
  revert b
  refine by_bits (fun a => ∀ b, b < 256 → mul a b = mul b a) ?_ ?_ ?_ a ha
  · intro b _; rw [zero_mul, mul_zero]
  · intro a a' ha ha' h h' b hb; rw [mul_xor1 _ _ _ ha ha', mul_xor2, h b hb, h' b hb]
  · intro i hi b hb
    refine by_bits (fun b => mul (2 ^ i) b = mul b (2 ^ i)) ?_ ?_ ?_ b hb
    · rw [zero_mul, mul_zero]
    · intro b b' hb hb' h h'; rw [mul_xor1 _ _ _ hb hb', mul_xor2, h, h']
    · intro j hj; revert i j; decide +kernel

theorem mul_assoc (a b c : Nat) (ha : a < 256) (hb : b < 256) (hc : c < 256) : mul (mul a b) c = mul a (mul b c) := by
  revert b c
  refine by_bits (fun a => ∀ b c, b < 256 → c < 256 → mul (mul a b) c = mul a (mul b c)) ?_ ?_ ?_ a ha
  · intro b c _ _; rw [zero_mul, zero_mul, zero_mul]
  · intro a a' ha ha' h h' b c hb hc
    rw [mul_xor1 _ _ _ ha ha', mul_xor1 _ _ _ ha ha', mul_xor1 _ _ _ (mul_lt _ _ ha) (mul_lt _ _ ha'), h b c hb hc, h' b c hb hc]
  · intro i hi b c hb hc
    have hi2 : ∀ i, i < 8 → 2 ^ i < 256 := by decide
    revert c
    refine by_bits (fun b => ∀ c, c < 256 → mul (mul (2 ^ i) b) c = mul (2 ^ i) (mul b c)) ?_ ?_ ?_ b hb
    · intro c _; rw [mul_zero, zero_mul, mul_zero]
    · intro b b' hb hb' h h' c hc
      rw [mul_xor2, mul_xor1 _ _ _ hb hb', mul_xor2, mul_xor1 _ _ _ (mul_lt _ _ (hi2 i hi)) (mul_lt _ _ (hi2 i hi)), h c hc, h' c hc]
    · intro j hj c hc
      refine by_bits (fun c => mul (mul (2 ^ i) (2 ^ j)) c = mul (2 ^ i) (mul (2 ^ j) c)) ?_ ?_ ?_ c hc
      · rw [mul_zero, mul_zero, mul_zero]
      · intro c c' _ _ h h'; rw [mul_xor2, mul_xor2, mul_xor2, h, h']
      · intro k hk; revert i j k; clear hb ha a b; decide +kernel

theorem mul_one (a : Nat) (ha : a < 256) : mul a 1 = a := by
  refine by_bits (fun a => mul a 1 = a) (by decide) ?_ (by decide) a ha
  intro a b ha hb h h'; rw [mul_xor1 _ _ _ ha hb, h, h']

/-! ### the document's product -/
theorem pair_xor (x y z s : Nat) (hx : x < 2) (hy : y < 2) (hz : z < 2) : ((x ^^^ y) * z) <<< s = ((x * z) <<< s) ^^^ ((y * z) <<< s) := by
  obtain rfl | rfl : x = 0 ∨ x = 1 := by omega
  all_goals obtain rfl | rfl : y = 0 ∨ y = 1 := by omega
  all_goals obtain rfl | rfl : z = 0 ∨ z = 1 := by omega
  all_goals simp

theorem pair_xor' (x y z s : Nat) (hx : x < 2) (hy : y < 2) (hz : z < 2) : (z * (x ^^^ y)) <<< s = ((z * x) <<< s) ^^^ ((z * y) <<< s) := by
  rw [Nat.mul_comm z, Nat.mul_comm z, Nat.mul_comm z, pair_xor x y z s hx hy hz]

theorem bit_lt (b i : Nat) : b / 2 ^ i % 2 < 2 := Nat.mod_lt _ (by decide)

theorem clI_xor1 (a a' b i : Nat) : ∀ (m N N' : Nat), clI (a ^^^ a') b i m (N ^^^ N') = clI a b i m N ^^^ clI a' b i m N'
  | 0, _, _ => rfl
  | m + 1, N, N' => by
    simp only [clI]
    rw [clI_xor1 a a' b i m, bit_xor, pair_xor _ _ _ _ (bit_lt _ _) (bit_lt _ _) (bit_lt _ _), xor4]
theorem clI_xor2 (a b b' i : Nat) : ∀ (m N N' : Nat), clI a (b ^^^ b') i m (N ^^^ N') = clI a b i m N ^^^ clI a b' i m N'
  | 0, _, _ => rfl
  | m + 1, N, N' => by
    simp only [clI]
    rw [clI_xor2 a b b' i m, bit_xor, pair_xor' _ _ _ _ (bit_lt _ _) (bit_lt _ _) (bit_lt _ _), xor4]
theorem clO_xor1 (a a' b : Nat) : ∀ n, clO (a ^^^ a') b n = clO a b n ^^^ clO a' b n
  | 0 => by simp [clO]
  | n + 1 => by simp only [clO]; rw [clO_xor1 a a' b n, clI_xor1]
theorem clO_xor2 (a b b' : Nat) : ∀ n, clO a (b ^^^ b') n = clO a b n ^^^ clO a b' n
  | 0 => by simp [clO]
  | n + 1 => by simp only [clO]; rw [clO_xor2 a b b' n, clI_xor2]

theorem redS_eq (i N : Nat) : redS i N = N ^^^ (N / 2 ^ i % 2 * ((1 <<< i) ^^^ (1 <<< (i - 8)) ^^^ (1 <<< (i - 7)) ^^^ (1 <<< (i - 5)) ^^^ (1 <<< (i - 4)))) := by
  unfold redS
  rcases two (N / 2 ^ i) with e | e <;> rw [e]
  · simp
  · simp [Nat.xor_assoc]
theorem redS_xor (i N M : Nat) : redS i (N ^^^ M) = redS i N ^^^ redS i M := by
  simp only [redS_eq]
  rw [bit_xor, xor4]
  congr 1
  rcases two (N / 2 ^ i) with e | e <;> rcases two (M / 2 ^ i) with e' | e' <;> rw [e, e'] <;> simp
theorem red_xor : ∀ k N M, red k (N ^^^ M) = red k N ^^^ red k M
  | 0, _, _ => rfl
  | k + 1, N, M => by simp only [red]; rw [red_xor k, redS_xor]

theorem rmul_xor1 (a a' b : Nat) : rmul (a ^^^ a') b = rmul a b ^^^ rmul a' b := by
  unfold rmul; rw [clO_xor1, red_xor]; exact mod_xor _ _ 8
theorem rmul_xor2 (a b b' : Nat) : rmul a (b ^^^ b') = rmul a b ^^^ rmul a b' := by
  unfold rmul; rw [clO_xor2, red_xor]; exact mod_xor _ _ 8

/-- THE TWO PRODUCTS ARE ONE. -/
theorem rmul_mul (a b : Nat) (ha : a < 256) (hb : b < 256) : rmul a b = mul a b := by
  revert b
  have z : ∀ x, rmul x x ^^^ rmul x x = 0 := fun x => Nat.xor_self _
  have z1 : ∀ b, rmul 0 b = 0 := by
    intro b; have := rmul_xor1 0 0 b; simp at this; exact this
  have z2 : ∀ b, rmul b 0 = 0 := by
    intro b; have := rmul_xor2 b 0 0; simp at this; exact this
  refine by_bits (fun a => ∀ b, b < 256 → rmul a b = mul a b) ?_ ?_ ?_ a ha
  · intro b _; rw [z1, zero_mul]
  · intro a a' ha ha' h h' b hb; rw [rmul_xor1, mul_xor1 _ _ _ ha ha', h b hb, h' b hb]
  · intro i hi b hb
    refine by_bits (fun b => rmul (2 ^ i) b = mul (2 ^ i) b) ?_ ?_ ?_ b hb
    · rw [z2, mul_zero]
    · intro b b' _ _ h h'; rw [rmul_xor2, mul_xor2, h, h']
    · intro j hj; revert i j; clear hb z z1 z2 ha a b; decide +kernel

theorem tw_mul (b : Nat) (hb : b < 256) : tw b = rmul b 2 := by
  rw [rmul_mul b 2 hb (by decide)]
  refine by_bits (fun b => tw b = mul b 2) (by decide) ?_ (by decide) b hb
  intro a b ha hb h h'; rw [mul_xor1 _ _ _ ha hb, tw_xor _ _ ha hb, h, h']

/-! ### powers, inverses -/
/-- the program's inverse: so many rounds from b and out -/
def invF : Nat → Nat → Nat → Nat
  | 0, _, o => o
  | k + 1, b, o => invF k (mul b b) (mul o (mul b b))
def inv (b : Nat) : Nat := invF 7 b 1
def pow (b : Nat) : Nat → Nat
  | 0 => 1
  | n + 1 => mul (pow b n) b

theorem pow_lt (b n : Nat) : pow b n < 256 := by
  induction n with
  | zero => show 1 < 256; decide
  | succ n ih => exact mul_lt _ _ ih
theorem one_mul (a : Nat) (ha : a < 256) : mul 1 a = a := by rw [mul_comm 1 a (by decide) ha, mul_one a ha]
theorem pow_add (b : Nat) (hb : b < 256) (m n : Nat) : pow b (m + n) = mul (pow b m) (pow b n) := by
  induction n with
  | zero => exact (mul_one _ (pow_lt _ _)).symm
  | succ n ih => show mul (pow b (m + n)) b = mul (pow b m) (mul (pow b n) b)
                 rw [ih, mul_assoc _ _ _ (pow_lt _ _) (pow_lt _ _) hb]
theorem invF_lt : ∀ k b o, b < 256 → o < 256 → invF k b o < 256
  | 0, _, _, _, h => h
  | k + 1, _, _, hb, ho => invF_lt k _ _ (mul_lt _ _ hb) (mul_lt _ _ ho)
theorem inv_lt (b : Nat) (hb : b < 256) : inv b < 256 := invF_lt 7 b 1 hb (by decide)
theorem invF_pow (b : Nat) (hb : b < 256) : ∀ k m n, invF k (pow b m) (pow b n) = pow b (n + m * (2 ^ (k + 1) - 2))
  | 0, m, n => by simp [invF]
  | k + 1, m, n => by
    simp only [invF]
    rw [← pow_add b hb, ← pow_add b hb, invF_pow b hb k]
    congr 1
    rw [Nat.add_assoc]
    congr 1
    have h1 : 2 ≤ 2 ^ (k + 1) := by rw [Nat.pow_succ]; have := Nat.two_pow_pos k; omega
    rw [Nat.pow_succ 2 (k + 1), ← Nat.two_mul m, Nat.mul_sub, Nat.mul_sub, Nat.mul_comm 2 m, Nat.mul_assoc, Nat.mul_assoc, Nat.mul_comm 2 (2 ^ (k + 1))]
    have h2 : m * 2 ≤ m * 2 ^ (k + 1) := Nat.mul_le_mul_left m h1
    have e2 : m * (2 ^ (k + 1) * 2) = m * 2 ^ (k + 1) + m * 2 ^ (k + 1) := by rw [← Nat.mul_assoc]; omega
    have e3 : m * (2 * 2) = m * 2 + m * 2 := by omega
    omega
theorem inv_pow (b : Nat) (hb : b < 256) : inv b = pow b 254 := by
  have e : pow b 1 = b := one_mul b hb
  have := invF_pow b hb 7 1 0
  rw [e] at this
  exact this
theorem mul_inv : ∀ b, b < 256 → b ≠ 0 → mul b (inv b) = 1 := by decide +kernel
theorem inv_zero : inv 0 = 0 := by decide +kernel
theorem pow_255 (b : Nat) (hb : b < 256) (h : b ≠ 0) : pow b 255 = 1 := by
  show mul (pow b 254) b = 1
  rw [← inv_pow b hb, mul_comm _ _ (inv_lt b hb) hb, mul_inv b hb h]
/-- The one byte whose product with b is 1. -/
theorem inv_one (b i : Nat) (hb : b < 256) (hi : i < 256) (h : mul b i = 1) : i = inv b := by
  by_cases h0 : b = 0
  · subst h0; rw [zero_mul] at h; cases h
  · have h1 := mul_inv b hb h0
    have : mul (mul (inv b) b) i = mul (inv b) (mul b i) := mul_assoc _ _ _ (inv_lt b hb) hb hi
    rw [h, mul_comm (inv b) b (inv_lt b hb) hb, h1, one_mul i hi, mul_one _ (inv_lt b hb)] at this
    exact this

end Nums
end Go.Proofs.Ytlcfaejomblnjaa
