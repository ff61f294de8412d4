/-
  Plain facts on blocks as numbers below 2^128: doubling and halving, as the program reckons them in halves, and that each undoes the other and keeps sums. No program in sight.
-/
import Derived.Test.YtlcfaejomblnjaaNums
namespace Go.Proofs.Ytlcfaejomblnjaa
namespace Nums

def M : Nat := 18446744073709551616
theorem M_eq : M = 2 ^ 64 := by decide
def dbl (K : Nat) : Nat := (K * 2 % 2 ^ 128) ^^^ (135 * (K / 2 ^ 127))
def hlv (K : Nat) : Nat := (K ^^^ (135 * (K % 2))) / 2 + K % 2 * 2 ^ 127

theorem dbl_lt (K : Nat) (hK : K < 2 ^ 128) : dbl K < 2 ^ 128 := by
  unfold dbl
  refine Nat.xor_lt_two_pow (Nat.mod_lt _ (by decide)) ?_
  have : K / 2 ^ 127 < 2 := by rw [Nat.div_lt_iff_lt_mul (by decide)]; omega
  omega
theorem hlv_lt (K : Nat) (hK : K < 2 ^ 128) : hlv K < 2 ^ 128 := by
  unfold hlv
  have h1 : K ^^^ (135 * (K % 2)) < 2 ^ 128 := Nat.xor_lt_two_pow hK (by omega)
  omega

/-- the halves' sum with something below 2^64 -/
theorem low_xor (lo hi c : Nat) (hl : lo < 2 ^ 64) (hc : c < 2 ^ 64) : (lo + hi * 2 ^ 64) ^^^ c = (lo ^^^ c) + hi * 2 ^ 64 := by
  have h1 : ((lo + hi * 2 ^ 64) ^^^ c) % 2 ^ 64 = lo ^^^ c := by
    rw [mod_xor, Nat.mod_eq_of_lt hc]; congr 1; omega
  have h2 : ((lo + hi * 2 ^ 64) ^^^ c) / 2 ^ 64 = hi := by
    rw [div_xor, Nat.div_eq_of_lt hc, Nat.xor_zero]; omega
  have := Nat.div_add_mod ((lo + hi * 2 ^ 64) ^^^ c) (2 ^ 64)
  rw [h1, h2] at this
  omega

theorem or_low (x y : Nat) (hy : y < 2) : (x * 2) ||| y = x * 2 + y := by
  have := Nat.two_pow_add_eq_or_of_lt (i := 1) (b := y) (by simpa using hy) x
  rw [Nat.mul_comm x 2]; simpa using this.symm
theorem or_top (x y : Nat) (hx : x < 2 ^ 63) : x ||| (y * 2 ^ 63) = x + y * 2 ^ 63 := by
  have := Nat.two_pow_add_eq_or_of_lt hx y
  rw [Nat.or_comm, Nat.mul_comm y, ← this]; omega

theorem dbl_halves (lo hi : Nat) (hl : lo < M) (hh : hi < M) :
    ((lo * 2 % M) ^^^ (135 * (hi / 9223372036854775808))) + ((hi * 2 % M) ||| (lo / 9223372036854775808)) * M = dbl (lo + hi * M) ∧
    ((lo * 2 % M) ^^^ (135 * (hi / 9223372036854775808))) < M ∧ ((hi * 2 % M) ||| (lo / 9223372036854775808)) < M := by
  have eM : M = 2 ^ 64 := M_eq
  have h1 : lo / 9223372036854775808 < 2 := by unfold M at hl; omega
  have h2 : hi / 9223372036854775808 < 2 := by unfold M at hh; omega
  have h3 : hi * 2 % M = (hi * 2 % M / 2) * 2 := by unfold M; omega
  have h4 : (hi * 2 % M) ||| (lo / 9223372036854775808) = hi * 2 % M + lo / 9223372036854775808 := by
    rw [h3, or_low _ _ h1]
  have h5 : 135 * (hi / 9223372036854775808) < 2 ^ 64 := by omega
  have h6 : lo * 2 % M < 2 ^ 64 := by rw [← eM]; exact Nat.mod_lt _ (by decide)
  refine ⟨?_, by rw [eM] at h6 ⊢; exact Nat.xor_lt_two_pow h6 h5, by rw [h4]; unfold M; omega⟩
  rw [h4]
  unfold dbl
  have e1 : (lo + hi * M) * 2 % 2 ^ 128 = lo * 2 % M + (hi * 2 % M + lo / 9223372036854775808) * 2 ^ 64 := by unfold M at *; omega
  have e2 : (lo + hi * M) / 2 ^ 127 = hi / 9223372036854775808 := by unfold M at *; omega
  rw [e1, e2, low_xor _ _ _ h6 h5]
  rw [eM]

theorem hlv_halves (lo hi : Nat) (hl : lo < M) (hh : hi < M) :
    (((lo ^^^ (135 * (lo % 2))) / 2) ||| (hi * 9223372036854775808 % M)) + ((hi / 2) ||| (lo % 2 * 9223372036854775808 % M)) * M = hlv (lo + hi * M) ∧
    (((lo ^^^ (135 * (lo % 2))) / 2) ||| (hi * 9223372036854775808 % M)) < M ∧ ((hi / 2) ||| (lo % 2 * 9223372036854775808 % M)) < M := by
  have eM : M = 2 ^ 64 := M_eq
  have e2 : (9223372036854775808 : Nat) = 2 ^ 63 := by decide
  have hx : lo ^^^ (135 * (lo % 2)) < 2 ^ 64 := Nat.xor_lt_two_pow (by rw [← eM]; exact hl) (by omega)
  have h1 : hi * 9223372036854775808 % M = hi % 2 * 2 ^ 63 := by unfold M; omega
  have h2 : lo % 2 * 9223372036854775808 % M = lo % 2 * 2 ^ 63 := by rcases two lo with e | e <;> rw [e] <;> decide
  have h3 : (((lo ^^^ (135 * (lo % 2))) / 2) ||| (hi * 9223372036854775808 % M)) = (lo ^^^ (135 * (lo % 2))) / 2 + hi % 2 * 2 ^ 63 := by
    rw [h1, or_top _ _ (by omega)]
  have h4 : ((hi / 2) ||| (lo % 2 * 9223372036854775808 % M)) = hi / 2 + lo % 2 * 2 ^ 63 := by
    rw [h2, or_top _ _ (by unfold M at hh; omega)]
  rw [h3, h4]
  refine ⟨?_, by unfold M; omega, by unfold M at *; omega⟩
  unfold hlv
  have e3 : (lo + hi * M) % 2 = lo % 2 := by unfold M; omega
  rw [e3, eM, low_xor lo hi (135 * (lo % 2)) (by rw [← eM]; exact hl) (by omega)]
  generalize lo ^^^ (135 * (lo % 2)) = x at *
  omega

theorem half_of (K : Nat) : K % M + K / M * M = K := by
  generalize M = m
  rw [Nat.add_comm, Nat.mul_comm]; exact Nat.div_add_mod K m

/-! ### each undoes the other; sums -/
theorem top_bit (K : Nat) (hK : K < 2 ^ 128) : K / 2 ^ 127 < 2 := by rw [Nat.div_lt_iff_lt_mul (by decide)]; omega
theorem xor_mod2 (a b : Nat) : (a ^^^ b) % 2 = (a % 2) ^^^ (b % 2) := mod_xor a b 1
theorem xor_same (a b : Nat) : (a ^^^ b) ^^^ b = a := by rw [Nat.xor_assoc, Nat.xor_self, Nat.xor_zero]

theorem hlv_dbl (K : Nat) (hK : K < 2 ^ 128) : hlv (dbl K) = K := by
  have ht := top_bit K hK
  have h2 : dbl K % 2 = K / 2 ^ 127 := by
    unfold dbl
    rw [xor_mod2]
    have : K * 2 % 2 ^ 128 % 2 = 0 := by omega
    rw [this, Nat.zero_xor]; omega
  unfold hlv
  rw [h2]
  unfold dbl
  rw [xor_same]
  omega
theorem dbl_hlv (K : Nat) (hK : K < 2 ^ 128) : dbl (hlv K) = K := by
  have h1 : K ^^^ (135 * (K % 2)) < 2 ^ 128 := Nat.xor_lt_two_pow hK (by omega)
  have h2 : (K ^^^ (135 * (K % 2))) % 2 = 0 := by
    rw [xor_mod2]
    have : 135 * (K % 2) % 2 = K % 2 := by omega
    rw [this, Nat.xor_self]
  unfold dbl
  have e1 : hlv K * 2 % 2 ^ 128 = K ^^^ (135 * (K % 2)) := by
    unfold hlv; omega
  have e2 : hlv K / 2 ^ 127 = K % 2 := by unfold hlv; omega
  rw [e1, e2, xor_same]
theorem dbl_xor (a b : Nat) (ha : a < 2 ^ 128) (hb : b < 2 ^ 128) : dbl (a ^^^ b) = dbl a ^^^ dbl b := by
  have ha' := top_bit a ha
  have hb' := top_bit b hb
  unfold dbl
  rw [xor4]
  congr 1
  · have : (a ^^^ b) * 2 = a * 2 ^^^ b * 2 := by
      have := Nat.shiftLeft_xor_distrib (a := a) (b := b) (i := 1)
      simpa [Nat.shiftLeft_eq] using this
    rw [this, mod_xor]
  · rw [div_xor]
    generalize a / 2 ^ 127 = x at *
    generalize b / 2 ^ 127 = y at *
    obtain rfl | rfl : x = 0 ∨ x = 1 := by omega
    all_goals obtain rfl | rfl : y = 0 ∨ y = 1 := by omega
    all_goals decide
theorem hlv_xor (a b : Nat) (ha : a < 2 ^ 128) (hb : b < 2 ^ 128) : hlv (a ^^^ b) = hlv a ^^^ hlv b := by
  have h := dbl_xor (hlv a) (hlv b) (hlv_lt a ha) (hlv_lt b hb)
  rw [dbl_hlv a ha, dbl_hlv b hb] at h
  rw [← h, hlv_dbl _ (Nat.xor_lt_two_pow (hlv_lt a ha) (hlv_lt b hb))]

/-- doubled so many times, halved so many times -/
def dbls (K : Nat) : Nat → Nat
  | 0 => K
  | n + 1 => dbl (dbls K n)
def hlvs (K : Nat) : Nat → Nat
  | 0 => K
  | n + 1 => hlv (hlvs K n)
theorem dbls_lt (K : Nat) (hK : K < 2 ^ 128) : ∀ n, dbls K n < 2 ^ 128
  | 0 => hK
  | n + 1 => dbl_lt _ (dbls_lt K hK n)
theorem hlvs_lt (K : Nat) (hK : K < 2 ^ 128) : ∀ n, hlvs K n < 2 ^ 128
  | 0 => hK
  | n + 1 => hlv_lt _ (hlvs_lt K hK n)
theorem dbls_in (K : Nat) : ∀ n, dbls (dbl K) n = dbls K (n + 1)
  | 0 => rfl
  | n + 1 => by show dbl (dbls (dbl K) n) = dbl (dbls K (n + 1)); rw [dbls_in K n]
theorem dbls_hlvs (K : Nat) (hK : K < 2 ^ 128) : ∀ n, dbls (hlvs K n) n = K
  | 0 => rfl
  | n + 1 => by
    rw [← dbls_in]
    show dbls (dbl (hlv (hlvs K n))) n = K
    rw [dbl_hlv _ (hlvs_lt K hK n), dbls_hlvs K hK n]

end Nums
end Go.Proofs.Ytlcfaejomblnjaa
