/-
  The walks over blocks doubled and halved: a block as two halves and back; the program's and the document's function, for every block.
-/
import Derived.Test.YtlcfaejomblnjaaBytes
import Derived.Test.YtlcfaejomblnjaaArr
import Derived.Test.YtlcfaejomblnjaaDbl
namespace Go.Proofs.Ytlcfaejomblnjaa
open Go.RowKit

/-- what has been read of K behind the bytes n and up -/
theorem little_step (K n : Nat) (hK : K < 18446744073709551616) : K / 256 ^ n = (K / 256 ^ (n + 1) * 256 % 18446744073709551616) ||| kb K n := by
  have e1 : K / 256 ^ (n + 1) = K / 256 ^ n / 256 := by rw [Nat.pow_succ, Nat.div_div_eq_div_mul]
  have h2 : K / 256 ^ n ≤ K := Nat.div_le_self _ _
  unfold kb
  rw [e1]
  generalize K / 256 ^ n = x at *
  have h3 : x / 256 * 256 % 18446744073709551616 = x / 256 * 256 := Nat.mod_eq_of_lt (by omega)
  rw [h3]
  have h4 : x / 256 * 256 = 2 ^ 8 * (x / 256) := by omega
  have h5 : x % 256 < 2 ^ 8 := Nat.mod_lt _ (by decide)
  rw [h4, ← Nat.two_pow_add_eq_or_of_lt h5]; omega

theorem u64_wrap (n : Nat) : IntKind.u64.wrap (n : Int) = ((n % 18446744073709551616 : Nat) : Int) := by
  simp [IntKind.wrap, IntKind.bits, IntKind.signed]
theorem little_val (v b : Nat) (hb : b < 256) : bits .or .u64 (IntKind.u64.wrap ((v : Int) * 256)) (b : Int) = (((v * 256 % 18446744073709551616) ||| b : Nat) : Int) := by
  rw [show ((v : Int) * 256) = ((v * 256 : Nat) : Int) from by omega, u64_wrap, u64_or_nat _ _ (Nat.mod_lt _ (by decide)) (by omega)]

set_option maxHeartbeats 400000 in
theorem little_any (B off cap : Nat) (K : Nat) (hK : K < 18446744073709551616) (w : World) (hc : ∀ j, j < 8 → w.cell? ⟨B, off + j, none⟩ = some (.int .u8 (kb K j : Nat))) :
    Calls Try.prog 29 #[.slice (some ⟨B, off, none⟩) 8 cap] w fun e w' => e = .returned (.int .u64 (K : Nat)) ∧ w' = w := by
  go_enter Try.func29, Try.ntmps29
  go_wp2
  go_loop [3, 4] (fun x i => ∃ n v : Nat, n ≤ 8 ∧ v < 18446744073709551616 ∧ Hid (v = K / 256 ^ n) ∧ i = .int .i64 ((n : Int) - 1) ∧ x = .int .u64 (v : Nat)) (fun _ i => (intOf i + 1).toNat)
  case atStart => exact ⟨8, 0, by omega, by decide, by unfold Hid; rw [Nat.div_eq_of_lt (by rw [show (256 : Nat) ^ 8 = 18446744073709551616 from by decide]; exact hK)], rfl, rfl⟩
  case round =>
    obtain ⟨n, v, hn, hv, hd, rfl, rfl⟩ := hrel
    by_cases hlt : (0 : Int) ≤ (n : Int) - 1
    · obtain ⟨n, rfl⟩ : ∃ n', n = n' + 1 := ⟨n - 1, by omega⟩
      have e1 : ((n + 1 : Nat) : Int) - 1 = (n : Int) := by omega
      rw [e1]
      have hcn := hc n (by omega)
      have k1 := kb_lt K n
      clear hc
      have x1 : (n : Int) < 8 := by omega
      go_wp2
      refine ⟨⟨n, K / 256 ^ n, by omega, Nat.lt_of_le_of_lt (Nat.div_le_self _ _) hK, rfl, rfl, ?_⟩, by simp only [intOf]; omega⟩
      rw [little_val v _ k1, hd.out, ← little_step K n hK]
    · obtain rfl : n = 0 := by omega
      go_wp2
      go_ret
      refine ⟨?_, rfl⟩
      have := hd.out
      rw [Nat.pow_zero, Nat.div_one] at this
      subst this
      rfl

/-- 'Only block B has turned.' -/
structure Only (B : Nat) (w w' : World) : Prop where
  os : w'.os = w.os
  tape : w'.tape = w.tape
  output : w'.output = w.output
  size : w'.heap.size = w.heap.size
  block : ∀ k, k ≠ B → w'.heap[k]? = w.heap[k]?
theorem Only.refl (B : Nat) (w : World) : Only B w w := ⟨rfl, rfl, rfl, rfl, fun _ _ => rfl⟩
theorem Only.trans {B : Nat} {a b c : World} (h : Only B a b) (k : Only B b c) : Only B a c :=
  ⟨k.os.trans h.os, k.tape.trans h.tape, k.output.trans h.output, k.size.trans h.size, fun i hi => (k.block i hi).trans (h.block i hi)⟩
theorem Only.set (B j : Nat) (w : World) (v : Value) : Only B w (w.setCell ⟨B, j, none⟩ v) := ⟨rfl, rfl, rfl, by simp [World.setCell], fun k hk => Below.heap_setCell _ _ _ _ (by exact hk)⟩
theorem Only.below {B C : Nat} {w w' : World} (h : Only B w w') (hB : C ≤ B) : Below C w w' := ⟨h.os, h.tape, h.output, Nat.le_of_eq h.size.symm, fun k hk => h.block k (by omega)⟩
theorem Only.blk {B C : Nat} {w w' : World} {vs : Array Value} {t : TypeId} (h : Only B w w') (hb : Blk w C vs t) (hne : C ≠ B) : Blk w' C vs t := by
  unfold Blk at hb ⊢; rw [h.block C hne]; exact hb

/-- the first n of eight bytes from 'off' on are laid -/
def putV (e : Nat → Value) (K off n : Nat) (j : Nat) : Value := if off ≤ j ∧ j < off + n then .int .u8 (kb K (j - off) : Nat) else e j
theorem putV_zero (e : Nat → Value) (K off : Nat) : putV e K off 0 = e := funext fun j => if_neg (by omega)
theorem putV_step (e : Nat → Value) (K off n : Nat) : upd (putV e K off n) (off + n) (.int .u8 (kb K n : Nat)) = putV e K off (n + 1) := funext fun j => by
  unfold upd putV
  by_cases h : j = off + n
  · subst h; rw [if_pos rfl, if_pos (by omega), show off + n - off = n from by omega]
  · rw [if_neg h]
    by_cases h2 : off ≤ j ∧ j < off + n
    · rw [if_pos h2, if_pos (by omega)]
    · rw [if_neg h2, if_neg (by omega)]

set_option maxHeartbeats 400000 in
theorem put_any (B off cap K : Nat) (hK : K < 18446744073709551616) (e : Nat → Value) (ho : off + 8 ≤ 16) (w : World) (hB : Blk w B (row e 16) 26) :
    Calls Try.prog 30 #[.slice (some ⟨B, off, none⟩) 8 cap, .int .u64 (K : Nat)] w fun r w' => r = .returned (.tuple #[]) ∧ Blk w' B (row (putV e K off 8) 16) 26 ∧ Only B w w' := by
  go_enter Try.func30, Try.ntmps30
  go_wp2
  go_loopw [1, 7] (fun x i wr => ∃ n v : Nat, n ≤ 8 ∧ v < 18446744073709551616 ∧ Hid (v = K / 256 ^ n) ∧ i = .int .i64 n ∧ x = .int .u64 (v : Nat) ∧ Blk wr B (row (putV e K off n) 16) 26 ∧ Only B w wr) (fun _ i _ => (8 - intOf i).toNat)
  case atStart => exact ⟨0, K, by omega, hK, by unfold Hid; simp, rfl, rfl, by rw [putV_zero]; exact hB, Only.refl _ _⟩
  case round =>
    clear hB
    obtain ⟨n, v, hn, hv, hd, rfl, rfl, hB, hO⟩ := hrel
    by_cases hlt : (n : Int) < 8
    · have hf := hB.frozen (off + n)
      obtain ⟨o, hcell⟩ : ∃ o, wr.cell? ⟨B, off + n, none⟩ = some o := ⟨_, hB.cell (row_at _ _ _ (by omega))⟩
      go_wp2
      refine ⟨⟨n + 1, v / 256, by omega, by omega, ?_, by go_num, by go_num, ?_, hO.trans (Only.set _ _ _ _)⟩, by simp only [intOf]; omega⟩
      · unfold Hid; rw [hd.out, Nat.pow_succ, Nat.div_div_eq_div_mul]
      · have hs := hB.set (off + n) (.int .u8 ((v : Int) % 256))
        have hv2 : (v : Int) % 256 = ((kb K n : Nat) : Int) := by unfold kb; rw [← hd.out]; omega
        rw [row_set, hv2, putV_step] at hs
        rw [hv2]; exact hs
    · obtain rfl : n = 8 := by omega
      go_wp2
      go_end0
      exact ⟨rfl, hB, hO⟩

/-! ### a block as two halves -/
theorem kb_low (K j : Nat) (hj : j < 8) : kb (K % 18446744073709551616) j = kb K j := by
  unfold kb
  rw [show (18446744073709551616 : Nat) = 256 ^ j * (256 * 256 ^ (7 - j)) from by rw [← Nat.pow_succ', ← Nat.pow_add, show j + (7 - j + 1) = 8 from by omega]]
  rw [Nat.mod_mul_right_div_self, Nat.mod_mul_right_mod]
theorem kb_high (K j : Nat) : kb (K / 18446744073709551616) j = kb K (8 + j) := by
  unfold kb
  rw [Nat.div_div_eq_div_mul, Nat.pow_add, show (256 : Nat) ^ 8 = 18446744073709551616 from by decide]

set_option maxHeartbeats 400000 in
theorem halves_any (K : Nat) (hK : K < 2 ^ 128) (w : World) :
    Calls Try.prog 26 #[.agg (keyA K)] w fun e w' => e = .returned (.tuple #[.int .u64 (K % 18446744073709551616 : Nat), .int .u64 (K / 18446744073709551616 : Nat)]) ∧ Below w.heap.size w w' := by
  have hlo : K % 18446744073709551616 < 18446744073709551616 := Nat.mod_lt _ (by decide)
  have hhi : K / 18446744073709551616 < 18446744073709551616 := by
    have : (2 : Nat) ^ 128 = 18446744073709551616 * 18446744073709551616 := by decide
    rw [this] at hK
    exact Nat.div_lt_of_lt_mul hK
  have hB := Blk.new w (keyA K) 26
  have bw : Below w.heap.size w (w.alloc (.cells (keyA K) 26)) := (Below.refl _ _).alloc (Nat.le_refl _) _
  have hsz : (w.alloc (.cells (keyA K) 26)).heap.size = w.heap.size + 1 := by simp
  go_enter Try.func26, Try.ntmps26
  go_wp2
  generalize w.alloc (.cells (keyA K) 26) = W at *
  have bW : ∀ w', Below W.heap.size W w' → Below w.heap.size w w' := fun w' h => bw.trans (h.mono (by omega))
  have l1 : ∀ w', Below W.heap.size W w' → Calls Try.prog 29 #[.slice (some ⟨w.heap.size, 0, none⟩) 8 16] w' fun e w'' => e = .returned (.int .u64 (K % 18446744073709551616 : Nat)) ∧ w'' = w' := fun w' h =>
    little_any _ 0 16 _ hlo _ (fun j hj => by rw [Nat.zero_add, (hB.below h (by omega)).cell (keyA_at K j (by omega)), kb_low K j hj])
  have l2 : ∀ w', Below W.heap.size W w' → Calls Try.prog 29 #[.slice (some ⟨w.heap.size, 8, none⟩) 8 8] w' fun e w'' => e = .returned (.int .u64 (K / 18446744073709551616 : Nat)) ∧ w'' = w' := fun w' h =>
    little_any _ 8 8 _ hhi _ (fun j hj => by rw [(hB.below h (by omega)).cell (keyA_at K (8 + j) (by omega)), kb_high K j])
  have m1 := class_same l1
  have m2 := class_same l2
  refine wp_region_class (fun w' => Below W.heap.size W w') (by kernel_rfl) (by kernel_rfl) (Below.refl _ _).drew ?_
  generalize hC : (fun w' => Below W.heap.size W w') = C
  have D1 : ∀ w', C w' → Calls Try.prog 29 #[.slice (some ⟨w.heap.size, 0, none⟩) 8 16] w' fun e w'' => e = .returned (.int .u64 (K % 18446744073709551616 : Nat)) ∧ C w'' := by rw [← hC]; exact m1
  have D2 : ∀ w', C w' → Calls Try.prog 29 #[.slice (some ⟨w.heap.size, 8, none⟩) 8 8] w' fun e w'' => e = .returned (.int .u64 (K / 18446744073709551616 : Nat)) ∧ C w'' := by rw [← hC]; exact m2
  clear m1 m2 l1 l2 hC hB bw hsz
  generalize hl' : K % 18446744073709551616 = lo at *
  generalize hh' : K / 18446744073709551616 = hi at *
  have HL := Lib.hid hl'
  have HH := Lib.hid hh'
  clear hl' hh'
  have E1 := Lib.hid D1
  have E2 := Lib.hid D2
  have EW := Lib.hid bW
  clear D1 D2 bW
  go_big_quiet_want; go_big_quiet_op; refine ⟨_, fun _ _ => rfl, ?_⟩; go_big_quiet_on
  go_big_quiet_want; go_big_quiet_op; refine ⟨_, E1.out, ?_⟩; go_big_quiet_on
  go_big_quiet_want; go_big_quiet_op; refine ⟨_, fun _ _ => rfl, ?_⟩; go_big_quiet_on
  go_big_quiet_want; go_big_quiet_op; refine ⟨_, E2.out, ?_⟩; go_big_quiet_on
  repeat (go_big_quiet_want; go_big_quiet_op; go_big_quiet_on)
  refine wpQuiet_nil ?_
  intro w' hw'
  have hb' := EW.out w' hw'
  go_wp2
  go_ret2
  exact ⟨by rw [HL.out, HH.out]; rfl, hb'⟩

theorem two_new (w : World) (x y : Array Value) (t : TypeId) :
    Blk ((w.alloc (.cells x t)).alloc (.cells y t)) w.heap.size x t ∧ Blk ((w.alloc (.cells x t)).alloc (.cells y t)) (w.heap.size + 1) y t ∧ Below w.heap.size w ((w.alloc (.cells x t)).alloc (.cells y t)) := by
  refine ⟨(Blk.new _ _ _).alloc _, ?_, ((Below.refl _ _).alloc (Nat.le_refl _) _).alloc (by simp) _⟩
  have := Blk.new (w.alloc (.cells x t)) y t; simpa using this

theorem put_both (lo hi : Nat) (hlo : lo < 18446744073709551616) : row (putV (putV (byteV 0) lo 0 8) hi 8 8) 16 = keyA (lo + hi * 18446744073709551616) := by
  refine keyA_of _ _ fun j hj => ?_
  have e1 : (lo + hi * 18446744073709551616) % 18446744073709551616 = lo := by omega
  have e2 : (lo + hi * 18446744073709551616) / 18446744073709551616 = hi := by omega
  unfold putV
  by_cases h : 8 ≤ j
  · rw [if_pos ⟨h, by omega⟩]
    have := kb_high (lo + hi * 18446744073709551616) (j - 8)
    rw [e2, show 8 + (j - 8) = j from by omega] at this
    rw [this]
  · rw [if_neg (by omega), if_pos ⟨by omega, by omega⟩]
    have := kb_low (lo + hi * 18446744073709551616) j (by omega)
    rw [e1] at this
    rw [Nat.sub_zero, this]

set_option maxHeartbeats 400000 in
theorem block_any (lo hi : Nat) (hlo : lo < 18446744073709551616) (hhi : hi < 18446744073709551616) (w : World) :
    Calls Try.prog 27 #[.int .u64 (lo : Nat), .int .u64 (hi : Nat)] w fun e w' => e = .returned (.agg (keyA (lo + hi * 18446744073709551616))) ∧ Below w.heap.size w w' := by
  obtain ⟨n1, n2, nb⟩ := two_new w #[.int .u8 0, .int .u8 0, .int .u8 0, .int .u8 0, .int .u8 0, .int .u8 0, .int .u8 0, .int .u8 0, .int .u8 0, .int .u8 0, .int .u8 0, .int .u8 0, .int .u8 0, .int .u8 0, .int .u8 0, .int .u8 0] #[.int .u8 0, .int .u8 0, .int .u8 0, .int .u8 0, .int .u8 0, .int .u8 0, .int .u8 0, .int .u8 0, .int .u8 0, .int .u8 0, .int .u8 0, .int .u8 0, .int .u8 0, .int .u8 0, .int .u8 0, .int .u8 0] 26
  go_enter Try.func27, Try.ntmps27
  go_wp2_with fail
  rw [zero16] at *
  refine (put_any _ 0 16 lo hlo (byteV 0) (by omega) _ n2).mono ?_
  rintro e w1 ⟨rfl, p1, o1⟩
  have q1 := o1.blk n1 (by omega)
  have b1 := nb.trans (o1.below (by omega))
  clear n1 n2 nb o1
  go_wp2_with fail
  refine (put_any _ 8 8 hi hhi _ (by omega) _ p1).mono ?_
  rintro e w2 ⟨rfl, p2, o2⟩
  have q2 := o2.blk q1 (by omega)
  have b2 := b1.trans (o2.below (by omega))
  rw [put_both lo hi hlo] at p2
  clear p1 o2 q1 b1
  go_wp2_with (first | (refine load_key rfl _ rfl _ rfl _ p2 ?_) | (refine store_key rfl _ _ rfl _ (lo + hi * 18446744073709551616) rfl rfl (keyA 0) q2 (keyA_size 0) ?_))
  exact bodyPost_ret (key_results Try.f27 4 rfl _ _ _ _ rfl (q2.setRow _)) rfl ⟨rfl, below_setRow b2 (by omega) _⟩

/-! ### doubling and halving -/
theorem halves_lt (K : Nat) (hK : K < 2 ^ 128) : K % 18446744073709551616 < 18446744073709551616 ∧ K / 18446744073709551616 < 18446744073709551616 := by
  refine ⟨Nat.mod_lt _ (by decide), ?_⟩
  have : (2 : Nat) ^ 128 = 18446744073709551616 * 18446744073709551616 := by decide
  rw [this] at hK
  exact Nat.div_lt_of_lt_mul hK
/-- the document's numbers, as the program reckons them -/
theorem dlo_val (lo hi : Nat) (hh : hi < 18446744073709551616) : bits .xor .u64 (IntKind.u64.wrap ((lo : Int) * 2)) (135 * ((hi : Int) / 9223372036854775808)) = (((lo * 2 % Nums.M) ^^^ (135 * (hi / 9223372036854775808)) : Nat) : Int) := by
  have e1 : (lo : Int) * 2 = ((lo * 2 : Nat) : Int) := by omega
  have e2 : 135 * ((hi : Int) / 9223372036854775808) = ((135 * (hi / 9223372036854775808) : Nat) : Int) := by omega
  rw [e1, e2, u64_wrap, u64_xor_nat _ _ (Nat.mod_lt _ (by decide)) (by omega)]; rfl
theorem dhi_val (lo hi : Nat) (hl : lo < 18446744073709551616) : bits .or .u64 (IntKind.u64.wrap ((hi : Int) * 2)) ((lo : Int) / 9223372036854775808) = (((hi * 2 % Nums.M) ||| (lo / 9223372036854775808) : Nat) : Int) := by
  have e1 : (hi : Int) * 2 = ((hi * 2 : Nat) : Int) := by omega
  have e2 : ((lo : Int) / 9223372036854775808) = ((lo / 9223372036854775808 : Nat) : Int) := by omega
  rw [e1, e2, u64_wrap, u64_or_nat _ _ (Nat.mod_lt _ (by decide)) (by omega)]; rfl

set_option maxHeartbeats 400000 in
theorem double_any (K : Nat) (hK : K < 2 ^ 128) (w : World) :
    Calls Try.prog 20 #[.agg (keyA K)] w fun e w' => e = .returned (.agg (keyA (Nums.dbl K))) ∧ Below w.heap.size w w' := by
  obtain ⟨hlo, hhi⟩ := halves_lt K hK
  obtain ⟨n1, n2, nb⟩ := two_new w (keyA K) #[.int .u8 0, .int .u8 0, .int .u8 0, .int .u8 0, .int .u8 0, .int .u8 0, .int .u8 0, .int .u8 0, .int .u8 0, .int .u8 0, .int .u8 0, .int .u8 0, .int .u8 0, .int .u8 0, .int .u8 0, .int .u8 0] 26
  have hv := halves_any K hK
  have hd := Nums.half_of K
  rw [show Nums.M = 18446744073709551616 from rfl] at hd
  generalize K % 18446744073709551616 = lo at *
  generalize K / 18446744073709551616 = hi at *
  obtain ⟨d1, d2, d3⟩ := Nums.dbl_halves lo hi hlo hhi
  rw [show Nums.M = 18446744073709551616 from rfl, hd, ← show Nums.M = 18446744073709551616 from rfl] at d1
  have v1 := dlo_val lo hi hhi
  have v2 := dhi_val lo hi hlo
  have HV := Lib.hid hv
  have V1 := Lib.hid v1
  have V2 := Lib.hid v2
  have D1 := Lib.hid d1
  have D2 := Lib.hid d2
  have D3 := Lib.hid d3
  clear hd hv v1 v2 d1 d2 d3
  go_enter Try.func20, Try.ntmps20
  go_wp2_with (refine load_key rfl _ rfl _ rfl K n1 ?_)
  refine (HV.out _).mono ?_
  rintro e w1 ⟨rfl, b1⟩
  have p2 := n2.below b1 (by simp)
  have pb := nb.trans (b1.mono (by simp; omega))
  clear n1 n2 nb b1
  go_wp2_with fail
  rw [V1.out, V2.out]
  refine (block_any _ _ D2.out D3.out _).mono ?_
  rintro e w2 ⟨rfl, b2⟩
  have q2 := p2.below b2 p2.lt
  have qb := pb.trans (b2.mono pb.size)
  rw [show (18446744073709551616 : Nat) = Nums.M from rfl, D1.out]
  go_wp2_with (refine store_key rfl _ _ rfl _ (Nums.dbl K) rfl rfl #[.int .u8 0, .int .u8 0, .int .u8 0, .int .u8 0, .int .u8 0, .int .u8 0, .int .u8 0, .int .u8 0, .int .u8 0, .int .u8 0, .int .u8 0, .int .u8 0, .int .u8 0, .int .u8 0, .int .u8 0, .int .u8 0] q2 rfl ?_)
  exact bodyPost_ret (key_results Try.f20 2 rfl _ _ _ _ rfl (q2.setRow _)) rfl ⟨rfl, below_setRow qb (by omega) _⟩

theorem hlo_val (x hi : Nat) (hx : x < 18446744073709551616) : bits .or .u64 ((x : Int) / 2) (IntKind.u64.wrap ((hi : Int) * 9223372036854775808)) = (((x / 2) ||| (hi * 9223372036854775808 % Nums.M) : Nat) : Int) := by
  have e1 : (hi : Int) * 9223372036854775808 = ((hi * 9223372036854775808 : Nat) : Int) := by omega
  have e2 : (x : Int) / 2 = ((x / 2 : Nat) : Int) := by omega
  rw [e1, e2, u64_wrap, u64_or_nat _ _ (by omega) (Nat.mod_lt _ (by decide))]; rfl
theorem hhi_val (hi od : Nat) (ho : od < 2) (hh : hi < 18446744073709551616) : bits .or .u64 ((hi : Int) / 2) ((od : Int) * 9223372036854775808) = (((hi / 2) ||| (od * 9223372036854775808 % Nums.M) : Nat) : Int) := by
  have e0 : od * 9223372036854775808 % Nums.M = od * 9223372036854775808 := Nat.mod_eq_of_lt (by unfold Nums.M; omega)
  have e1 : (od : Int) * 9223372036854775808 = ((od * 9223372036854775808 : Nat) : Int) := by omega
  have e2 : (hi : Int) / 2 = ((hi / 2 : Nat) : Int) := by omega
  rw [e0, e1, e2, u64_or_nat _ _ (by omega) (by omega)]

set_option maxHeartbeats 400000 in
theorem halve_any (K : Nat) (hK : K < 2 ^ 128) (w : World) :
    Calls Try.prog 22 #[.agg (keyA K)] w fun e w' => e = .returned (.agg (keyA (Nums.hlv K))) ∧ Below w.heap.size w w' := by
  obtain ⟨hlo, hhi⟩ := halves_lt K hK
  obtain ⟨n1, n2, nb⟩ := two_new w (keyA K) #[.int .u8 0, .int .u8 0, .int .u8 0, .int .u8 0, .int .u8 0, .int .u8 0, .int .u8 0, .int .u8 0, .int .u8 0, .int .u8 0, .int .u8 0, .int .u8 0, .int .u8 0, .int .u8 0, .int .u8 0, .int .u8 0] 26
  have hv := halves_any K hK
  have hd := Nums.half_of K
  rw [show Nums.M = 18446744073709551616 from rfl] at hd
  generalize K % 18446744073709551616 = lo at *
  generalize K / 18446744073709551616 = hi at *
  obtain ⟨d1, d2, d3⟩ := Nums.hlv_halves lo hi hlo hhi
  rw [show Nums.M = 18446744073709551616 from rfl, hd, ← show Nums.M = 18446744073709551616 from rfl] at d1
  have HV := Lib.hid hv
  have D1 := Lib.hid d1
  have D2 := Lib.hid d2
  have D3 := Lib.hid d3
  clear hd hv d1 d2 d3
  have v0 : bits .and .u64 (lo : Int) 1 = ((lo % 2 : Nat) : Int) := by
    have := u64_and_nat lo 1 hlo (by decide)
    rw [show ((1 : Nat) : Int) = 1 from rfl] at this
    rw [this, Nat.and_one_is_mod]
  have ho : lo % 2 < 2 := Nat.mod_lt _ (by decide)
  generalize lo % 2 = od at *
  have v1 : bits .xor .u64 (lo : Int) (135 * (od : Int)) = ((lo ^^^ (135 * od) : Nat) : Int) := by
    have := u64_xor_nat lo (135 * od) hlo (by omega)
    rw [← this]; congr 1
  have hx : lo ^^^ (135 * od) < 18446744073709551616 := Nat.xor_lt_two_pow (n := 64) hlo (by omega)
  generalize lo ^^^ (135 * od) = x at *
  go_enter Try.func22, Try.ntmps22
  go_wp2_with (refine load_key rfl _ rfl _ rfl K n1 ?_)
  refine (HV.out _).mono ?_
  rintro e w1 ⟨rfl, b1⟩
  have p2 := n2.below b1 (by simp)
  have pb := nb.trans (b1.mono (by simp; omega))
  clear n1 n2 nb b1
  go_wp2_with fail
  rw [hlo_val x hi hx, hhi_val hi od ho hhi]
  refine (block_any _ _ D2.out D3.out _).mono ?_
  rintro e w2 ⟨rfl, b2⟩
  have q2 := p2.below b2 p2.lt
  have qb := pb.trans (b2.mono pb.size)
  rw [show (18446744073709551616 : Nat) = Nums.M from rfl, D1.out]
  go_wp2_with (refine store_key rfl _ _ rfl _ (Nums.hlv K) rfl rfl #[.int .u8 0, .int .u8 0, .int .u8 0, .int .u8 0, .int .u8 0, .int .u8 0, .int .u8 0, .int .u8 0, .int .u8 0, .int .u8 0, .int .u8 0, .int .u8 0, .int .u8 0, .int .u8 0, .int .u8 0, .int .u8 0] q2 rfl ?_)
  exact bodyPost_ret (key_results Try.f22 2 rfl _ _ _ _ rfl (q2.setRow _)) rfl ⟨rfl, below_setRow qb (by omega) _⟩

end Go.Proofs.Ytlcfaejomblnjaa
