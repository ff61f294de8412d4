/-
  FieldPowers: for every byte and every whole number the law returns true. No condition.
-/
import Derived.Test.YtlcfaejomblnjaaRows
import Derived.Test.YtlcfaejomblnjaaBytes
import Derived.Test.YtlcfaejomblnjaaBlocks
import Derived.Test.YtlcfaejomblnjaaPow
import Derived.Test.YtlcfaejomblnjaaOpen
import Derived.ProofKit
import Derived.OpenShut
import Derived.ChangeOld
import Derived.Below
namespace Go.Proofs.Ytlcfaejomblnjaa
open Go.ChangeShapes Go.WideShapes Go.ChangeAt Go.RowKit Go.Shelf
attribute [local go_sem] Oper.semAt_some
set_option linter.unusedVariables false

theorem double_1 (w : World) : Calls Try.prog 20 #[.agg #[.int .u8 1, .int .u8 0, .int .u8 0, .int .u8 0, .int .u8 0, .int .u8 0, .int .u8 0, .int .u8 0, .int .u8 0, .int .u8 0, .int .u8 0, .int .u8 0, .int .u8 0, .int .u8 0, .int .u8 0, .int .u8 0]] w fun e w' => e = .returned (.agg #[.int .u8 2, .int .u8 0, .int .u8 0, .int .u8 0, .int .u8 0, .int .u8 0, .int .u8 0, .int .u8 0, .int .u8 0, .int .u8 0, .int .u8 0, .int .u8 0, .int .u8 0, .int .u8 0, .int .u8 0, .int .u8 0]) ∧ Below w.heap.size w w' := by
  have := double_any 1 (by decide) w
  rw [show Nums.dbl 1 = 2 from by decide +kernel, show keyA 1 = #[.int .u8 1, .int .u8 0, .int .u8 0, .int .u8 0, .int .u8 0, .int .u8 0, .int .u8 0, .int .u8 0, .int .u8 0, .int .u8 0, .int .u8 0, .int .u8 0, .int .u8 0, .int .u8 0, .int .u8 0, .int .u8 0] from by simp [keyA, row, byteV, kb, List.range_succ], show keyA 2 = #[.int .u8 2, .int .u8 0, .int .u8 0, .int .u8 0, .int .u8 0, .int .u8 0, .int .u8 0, .int .u8 0, .int .u8 0, .int .u8 0, .int .u8 0, .int .u8 0, .int .u8 0, .int .u8 0, .int .u8 0, .int .u8 0] from by simp [keyA, row, byteV, kb, List.range_succ]] at this
  exact this
theorem eq_2 (w : World) : (Op.equalIn 10000 26 (.agg #[.int .u8 2, .int .u8 0, .int .u8 0, .int .u8 0, .int .u8 0, .int .u8 0, .int .u8 0, .int .u8 0, .int .u8 0, .int .u8 0, .int .u8 0, .int .u8 0, .int .u8 0, .int .u8 0, .int .u8 0, .int .u8 0]) (.agg #[.int .u8 2, .int .u8 0, .int .u8 0, .int .u8 0, .int .u8 0, .int .u8 0, .int .u8 0, .int .u8 0, .int .u8 0, .int .u8 0, .int .u8 0, .int .u8 0, .int .u8 0, .int .u8 0, .int .u8 0, .int .u8 0])).run Try.prog w = .ok true w := by
  have := key_eqs 2 2 (by decide) (by decide) w
  rw [show keyA 2 = #[.int .u8 2, .int .u8 0, .int .u8 0, .int .u8 0, .int .u8 0, .int .u8 0, .int .u8 0, .int .u8 0, .int .u8 0, .int .u8 0, .int .u8 0, .int .u8 0, .int .u8 0, .int .u8 0, .int .u8 0, .int .u8 0] from by simp [keyA, row, byteV, kb, List.range_succ]] at this
  simpa using this

theorem three_boxes (w : World) (x y z : Array Value) (t u v : TypeId) :
    Blk (((w.alloc (.cells x t)).alloc (.cells y u)).alloc (.cells z v)) w.heap.size x t ∧ Blk (((w.alloc (.cells x t)).alloc (.cells y u)).alloc (.cells z v)) (w.heap.size + 1) y u ∧
    Blk (((w.alloc (.cells x t)).alloc (.cells y u)).alloc (.cells z v)) (w.heap.size + 1 + 1) z v ∧ Below w.heap.size w (((w.alloc (.cells x t)).alloc (.cells y u)).alloc (.cells z v)) := by
  refine ⟨((Blk.new _ _ _).alloc _).alloc _, ?_, ?_, (((Below.refl _ _).alloc (Nat.le_refl _) _).alloc (by simp) _).alloc (by simp; omega) _⟩
  · have := (Blk.new (w.alloc (.cells x t)) y u).alloc (.cells z v); simpa using this
  · have := Blk.new ((w.alloc (.cells x t)).alloc (.cells y u)) z v; simpa using this
theorem u64_of (i : Int) : ∃ u : Nat, IntKind.u64.wrap i = (u : Int) ∧ u < 18446744073709551616 := by
  refine ⟨(i % 18446744073709551616).toNat, ?_, by omega⟩
  have : IntKind.u64.wrap i = i % 18446744073709551616 := by simp [IntKind.wrap, IntKind.bits, IntKind.signed]
  rw [this]; omega

/-- what holds behind the rounds 'pre' -/
def PwI (b N wb : Nat) (w : World) (pre : List Nat) (W : World) : Prop :=
  pre.length < N ∧ Blk W (wb + 1 + 1) #[.int .u8 b] 5 ∧ Blk W w.heap.size #[.int .u8 b] 5 ∧ Blk W (w.heap.size + 1) #[.int .i64 N] 3 ∧ Blk W (w.heap.size + 1 + 1) #[.bool false] 4 ∧ Blk W wb #[.int .u8 (Nums.pow b pre.length : Nat)] 5 ∧ Blk W (wb + 1) #[.int .i64 (pre.length : Nat)] 3 ∧ Below w.heap.size w W
/-- how the loop has been left -/
def PwX (b N wb : Nat) (w : World) (c : Code) (pre : List Nat) (W : World) : Prop :=
  (c = .ret ∧ pre ≠ pows b pre.length) ∨ (c = .exit 0 ∧ Blk W (w.heap.size + 1) #[.int .i64 N] 3 ∧ Blk W (w.heap.size + 1 + 1) #[.bool false] 4 ∧ Blk W (wb + 1) #[.int .i64 N] 3 ∧ Below w.heap.size w W)
theorem blk_put {w : World} {B l : Nat} {vs : Array Value} {t : TypeId} (h : Blk w B vs t) (hl : B < l) (o : Obj) : Blk (w.putObj l o) B vs t := by
  unfold Blk at h ⊢
  rw [World.putObj_heap_other (by omega)]; exact h
theorem below_put {B l : Nat} {w W : World} (h : Below B w W) (hl : B ≤ l) (o : Obj) : Below B w (W.putObj l o) :=
  h.trans ⟨rfl, rfl, rfl, by simp, fun k hk => World.putObj_heap_other (by omega)⟩

theorem keeps_below (B : Nat) {W W' : World} (h : Below W.heap.size W W') : KeepsFrom B W W' := ⟨h.size, fun k o _ hk _ => (h.block k (Array.getElem?_eq_some_iff.1 hk).1).trans hk⟩

set_option maxHeartbeats 2000000 in
theorem fieldPowers_walk (b : Nat) (hb : b < 256) (i : Int) (hi : (Lit.int .i64 i).wf = true) (w : World) :
    Calls Try.prog 10 #[.int .u8 b, .int .i64 i] w fun e w' => e = .returned (.bool true) ∧ Below w.heap.size w w' := by
  have h2 := eq_2
  refine (callsIn_wide (n := 9)).1 ?_
  refine callsIn_of_wp_marks Try.func10 rfl trivial ?_ rfl
  simp only [Try.ntmps10, List.size_toArray, List.length_cons, List.length_nil, Nat.reduceAdd, Nat.reduceSub, Array.replicate_succ, Array.replicate_zero, List.push_toArray, List.append_toArray, List.nil_append, List.cons_append]
  gi_wp2
  refine ⟨trivial, (callsIn_wide.2 (double_1 _)).mono ?_⟩
  rintro e w1 ⟨rfl, b1⟩
  obtain ⟨a0, a1, a2, ab⟩ := three_boxes w #[.int .u8 b] #[.int .i64 i] #[.bool false] 5 3 4
  have c0 := a0.below b1 a0.lt
  have c1 := a1.below b1 a1.lt
  have c2 := a2.below b1 a2.lt
  have cb := ab.trans (b1.mono (by simp; omega))
  clear a0 a1 a2 ab b1
  have hc1 : w1.cell? ⟨w.heap.size + 1, 0, none⟩ = some (.int .i64 i) := c1.cell rfl
  have hf1 := c1.frozen 0
  have hc0 : ∀ v, (w1.setCell ⟨w.heap.size + 1, 0, none⟩ v).cell? ⟨w.heap.size, 0, none⟩ = some (.int .u8 b) := fun v => (c0.other (by show w.heap.size + 1 ≠ _; omega) v).cell rfl
  obtain ⟨u, hu, hu2⟩ := u64_of i
  obtain ⟨W5, hW5⟩ : ∃ W5, W5 = ((w1.setCell ⟨w.heap.size + 1, 0, none⟩ (.int .i64 (1 + (u : Int) % 300))).alloc (.cells #[.int .u8 1] 5)).alloc (.cells #[.int .i64 0] 3) := ⟨_, rfl⟩
  have hc05 : (((w1.setCell ⟨w.heap.size + 1, 0, none⟩ (.int .i64 (1 + (u : Int) % 300))).alloc (.cells #[.int .u8 1] 5)).alloc (.cells #[.int .i64 0] 3)).cell? ⟨w.heap.size, 0, none⟩ = some (.int .u8 b) :=
    (((c0.other (by show w.heap.size + 1 ≠ _; omega) _).alloc _).alloc _).cell rfl
  clear hc0
  gi_wp2
  clear hc05
  rw [← hW5]
  have hsz1 : (w1.setCell ⟨w.heap.size + 1, 0, none⟩ (.int .i64 (1 + (u : Int) % 300))).heap.size = w1.heap.size := by simp [World.setCell]
  have d0 : Blk W5 w.heap.size #[.int .u8 b] 5 := by rw [hW5]; exact ((c0.other (by show w.heap.size + 1 ≠ _; omega) _).alloc _).alloc _
  have d1 : Blk W5 (w.heap.size + 1) #[.int .i64 (1 + (u : Int) % 300)] 3 := by rw [hW5]; exact ((c1.set 0 _).alloc _).alloc _
  have d2 : Blk W5 (w.heap.size + 1 + 1) #[.bool false] 4 := by rw [hW5]; exact ((c2.other (by show w.heap.size + 1 ≠ _; omega) _).alloc _).alloc _
  have d3 : Blk W5 w1.heap.size #[.int .u8 1] 5 := by
    rw [hW5]
    have := (Blk.new (w1.setCell ⟨w.heap.size + 1, 0, none⟩ (.int .i64 (1 + (u : Int) % 300))) #[.int .u8 1] 5).alloc (.cells #[.int .i64 0] 3)
    rw [hsz1] at this; exact this
  have d4 : Blk W5 (w1.heap.size + 1) #[.int .i64 0] 3 := by
    rw [hW5]
    have := Blk.new ((w1.setCell ⟨w.heap.size + 1, 0, none⟩ (.int .i64 (1 + (u : Int) % 300))).alloc (.cells #[.int .u8 1] 5)) #[.int .i64 0] 3
    rw [World.size_alloc, hsz1] at this; exact this
  have db : Below w.heap.size w W5 := by
    rw [hW5]
    exact ((cb.setCell (p := ⟨w.heap.size + 1, 0, none⟩) (by show w.heap.size ≤ w.heap.size + 1; omega) _).alloc (by rw [hsz1]; exact cb.size) _).alloc (by rw [World.size_alloc, hsz1]; have := cb.size; omega) _
  have hs5 : W5.heap.size = w1.heap.size + 1 + 1 := by rw [hW5]; simp [World.setCell]
  have hl1 := c2.lt
  clear hW5 hsz1 c0 c1 c2 cb hc1 hf1
  obtain ⟨N, hN⟩ : ∃ N : Nat, N = 1 + u % 300 := ⟨_, rfl⟩
  have hN300 : N ≤ 300 := by omega
  have hN2 : 1 + (u : Int) % 300 = (N : Int) := by omega
  rw [hN2] at d1 ⊢
  have hN3 : 1 ≤ N := by omega
  clear hN hN2 hu hu2
  obtain ⟨wb, hwb⟩ : ∃ wb, wb = w1.heap.size := ⟨_, rfl⟩
  rw [← hwb] at d3 d4 hs5 hl1 ⊢
  clear hwb
  refine ⟨trivial, (callsIn_wide.2 (powers_any b _)).mono ?_⟩
  rintro e w6 ⟨rfl, rfl⟩
  gi_wp2
  clear h2
  have e0 := d0.alloc (.cells #[.int .u8 b] 5)
  have e1 := d1.alloc (.cells #[.int .u8 b] 5)
  have e2 := d2.alloc (.cells #[.int .u8 b] 5)
  have e3 := d3.alloc (.cells #[.int .u8 b] 5)
  have e4 := d4.alloc (.cells #[.int .u8 b] 5)
  have e5 := Blk.new W5 #[.int .u8 b] 5
  have eb := db.alloc db.size (.cells #[.int .u8 b] 5)
  have hs6 : (W5.alloc (.cells #[.int .u8 b] 5)).heap.size = wb + 1 + 1 + 1 := by rw [World.size_alloc, hs5]
  rw [hs5] at e5
  generalize W5.alloc (.cells #[.int .u8 b] 5) = W6 at *
  clear d0 d1 d2 d3 d4 db hs5
  have HS6 := Lib.hid hs6
  refine range_until (n := 9) (ps := #[19]) (gf := 28) (lb := #[.pointer (some ⟨wb + 1 + 1, 0, none⟩)]) rfl (enters_of Try.func28 (by kernel_rfl) rfl) (fun _ => rfl) (powers_endless 8 (by decide) b hb (wb + 1 + 1)) N
    (PwI b N wb w) (PwX b N wb w)
    ?hN ?hI ?hIx ?h0
    (fun x => { tmps := #[.int .u8 b, .int .i64 i, .pointer (some ⟨w.heap.size, 0, none⟩), .pointer (some ⟨w.heap.size + 1, 0, none⟩), .pointer (some ⟨w.heap.size + 1 + 1, 0, none⟩), .pointer (some ⟨wb, 0, none⟩), .pointer (some ⟨wb + 1, 0, none⟩), .int .u8 (x : Nat),
      .agg #[.int .u8 1, .int .u8 0, .int .u8 0, .int .u8 0, .int .u8 0, .int .u8 0, .int .u8 0, .int .u8 0, .int .u8 0, .int .u8 0, .int .u8 0, .int .u8 0, .int .u8 0, .int .u8 0, .int .u8 0, .int .u8 0], .agg #[.int .u8 2, .int .u8 0, .int .u8 0, .int .u8 0, .int .u8 0, .int .u8 0, .int .u8 0, .int .u8 0, .int .u8 0, .int .u8 0, .int .u8 0, .int .u8 0, .int .u8 0, .int .u8 0, .int .u8 0, .int .u8 0], .agg #[.int .u8 2, .int .u8 0, .int .u8 0, .int .u8 0, .int .u8 0, .int .u8 0, .int .u8 0, .int .u8 0, .int .u8 0, .int .u8 0, .int .u8 0, .int .u8 0, .int .u8 0, .int .u8 0, .int .u8 0, .int .u8 0], .bool false, .int .i64 i, .int .u64 u, .int .u64 ((u : Int) % 300), .int .i64 ((u : Int) % 300), .int .i64 N, .int .u8 b, .func (.func 28) #[] #[.pointer (some ⟨wb + 1 + 1, 0, none⟩)], .int .u8 (x : Nat),
      undef, undef, undef, undef, undef, undef, undef, undef, undef, undef, undef, undef, undef, undef], defers := [] })
    ?assign ?body ?stop
  case hN => exact fun pre W h => ⟨h.1, h.2.1⟩
  case hI =>
    rintro pre W l o ⟨hlen, g5, g0, g1, g2, g3, g4, gb⟩ hl
    rw [HS6.out] at hl
    exact ⟨hlen, blk_put g5 (by omega) o, blk_put g0 (by omega) o, blk_put g1 (by omega) o, blk_put g2 (by omega) o, blk_put g3 (by omega) o, blk_put g4 (by omega) o, below_put gb (by omega) o⟩
  case hIx =>
    rintro c pre W l o (⟨rfl, h⟩ | ⟨rfl, g1, g2, g4, gb⟩) hl
    · exact .inl ⟨rfl, h⟩
    · rw [HS6.out] at hl
      exact .inr ⟨rfl, blk_put g1 (by omega) o, blk_put g2 (by omega) o, blk_put g4 (by omega) o, below_put gb (by omega) o⟩
  case h0 =>
    intro o o'
    exact ⟨hN3, (e5.alloc _).alloc _, (e0.alloc _).alloc _, (e1.alloc _).alloc _, (e2.alloc _).alloc _, (e3.alloc _).alloc _, (e4.alloc _).alloc _, (eb.alloc eb.size _).alloc (by rw [World.size_alloc]; have := eb.size; omega) _⟩
  case assign =>
    intro l x W K hK
    gi_wp2
    exact hK
  case body =>
    rintro l pre x W ⟨hlen, g5, g0, g1, g2, g3, g4, gb⟩ hpr
    clear hpr
    clear e0 e1 e2 e3 e4 e5 eb hs6
    obtain ⟨q, hq⟩ : ∃ q, q = Nums.pow b pre.length := ⟨_, rfl⟩
    rw [← hq] at g3
    have hq2 : q < 256 := by rw [hq]; exact Nums.pow_lt _ _
    have HQ := Lib.hid hq
    clear hq
    have hc3 : W.cell? ⟨wb, 0, none⟩ = some (.int .u8 q) := g3.cell rfl
    have hf3 := g3.frozen 0
    have hsW := g5.lt
    dsimp only
    by_cases hx : x = q
    · subst hx
      have hc0 : W.cell? ⟨w.heap.size, 0, none⟩ = some (.int .u8 b) := g0.cell rfl
      have hmul := rmul_any x b hq2 hb
      rw [Nums.rmul_mul x b hq2 hb] at hmul
      have hmul2 : Nums.mul x b = Nums.pow b (pre.length + 1) := by rw [HQ.out]; rfl
      have HM := Lib.hid hmul
      have HM2 := Lib.hid hmul2
      clear hmul hmul2
      gi_wp2
      refine ⟨trivial, CallsIn.inRound l ((callsIn_wide.2 (HM.out _)).mono ?_)⟩
      rintro e w2 ⟨rfl, bw⟩
      generalize Nums.mul x b = y at *
      have r0 := g0.below bw (by omega)
      have r1 := g1.below bw (by omega)
      have r2 := g2.below bw (by omega)
      have r3 := g3.below bw (by omega)
      have r4 := g4.below bw (by omega)
      have r5 := g5.below bw (by omega)
      have rb := gb.trans (bw.mono gb.size)
      have k1 := keeps_below W6.heap.size bw
      clear hc0 hc3 hf3
      have wne : w.heap.size + 1 ≠ wb := by omega
      have wne2 : w.heap.size + 1 ≠ wb + 1 := by omega
      have hc3 : ∃ v, w2.cell? ⟨wb, 0, none⟩ = some v := ⟨_, r3.cell rfl⟩
      obtain ⟨v3, hc3⟩ := hc3
      have hc1 : w2.cell? ⟨w.heap.size + 1, 0, none⟩ = some (.int .i64 N) := r1.cell rfl
      have hf3 := r3.frozen 0
      have s0 := r0.other (a := ⟨wb, 0, none⟩) (by show wb ≠ _; omega) (.int .u8 (y : Nat))
      have s1 := r1.other (a := ⟨wb, 0, none⟩) (by show wb ≠ _; omega) (.int .u8 (y : Nat))
      have s2 := r2.other (a := ⟨wb, 0, none⟩) (by show wb ≠ _; omega) (.int .u8 (y : Nat))
      have s3 := r3.set 0 (.int .u8 (y : Nat))
      have s4 := r4.other (a := ⟨wb, 0, none⟩) (by show wb ≠ _; omega) (.int .u8 (y : Nat))
      have s5 := r5.other (a := ⟨wb, 0, none⟩) (by show wb ≠ _; omega) (.int .u8 (y : Nat))
      have sb := rb.setCell (p := ⟨wb, 0, none⟩) (by show w.heap.size ≤ wb; omega) (.int .u8 (y : Nat))
      have k2 := k1.trans ((KeepsOthers.setCell w2 ⟨wb, 0, none⟩ (.int .u8 (y : Nat))).from W6.heap.size)
      clear r0 r1 r2 r3 r4 r5 rb k1
      have hc4 : (w2.setCell ⟨wb, 0, none⟩ (.int .u8 (y : Nat))).cell? ⟨wb + 1, 0, none⟩ = some (.int .i64 (pre.length : Nat)) := s4.cell rfl
      have hf4 := s4.frozen 0
      have hlen2 : pre.length ≤ 300 := by omega
      have pl : (pre ++ [x]).length = pre.length + 1 := by simp
      have PL := Lib.hid pl
      clear pl
      have t0 := s0.other (a := ⟨wb + 1, 0, none⟩) (by show wb + 1 ≠ _; omega) (.int .i64 ((pre.length : Nat) + 1))
      have t1 := s1.other (a := ⟨wb + 1, 0, none⟩) (by show wb + 1 ≠ _; omega) (.int .i64 ((pre.length : Nat) + 1))
      have t2 := s2.other (a := ⟨wb + 1, 0, none⟩) (by show wb + 1 ≠ _; omega) (.int .i64 ((pre.length : Nat) + 1))
      have t3 := s3.other (a := ⟨wb + 1, 0, none⟩) (by show wb + 1 ≠ _; omega) (.int .i64 ((pre.length : Nat) + 1))
      have t4 := s4.set 0 (.int .i64 ((pre.length : Nat) + 1))
      have t5 := s5.other (a := ⟨wb + 1, 0, none⟩) (by show wb + 1 ≠ _; omega) (.int .i64 ((pre.length : Nat) + 1))
      have tb := sb.setCell (p := ⟨wb + 1, 0, none⟩) (by show w.heap.size ≤ wb + 1; omega) (.int .i64 ((pre.length : Nat) + 1))
      have k3 := k2.trans ((KeepsOthers.setCell _ ⟨wb + 1, 0, none⟩ (.int .i64 ((pre.length : Nat) + 1))).from W6.heap.size)
      clear s0 s1 s2 s3 s4 s5 sb k2
      by_cases hend : pre.length + 1 = N
      · have htest : (((pre.length : Nat) : Int) + 1 == ((N : Nat) : Int)) = true := by rw [beq_iff_eq]; omega
        have HE := Lib.hid hend
        clear hend
        gi_wp2
        refine ⟨k3, .inr ⟨rfl, t1, t2, ?_, tb⟩⟩
        rw [show ((N : Nat) : Int) = ((pre.length : Nat) : Int) + 1 from by rw [← HE.out]; rfl]
        exact t4
      · have htest : (((pre.length : Nat) : Int) + 1 == ((N : Nat) : Int)) = false := by rw [beq_eq_false_iff_ne]; omega
        have HE := Lib.hid hend
        clear hend
        gi_wp2
        refine ⟨k3, by have := HE.out; rw [PL.out]; omega, t5, t0, t1, t2, ?_, ?_, tb⟩
        · rw [PL.out, ← HM2.out]; exact t3
        · rw [PL.out]; exact t4
    · have hne : (((x : Nat) : Int) == ((q : Nat) : Int)) = false := by rw [beq_eq_false_iff_ne]; omega
      have hc2 : W.cell? ⟨w.heap.size + 1 + 1, 0, none⟩ = some (.bool false) := g2.cell rfl
      have hf2 := g2.frozen 0
      have HX := Lib.hid hx
      clear hx
      gi_wp2
      exact ⟨(KeepsOthers.setCell _ _ _).from _, .inl ⟨rfl, fun h => HX.out (by
        have : (pre ++ [x]).length = pre.length + 1 := by simp
        rw [this, pows_snoc] at h
        have := List.append_inj h (by rw [pows_length])
        rw [HQ.out]; simpa using this.2)⟩⟩
  case stop =>
    rintro D c pre W hD ⟨m, hm⟩ (⟨rfl, h⟩ | ⟨rfl, g1, g2, g4, gb⟩) hd
    · exact absurd (by rw [hm, pows_length]) h
    · have hc1 : W.cell? ⟨w.heap.size + 1, 0, none⟩ = some (.int .i64 N) := g1.cell rfl
      have hc4 : W.cell? ⟨wb + 1, 0, none⟩ = some (.int .i64 N) := g4.cell rfl
      have hc2 : W.cell? ⟨w.heap.size + 1 + 1, 0, none⟩ = some (.bool false) := g2.cell rfl
      have hf2 := g2.frozen 0
      rw [HS6.out] at hD
      have q2 := g2.set 0 (.bool true)
      have qb := gb.setCell (p := ⟨w.heap.size + 1 + 1, 0, none⟩) (by show w.heap.size ≤ w.heap.size + 1 + 1; omega) (.bool true)
      have qd : (W.setCell ⟨w.heap.size + 1 + 1, 0, none⟩ (.bool true)).heap[D]? = some (.deferred (some [])) := (heap_setCell_other W _ D _ (by show D ≠ w.heap.size + 1 + 1; omega)).trans hd
      gi_wp2
      refine ⟨by simp, .inl ⟨_, _, rfl, run_takeDeferred qd, ?_⟩⟩
      have q3 := (blk_put q2 (l := D) (by omega) (.deferred none)).cell (j := 0) (v := .bool true) rfl
      have qb2 := below_put qb (l := D) (by omega) (.deferred none)
      generalize (W.setCell ⟨w.heap.size + 1 + 1, 0, none⟩ (.bool true)).putObj D (.deferred none) = W9 at *
      exact ⟨.bool true, by simp [results, Try.results10, go_sem, q3], rfl, qb2⟩


/-! ### the row's frame -/
theorem fieldPowers_own : ownKnob Try.prog.godebug = none := by kernel_rfl
theorem fieldPowers_laid : laidOutB Try.prog = true := by kernel_rfl
set_option maxRecDepth 100000 in
theorem fieldPowers_lifted (os : Os) (started : os.Started) (H : Type) (enc : TypeId × Value → H) :
    ReturnsInHanded {} Try.checked os 10 .any (Rows.fieldPowersSpec.pre6 enc Try.prog Try.f10 Rows.fieldPowersRow.domain false) (Rows.fieldPowersSpec.post enc Try.prog Try.f10 false true false false) := by
  refine returnsInHanded_of_change (C := Try.checked) fieldPowers_own started (by kernel_rfl) Try.func10
    (ChangeSpec.witness6 (enc := enc) (C := Try.checked) false ⟨#[], #[.int .u8 0, .int .i64 0], []⟩ 8 (by kernel_rfl) (by kernel_rfl) (by kernel_rfl) (by kernel_rfl)) ?_
  intro W base args ds gs before hval0 hW hcnd _
  have hval : ∀ (j : Nat) t v, Try.f10.params[j]? = some t → args[j]? = some v → Value.okWide Try.prog W .any base t v := hval0
  have hW' := hW
  obtain ⟨p, q, hA0, hV, rfl, hfz, hnd⟩ := hW
  have hA : DataW.TrodAll enc Try.prog W 0 (fun _ => true) true Try.f10.params.toList args.toList ds p := hA0
  rw [Try.params10] at hA hval
  obtain ⟨v0, vs0, d0, ds0, p0, q0, hargs, rfl, rfl, h0, r0⟩ := trodAll_cons hA
  obtain ⟨v1, vs1, d1, ds1, p1, q1, rfl, rfl, rfl, h1, r1⟩ := trodAll_cons r0
  obtain ⟨rfl, rfl, rfl⟩ := trodAll_nil r1
  obtain rfl : args = #[v0, v1] := by cases args; simp_all
  obtain ⟨rfl, rfl⟩ := trodVars_none hV
  have k0 := h0
  have lt0 : ∀ x ∈ p0, x.block < W.heap.size := by obtain ⟨m, hm⟩ := k0; exact DataW.trod_lt m _ _ _ hm
  have k1 := h1
  have lt1 : ∀ x ∈ p1, x.block < W.heap.size := by obtain ⟨m, hm⟩ := k1; exact DataW.trod_lt m _ _ _ hm
  obtain ⟨a0, rfl, rfl, rfl, w0⟩ := open_int Try.underlying5 (hval 0 5 v0 rfl rfl) h0
  obtain ⟨b0, rfl, hb0⟩ := byte_of w0
  obtain ⟨a1, rfl, rfl, rfl, w1⟩ := open_int Try.underlying3 (hval 1 3 v1 rfl rfl) h1
  clear hA0 hval0
  refine (fieldPowers_walk b0 hb0 a1 w1 W).mono fun e W' ⟨he, bel⟩ => ?_
  subst he
  exact ⟨_, rfl, _, _, _, [], _, [], hW', trodAll_mk1 (shut_bool Try.underlying4 _), (trodAll_cons_mk (Below.trod fieldPowers_laid (by kernel_rfl) (of_decide_eq_true (by kernel_rfl)) k0 bel lt0) (trodAll_cons_mk (Below.trod fieldPowers_laid (by kernel_rfl) (of_decide_eq_true (by kernel_rfl)) k1 bel lt1) trodAll_mk0)), rfl, bel.frame _, fun h => by cases h⟩

theorem fieldPowers_proved : Rows.FieldPowersSaid :=
  OpenClaim.holds_of_wide 10 Try.f10 rfl rfl rfl rfl rfl rfl rfl ⟨rfl, rfl, rfl, rfl, rfl⟩ rfl rfl rfl rfl rfl (by kernel_rfl) Try.func10 (by kernel_rfl)
    (of_decide_eq_true (by kernel_rfl)) (by unfold Func.isWrapper; rw [if_neg (of_decide_eq_false (by kernel_rfl))]; exact ⟨rfl, rfl⟩)
    (fun os started H enc _ => fieldPowers_lifted os started H enc)
#print axioms fieldPowers_proved

end Go.Proofs.Ytlcfaejomblnjaa
