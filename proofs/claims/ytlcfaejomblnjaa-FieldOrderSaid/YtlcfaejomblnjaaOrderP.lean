/-
  FieldOrder: for every byte the law returns true. No condition.
-/
import Derived.Test.YtlcfaejomblnjaaRows
import Derived.Test.YtlcfaejomblnjaaBytes
import Derived.Test.YtlcfaejomblnjaaBlocks
import Derived.Test.YtlcfaejomblnjaaPow
import Derived.Test.YtlcfaejomblnjaaOpen
import Derived.ProofKit
import Derived.OpenShut
import Derived.ChangeOld
import Derived.Below
namespace Go.Proofs.Ytlcfaejomblnjaa
open Go.ChangeShapes Go.WideShapes Go.ChangeAt Go.RowKit Go.Shelf
attribute [local go_sem] Oper.semAt_some
set_option linter.unusedVariables false

theorem double_1 (w : World) : Calls Try.prog 20 #[.agg #[.int .u8 1, .int .u8 0, .int .u8 0, .int .u8 0, .int .u8 0, .int .u8 0, .int .u8 0, .int .u8 0, .int .u8 0, .int .u8 0, .int .u8 0, .int .u8 0, .int .u8 0, .int .u8 0, .int .u8 0, .int .u8 0]] w fun e w' => e = .returned (.agg #[.int .u8 2, .int .u8 0, .int .u8 0, .int .u8 0, .int .u8 0, .int .u8 0, .int .u8 0, .int .u8 0, .int .u8 0, .int .u8 0, .int .u8 0, .int .u8 0, .int .u8 0, .int .u8 0, .int .u8 0, .int .u8 0]) ∧ Below w.heap.size w w' := by
  have := double_any 1 (by decide) w
  rw [show Nums.dbl 1 = 2 from by decide +kernel, show keyA 1 = #[.int .u8 1, .int .u8 0, .int .u8 0, .int .u8 0, .int .u8 0, .int .u8 0, .int .u8 0, .int .u8 0, .int .u8 0, .int .u8 0, .int .u8 0, .int .u8 0, .int .u8 0, .int .u8 0, .int .u8 0, .int .u8 0] from by simp [keyA, row, byteV, kb, List.range_succ], show keyA 2 = #[.int .u8 2, .int .u8 0, .int .u8 0, .int .u8 0, .int .u8 0, .int .u8 0, .int .u8 0, .int .u8 0, .int .u8 0, .int .u8 0, .int .u8 0, .int .u8 0, .int .u8 0, .int .u8 0, .int .u8 0, .int .u8 0] from by simp [keyA, row, byteV, kb, List.range_succ]] at this
  exact this
theorem eq_2 (w : World) : (Op.equalIn 10000 26 (.agg #[.int .u8 2, .int .u8 0, .int .u8 0, .int .u8 0, .int .u8 0, .int .u8 0, .int .u8 0, .int .u8 0, .int .u8 0, .int .u8 0, .int .u8 0, .int .u8 0, .int .u8 0, .int .u8 0, .int .u8 0, .int .u8 0]) (.agg #[.int .u8 2, .int .u8 0, .int .u8 0, .int .u8 0, .int .u8 0, .int .u8 0, .int .u8 0, .int .u8 0, .int .u8 0, .int .u8 0, .int .u8 0, .int .u8 0, .int .u8 0, .int .u8 0, .int .u8 0, .int .u8 0])).run Try.prog w = .ok true w := by
  have := key_eqs 2 2 (by decide) (by decide) w
  rw [show keyA 2 = #[.int .u8 2, .int .u8 0, .int .u8 0, .int .u8 0, .int .u8 0, .int .u8 0, .int .u8 0, .int .u8 0, .int .u8 0, .int .u8 0, .int .u8 0, .int .u8 0, .int .u8 0, .int .u8 0, .int .u8 0, .int .u8 0] from by simp [keyA, row, byteV, kb, List.range_succ]] at this
  simpa using this
theorem blk_put {w : World} {B l : Nat} {vs : Array Value} {t : TypeId} (h : Blk w B vs t) (hl : B < l) (o : Obj) : Blk (w.putObj l o) B vs t := by
  unfold Blk at h ⊢
  rw [World.putObj_heap_other (by omega)]; exact h
theorem below_put {B l : Nat} {w W : World} (h : Below B w W) (hl : B ≤ l) (o : Obj) : Below B w (W.putObj l o) :=
  h.trans ⟨rfl, rfl, rfl, by simp, fun k hk => World.putObj_heap_other (by omega)⟩
theorem keeps_below (B : Nat) {W W' : World} (h : Below W.heap.size W W') : KeepsFrom B W W' := ⟨h.size, fun k o _ hk _ => (h.block k (Array.getElem?_eq_some_iff.1 hk).1).trans hk⟩
theorem keeps_drew {B : Nat} {W X : World} (h : KeepsFrom B W X) : KeepsFrom B W X.drew := ⟨h.size, h.same⟩
theorem two_boxes (w : World) (x y : Array Value) (t u : TypeId) :
    Blk ((w.alloc (.cells x t)).alloc (.cells y u)) w.heap.size x t ∧ Blk ((w.alloc (.cells x t)).alloc (.cells y u)) (w.heap.size + 1) y u ∧ Below w.heap.size w ((w.alloc (.cells x t)).alloc (.cells y u)) := by
  refine ⟨(Blk.new _ _ _).alloc _, ?_, ((Below.refl _ _).alloc (Nat.le_refl _) _).alloc (by simp) _⟩
  have := Blk.new (w.alloc (.cells x t)) y u; simpa using this

/-- 'last', behind n rounds -/
def lastOf (b n : Nat) : Nat := if 255 ≤ n then Nums.pow b 254 else 0
/-- what holds behind the rounds 'pre' -/
def OrI (b wb : Nat) (w : World) (pre : List Nat) (W : World) : Prop :=
  pre.length < 256 ∧ Blk W (wb + 1 + 1) #[.int .u8 b] 5 ∧ Blk W w.heap.size #[.int .u8 b] 5 ∧ Blk W (w.heap.size + 1) #[.bool false] 4 ∧ Blk W wb #[.int .i64 (pre.length : Nat)] 3 ∧ Blk W (wb + 1) #[.int .u8 (lastOf b pre.length : Nat)] 5 ∧ Below w.heap.size w W
/-- how the loop has been left -/
def OrX (w : World) (c : Code) (_ : List Nat) (W : World) : Prop := c = .ret ∧ Blk W (w.heap.size + 1) #[.bool true] 4 ∧ Below w.heap.size w W

set_option maxHeartbeats 2000000 in
theorem fieldOrder_walk (b : Nat) (hb : b < 256) (w : World) :
    Calls Try.prog 12 #[.int .u8 b] w fun e w' => e = .returned (.bool true) ∧ Below w.heap.size w w' := by
  have h2 := eq_2
  refine (callsIn_wide (n := 9)).1 ?_
  refine callsIn_of_wp_marks Try.func12 rfl trivial ?_ rfl
  simp only [Try.ntmps12, List.size_toArray, List.length_cons, List.length_nil, Nat.reduceAdd, Nat.reduceSub, Array.replicate_succ, Array.replicate_zero, List.push_toArray, List.append_toArray, List.nil_append, List.cons_append]
  gi_wp2
  refine ⟨trivial, (callsIn_wide.2 (double_1 _)).mono ?_⟩
  rintro e w1 ⟨rfl, b1⟩
  obtain ⟨a0, a1, ab⟩ := two_boxes w #[.int .u8 b] #[.bool false] 5 4
  have c0 := a0.below b1 a0.lt
  have c1 := a1.below b1 a1.lt
  have cb := ab.trans (b1.mono (by simp; omega))
  clear a0 a1 ab b1
  obtain ⟨W5, hW5⟩ : ∃ W5, W5 = (w1.alloc (.cells #[.int .i64 0] 3)).alloc (.cells #[.int .u8 0] 5) := ⟨_, rfl⟩
  have hc05 : ((w1.alloc (.cells #[.int .i64 0] 3)).alloc (.cells #[.int .u8 0] 5)).cell? ⟨w.heap.size, 0, none⟩ = some (.int .u8 b) := ((c0.alloc _).alloc _).cell rfl
  gi_wp2
  clear hc05
  rw [← hW5]
  have d0 : Blk W5 w.heap.size #[.int .u8 b] 5 := by rw [hW5]; exact (c0.alloc _).alloc _
  have d1 : Blk W5 (w.heap.size + 1) #[.bool false] 4 := by rw [hW5]; exact (c1.alloc _).alloc _
  have d3 : Blk W5 w1.heap.size #[.int .i64 0] 3 := by rw [hW5]; exact (Blk.new _ _ _).alloc _
  have d4 : Blk W5 (w1.heap.size + 1) #[.int .u8 0] 5 := by
    rw [hW5]; have := Blk.new (w1.alloc (.cells #[.int .i64 0] 3)) #[.int .u8 0] 5
    rw [World.size_alloc] at this; exact this
  have db : Below w.heap.size w W5 := by rw [hW5]; exact (cb.alloc cb.size _).alloc (by rw [World.size_alloc]; have := cb.size; omega) _
  have hs5 : W5.heap.size = w1.heap.size + 1 + 1 := by rw [hW5]; simp
  have hl1 := c1.lt
  clear hW5 c0 c1 cb
  obtain ⟨wb, hwb⟩ : ∃ wb, wb = w1.heap.size := ⟨_, rfl⟩
  rw [← hwb] at d3 d4 hs5 hl1 ⊢
  clear hwb
  refine ⟨trivial, (callsIn_wide.2 (powers_any b _)).mono ?_⟩
  rintro e w6 ⟨rfl, rfl⟩
  gi_wp2
  clear h2
  have e0 := d0.alloc (.cells #[.int .u8 b] 5)
  have e1 := d1.alloc (.cells #[.int .u8 b] 5)
  have e3 := d3.alloc (.cells #[.int .u8 b] 5)
  have e4 := d4.alloc (.cells #[.int .u8 b] 5)
  have e5 := Blk.new W5 #[.int .u8 b] 5
  have eb := db.alloc db.size (.cells #[.int .u8 b] 5)
  have hs6 : (W5.alloc (.cells #[.int .u8 b] 5)).heap.size = wb + 1 + 1 + 1 := by rw [World.size_alloc, hs5]
  rw [hs5] at e5
  generalize W5.alloc (.cells #[.int .u8 b] 5) = W6 at *
  clear d0 d1 d3 d4 db hs5
  have HS6 := Lib.hid hs6
  refine range_until (n := 9) (ps := #[12]) (gf := 28) (lb := #[.pointer (some ⟨wb + 1 + 1, 0, none⟩)]) rfl (enters_of Try.func28 (by kernel_rfl) rfl) (fun _ => rfl) (powers_endless 8 (by decide) b hb (wb + 1 + 1)) 256 (OrI b wb w) (OrX w)
    ?hN ?hI ?hIx ?h0
    (fun x => { tmps := #[.int .u8 b, .pointer (some ⟨w.heap.size, 0, none⟩), .pointer (some ⟨w.heap.size + 1, 0, none⟩), .pointer (some ⟨wb, 0, none⟩), .pointer (some ⟨wb + 1, 0, none⟩), .int .u8 (x : Nat),
      .agg #[.int .u8 1, .int .u8 0, .int .u8 0, .int .u8 0, .int .u8 0, .int .u8 0, .int .u8 0, .int .u8 0, .int .u8 0, .int .u8 0, .int .u8 0, .int .u8 0, .int .u8 0, .int .u8 0, .int .u8 0, .int .u8 0], .agg #[.int .u8 2, .int .u8 0, .int .u8 0, .int .u8 0, .int .u8 0, .int .u8 0, .int .u8 0, .int .u8 0, .int .u8 0, .int .u8 0, .int .u8 0, .int .u8 0, .int .u8 0, .int .u8 0, .int .u8 0, .int .u8 0], .agg #[.int .u8 2, .int .u8 0, .int .u8 0, .int .u8 0, .int .u8 0, .int .u8 0, .int .u8 0, .int .u8 0, .int .u8 0, .int .u8 0, .int .u8 0, .int .u8 0, .int .u8 0, .int .u8 0, .int .u8 0, .int .u8 0], .bool false, .int .u8 b, .func (.func 28) #[] #[.pointer (some ⟨wb + 1 + 1, 0, none⟩)], .int .u8 (x : Nat),
      undef, undef, undef, undef, undef, undef, undef, undef, undef, undef, undef, undef, undef, undef, undef, undef, undef, undef, undef], defers := [] })
    ?assign ?body ?stop
  case hN => exact fun pre W h => ⟨h.1, h.2.1⟩
  case hI =>
    rintro pre W l o ⟨hlen, g5, g0, g1, g3, g4, gb⟩ hl
    rw [HS6.out] at hl
    exact ⟨hlen, blk_put g5 (by omega) o, blk_put g0 (by omega) o, blk_put g1 (by omega) o, blk_put g3 (by omega) o, blk_put g4 (by omega) o, below_put gb (by omega) o⟩
  case hIx =>
    rintro c pre W l o ⟨rfl, g1, gb⟩ hl
    rw [HS6.out] at hl
    exact ⟨rfl, blk_put g1 (by omega) o, below_put gb (by omega) o⟩
  case h0 =>
    intro o o'
    exact ⟨by decide, (e5.alloc _).alloc _, (e0.alloc _).alloc _, (e1.alloc _).alloc _, (e3.alloc _).alloc _, (e4.alloc _).alloc _, (eb.alloc eb.size _).alloc (by rw [World.size_alloc]; have := eb.size; omega) _⟩
  case assign =>
    intro l x W K hK
    gi_wp2
    exact hK
  case body =>
    rintro l pre x W ⟨hlen, g5, g0, g1, g3, g4, gb⟩ hpr
    clear e0 e1 e3 e4 e5 eb hs6
    have HP := Lib.hid hpr
    have hx256 : x < 256 := by rw [hpr]; exact Nums.pow_lt _ _
    clear hpr
    obtain ⟨n, hn⟩ : ∃ n, n = pre.length := ⟨_, rfl⟩
    rw [← hn] at hlen g3 g4
    have HN := Lib.hid hn
    clear hn
    have hsW := g5.lt
    have hc3 : W.cell? ⟨wb, 0, none⟩ = some (.int .i64 n) := g3.cell rfl
    have hf3 := g3.frozen 0
    have pl : (pre ++ [x]).length = n + 1 := by rw [HN.out]; simp
    have PL := Lib.hid pl
    clear pl
    have t5 := g5.other (a := ⟨wb, 0, none⟩) (by show wb ≠ _; omega) (.int .i64 ((n : Nat) + 1))
    have t0 := g0.other (a := ⟨wb, 0, none⟩) (by show wb ≠ _; omega) (.int .i64 ((n : Nat) + 1))
    have t1 := g1.other (a := ⟨wb, 0, none⟩) (by show wb ≠ _; omega) (.int .i64 ((n : Nat) + 1))
    have t4 := g4.other (a := ⟨wb, 0, none⟩) (by show wb ≠ _; omega) (.int .i64 ((n : Nat) + 1))
    have tb := gb.setCell (p := ⟨wb, 0, none⟩) (by show w.heap.size ≤ wb; omega) (.int .i64 ((n : Nat) + 1))
    by_cases h255 : n = 255
    · have hx : x = Nums.pow b 255 := by rw [HP.out, ← HN.out, h255]
      have hlast : lastOf b n = Nums.inv b := by rw [h255, Nums.inv_pow b hb]; rfl
      rw [hlast] at g4
      subst h255
      clear t5 t0 t1 t4 tb
      have hc4 : W.cell? ⟨wb + 1, 0, none⟩ = some (.int .u8 (Nums.inv b : Nat)) := g4.cell rfl
      have hc0 : W.cell? ⟨w.heap.size, 0, none⟩ = some (.int .u8 b) := g0.cell rfl
      have hc1 : W.cell? ⟨w.heap.size + 1, 0, none⟩ = some (.bool false) := g1.cell rfl
      have hf1 := g1.frozen 0
      have q1 := g1.set 0 (.bool true)
      have qb := gb.setCell (p := ⟨w.heap.size + 1, 0, none⟩) (by show w.heap.size ≤ w.heap.size + 1; omega) (.bool true)
      have h6 : 1 ≤ 9 - 1 - 1 := by decide
      clear hlast
      by_cases hb0 : b = 0
      · have htb : (((b : Nat) : Int) == 0) = true := by rw [hb0]; rfl
        have HX := Lib.hid hx
        have HB := Lib.hid hb0
        clear hx hb0
        gi_wp2
        gi_region_with (refine ⟨trivial, ?_⟩; gi_at_call 18; refine (CallsIn.inRound l (callsIn_wide.2 (inv_any b hb _))).mono ?_; rintro e w' ⟨rfl, rfl⟩)
        all_goals gi_wp2
        all_goals exact ⟨keeps_drew ((KeepsOthers.setCell W ⟨w.heap.size + 1, 0, none⟩ (.bool true)).from _), rfl, q1.drew, qb.drew⟩
      · have hp1 := Nums.pow_255 b hb hb0
        have htb : (((b : Nat) : Int) == 0) = false := by rw [beq_eq_false_iff_ne]; omega
        rw [hp1] at hx
        subst hx
        clear hp1 hb0
        gi_wp2
        gi_region_with (refine ⟨trivial, ?_⟩; gi_at_call 18; refine (CallsIn.inRound l (callsIn_wide.2 (inv_any b hb _))).mono ?_; rintro e w' ⟨rfl, rfl⟩)
        all_goals gi_wp2
        all_goals exact ⟨keeps_drew ((KeepsOthers.setCell W ⟨w.heap.size + 1, 0, none⟩ (.bool true)).from _), rfl, q1.drew, qb.drew⟩
    · have hn2 : (((n : Nat) : Int) == 255) = false := by rw [beq_eq_false_iff_ne]; omega
      by_cases h254 : n = 254
      · have hx : x = Nums.pow b 254 := by rw [HP.out, ← HN.out, h254]
        have hl2 : Nums.pow b 254 = lastOf b (n + 1) := by rw [h254]; rfl
        rw [hl2] at hx
        have u5 := t5
        subst h254
        clear t5 t0 t1 t4 tb u5
        have hc4 : ∃ v, W.cell? ⟨wb + 1, 0, none⟩ = some v := ⟨_, g4.cell rfl⟩
        obtain ⟨v4, hc4⟩ := hc4
        have hf4 := g4.frozen 0
        have s5 := (g5.other (a := ⟨wb + 1, 0, none⟩) (by show wb + 1 ≠ _; omega) (.int .u8 (x : Nat))).other (a := ⟨wb, 0, none⟩) (by show wb ≠ _; omega) (.int .i64 255)
        have s0 := (g0.other (a := ⟨wb + 1, 0, none⟩) (by show wb + 1 ≠ _; omega) (.int .u8 (x : Nat))).other (a := ⟨wb, 0, none⟩) (by show wb ≠ _; omega) (.int .i64 255)
        have s1 := (g1.other (a := ⟨wb + 1, 0, none⟩) (by show wb + 1 ≠ _; omega) (.int .u8 (x : Nat))).other (a := ⟨wb, 0, none⟩) (by show wb ≠ _; omega) (.int .i64 255)
        have s4 := (g4.set 0 (.int .u8 (x : Nat))).other (a := ⟨wb, 0, none⟩) (by show wb ≠ _; omega) (.int .i64 255)
        have s3 := (g3.other (a := ⟨wb + 1, 0, none⟩) (by show wb + 1 ≠ _; omega) (.int .u8 (x : Nat))).set 0 (.int .i64 255)
        have sb := (gb.setCell (p := ⟨wb + 1, 0, none⟩) (by show w.heap.size ≤ wb + 1; omega) (.int .u8 (x : Nat))).setCell (p := ⟨wb, 0, none⟩) (by show w.heap.size ≤ wb; omega) (.int .i64 255)
        have k2 := ((KeepsOthers.setCell W ⟨wb + 1, 0, none⟩ (.int .u8 (x : Nat))).from W6.heap.size).trans ((KeepsOthers.setCell (W.setCell ⟨wb + 1, 0, none⟩ (.int .u8 (x : Nat))) ⟨wb, 0, none⟩ (.int .i64 255)).from W6.heap.size)
        have HX := Lib.hid hx
        clear hx hl2 h255 hn2
        gi_wp2
        refine ⟨k2, by rw [PL.out]; decide, s5, s0, s1, ?_, ?_, sb⟩
        · rw [PL.out]; exact s3
        · rw [PL.out, ← HX.out]; exact s4
      · have hn1 : (((n : Nat) : Int) == 254) = false := by rw [beq_eq_false_iff_ne]; omega
        have hl2 : lastOf b (n + 1) = lastOf b n := by
          unfold lastOf; rw [if_neg (by omega), if_neg (by omega)]
        rw [← hl2] at t4
        have H1 := Lib.hid h254
        have H2 := Lib.hid h255
        clear h254 h255 hl2
        have t3 := g3.set 0 (.int .i64 ((n : Nat) + 1))
        gi_wp2
        refine ⟨(KeepsOthers.setCell _ _ _).from _, by have := H2.out; rw [PL.out]; omega, t5, t0, t1, ?_, ?_, tb⟩
        · rw [PL.out]; exact t3
        · rw [PL.out]; exact t4
  case stop =>
    rintro D c pre W hD ⟨m, hm⟩ ⟨rfl, g1, gb⟩ hd
    rw [HS6.out] at hD
    gi_wp2
    refine ⟨by simp, .inl ⟨_, _, rfl, run_takeDeferred hd, ?_⟩⟩
    have q3 := (blk_put g1 (l := D) (by omega) (.deferred none)).cell (j := 0) (v := .bool true) rfl
    have qb2 := below_put gb (l := D) (by omega) (.deferred none)
    generalize W.putObj D (.deferred none) = W9 at *
    exact ⟨.bool true, by simp [results, Try.results12, go_sem, q3], rfl, qb2⟩


/-! ### the row's frame -/
theorem fieldOrder_own : ownKnob Try.prog.godebug = none := by kernel_rfl
theorem fieldOrder_laid : laidOutB Try.prog = true := by kernel_rfl
set_option maxRecDepth 100000 in
theorem fieldOrder_lifted (os : Os) (started : os.Started) (H : Type) (enc : TypeId × Value → H) :
    ReturnsInHanded {} Try.checked os 12 .any (Rows.fieldOrderSpec.pre6 enc Try.prog Try.f12 Rows.fieldOrderRow.domain false) (Rows.fieldOrderSpec.post enc Try.prog Try.f12 false true false false) := by
  refine returnsInHanded_of_change (C := Try.checked) fieldOrder_own started (by kernel_rfl) Try.func12
    (ChangeSpec.witness6 (enc := enc) (C := Try.checked) false ⟨#[], #[.int .u8 0], []⟩ 8 (by kernel_rfl) (by kernel_rfl) (by kernel_rfl) (by kernel_rfl)) ?_
  intro W base args ds gs before hval0 hW hcnd _
  have hval : ∀ (j : Nat) t v, Try.f12.params[j]? = some t → args[j]? = some v → Value.okWide Try.prog W .any base t v := hval0
  have hW' := hW
  obtain ⟨p, q, hA0, hV, rfl, hfz, hnd⟩ := hW
  have hA : DataW.TrodAll enc Try.prog W 0 (fun _ => true) true Try.f12.params.toList args.toList ds p := hA0
  rw [Try.params12] at hA hval
  obtain ⟨v0, vs0, d0, ds0, p0, q0, hargs, rfl, rfl, h0, r0⟩ := trodAll_cons hA
  obtain ⟨rfl, rfl, rfl⟩ := trodAll_nil r0
  obtain rfl : args = #[v0] := by cases args; simp_all
  obtain ⟨rfl, rfl⟩ := trodVars_none hV
  have k0 := h0
  have lt0 : ∀ x ∈ p0, x.block < W.heap.size := by obtain ⟨m, hm⟩ := k0; exact DataW.trod_lt m _ _ _ hm
  obtain ⟨a0, rfl, rfl, rfl, w0⟩ := open_int Try.underlying5 (hval 0 5 v0 rfl rfl) h0
  obtain ⟨b0, rfl, hb0⟩ := byte_of w0
  clear hA0 hval0
  refine (fieldOrder_walk b0 hb0 W).mono fun e W' ⟨he, bel⟩ => ?_
  subst he
  exact ⟨_, rfl, _, _, _, [], _, [], hW', trodAll_mk1 (shut_bool Try.underlying4 _), (trodAll_cons_mk (Below.trod fieldOrder_laid (by kernel_rfl) (of_decide_eq_true (by kernel_rfl)) k0 bel lt0) trodAll_mk0), rfl, bel.frame _, fun h => by cases h⟩

theorem fieldOrder_proved : Rows.FieldOrderSaid :=
  OpenClaim.holds_of_wide 12 Try.f12 rfl rfl rfl rfl rfl rfl rfl ⟨rfl, rfl, rfl, rfl, rfl⟩ rfl rfl rfl rfl rfl (by kernel_rfl) Try.func12 (by kernel_rfl)
    (of_decide_eq_true (by kernel_rfl)) (by unfold Func.isWrapper; rw [if_neg (of_decide_eq_false (by kernel_rfl))]; exact ⟨rfl, rfl⟩)
    (fun os started H enc _ => fieldOrder_lifted os started H enc)
#print axioms fieldOrder_proved

end Go.Proofs.Ytlcfaejomblnjaa
