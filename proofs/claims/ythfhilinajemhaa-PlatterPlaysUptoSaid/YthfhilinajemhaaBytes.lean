/-
  Lists of bytes that can be read; a sector out of bytes (citadelnum.Cell).
-/
import Derived.Test.YthfhilinajemhaaAlive
import Derived.Lib.Walk
namespace Go.Proofs.Ythfhilinajemhaa
open Go.RowKit
open Go.Maps (Keyed int_keyed)
set_option linter.unusedVariables false

/-- a slice of bytes that can be read, below block S -/
def RB (w : World) (S : Nat) (A : Option Addr) (R : List Int) : Prop := ∀ i x, R[i]? = some x → ∃ ad, A = some ad ∧ ad.block < S ∧ w.cell? (ad.add i) = some (.int .u8 x)
theorem RB.below {w w' : World} {S : Nat} {A : Option Addr} {R : List Int} (h : RB w S A R) (hb : Below S w w') : RB w' S A R := fun i x hx => by
  obtain ⟨ad, h1, h2, h3⟩ := h i x hx
  refine ⟨ad, h1, h2, ?_⟩
  rw [hb.cell (p := ad.add i) (by rw [addr_add_block]; exact h2)]
  exact h3
/-- bytes as a sector, again and again -/
def cellB (R : List Int) (j : Nat) : Int := if R.length = 0 then 0 else R.getD (j % R.length) 0
def cellOf (R : List Int) : Array Value := bts (cellB R)
theorem Cel.of (R : List Int) : Cel (cellOf R) := ⟨_, rfl⟩
/-- the first k bytes are laid -/
def cellE (R : List Int) (k j : Nat) : Value := .int .u8 (if j < k then cellB R j else 0)
theorem cellE_start (R : List Int) : zc = row (cellE R 0) 128 := by
  have : row (cellE R 0) 128 = row (fun _ => .int .u8 0) 128 := row_congr fun j _ => by unfold cellE; rw [if_neg (by omega)]
  rw [this]; rfl
theorem cellE_end (R : List Int) : row (cellE R 128) 128 = cellOf R := row_congr fun j hj => by unfold cellE; rw [if_pos hj]
theorem cellE_step (R : List Int) (k : Nat) : (row (cellE R k) 128).setIfInBounds k (.int .u8 (cellB R k)) = row (cellE R (k + 1)) 128 := by
  rw [row_set]
  refine row_congr fun j _ => ?_
  unfold upd cellE
  by_cases h : j = k
  · subst h; rw [if_pos rfl, if_pos (by omega)]
  · rw [if_neg h]
    by_cases h2 : j < k
    · rw [if_pos h2, if_pos (by omega)]
    · rw [if_neg h2, if_neg (by omega)]
theorem cellE_skip (R : List Int) (h : R.length = 0) (k : Nat) : row (cellE R k) 128 = row (cellE R (k + 1)) 128 := row_congr fun j _ => by
  unfold cellE cellB
  rw [if_pos h]; split <;> split <;> rfl
theorem cellE_size (R : List Int) (k : Nat) : (row (cellE R k) 128).size = 128 := row_size _ _
theorem cellE_all (R : List Int) (k : Nat) : (row (cellE R k) 128).all (·.oneCell') = true := row_all _ _ fun _ => rfl
set_option maxHeartbeats 1000000 in
set_option maxRecDepth 20000 in
theorem cell_any (A : Option Addr) (c : Nat) (R : List Int) (w : World) (hr : RB w w.heap.size A R) : Calls Try.prog 23 #[.slice A R.length c] w fun e w' => e = .returned (.agg (cellOf R)) ∧ Below w.heap.size w w' := by
  have hz := zc_zero
  have hs := zc_size
  have hne := zc_ne
  have hB0 := (Blk.new w zc 45).alloc (.cells zc 45)
  have hB1 : Blk ((w.alloc (.cells zc 45)).alloc (.cells zc 45)) (w.heap.size + 1) zc 45 := by simpa using Blk.new (w.alloc (.cells zc 45)) zc 45
  have hb : Below w.heap.size w (((w.alloc (.cells zc 45)).alloc (.cells zc 45)).setRow (w.heap.size + 1) zc) := below_setRow (((Below.refl _ _).alloc (Nat.le_refl _) _).alloc (by simp) _) (by omega) _
  have k0 := Lib.hid (hB0.setRow_other zc (C := w.heap.size + 1) (by omega))
  have k1 := Lib.hid (hB1.setRow zc)
  have HB := Lib.hid hb
  have HR := Lib.hid hr
  clear hr hb hB0
  go_enter Try.func23, Try.ntmps23
  go_wp2_with (first | (refine store_cW rfl _ _ rfl (w.heap.size + 1) zc rfl rfl zc hB1 zc_size zc_size (Cel.zero).all ?_) | fail)
  generalize ((w.alloc (.cells zc 45)).alloc (.cells zc 45)).setRow (w.heap.size + 1) zc = W at *
  clear hB1
  go_loopw [6] (fun i wr => ∃ k : Nat, k ≤ 128 ∧ i = .int .i64 k ∧ Hid (Blk wr (w.heap.size + 1) (row (cellE R k) 128) 45) ∧ Hid (Blk wr w.heap.size zc 45) ∧ Hid (Below w.heap.size w wr)) (fun i _ => 128 - (Lib.intOf i).toNat)
  case atStart => exact ⟨0, by omega, rfl, by rw [← cellE_start]; exact k1, k0, HB⟩
  case round =>
    obtain ⟨k, hk, rfl, h1, h0, hbw⟩ := hrel
    by_cases hlt : k < 128
    · have hk0 : (0 : Int) ≤ (k : Int) := by omega
      have hk1 : (k : Int) < 128 := by omega
      by_cases hn : R.length = 0
      · have HN := Lib.hid hn
        have hn1 : ¬ (0 : Int) < (R.length : Int) := by omega
        have hn2 : ¬ 0 < R.length := by omega
        clear hn
        go_wp2
        go_roundw
        case rel => exact ⟨k + 1, by omega, by go_num, by rw [← cellE_skip R HN.out]; exact h1, h0, hbw⟩
        case measure => simp [Lib.intOf]; omega
      · have hpos : 0 < R.length := by omega
        have hn1 : (0 : Int) < (R.length : Int) := by omega
        obtain ⟨q, hq⟩ : ∃ q : Nat, q = k % R.length := ⟨_, rfl⟩
        have hql : q < R.length := by rw [hq]; exact Nat.mod_lt _ hpos
        have hqi : (q : Int) < (R.length : Int) := by omega
        have hq0 : (0 : Int) ≤ (q : Int) := by omega
        have e1 : (k : Int) % (R.length : Int) = (q : Int) := by rw [hq]; simp
        have e2 : (k : Int).tmod (R.length : Int) = (q : Int) := by rw [Int.tmod_eq_emod_of_nonneg hk0, e1]
        obtain ⟨ad, hA, hS, hc0⟩ := HR.out q R[q] (List.getElem?_eq_getElem hql)
        subst hA
        have hc : wr.cell? (ad.add q) = some (.int .u8 R[q]) := (hbw.out.cell (p := ad.add q) (by rw [addr_add_block]; exact hS)).trans hc0
        have hcb : cellB R k = R[q] := by
          unfold cellB
          rw [if_neg hn, ← hq, List.getD_eq_getElem?_getD, List.getElem?_eq_getElem hql]; rfl
        have hst := cellE_step R k
        rw [hcb] at hst
        have HST := Lib.hid hst
        have HQ := Lib.hid hq
        clear hst hcb hc0 hS hq hn
        generalize R[q] = x at *
        have z1 := h1.out.cell (j := k) (row_at _ _ _ hlt)
        have f1 := h1.out.frozen k
        have s1 := Lib.hid (h1.out.set k (.int .u8 x))
        have s0 := Lib.hid (h0.out.other (a := ⟨w.heap.size + 1, k, none⟩) (by show w.heap.size + 1 ≠ w.heap.size; omega) (.int .u8 x))
        have sb := Lib.hid (hbw.out.setCell (p := ⟨w.heap.size + 1, k, none⟩) (by show w.heap.size ≤ w.heap.size + 1; omega) (.int .u8 x))
        go_wp2
        go_roundw
        case rel => exact ⟨k + 1, by omega, by go_num, by rw [← HST.out]; exact s1, s0, sb⟩
        case measure => simp [Lib.intOf]; omega
    · obtain rfl : k = 128 := by omega
      have h1' := h1.out
      rw [cellE_end] at h1'
      have H1 := Lib.hid h1'
      clear h1' h1
      go_wp2_with (first | (refine load_cW rfl _ rfl (w.heap.size + 1) rfl (cellOf R) (Cel.of R).size H1.out ?_) | (refine store_cW rfl _ _ rfl w.heap.size (cellOf R) rfl rfl zc h0.out zc_size (Cel.of R).size (Cel.of R).all ?_) | fail)
      exact bodyPost_ret (results_cell_row rfl _ _ w.heap.size 45 (cellOf R) (0, 0) _ rfl (h0.out.setRow _) Try.underlying45 rfl (info45 (Cel.of R).size)) rfl ⟨rfl, below_setRow hbw.out (Nat.le_refl _) _⟩
end Go.Proofs.Ythfhilinajemhaa
