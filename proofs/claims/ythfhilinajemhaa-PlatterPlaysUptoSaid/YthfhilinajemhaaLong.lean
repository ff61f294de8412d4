/-
  Is it too much of it? An op loaded.
-/
import Derived.Test.YthfhilinajemhaaOps
import Derived.Test.YthfhilinajemhaaEqG
namespace Go.Proofs.Ythfhilinajemhaa
open Go.RowKit
set_option linter.unusedVariables false

theorem load_op {w : World} {ad : Addr} {o : OpD} (h : ∀ j, j < 5 → w.cell? (ad.add j) = some (opE o j)) : (loadVar 66 ad).run Try.prog w = .ok (.agg (opA o)) w := by
  have hl : (loadCells ad 5).run Try.prog w = .ok (opA o) w := by
    have := run_loadCells_list (P := Try.prog) w ad (opA o).toList (fun j v hv => by
      have hj : j < 5 := (List.getElem?_eq_some_iff.1 hv).1
      rw [h j hj]
      rw [Array.getElem?_toList, opA_at o j hj] at hv
      exact hv)
    exact this
  have hq : Try.prog.info? 66 = some (Try.prog.info? 66).get! := by kernel_rfl
  have hs : (Try.prog.info? 66).get!.size = 5 := by kernel_rfl
  have hagg : (isAgg 66).run Try.prog w = .ok true w := by
    unfold isAgg
    rw [Sem.run_bind, run_underlying Try.underlying66 w]
    rfl
  simp only [loadVar, Sem.run_bind, hagg, sizeOf, typeInfo, run_program, Result.andThen_ok, if_true]
  rw [hq]
  simp only [Sem.run_pure, Result.andThen_ok, hs, hl]
/-- how long a script is counted -/
def longN : List OpD → Nat
  | [] => 0
  | o :: L => 1 + o.kz.length / 8 + longN L
theorem longN_append : ∀ L M : List OpD, longN (L ++ M) = longN L + longN M
  | [], M => by simp [longN]
  | d :: L, M => by simp only [List.cons_append, longN, longN_append L M]; omega
theorem longN_snoc {L : List OpD} {k : Nat} {o : OpD} (h : L[k]? = some o) : longN (L.take (k + 1)) = longN (L.take k) + (1 + o.kz.length / 8) := by
  obtain ⟨hk, he⟩ := List.getElem?_eq_some_iff.1 h
  rw [List.take_succ_eq_append_getElem hk, longN_append, he]
  simp [longN]
theorem longN_le : ∀ L : List OpD, longN L ≤ sumK L
  | [] => Nat.le_refl _
  | o :: L => by have := longN_le L; simp only [longN, sumK]; omega
theorem longN_len : ∀ L : List OpD, L.length ≤ longN L
  | [] => Nat.le_refl _
  | o :: L => by have := longN_len L; simp only [longN, List.length_cons]; omega
theorem longN_take (L : List OpD) (k : Nat) : longN (L.take k) ≤ longN L := by
  conv => rhs; rw [← List.take_append_drop k L]
  rw [longN_append]
  omega
def LongD (w : World) (zs : List OpD) (e : Ending) (w' : World) : Prop := e = .returned (.bool (decide (400 < longN zs))) ∧ Below w.heap.size w w'
set_option maxHeartbeats 1000000 in
set_option maxRecDepth 20000 in
theorem long_any (A : Option Addr) (c : Nat) (zs : List OpD) (w : World) (hr : RO w w.heap.size A zs) (hs : sumK zs ≤ 1048576) : Calls Try.prog 26 #[.slice A zs.length c] w (LongD w zs) := by
  have hll := longN_le zs
  have hlen := longN_len zs
  have HR := Lib.hid hr
  clear hr
  go_enter Try.func26, Try.ntmps26
  go_wp2
  go_loopw [3, 8] (fun n i wr => ∃ k : Nat, k ≤ zs.length ∧ i = .int .i64 k ∧ n = .int .i64 (longN (zs.take k)) ∧ Below w.heap.size w wr) (fun _ i _ => (zs.length - (Lib.intOf i).toNat))
  case atStart => exact ⟨0, Nat.zero_le _, rfl, rfl, Below.refl _ _⟩
  case round =>
    obtain ⟨k, hk, rfl, rfl, hb⟩ := hrel
    by_cases hlt : k < zs.length
    · obtain ⟨o, ho⟩ : ∃ o, zs[k]? = some o := ⟨zs[k]'hlt, List.getElem?_eq_getElem hlt⟩
      obtain ⟨⟨ad, rfl, had, hco⟩, _, _⟩ := (HR.out.below hb) k o ho
      have Hld := Lib.hid (load_op hco)
      have hsn := longN_snoc ho
      have htk := longN_take zs (k + 1)
      have HB := Lib.hid hb
      have hB := Blk.new wr (opA o) 66
      have x4 := hB.cell (opA_at o 4 (by omega))
      rw [show opE o 4 = .slice o.ka o.kz.length o.kc from rfl] at x4
      have k0 : (0 : Int) ≤ (k : Int) := by omega
      have k1 : (k : Int) < (zs.length : Int) := by omega
      generalize longN (zs.take k) = N at *
      have hN : Hid (longN (zs.take (k + 1)) = N + (1 + o.kz.length / 8)) := hsn
      have hq1 : N + (1 + o.kz.length / 8) ≤ 1048576 := by omega
      have hq2 : o.kz.length ≤ 8388608 := by omega
      have hbx : Below wr.heap.size wr (wr.alloc (.cells (opA o) 66)) := (Below.refl _ _).alloc (Nat.le_refl _) _
      have HB2 := Lib.hid (HB.out.trans (hbx.mono HB.out.size))
      clear hb hco ho hsn htk hB hbx
      unfold opA at Hld x4 HB2
      go_wp2_with (first | ((with_reducible refine at_ld 66 _ rfl ?_); refine loadW rfl 66 _ rfl (ad.add (k * 5)) rfl _ Hld.out ?_) | fail)
      refine ⟨⟨k + 1, by omega, by go_num, val_int (by rw [hN.out]; omega), HB2.out⟩, by simp [Lib.intOf]; omega⟩
    · obtain rfl : k = zs.length := by omega
      rw [List.take_length]
      have HB := Lib.hid hb
      clear hb
      go_wp2
      go_ret
      exact ⟨ret_bool (by congr 1; exact propext ⟨fun h => by omega, fun h => by omega⟩), HB.out⟩
end Go.Proofs.Ythfhilinajemhaa
