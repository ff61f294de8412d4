/-
  Arguments of the laws opened: bytes, lists of bytes, structs. No walk.
-/
import Derived.Test.YthfhilinajemhaaOpen
import Derived.Test.YthfhilinajemhaaBytes
namespace Go.Proofs.Ythfhilinajemhaa
open Go.ChangeShapes Go.WideShapes Go.ChangeAt Go.RowKit
set_option linter.unusedVariables false

set_option maxRecDepth 20000 in
theorem bytes_of {H : Type} {enc : TypeId × Value → H} {W : World} {base b0 : Nat} {sp : Nat → Bool} {hd : Bool} {v : Value} {d : DataW H} {p : List MemPlace} (hv : Value.okWide Try.prog W .any base 22 v)
    (h : DataW.Trod enc Try.prog W b0 sp hd 22 v d p) : ∃ A n c zs, v = .slice A n c ∧ zs.length = n ∧ n ≤ c ∧ c ≤ maxLen ∧ RB W W.heap.size A zs ∧ ∀ z ∈ zs, (Lit.int .u8 z).wf = true := by
  obtain ⟨A, n, c, rfl⟩ := okWide_slice Try.underlying22 hv
  obtain ⟨m, hf⟩ := h
  have hc3 : Try.prog.cellsOf 5 = 1 := by kernel_rfl
  rcases open_ints Try.underlying22 Try.underlying5 hc3 hf with ⟨hcs, hx⟩ | ⟨a, len', cap', zs, hcs, _, hl, hm, hz, hx, hcell, hwz⟩
  · simp [Value.cells] at hcs
    obtain ⟨rfl, rfl, rfl⟩ := hcs
    exact ⟨_, _, _, [], rfl, rfl, Nat.le_refl _, Nat.zero_le _, fun i x hx => by simp at hx, fun z hz => by simp at hz⟩
  · simp [Value.cells] at hcs
    obtain ⟨rfl, rfl, rfl⟩ := hcs
    have hlen : n ≤ zs.length := by rw [hz]; split <;> omega
    refine ⟨_, _, _, zs.take n, rfl, by rw [List.length_take]; omega, hl, hm, fun i x hx => ?_, fun z hz => hwz z (List.mem_of_mem_take hz)⟩
    have hi := (List.getElem?_eq_some_iff.1 hx).1
    rw [List.length_take] at hi
    have hc := hcell i (by omega)
    refine ⟨a, rfl, ?_, ?_⟩
    · have := cell_lt hc
      rwa [addr_add_block] at this
    · rw [hc]
      rw [List.getElem?_take] at hx
      rw [if_pos (by omega)] at hx
      simp [List.getD, hx]
set_option maxRecDepth 20000 in
theorem ints_cells {H : Type} {enc : TypeId × Value → H} {W : World} {b0 : Nat} {sp : Nat → Bool} {hd : Bool} {m : Nat} {cs : List Value} {x : DataW H × List MemPlace} (h : DataW.trod enc Try.prog W b0 sp hd m 27 cs = some x) :
    ∃ A n c zs, cs = [.slice A n c] ∧ zs.length = n ∧ n ≤ c ∧ c ≤ maxLen ∧ RI W W.heap.size A zs ∧ ∀ z ∈ zs, ok64 z := by
  have hc3 : Try.prog.cellsOf 3 = 1 := by kernel_rfl
  obtain ⟨d, p⟩ := x
  rcases open_ints Try.underlying27 Try.underlying3 hc3 h with ⟨hcs, hx⟩ | ⟨a, n, c, zs, hcs, _, hl, hm, hz, hx, hcell, hwz⟩
  · exact ⟨_, _, _, [], hcs, rfl, Nat.le_refl _, Nat.zero_le _, fun i x hx => by simp at hx, fun z hz => by simp at hz⟩
  · have hlen : n ≤ zs.length := by rw [hz]; split <;> omega
    refine ⟨_, _, _, zs.take n, hcs, by rw [List.length_take]; omega, hl, hm, fun i x hx => ?_, fun z hz => ok64_of (hwz z (List.mem_of_mem_take hz))⟩
    have hi := (List.getElem?_eq_some_iff.1 hx).1
    rw [List.length_take] at hi
    have hc := hcell i (by omega)
    refine ⟨a, rfl, ?_, ?_⟩
    · have := cell_lt hc
      rwa [addr_add_block] at this
    · rw [hc]
      rw [List.getElem?_take] at hx
      rw [if_pos (by omega)] at hx
      simp [List.getD, hx]
set_option maxRecDepth 20000 in
theorem bytes_cells {H : Type} {enc : TypeId × Value → H} {W : World} {b0 : Nat} {sp : Nat → Bool} {hd : Bool} {m : Nat} {cs : List Value} {x : DataW H × List MemPlace} (h : DataW.trod enc Try.prog W b0 sp hd m 22 cs = some x) :
    ∃ A n c zs, cs = [.slice A n c] ∧ zs.length = n ∧ n ≤ c ∧ c ≤ maxLen ∧ RB W W.heap.size A zs := by
  have hc3 : Try.prog.cellsOf 5 = 1 := by kernel_rfl
  obtain ⟨d, p⟩ := x
  rcases open_ints Try.underlying22 Try.underlying5 hc3 h with ⟨hcs, hx⟩ | ⟨a, n, c, zs, hcs, _, hl, hm, hz, hx, hcell, hwz⟩
  · exact ⟨_, _, _, [], hcs, rfl, Nat.le_refl _, Nat.zero_le _, fun i x hx => by simp at hx⟩
  · have hlen : n ≤ zs.length := by rw [hz]; split <;> omega
    refine ⟨_, _, _, zs.take n, hcs, by rw [List.length_take]; omega, hl, hm, fun i x hx => ?_⟩
    have hi := (List.getElem?_eq_some_iff.1 hx).1
    rw [List.length_take] at hi
    have hc := hcell i (by omega)
    refine ⟨a, rfl, ?_, ?_⟩
    · have := cell_lt hc
      rwa [addr_add_block] at this
    · rw [hc]
      rw [List.getElem?_take] at hx
      rw [if_pos (by omega)] at hx
      simp [List.getD, hx]
set_option maxRecDepth 20000 in
theorem asked_of {H : Type} {enc : TypeId × Value → H} {W : World} {base b0 : Nat} {sp : Nat → Bool} {hd : Bool} {v : Value} {d : DataW H} {p : List MemPlace} (hv : Value.okWide Try.prog W .any base 56 v)
    (h : DataW.Trod enc Try.prog W b0 sp hd 56 v d p) : ∃ A c zs a b m, v = .agg #[.slice A zs.length c, .int .i64 a, .int .i64 b, .int .i64 m] ∧ RI W W.heap.size A zs := by
  obtain ⟨cs, rfl, hsz⟩ := okWide_struct Try.underlying56 hv
  obtain ⟨m, hf⟩ := h
  have h56 : Try.prog.cellsOf 56 = 4 := by kernel_rfl
  have h3 : Try.prog.cellsOf 3 = 1 := by kernel_rfl
  have h27 : Try.prog.cellsOf 27 = 1 := by kernel_rfl
  obtain ⟨xs, n, _, _, hl, hlen, hff⟩ := DataW.trod_struct Try.underlying56 hf
  rw [h56] at hl
  obtain ⟨l⟩ := cs
  match l, hl with
  | [v0, v1, v2, v3], _ =>
    match xs, hlen with
    | [y0, y1, y2, y3], _ =>
      have g0 := hff 0 _ rfl
      have g1 := hff 1 _ rfl
      have g2 := hff 2 _ rfl
      have g3 := hff 3 _ rfl
      simp [h3, h27, Value.cells] at g0 g1 g2 g3
      obtain ⟨A, n0, c0, zs, e0, hz, _, _, hr, _⟩ := ints_cells g0
      obtain ⟨a1, e1, _, _⟩ := DataW.trod_int Try.underlying3 g1
      obtain ⟨a2, e2, _, _⟩ := DataW.trod_int Try.underlying3 g2
      obtain ⟨a3, e3, _, _⟩ := DataW.trod_int Try.underlying3 g3
      simp at e0 e1 e2 e3
      subst e0 e1 e2 e3
      subst hz
      exact ⟨A, c0, zs, a1, a2, a3, rfl, hr⟩
set_option maxRecDepth 20000 in
theorem tampered_of {H : Type} {enc : TypeId × Value → H} {W : World} {base b0 : Nat} {sp : Nat → Bool} {hd : Bool} {v : Value} {d : DataW H} {p : List MemPlace} (hv : Value.okWide Try.prog W .any base 24 v)
    (h : DataW.Trod enc Try.prog W b0 sp hd 24 v d p) : ∃ A1 c1 z1 A2 c2 z2 A3 c3 z3 kp, v = .agg #[.slice A1 (z1 : List Int).length c1, .slice A2 (z2 : List Int).length c2, .slice A3 (z3 : List Int).length c3, .bool kp] ∧ RB W W.heap.size A1 z1 ∧ RB W W.heap.size A2 z2 ∧ RB W W.heap.size A3 z3 := by
  obtain ⟨cs, rfl, hsz⟩ := okWide_struct Try.underlying24 hv
  obtain ⟨m, hf⟩ := h
  have h24 : Try.prog.cellsOf 24 = 4 := by kernel_rfl
  have h4 : Try.prog.cellsOf 4 = 1 := by kernel_rfl
  have h22 : Try.prog.cellsOf 22 = 1 := by kernel_rfl
  obtain ⟨xs, n, _, _, hl, hlen, hff⟩ := DataW.trod_struct Try.underlying24 hf
  rw [h24] at hl
  obtain ⟨l⟩ := cs
  match l, hl with
  | [v0, v1, v2, v3], _ =>
    match xs, hlen with
    | [y0, y1, y2, y3], _ =>
      have g0 := hff 0 _ rfl
      have g1 := hff 1 _ rfl
      have g2 := hff 2 _ rfl
      have g3 := hff 3 _ rfl
      simp [h4, h22, Value.cells] at g0 g1 g2 g3
      obtain ⟨A1, n1, c1, z1, e0, hz1, _, _, hr1⟩ := bytes_cells g0
      obtain ⟨A2, n2, c2, z2, e1, hz2, _, _, hr2⟩ := bytes_cells g1
      obtain ⟨A3, n3, c3, z3, e2, hz3, _, _, hr3⟩ := bytes_cells g2
      obtain ⟨a3, e3, _⟩ := DataW.trod_bool Try.underlying4 g3
      simp at e0 e1 e2 e3
      subst e0 e1 e2 e3
      subst hz1 hz2 hz3
      exact ⟨A1, c1, z1, A2, c2, z2, A3, c3, z3, a3, rfl, hr1, hr2, hr3⟩
end Go.Proofs.Ythfhilinajemhaa
