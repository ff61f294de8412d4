/-
  Arguments of the laws opened: a slice of whole numbers. No function of the program.
-/
import Derived.Test.YtheilnaommcjjaaRows
import Derived.Test.YtheilnaommcjjaaState
import Derived.ProofKit
import Derived.OpenShut
import Derived.ChangeOld
import Derived.ChangeSlices
import Derived.Deep.Slices
import Derived.Lib.SmallJoins
import Derived.Below
namespace Go.Proofs.Ytheilnaommcjjaa
open Go.ChangeShapes Go.WideShapes Go.ChangeAt Go.RowKit
set_option linter.unusedVariables false

theorem cell_lt {w : World} {a : Addr} {v : Value} (h : w.cell? a = some v) : a.block < w.heap.size := by
  unfold World.cell? at h
  split at h
  · rename_i hb
    exact (Array.getElem?_eq_some_iff.1 hb).1
  · cases h
theorem addr_add_block (a : Addr) (i : Nat) : (a.add i).block = a.block := by unfold Addr.add; split <;> rfl

/-- a slice of ints that can be read, below block S -/
def RI (w : World) (S : Nat) (A : Option Addr) (R : List Int) : Prop := ∀ i x, R[i]? = some x → ∃ ad, A = some ad ∧ ad.block < S ∧ w.cell? (ad.add i) = some (.int .i64 x)
theorem RI.below {w w' : World} {S : Nat} {A : Option Addr} {R : List Int} (h : RI w S A R) (hb : Below S w w') : RI w' S A R := fun i x hx => by
  obtain ⟨ad, h1, h2, h3⟩ := h i x hx
  refine ⟨ad, h1, h2, ?_⟩
  rw [hb.cell (p := ad.add i) (by unfold Addr.add; split <;> exact h2)]
  exact h3
theorem ok64_of {a : Int} (h : (Lit.int .i64 a).wf = true) : ok64 a := by
  unfold ok64
  simp [Lit.wf, IntKind.min, IntKind.max, IntKind.bits, IntKind.signed] at h
  omega

theorem ints_of {H : Type} {enc : TypeId × Value → H} {W : World} {base b0 : Nat} {sp : Nat → Bool} {hd : Bool} {v : Value} {d : DataW H} {p : List MemPlace} (hv : Value.okWide Try.prog W .any base 22 v)
    (h : DataW.Trod enc Try.prog W b0 sp hd 22 v d p) : ∃ A n c zs, v = .slice A n c ∧ zs.length = n ∧ n ≤ c ∧ c ≤ maxLen ∧ RI W W.heap.size A zs ∧ ∀ z ∈ zs, ok64 z := by
  obtain ⟨A, n, c, rfl⟩ := okWide_slice Try.underlying22 hv
  obtain ⟨m, hf⟩ := h
  have hc3 : Try.prog.cellsOf 3 = 1 := by kernel_rfl
  rcases open_ints Try.underlying22 Try.underlying3 hc3 hf with ⟨hcs, hx⟩ | ⟨a, len', cap', zs, hcs, _, hl, hm, hz, hx, hcell, hwz⟩
  · simp [Value.cells] at hcs
    obtain ⟨rfl, rfl, rfl⟩ := hcs
    exact ⟨_, _, _, [], rfl, rfl, Nat.le_refl _, Nat.zero_le _, fun i x hx => by simp at hx, fun z hz => by simp at hz⟩
  · simp [Value.cells] at hcs
    obtain ⟨rfl, rfl, rfl⟩ := hcs
    have hlen : n ≤ zs.length := by rw [hz]; split <;> omega
    refine ⟨_, _, _, zs.take n, rfl, by rw [List.length_take]; omega, hl, hm, fun i x hx => ?_, fun z hz => ok64_of (hwz z (List.mem_of_mem_take hz))⟩
    have hi := (List.getElem?_eq_some_iff.1 hx).1
    rw [List.length_take] at hi
    have hc := hcell i (by omega)
    refine ⟨a, rfl, ?_, ?_⟩
    · have := cell_lt hc
      rwa [addr_add_block] at this
    · rw [hc]
      rw [List.getElem?_take] at hx
      rw [if_pos (by omega)] at hx
      simp [List.getD, hx]

/-! ### an op: five cells -/
structure OpD where
  k : Int
  u : Int
  b : Int
  c : Nat
  d : Bool
def OpD.ok (o : OpD) : Prop := ok64 o.k ∧ ok64 o.u ∧ ok64 o.b ∧ o.c < 256
def opE (o : OpD) (j : Nat) : Value := if j = 0 then .int .i64 o.k else if j = 1 then .int .i64 o.u else if j = 2 then .int .i64 o.b else if j = 3 then .int .u8 o.c else .bool o.d
def opA (o : OpD) : Array Value := #[.int .i64 o.k, .int .i64 o.u, .int .i64 o.b, .int .u8 o.c, .bool o.d]
theorem opA_at (o : OpD) (j : Nat) (h : j < 5) : (opA o)[j]? = some (opE o j) := by
  match j, h with
  | 0, _ => rfl
  | 1, _ => rfl
  | 2, _ => rfl
  | 3, _ => rfl
  | 4, _ => rfl
theorem byte_of {a : Int} (w : (Lit.int .u8 a).wf = true) : ∃ b : Nat, a = (b : Int) ∧ b < 256 := by
  simp [Lit.wf, IntKind.min, IntKind.max, IntKind.bits, IntKind.signed] at w
  exact ⟨a.toNat, by omega, by omega⟩
/-- five cells that read as an op are one -/
theorem op_cells {H : Type} {enc : TypeId × Value → H} {W : World} {b0 : Nat} {sp : Nat → Bool} {hd : Bool} {m : Nat} {cs : List Value} {x : DataW H × List MemPlace}
    (h : DataW.trod enc Try.prog W b0 sp hd m 42 cs = some x) : ∃ o : OpD, o.ok ∧ cs = (opA o).toList := by
  have h42 : Try.prog.cellsOf 42 = 5 := by kernel_rfl
  have h3 : Try.prog.cellsOf 3 = 1 := by kernel_rfl
  have h5 : Try.prog.cellsOf 5 = 1 := by kernel_rfl
  have h4 : Try.prog.cellsOf 4 = 1 := by kernel_rfl
  obtain ⟨xs, n, _, rfl, hl, hlen, hf⟩ := DataW.trod_struct Try.underlying42 h
  rw [h42] at hl
  match cs, hl with
  | [v0, v1, v2, v3, v4], _ =>
    match xs, hlen with
    | [y0, y1, y2, y3, y4], _ =>
      have g0 := hf 0 _ rfl
      have g1 := hf 1 _ rfl
      have g2 := hf 2 _ rfl
      have g3 := hf 3 _ rfl
      have g4 := hf 4 _ rfl
      simp [h3, h4, h5] at g0 g1 g2 g3 g4
      obtain ⟨a0, e0, _, w0⟩ := DataW.trod_int Try.underlying3 g0
      obtain ⟨a1, e1, _, w1⟩ := DataW.trod_int Try.underlying3 g1
      obtain ⟨a2, e2, _, w2⟩ := DataW.trod_int Try.underlying3 g2
      obtain ⟨a3, e3, _, w3⟩ := DataW.trod_int Try.underlying5 g3
      obtain ⟨a4, e4, _⟩ := DataW.trod_bool Try.underlying4 g4
      obtain ⟨b3, rfl, hb3⟩ := byte_of w3
      simp at e0 e1 e2 e3 e4
      subst e0 e1 e2 e3 e4
      exact ⟨⟨a0, a1, a2, b3, a4⟩, ⟨ok64_of w0, ok64_of w1, ok64_of w2, hb3⟩, rfl⟩
theorem op_of {H : Type} {enc : TypeId × Value → H} {W : World} {base b0 : Nat} {sp : Nat → Bool} {hd : Bool} {v : Value} {d : DataW H} {p : List MemPlace} (hv : Value.okWide Try.prog W .any base 42 v)
    (h : DataW.Trod enc Try.prog W b0 sp hd 42 v d p) : ∃ o : OpD, v = .agg (opA o) ∧ o.ok := by
  obtain ⟨cs, rfl, hsz⟩ := okWide_struct Try.underlying42 hv
  obtain ⟨m, hf⟩ := h
  obtain ⟨o, ho, hc⟩ := op_cells hf
  refine ⟨o, ?_, ho⟩
  have : cs.toList = (opA o).toList := hc
  rw [Array.toList_inj.1 this]

/-- a slice of ops that can be read, below block S -/
def RO (w : World) (S : Nat) (A : Option Addr) (R : List OpD) : Prop := ∀ i x, R[i]? = some x → ∃ ad, A = some ad ∧ ad.block < S ∧ ∀ j, j < 5 → w.cell? ((ad.add (i * 5)).add j) = some (opE x j)
theorem RO.below {w w' : World} {S : Nat} {A : Option Addr} {R : List OpD} (h : RO w S A R) (hb : Below S w w') : RO w' S A R := fun i x hx => by
  obtain ⟨ad, h1, h2, h3⟩ := h i x hx
  refine ⟨ad, h1, h2, fun j hj => ?_⟩
  rw [hb.cell (p := (ad.add (i * 5)).add j) (by rw [addr_add_block, addr_add_block]; exact h2)]
  exact h3 j hj
theorem ops_of {H : Type} {enc : TypeId × Value → H} {W : World} {base b0 : Nat} {sp : Nat → Bool} {hd : Bool} {v : Value} {d : DataW H} {p : List MemPlace} (hv : Value.okWide Try.prog W .any base 40 v)
    (h : DataW.Trod enc Try.prog W b0 sp hd 40 v d p) : ∃ A n c zs, v = .slice A n c ∧ zs.length = n ∧ n ≤ c ∧ c ≤ maxLen ∧ RO W W.heap.size A zs ∧ ∀ z ∈ zs, z.ok := by
  obtain ⟨A, n, c, rfl⟩ := okWide_slice Try.underlying40 hv
  obtain ⟨m, hf⟩ := h
  have h42 : Try.prog.cellsOf 42 = 5 := by kernel_rfl
  rcases Go.Deep.open_slice Try.underlying40 hf with ⟨hcs, hx⟩ | ⟨a, len', cap', m', n', D, Pl, hcs, _, hl, hm, hmm, hx, hall⟩
  · simp [Value.cells] at hcs
    obtain ⟨rfl, rfl, rfl⟩ := hcs
    exact ⟨_, _, _, [], rfl, rfl, Nat.le_refl _, Nat.zero_le _, fun i x hx => by simp at hx, fun z hz => by simp at hz⟩
  · simp [Value.cells] at hcs
    obtain ⟨rfl, rfl, rfl⟩ := hcs
    have hlm : n ≤ m' := by rw [hmm]; split <;> omega
    have each : ∀ i, i < n → ∃ o : OpD, o.ok ∧ ∀ j, j < 5 → W.cell? ((a.add (i * 5)).add j) = some (opE o j) := fun i hi => by
      obtain ⟨cs', h1, h2⟩ := hall i (by omega)
      obtain ⟨o, ho, rfl⟩ := op_cells h2
      rw [h42] at h1
      refine ⟨o, ho, fun j hj => ?_⟩
      obtain ⟨_, _, hcell⟩ := World.cells?_some h1
      rw [hcell j hj, Array.getElem?_toList, opA_at o j hj]
    have ch : ∃ f : Nat → OpD, ∀ i, i < n → (f i).ok ∧ ∀ j, j < 5 → W.cell? ((a.add (i * 5)).add j) = some (opE (f i) j) := by
      refine ⟨fun i => if h : i < n then (each i h).choose else ⟨0, 0, 0, 0, false⟩, fun i hi => ?_⟩
      simp only [hi, dif_pos]
      exact (each i hi).choose_spec
    obtain ⟨f, hf'⟩ := ch
    refine ⟨_, _, _, (List.range n).map f, rfl, by simp, hl, hm, fun i x hx => ?_, fun z hz => ?_⟩
    · have hi : i < n := by have := (List.getElem?_eq_some_iff.1 hx).1; simpa using this
      have e : f i = x := by simpa [List.getElem?_map, List.getElem?_range hi] using hx
      subst e
      refine ⟨a, rfl, ?_, (hf' i hi).2⟩
      have := cell_lt ((hf' i hi).2 0 (by omega))
      rwa [addr_add_block, addr_add_block] at this
    · obtain ⟨i, hi, rfl⟩ := List.mem_map.1 hz
      exact (hf' i (List.mem_range.1 hi)).1
end Go.Proofs.Ytheilnaommcjjaa
