/-
  Arguments of the laws opened: a script of calls. No walk.
-/
import Derived.Test.YthfhilinajemhaaOpen2
namespace Go.Proofs.Ythfhilinajemhaa
open Go.ChangeShapes Go.WideShapes Go.ChangeAt Go.RowKit
set_option linter.unusedVariables false

/-- one call: its kind, its numbers, its bytes, what is kept -/
structure OpD where
  k : Int
  u : Int
  n : Int
  ba : Option Addr
  bc : Nat
  bz : List Int
  ka : Option Addr
  kc : Nat
  kz : List Int
def OpD.ok (o : OpD) : Prop := ok64 o.k ∧ ok64 o.u ∧ ok64 o.n ∧ o.bz.length ≤ 1048576 ∧ o.kz.length ≤ 1048576
def opE (o : OpD) (j : Nat) : Value := if j = 0 then .int .i64 o.k else if j = 1 then .int .i64 o.u else if j = 2 then .int .i64 o.n else if j = 3 then .slice o.ba o.bz.length o.bc else .slice o.ka o.kz.length o.kc
def opA (o : OpD) : Array Value := #[.int .i64 o.k, .int .i64 o.u, .int .i64 o.n, .slice o.ba o.bz.length o.bc, .slice o.ka o.kz.length o.kc]
theorem opA_at (o : OpD) (j : Nat) (h : j < 5) : (opA o)[j]? = some (opE o j) := by
  match j, h with
  | 0, _ => rfl
  | 1, _ => rfl
  | 2, _ => rfl
  | 3, _ => rfl
  | 4, _ => rfl
open _root_.Go.Proofs.Ythfhilinajemhaa.Rows
theorem bulk_pos {H : Type} (d : DataW H) : 1 ≤ uptoBulk d := by
  cases d with
  | lit l => cases l <;> simp [uptoBulk]
  | nil => simp [uptoBulk]
  | ptr d => simp [uptoBulk]
  | slice e s => simp [uptoBulk]
  | agg p => simp [uptoBulk]
  | iface h d => simp [uptoBulk]
  | map e => simp [uptoBulk]
  | held h => simp [uptoBulk]
theorem bulkAll_len {H : Type} : ∀ L : List (DataW H), L.length ≤ uptoBulkAll L
  | [] => Nat.zero_le _
  | d :: L => by
    have := bulkAll_len L
    have := bulk_pos d
    simp only [uptoBulkAll, List.length_cons]
    omega
theorem bulkAll_append {H : Type} : ∀ L M : List (DataW H), uptoBulkAll (L ++ M) = uptoBulkAll L + uptoBulkAll M
  | [], M => by simp [uptoBulkAll]
  | d :: L, M => by simp only [List.cons_append, uptoBulkAll, bulkAll_append L M]; omega
set_option maxRecDepth 20000 in
theorem bytes_cells_w {H : Type} {enc : TypeId × Value → H} {W : World} {b0 : Nat} {sp : Nat → Bool} {hd : Bool} {m : Nat} {cs : List Value} {x : DataW H × List MemPlace} (h : DataW.trod enc Try.prog W b0 sp hd m 22 cs = some x) :
    ∃ A n c zs, cs = [.slice A n c] ∧ zs.length = n ∧ n ≤ c ∧ c ≤ maxLen ∧ RB W W.heap.size A zs ∧ n + 1 ≤ uptoBulk x.1 := by
  have hc3 : Try.prog.cellsOf 5 = 1 := by kernel_rfl
  obtain ⟨d, p⟩ := x
  rcases open_ints Try.underlying22 Try.underlying5 hc3 h with ⟨hcs, hx⟩ | ⟨a, n, c, zs, hcs, _, hl, hm, hz, hx, hcell, hwz⟩
  · exact ⟨_, _, _, [], hcs, rfl, Nat.le_refl _, Nat.zero_le _, fun i x hx => by simp at hx, bulk_pos _⟩
  · have hlen : n ≤ zs.length := by rw [hz]; split <;> omega
    refine ⟨_, _, _, zs.take n, hcs, by rw [List.length_take]; omega, hl, hm, fun i x hx => ?_, ?_⟩
    · have hi := (List.getElem?_eq_some_iff.1 hx).1
      rw [List.length_take] at hi
      have hc := hcell i (by omega)
      refine ⟨a, rfl, ?_, ?_⟩
      · have := cell_lt hc
        rwa [addr_add_block] at this
      · rw [hc]
        rw [List.getElem?_take] at hx
        rw [if_pos (by omega)] at hx
        simp [List.getD, hx]
    · obtain ⟨rfl, rfl⟩ := Prod.mk.inj hx
      have e1 : (lits (H := H) IntKind.u8 (List.take n zs)).length = n := by simp [lits]; omega
      have := bulkAll_len (lits (H := H) IntKind.u8 (List.take n zs))
      simp only [uptoBulk]
      omega
set_option maxRecDepth 20000 in
theorem ints_cells_w {H : Type} {enc : TypeId × Value → H} {W : World} {b0 : Nat} {sp : Nat → Bool} {hd : Bool} {m : Nat} {cs : List Value} {x : DataW H × List MemPlace} (h : DataW.trod enc Try.prog W b0 sp hd m 27 cs = some x) :
    ∃ A n c zs, cs = [.slice A n c] ∧ zs.length = n ∧ n ≤ c ∧ c ≤ maxLen ∧ RI W W.heap.size A zs ∧ n + 1 ≤ uptoBulk x.1 := by
  have hc3 : Try.prog.cellsOf 3 = 1 := by kernel_rfl
  obtain ⟨d, p⟩ := x
  rcases open_ints Try.underlying27 Try.underlying3 hc3 h with ⟨hcs, hx⟩ | ⟨a, n, c, zs, hcs, _, hl, hm, hz, hx, hcell, hwz⟩
  · exact ⟨_, _, _, [], hcs, rfl, Nat.le_refl _, Nat.zero_le _, fun i x hx => by simp at hx, bulk_pos _⟩
  · have hlen : n ≤ zs.length := by rw [hz]; split <;> omega
    refine ⟨_, _, _, zs.take n, hcs, by rw [List.length_take]; omega, hl, hm, fun i x hx => ?_, ?_⟩
    · have hi := (List.getElem?_eq_some_iff.1 hx).1
      rw [List.length_take] at hi
      have hc := hcell i (by omega)
      refine ⟨a, rfl, ?_, ?_⟩
      · have := cell_lt hc
        rwa [addr_add_block] at this
      · rw [hc]
        rw [List.getElem?_take] at hx
        rw [if_pos (by omega)] at hx
        simp [List.getD, hx]
    · obtain ⟨rfl, rfl⟩ := Prod.mk.inj hx
      have e1 : (lits (H := H) IntKind.i64 (List.take n zs)).length = n := by simp [lits]; omega
      have := bulkAll_len (lits (H := H) IntKind.i64 (List.take n zs))
      simp only [uptoBulk]
      omega
set_option maxRecDepth 20000 in
theorem op_cells {H : Type} {enc : TypeId × Value → H} {W : World} {b0 : Nat} {sp : Nat → Bool} {hd : Bool} {m : Nat} {cs : List Value} {x : DataW H × List MemPlace} (h : DataW.trod enc Try.prog W b0 sp hd m 66 cs = some x) :
    ∃ o : OpD, (ok64 o.k ∧ ok64 o.u ∧ ok64 o.n) ∧ o.bz.length + o.kz.length + 1 ≤ uptoBulk x.1 ∧ cs = (opA o).toList ∧ RB W W.heap.size o.ba o.bz ∧ RI W W.heap.size o.ka o.kz := by
  have h66 : Try.prog.cellsOf 66 = 5 := by kernel_rfl
  have h3 : Try.prog.cellsOf 3 = 1 := by kernel_rfl
  have h22 : Try.prog.cellsOf 22 = 1 := by kernel_rfl
  have h27 : Try.prog.cellsOf 27 = 1 := by kernel_rfl
  obtain ⟨xs, n, _, rfl, hl, hlen, hff⟩ := DataW.trod_struct Try.underlying66 h
  rw [h66] at hl
  match cs, hl with
  | [v0, v1, v2, v3, v4], _ =>
    match xs, hlen with
    | [y0, y1, y2, y3, y4], _ =>
      have g0 := hff 0 _ rfl
      have g1 := hff 1 _ rfl
      have g2 := hff 2 _ rfl
      have g3 := hff 3 _ rfl
      have g4 := hff 4 _ rfl
      simp [h3, h22, h27] at g0 g1 g2 g3 g4
      obtain ⟨a0, e0, _, w0⟩ := DataW.trod_int Try.underlying3 g0
      obtain ⟨a1, e1, _, w1⟩ := DataW.trod_int Try.underlying3 g1
      obtain ⟨a2, e2, _, w2⟩ := DataW.trod_int Try.underlying3 g2
      obtain ⟨A3, n3, c3, z3, e3, hz3, _, _, hr3, hb3⟩ := bytes_cells_w g3
      obtain ⟨A4, n4, c4, z4, e4, hz4, hn4, hm4, hr4, hb4⟩ := ints_cells_w g4
      simp at e0 e1 e2 e3 e4
      subst e0 e1 e2 e3 e4
      subst hz3 hz4
      refine ⟨⟨a0, a1, a2, A3, c3, z3, A4, c4, z4⟩, ⟨ok64_of w0, ok64_of w1, ok64_of w2⟩, ?_, rfl, hr3, hr4⟩
      simp only [uptoBulk, uptoBulkAll, List.map_cons, List.map_nil]
      omega
/-- a script that can be read, below block S -/
def RO (w : World) (S : Nat) (A : Option Addr) (R : List OpD) : Prop := ∀ i x, R[i]? = some x → (∃ ad, A = some ad ∧ ad.block < S ∧ ∀ j, j < 5 → w.cell? ((ad.add (i * 5)).add j) = some (opE x j)) ∧ RB w S x.ba x.bz ∧ RI w S x.ka x.kz
theorem RO.below {w w' : World} {S : Nat} {A : Option Addr} {R : List OpD} (h : RO w S A R) (hb : Below S w w') : RO w' S A R := fun i x hx => by
  obtain ⟨⟨ad, h1, h2, h3⟩, h4, h5⟩ := h i x hx
  refine ⟨⟨ad, h1, h2, fun j hj => ?_⟩, h4.below hb, h5.below hb⟩
  rw [hb.cell (p := (ad.add (i * 5)).add j) (by rw [addr_add_block, addr_add_block]; exact h2)]
  exact h3 j hj
/-- how much a script holds -/
def sumK : List OpD → Nat
  | [] => 0
  | o :: L => o.bz.length + o.kz.length + 1 + sumK L
theorem sumK_append : ∀ L M : List OpD, sumK (L ++ M) = sumK L + sumK M
  | [], M => by simp [sumK]
  | d :: L, M => by simp only [List.cons_append, sumK, sumK_append L M]; omega
theorem sumK_mem : ∀ {L : List OpD} {o : OpD}, o ∈ L → o.bz.length + o.kz.length + 1 ≤ sumK L
  | [], _, h => by cases h
  | d :: L, o, h => by
    simp only [sumK]
    rcases List.mem_cons.1 h with rfl | h
    · omega
    · have := sumK_mem h; omega
theorem sumK_range {H : Type} (f : Nat → OpD) (D : Nat → DataW H) : ∀ n, (∀ i, i < n → (f i).bz.length + (f i).kz.length + 1 ≤ uptoBulk (D i)) → sumK ((List.range n).map f) ≤ uptoBulkAll ((List.range n).map D)
  | 0, _ => by simp [sumK]
  | n + 1, h => by
    have h1 := sumK_range f D n (fun i hi => h i (by omega))
    have h2 := h n (by omega)
    rw [List.range_succ, List.map_append, List.map_append, sumK_append, bulkAll_append]
    simp only [List.map_cons, List.map_nil, sumK, uptoBulkAll]
    omega
set_option maxRecDepth 20000 in
theorem ops_of {H : Type} {enc : TypeId × Value → H} {W : World} {base b0 : Nat} {sp : Nat → Bool} {hd : Bool} {v : Value} {d : DataW H} {p : List MemPlace} (hv : Value.okWide Try.prog W .any base 59 v)
    (h : DataW.Trod enc Try.prog W b0 sp hd 59 v d p) (hw : uptoBulk d ≤ 1048576) : ∃ A c zs, v = .slice A (zs : List OpD).length c ∧ sumK zs ≤ 1048576 ∧ RO W W.heap.size A zs ∧ ∀ z ∈ zs, z.ok := by
  obtain ⟨A, n, c, rfl⟩ := okWide_slice Try.underlying59 hv
  obtain ⟨m, hf⟩ := h
  have h66 : Try.prog.cellsOf 66 = 5 := by kernel_rfl
  rcases Go.Deep.open_slice Try.underlying59 hf with ⟨hcs, hx⟩ | ⟨a, len', cap', m', n', D, Pl, hcs, _, hl, hm, hmm, hx, hall⟩
  · simp [Value.cells] at hcs
    obtain ⟨rfl, rfl, rfl⟩ := hcs
    exact ⟨_, _, [], rfl, by simp [sumK], fun i x hx => by simp at hx, fun z hz => by simp at hz⟩
  · simp [Value.cells] at hcs
    obtain ⟨rfl, rfl, rfl⟩ := hcs
    obtain ⟨rfl, rfl⟩ := Prod.mk.inj hx
    have hlm : n ≤ m' := by rw [hmm]; split <;> omega
    have each : ∀ i, i < n → ∃ o : OpD, (ok64 o.k ∧ ok64 o.u ∧ ok64 o.n) ∧ o.bz.length + o.kz.length + 1 ≤ uptoBulk (D i) ∧ (∀ j, j < 5 → W.cell? ((a.add (i * 5)).add j) = some (opE o j)) ∧ RB W W.heap.size o.ba o.bz ∧ RI W W.heap.size o.ka o.kz := fun i hi => by
      obtain ⟨cs', h1, h2⟩ := hall i (by omega)
      obtain ⟨o, ho, hu, rfl, hb, hk⟩ := op_cells h2
      rw [h66] at h1
      refine ⟨o, ho, hu, fun j hj => ?_, hb, hk⟩
      obtain ⟨_, _, hcell⟩ := World.cells?_some h1
      rw [hcell j hj, Array.getElem?_toList, opA_at o j hj]
    have ch : ∃ f : Nat → OpD, ∀ i, i < n → (ok64 (f i).k ∧ ok64 (f i).u ∧ ok64 (f i).n) ∧ (f i).bz.length + (f i).kz.length + 1 ≤ uptoBulk (D i) ∧ (∀ j, j < 5 → W.cell? ((a.add (i * 5)).add j) = some (opE (f i) j)) ∧ RB W W.heap.size (f i).ba (f i).bz ∧ RI W W.heap.size (f i).ka (f i).kz := by
      refine ⟨fun i => if h : i < n then (each i h).choose else ⟨0, 0, 0, none, 0, [], none, 0, []⟩, fun i hi => ?_⟩
      simp only [hi, dif_pos]
      exact (each i hi).choose_spec
    obtain ⟨f, hf'⟩ := ch
    have hsum := sumK_range f D n (fun i hi => (hf' i hi).2.1)
    have hsum2 : sumK ((List.range n).map f) ≤ 1048576 := by
      simp only [uptoBulk] at hw
      omega
    refine ⟨some a, c, (List.range n).map f, by simp, hsum2, fun i x hx => ?_, fun z hz => ?_⟩
    · have hi : i < n := by have := (List.getElem?_eq_some_iff.1 hx).1; simpa using this
      have e : f i = x := by simpa [List.getElem?_map, List.getElem?_range hi] using hx
      subst e
      refine ⟨⟨a, rfl, ?_, (hf' i hi).2.2.1⟩, (hf' i hi).2.2.2⟩
      have := cell_lt ((hf' i hi).2.2.1 0 (by omega))
      rwa [addr_add_block, addr_add_block] at this
    · have hq := sumK_mem hz
      obtain ⟨i, hi, rfl⟩ := List.mem_map.1 hz
      have h1 := (hf' i (List.mem_range.1 hi)).1
      exact ⟨h1.1, h1.2.1, h1.2.2, by omega, by omega⟩
end Go.Proofs.Ythfhilinajemhaa
