/-
  slices.Sorted(maps.Keys(open)): the open sectors, in order.
-/
import Derived.Test.YthfhilinajemhaaShelf
import Derived.Test.YthfhilinajemhaaDelF
import Derived.Maps.Range
namespace Go.Proofs.Ythfhilinajemhaa
open Go.RowKit Go.Shelf
open Go.MapKept Go.WideShapes
open Go.WideElems (Fit rd rg pl rd_key rd_val rg_of other_key)
open Go.Maps (Keyed int_keyed)
set_option linter.unusedVariables false

/-- the open sectors, in order -/
def keysL (d : Dk) : List Int := ((List.range d.n).filter (fun (i : Nat) => (d.op (i : Int)).isSome)).map (fun (i : Nat) => (i : Int))
theorem keysL_mem {d : Dk} (h : d.ok) (i : Int) : i ∈ keysL d ↔ (d.op i).isSome = true := by
  unfold keysL
  rw [List.mem_map]
  constructor
  · rintro ⟨j, hj, rfl⟩
    exact (List.mem_filter.1 hj).2
  · intro hi
    obtain ⟨c, hc⟩ := Option.isSome_iff_exists.1 hi
    obtain ⟨h0, h1, _⟩ := h.2.2 i c hc
    refine ⟨i.toNat, List.mem_filter.2 ⟨List.mem_range.2 (by omega), ?_⟩, by omega⟩
    rw [show ((i.toNat : Nat) : Int) = i by omega]; exact hi
theorem keysL_lt (d : Dk) : (keysL d).Pairwise (fun x y => x < y) := by
  unfold keysL
  rw [List.pairwise_map]
  refine (List.pairwise_lt_range.filter _).imp ?_
  intro a b hab
  exact Int.ofNat_lt.2 hab
theorem keysL_nodup (d : Dk) : (keysL d).Nodup := (keysL_lt d).imp (fun h e => by omega)
theorem keysL_len (d : Dk) : (keysL d).length ≤ d.n := by
  unfold keysL
  rw [List.length_map]
  exact Nat.le_trans (List.length_filter_le _ _) (by simp)
theorem keysL_sorted {d : Dk} {ss : List Int} (h : ss.Perm (keysL d)) : ss.mergeSort (fun x y => decide (x ≤ y)) = keysL d := by
  refine List.Perm.eq_of_pairwise (le := fun a b => a ≤ b) (fun a b _ _ h1 h2 => by omega) ?_ ((keysL_lt d).imp (fun h => by omega)) ((List.mergeSort_perm ss _).trans h)
  have := List.pairwise_mergeSort (le := fun x y : Int => decide (x ≤ y)) (fun a b c h1 h2 => by simp at *; omega) (fun a b => by simp; omega) ss
  exact this.imp (fun h => by simpa using h)
/-- what is at a key does not matter here -/
def R0 (_ : Value) : Option (DataW Unit × List MemPlace) := some (.nil, [])
set_option maxRecDepth 20000 in
theorem keys_owns {w : World} {b : Nat} {d : Dk} (hok : d.ok) (h : MapF Try.prog 3 w b (opn d.op)) : ∃ nn D, w.ownsMap Try.prog 3 R0 b nn D ∧ (intKeys D).Perm (keysL d) ∧ Maps.size D ≤ d.n := by
  obtain ⟨es, clock, hb, hB, hk, hp, hf⟩ := h
  have hkey : ∀ e ∈ es.toList, ∃ i, e.key = .int .i64 i ∧ rd Try.prog 3 R0 e = some (.int .i64 i, .nil) ∧ (d.op i).isSome = true := fun e he => by
    obtain ⟨i, c, h1, h2, h3⟩ := opn_int ((hf e.key e.val).2 ⟨e, he, rfl, rfl⟩)
    obtain ⟨l, hl⟩ := hk e he
    refine ⟨i, h1, ?_, by rw [h3]; rfl⟩
    have hl2 := hl
    rw [h1] at hl2
    obtain ⟨x, hx, hl3, _⟩ := Maps.keyOf_int_inv Try.underlying3 hl2
    cases hx
    unfold rd
    rw [hl, hl3]; rfl
  have hrg : ∀ e ∈ es.toList, e.key = .int .i64 (Go.intOf (rg Try.prog 3 R0 e).1) := fun e he => by
    obtain ⟨i, h1, h2, _⟩ := hkey e he
    rw [rg_of h2, h1]; rfl
  have hperm0 : (intKeys (DataW.map ((es.toList.map (rg Try.prog 3 R0)).foldr DataW.insert []))).Perm (es.toList.map (fun e => Go.intOf (rg Try.prog 3 R0 e).1)) := by
    have := (sorted_perm (es.toList.map (rg Try.prog 3 R0))).map (fun p => Go.intOf p.1)
    rw [List.map_map] at this
    exact this
  have hnd : (es.toList.map (fun e => Go.intOf (rg Try.prog 3 R0 e).1)).Nodup := by
    unfold List.Nodup
    rw [List.pairwise_map]
    refine hp.imp_of_mem ?_
    intro a c ha hc hac e
    exact hac (by rw [hrg a ha, hrg c hc, e])
  have hmem : ∀ i, i ∈ es.toList.map (fun e => Go.intOf (rg Try.prog 3 R0 e).1) ↔ i ∈ keysL d := fun i => by
    rw [keysL_mem hok, List.mem_map]
    constructor
    · rintro ⟨e, he, rfl⟩
      obtain ⟨i, h1, h2, h3⟩ := hkey e he
      rw [rg_of h2]; exact h3
    · intro hi
      obtain ⟨c, hc⟩ := Option.isSome_iff_exists.1 hi
      obtain ⟨e, he, h1, _⟩ := (hf (.int .i64 i) (.agg c)).1 (by show (d.op i).map Value.agg = _; rw [hc]; rfl)
      refine ⟨e, he, ?_⟩
      have := hrg e he
      rw [h1] at this
      injection this with _ h
      exact h.symm
  have hperm := hperm0.trans ((List.perm_ext_iff_of_nodup hnd (keysL_nodup d)).2 hmem)
  have hlen : es.toList.length ≤ d.n := by
    have h1 := hperm0.length_eq
    have h2 := hperm.length_eq
    have h3 := keysL_len d
    rw [List.length_map] at h1
    omega
  have hn := hok.1.2
  have hes : es.size ≤ d.n := by simpa using hlen
  refine ⟨d.n, _, ⟨es, clock, hb, ⟨by unfold maxLen; omega, (stamped_iff es clock).2 ⟨hB.1, hB.2, hp⟩, fun e he => ?_⟩, hes, rfl⟩, hperm, ?_⟩
  · obtain ⟨i, _, h2, _⟩ := hkey e he
    exact ⟨_, h2⟩
  · show ((es.toList.map (rg Try.prog 3 R0)).foldr DataW.insert []).length ≤ d.n
    rw [(sorted_perm _).length_eq, List.length_map]; exact hlen

theorem sortsA (m : Nat) : AnyZI.SortsIn Try.prog sortedA_ren Fence.wide m :=
  ⟨fun blk off cap ss W hH hblk hsz => callsIn_wide.2 (AnyM.slices_Sort_int sortA blk off cap ss W hH hblk hsz),
   fun p cap W => callsIn_wide.2 (AnyM.slices_Sort_int_none sortA p cap W)⟩
theorem keys_any (mb : Option Nat) (w : World) : Calls Try.prog 60 #[.map mb] w fun e w' => e = .returned (.func (.func 63) #[] #[.pointer (some ⟨w.heap.size, 0, none⟩)]) ∧ w' = w.alloc (.cells #[.map mb] 86) :=
  (callsIn_wide (n := 5)).1 (AnyZI.keys_in keysA Fence.wide 5 trivial rfl mb w)
def SortedOut (w : World) (d : Dk) (e : Ending) (w' : World) : Prop := ∃ v : Value, e = .returned v ∧ w'.ownsRow w.heap.size 3 1 v (keysL d).length ((keysL d).map (Value.int .i64)) ∧ Below w.heap.size w w'
theorem sorted_any {w : World} {b Bm : Nat} {d : Dk} (hok : d.ok) (hm : MapF Try.prog 3 w b (opn d.op)) (hB : Blk w Bm #[.map (some b)] 86) : Calls Try.prog 59 #[.func (.func 63) #[] #[.pointer (some ⟨Bm, 0, none⟩)]] w (SortedOut w d) := by
  obtain ⟨nn, D, hown, hperm, hsz⟩ := keys_owns hok hm
  have hn := hok.1.2
  have hseq : SeqGives Fence.wide 2 Try.prog 63 #[.pointer (some ⟨Bm, 0, none⟩)] encZ (fun ss => ss.Perm (intKeys D)) (Maps.size D) w :=
    AnyZI.keys_gives (ρ := keysA_ren) { keysA with } Fence.wide _ trivial rfl (by omega) Bm b nn D w hB.lt (hB.cell (j := 0) rfl) hown
  have cS := AnyZI.sorted_in sortedA Fence.wide 5 trivial trivial trivial trivial rfl (by omega) (sortsA _) (enters_of Try.func62 (by kernel_rfl) rfl) 63 #[.pointer (some ⟨Bm, 0, none⟩)] trivial (enters_of Try.func63 (by kernel_rfl) rfl) _ _ (by unfold maxLen; omega) (by omega) _ hseq
  refine (callsIn_wide (n := 5)).1 (cS.mono ?_)
  rintro e w' ⟨v, ss, rfl, hS, hrow, hnil, hb⟩
  have hp := hS.trans hperm
  rw [keysL_sorted hp, hp.length_eq] at hrow
  exact ⟨v, rfl, hrow, hb⟩
end Go.Proofs.Ythfhilinajemhaa
