/-
  A map that counts spots, each met once: made, counted up, asked. No function of the program.
-/
import Derived.Test.YtheilnaommcjjaaLastLaw
namespace Go.Proofs.Ytheilnaommcjjaa
open Go.RowKit Go.ChangeMaps Go.MapKept
open Go.Maps (Keyed)

def entOf (S : List Spot) : List MapEntry := S.zipIdx.map (fun x => { key := spotV x.1, val := .int .i64 1, born := x.2 })
theorem entOf_snoc (S : List Spot) (s : Spot) : entOf (S ++ [s]) = entOf S ++ [{ key := spotV s, val := .int .i64 1, born := S.length }] := by
  unfold entOf
  rw [List.zipIdx_append]
  simp
theorem entOf_mem {S : List Spot} {e : MapEntry} (h : e ∈ entOf S) : ∃ s ∈ S, e.key = spotV s ∧ e.val = .int .i64 1 ∧ e.born < S.length := by
  obtain ⟨⟨s, i⟩, hx, rfl⟩ := List.mem_map.1 h
  obtain ⟨h1, h2⟩ := List.mem_zipIdx' hx
  exact ⟨s, by rw [h2]; exact List.getElem_mem _, rfl, rfl, h1⟩
theorem entOf_of {S : List Spot} {s : Spot} (h : s ∈ S) : ∃ e ∈ entOf S, e.key = spotV s := by
  obtain ⟨i, hi, rfl⟩ := List.getElem_of_mem h
  exact ⟨_, List.mem_map.2 ⟨(S[i], i), List.mem_zipIdx_iff_getElem?.2 (by simp [hi]), rfl⟩, rfl⟩

/-- block b of W counts each of S once -/
def CountM (W : World) (b : Nat) (S : List Spot) : Prop := W.heap[b]? = some (.map (entOf S).toArray S.length)
theorem CountM.lt {W : World} {b : Nat} {S : List Spot} (h : CountM W b S) : b < W.heap.size := (Array.getElem?_eq_some_iff.1 h).1
theorem CountM.below {W W' : World} {B b : Nat} {S : List Spot} (h : CountM W b S) (hb : Below B W W') (hB : b < B) : CountM W' b S := (hb.block b hB).trans h
theorem CountM.made (W : World) : CountM (W.alloc (.map #[] 0)) W.heap.size [] := by
  unfold CountM
  show (W.heap.push _)[W.heap.size]? = _
  simp [entOf]

theorem CountM.look {W : World} {b : Nat} {S : List Spot} (h : CountM W b S) (hS : ∀ s ∈ S, ok64 s.1 ∧ ok64 s.2) {s : Spot} (hs : ok64 s.1 ∧ ok64 s.2) :
    (Instr.lookup 47 (.map (some b)) (spotV s) false).run Try.prog W = .ok (.int .i64 (if s ∈ S then 1 else 0)) W := by
  obtain ⟨l, hl⟩ := pair_key s hs.1 hs.2
  have hz : (zeroValue 3).run Try.prog W = .ok (.int .i64 0) W := by kernel_rfl
  rcases pair_keyed.find W hl (entOf S) (fun e he => by
    obtain ⟨t, ht, h1, _⟩ := entOf_mem he
    rw [h1]
    exact pair_key t (hS t ht).1 (hS t ht).2) with ⟨h1, h2⟩ | ⟨j, e0, h1, h2, h3⟩
  · have hn : s ∉ S := fun hm => by
      obtain ⟨e, he, hk⟩ := entOf_of hm
      exact h2 e he hk
    rw [if_neg hn]
    simp [Instr.lookup, run_underlying Try.underlying47, MapKept.run_getObj_map h, pair_keyed.check W _ hl, h1, Result.andThen, hz]
  · obtain ⟨t, ht, hk, hv, _⟩ := entOf_mem (List.mem_of_getElem? h2)
    have hm : s ∈ S := by
      have := spotV_inj (h3.symm.trans hk)
      rw [this]; exact ht
    rw [if_pos hm]
    simp [Instr.lookup, run_underlying Try.underlying47, MapKept.run_getObj_map h, pair_keyed.check W _ hl, h1, Result.andThen, hv]

theorem findIdx_born (S : List Spot) (e : MapEntry) (he : e.born = S.length) : ((entOf S).toArray.push e).findIdx? (fun x => ((x.born : Nat) : Int) == ((S.length : Nat) : Int)) = some S.length := by
  rw [Array.findIdx?_eq_some_iff_getElem]
  have hl : (entOf S).length = S.length := by simp [entOf]
  refine ⟨by simp [hl], ?_, fun j hj => ?_⟩
  · have : ((entOf S).toArray.push e)[S.length]'(by simp [hl]) = e := by
      rw [Array.getElem_push]
      rw [dif_neg (by simp [hl])]
    rw [this, he]
    simp
  · have hj' : j < (entOf S).length := by omega
    have : ((entOf S).toArray.push e)[j]'(by simp; omega) = (entOf S)[j] := by
      rw [Array.getElem_push]
      rw [dif_pos (by simpa using hj')]
      simp
    rw [this]
    obtain ⟨_, _, _, _, hb⟩ := entOf_mem (List.getElem_mem hj')
    simp
    omega
theorem CountM.step {W : World} {b : Nat} {S : List Spot} (h : CountM W b S) (hS : ∀ s ∈ S, ok64 s.1 ∧ ok64 s.2) {s : Spot} (hs : ok64 s.1 ∧ ok64 s.2) (hn : s ∉ S) :
    ∃ W1 W2, (Instr.mapEntry 47 (.map (some b)) (spotV s)).run Try.prog W = .ok (.tuple #[.int .i64 0, .int .i64 (S.length : Nat)]) W1 ∧
      (Instr.lookup 47 (.map (some b)) (spotV s) false).run Try.prog W1 = .ok (.int .i64 0) W1 ∧
      (Instr.entryStore 47 (.map (some b)) (.int .i64 (S.length : Nat)) (.int .i64 1)).run Try.prog W1 = .ok () W2 ∧ W.grownBy W2 (some b) ∧ CountM W2 b (S ++ [s]) := by
  obtain ⟨l, hl⟩ := pair_key s hs.1 hs.2
  have hz : ∀ W, (zeroValue 3).run Try.prog W = .ok (.int .i64 0) W := fun W => by kernel_rfl
  have hkeys : ∀ e ∈ entOf S, ∃ l, keyOf Try.prog 48 e.key = some l := fun e he => by
    obtain ⟨t, ht, h1, _⟩ := entOf_mem he
    rw [h1]
    exact pair_key t (hS t ht).1 (hS t ht).2
  have hlen : (entOf S).length = S.length := by simp [entOf]
  rcases pair_keyed.find W hl (entOf S) hkeys with ⟨h1, h2⟩ | ⟨j, e0, h1, h2, h3⟩
  · obtain ⟨e1, he1⟩ : ∃ e1 : MapEntry, e1 = { key := spotV s, val := .int .i64 0, born := S.length } := ⟨_, rfl⟩
    obtain ⟨W1, hW1⟩ : ∃ W1, W1 = setBlock W b (.map ((entOf S).toArray.push e1) (S.length + 1)) := ⟨_, rfl⟩
    have hb1 : W1.heap[b]? = some (.map ((entOf S).toArray.push e1) (S.length + 1)) := by rw [hW1]; exact heap_setBlock_same h _
    have hm : ((entOf S).toArray.push e1).modify S.length (fun e => { e with val := .int .i64 1 }) = (entOf (S ++ [s])).toArray := by
      rw [entOf_snoc]
      apply Array.ext_getElem?
      intro i
      rw [Array.getElem?_modify]
      by_cases hi : S.length = i
      · subst hi
        rw [if_pos rfl]
        simp [hlen, he1]
      · rw [if_neg hi]
        simp only [Array.getElem?_push, List.getElem?_toArray, List.size_toArray, hlen]
        rw [if_neg (fun h => hi h.symm)]
        by_cases hlt : i < S.length
        · rw [List.getElem?_append_left (by omega)]
        · rw [List.getElem?_eq_none (by omega), List.getElem?_eq_none (by simp; omega)]
    refine ⟨W1, setBlock W1 b (.map (entOf (S ++ [s])).toArray (S.length + 1)), ?_, ?_, ?_, ?_, ?_⟩
    · rw [hW1, he1]
      simp [Instr.mapEntry, run_underlying Try.underlying47, MapKept.run_getObj_map h, pair_keyed.check W _ hl, h1, Result.andThen, hz, MapKept.run_setObj_map _ h, setBlock, goInt]
    · rcases pair_keyed.find W1 hl (entOf S ++ [e1]) (fun e he => by
        rcases List.mem_append.1 he with he | he
        · exact hkeys e he
        · rw [List.mem_singleton.1 he, he1]; exact ⟨l, hl⟩) with ⟨k1, k2⟩ | ⟨j, e0, k1, k2, k3⟩
      · exact absurd (by rw [he1]) (k2 e1 (by simp))
      · have hv : e0.val = .int .i64 0 := by
          have := List.mem_of_getElem? k2
          rcases List.mem_append.1 this with he | he
          · exact absurd k3 (h2 e0 he)
          · rw [List.mem_singleton.1 he, he1]
        have hb1' : W1.heap[b]? = some (.map (entOf S ++ [e1]).toArray (S.length + 1)) := by rw [hb1]; simp
        simp [Instr.lookup, run_underlying Try.underlying47, MapKept.run_getObj_map hb1', pair_keyed.check W1 _ hl, k1, Result.andThen, hv]
    · have hidx := findIdx_born S e1 (by rw [he1])
      simp only [Instr.entryStore, Sem.run_bind, MapKept.run_getObj_map hb1, Result.andThen_ok, asInt, asIntOf, Sem.run_pure, hidx, hm, MapKept.run_setObj_map _ hb1]
      rfl
    · rw [hW1]
      exact (grownBy_setBlock h).trans (by rw [← hW1]; exact grownBy_setBlock hb1)
    · have := heap_setBlock_same hb1 (.map (entOf (S ++ [s])).toArray (S.length + 1))
      unfold CountM
      rw [this]
      simp
  · obtain ⟨t, ht, hk, _⟩ := entOf_mem (List.mem_of_getElem? h2)
    exact absurd (by rw [spotV_inj (h3.symm.trans hk)]; exact ht) hn
end Go.Proofs.Ytheilnaommcjjaa
