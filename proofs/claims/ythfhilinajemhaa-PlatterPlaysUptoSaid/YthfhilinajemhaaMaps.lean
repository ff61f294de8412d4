/-
  A map's block as a function from key values to values: made, read, written, deleted from, kept. No function of the program.
-/
import Derived.Maps.Keyed
import Derived.Laws.AppendOwn
import Derived.ChangeMaps5
import Derived.WalkKit
import Derived.Below
import Derived.Deep.QuietTactic
namespace Go.Proofs.Ythfhilinajemhaa
open Go.ChangeMaps Go.MapKept
open Go.Maps (Keyed)

/-- The stamps of a map's entries: each its own, all given out. -/
def Born (es : Array MapEntry) (clock : Nat) : Prop := (∀ x ∈ es.toList, x.born < clock) ∧ (es.toList.map (·.born)).Nodup
theorem Born.push {es : Array MapEntry} {clock : Nat} (h : Born es clock) (x v : Value) : Born (es.push ⟨x, v, clock⟩) (clock + 1) := by
  refine ⟨fun e he => ?_, ?_⟩
  · simp only [Array.toList_push, List.mem_append, List.mem_singleton] at he
    rcases he with he | rfl
    · exact Nat.lt_succ_of_lt (h.1 e he)
    · exact Nat.lt_succ_self _
  · rw [Array.toList_push, List.map_append, List.nodup_append]
    refine ⟨h.2, by simp, ?_⟩
    intro a ha b hb
    obtain ⟨e, he, rfl⟩ := List.mem_map.1 ha
    simp only [List.map_cons, List.map_nil, List.mem_singleton] at hb
    have := h.1 e he
    omega
theorem Born.sub {es es' : Array MapEntry} {clock : Nat} (h : Born es clock) (hs : es'.toList.Sublist es.toList) : Born es' clock :=
  ⟨fun x hx => h.1 x (hs.subset hx), h.2.sublist (hs.map _)⟩
theorem Born.same {es es' : Array MapEntry} {clock : Nat} (h : Born es clock) (hs : es'.toList.map (·.born) = es.toList.map (·.born)) : Born es' clock := by
  refine ⟨fun x hx => ?_, by rw [hs]; exact h.2⟩
  have h1 : x.born ∈ es.toList.map (·.born) := by rw [← hs]; exact List.mem_map.2 ⟨x, hx, rfl⟩
  obtain ⟨e, he, h2⟩ := List.mem_map.1 h1
  rw [← h2]; exact h.1 e he
/-- Block b of w is a map whose entries are just f's. -/
def MapF (P : Program) (k : TypeId) (w : World) (b : Nat) (f : Value → Option Value) : Prop :=
  ∃ es clock, w.heap[b]? = some (.map es clock) ∧ Born es clock ∧ (∀ e ∈ es.toList, ∃ l, keyOf P k e.key = some l) ∧ es.toList.Pairwise (fun e e' => e.key ≠ e'.key) ∧
    ∀ x v, f x = some v ↔ ∃ e ∈ es.toList, e.key = x ∧ e.val = v

section
variable {P : Program} {k e t ty : TypeId} {w w' : World} {b : Nat} {f g : Value → Option Value}

theorem MapF.lt (h : MapF P k w b f) : b < w.heap.size := by
  obtain ⟨es, clock, hb, _⟩ := h
  exact (Array.getElem?_eq_some_iff.1 hb).1
theorem MapF.kept' (h : MapF P k w b f) (hb : w'.heap[b]? = w.heap[b]?) : MapF P k w' b f := by
  obtain ⟨es, clock, h1, h2⟩ := h
  exact ⟨es, clock, hb.trans h1, h2⟩
theorem MapF.kept {row : Option Nat} (h : MapF P k w b f) (hg : w.grownBy w' row) (hne : some b ≠ row) : MapF P k w' b f := h.kept' (hg.block b h.lt hne)
theorem MapF.drew (h : MapF P k w b f) : MapF P k w.drew b f := h
theorem MapF.drewN (h : MapF P k w b f) (n : Nat) : MapF P k (w.drewN n) b f := h
theorem MapF.alloc (h : MapF P k w b f) (o : Obj) : MapF P k (w.alloc o) b f := h.kept (World.grownBy_alloc w o none) (by simp)
theorem MapF.set (h : MapF P k w b f) (a : Addr) (ha : a.block ≠ b) (v : Value) : MapF P k (w.setCell a v) b f := h.kept' (by rw [Go.RowKit.Below.heap_setCell _ _ _ _ (Ne.symm ha)])
theorem MapF.made (w : World) : MapF P k (w.alloc (.map #[] 0)) w.heap.size (fun _ => none) :=
  ⟨#[], 0, (MapKept.heap_alloc w _).1, ⟨by simp, by simp⟩, by simp, by simp, by simp⟩

theorem MapF.lookup (h : MapF P k w b f) (K : Keyed P k) (ht : P.underlying t = some (.map k e)) {z : Value} (hz : (zeroValue e).run P w = .ok z w) {x : Value} {l : Lit} (hx : keyOf P k x = some l) :
    (Instr.lookup t (.map (some b)) x false).run P w = .ok ((f x).getD z) w := by
  obtain ⟨es, clock, hb, _, hk, _, hf⟩ := h
  rcases K.find w hx es.toList hk with ⟨h1, h2⟩ | ⟨j, e0, h1, h2, h3⟩
  · have hn : f x = none := by
      rcases hfx : f x with _ | v
      · rfl
      · obtain ⟨e0, h3, h4, _⟩ := (hf x v).1 hfx
        exact absurd h4 (h2 e0 h3)
    simp [Instr.lookup, run_underlying ht, MapKept.run_getObj_map hb, K.check w _ hx, h1, Result.andThen, hz, hn]
  · have hn : f x = some e0.val := (hf x e0.val).2 ⟨e0, List.mem_of_getElem? h2, h3, rfl⟩
    simp [Instr.lookup, run_underlying ht, MapKept.run_getObj_map hb, K.check w _ hx, h1, Result.andThen, hn]
theorem MapF.lookup_ok (h : MapF P k w b f) (K : Keyed P k) (ht : P.underlying t = some (.map k e)) {z : Value} (hz : (zeroValue e).run P w = .ok z w) {x : Value} {l : Lit} (hx : keyOf P k x = some l) :
    (Instr.lookup t (.map (some b)) x true).run P w = .ok (.tuple #[(f x).getD z, .bool (f x).isSome]) w := by
  obtain ⟨es, clock, hb, _, hk, _, hf⟩ := h
  rcases K.find w hx es.toList hk with ⟨h1, h2⟩ | ⟨j, e0, h1, h2, h3⟩
  · have hn : f x = none := by
      rcases hfx : f x with _ | v
      · rfl
      · obtain ⟨e0, h3, h4, _⟩ := (hf x v).1 hfx
        exact absurd h4 (h2 e0 h3)
    simp [Instr.lookup, run_underlying ht, MapKept.run_getObj_map hb, K.check w _ hx, h1, Result.andThen, hz, hn]
  · have hn : f x = some e0.val := (hf x e0.val).2 ⟨e0, List.mem_of_getElem? h2, h3, rfl⟩
    simp [Instr.lookup, run_underlying ht, MapKept.run_getObj_map hb, K.check w _ hx, h1, Result.andThen, hn]

theorem grownBy_setBlock {es es' : Array MapEntry} {clock clock' : Nat} (hb : w.heap[b]? = some (.map es clock)) : w.grownBy (setBlock w b (.map es' clock')) (some b) :=
  ⟨rfl, rfl, rfl, by simp [setBlock], fun i _ hi => heap_setBlock_other hb _ (fun e => hi (by rw [e]))⟩

theorem pair_at {l : List MapEntry} (hp : l.Pairwise (fun e e' => e.key ≠ e'.key)) {i j : Nat} {e e' : MapEntry} (hi : l[i]? = some e) (hj : l[j]? = some e') (h : e.key = e'.key) : i = j := by
  rcases Nat.lt_trichotomy i j with hlt | he | hlt
  · obtain ⟨h1, rfl⟩ := List.getElem?_eq_some_iff.1 hi
    obtain ⟨h2, rfl⟩ := List.getElem?_eq_some_iff.1 hj
    exact absurd h (List.pairwise_iff_getElem.1 hp i j h1 h2 hlt)
  · exact he
  · obtain ⟨h1, rfl⟩ := List.getElem?_eq_some_iff.1 hi
    obtain ⟨h2, rfl⟩ := List.getElem?_eq_some_iff.1 hj
    exact absurd h.symm (List.pairwise_iff_getElem.1 hp j i h2 h1 hlt)

theorem born_set {l : List MapEntry} {j : Nat} {e0 : MapEntry} (h : l[j]? = some e0) {x v : Value} : (l.set j { e0 with key := x, val := v }).map (·.born) = l.map (·.born) := by
  rw [List.map_set]
  apply List.ext_getElem?
  intro i
  rw [List.getElem?_set]
  split
  · rename_i hij
    subst hij
    have hl := (List.getElem?_eq_some_iff.1 h).1
    rw [if_pos (by simpa using hl), List.getElem?_map, h]; rfl
  · rfl
/-- 'm[x] = v'. -/
theorem MapF.update (h : MapF P k w b f) (K : Keyed P k) (ht : P.underlying t = some (.map k e)) {x : Value} {l : Lit} (hx : keyOf P k x = some l) (v : Value) :
    ∃ w', (Instr.mapUpdate t (.map (some b)) x v).run P w = .ok () w' ∧ w.grownBy w' (some b) ∧ ∀ g, g x = some v → (∀ y, y ≠ x → g y = f y) → MapF P k w' b g := by
  obtain ⟨es, clock, hb, hB, hk, hp, hf⟩ := h
  rcases K.find w hx es.toList hk with ⟨h1, h2⟩ | ⟨j, e0, h1, h2, h3⟩
  · refine ⟨setBlock w b (.map (es.push ⟨x, v, clock⟩) (clock + 1)), ?_, grownBy_setBlock hb, fun g g1 g2 => ⟨_, _, heap_setBlock_same hb _, hB.push x v, ?_, ?_, ?_⟩⟩
    · simp [Instr.mapUpdate, run_underlying ht, MapKept.run_getObj_map hb, K.check w false hx, h1, MapKept.run_setObj_map _ hb, Result.andThen, setBlock]
    · intro y hy
      simp only [Array.toList_push, List.mem_append, List.mem_singleton] at hy
      rcases hy with hy | rfl
      · exact hk y hy
      · exact ⟨l, hx⟩
    · rw [Array.toList_push, List.pairwise_append]
      refine ⟨hp, by simp, ?_⟩
      intro a ha c hc
      simp only [List.mem_singleton] at hc
      subst hc
      exact h2 a ha
    · intro y u
      simp only [Array.toList_push, List.mem_append, List.mem_singleton]
      by_cases hyx : y = x
      · subst hyx
        rw [g1]
        constructor
        · rintro ⟨⟩
          exact ⟨_, Or.inr rfl, rfl, rfl⟩
        · rintro ⟨c, hc | rfl, h5, h6⟩
          · exact absurd h5 (h2 c hc)
          · rw [← h6]
      · rw [g2 y hyx, hf]
        constructor
        · rintro ⟨c, hc, h5⟩
          exact ⟨c, Or.inl hc, h5⟩
        · rintro ⟨c, hc | rfl, h5, h6⟩
          · exact ⟨c, hc, h5, h6⟩
          · exact absurd h5.symm hyx
  · have hj : es[j]? = some e0 := by simpa using h2
    have hlist : (es.modify j (fun e' => { e' with key := x, val := v })).toList = es.toList.set j { e0 with key := x, val := v } := by
      rw [Array.toList_modify]
      exact modify_eq_set _ _ _ _ h2
    have hjl : j < es.toList.length := (List.getElem?_eq_some_iff.1 h2).1
    have at_ : ∀ i, i ≠ j → (es.toList.set j { e0 with key := x, val := v })[i]? = es.toList[i]? := fun i hi => by rw [List.getElem?_set_ne (fun h => hi h.symm)]
    have atj : (es.toList.set j { e0 with key := x, val := v })[j]? = some { e0 with key := x, val := v } := by rw [List.getElem?_set_self hjl]
    have who : ∀ y, y ∈ es.toList.set j { e0 with key := x, val := v } ↔ y = { e0 with key := x, val := v } ∨ (y ∈ es.toList ∧ y.key ≠ x) := by
      intro y
      constructor
      · intro hy
        obtain ⟨i, hi⟩ := List.mem_iff_getElem?.1 hy
        by_cases hij : i = j
        · subst hij
          rw [atj] at hi
          exact Or.inl (Option.some.inj hi).symm
        · rw [at_ i hij] at hi
          refine Or.inr ⟨List.mem_of_getElem? hi, fun h => hij ?_⟩
          exact pair_at hp hi h2 (h.trans h3.symm)
      · rintro (rfl | ⟨hy, hyx⟩)
        · exact List.mem_of_getElem? atj
        · obtain ⟨i, hi⟩ := List.mem_iff_getElem?.1 hy
          have hij : i ≠ j := by
            rintro rfl
            rw [h2] at hi
            cases hi
            exact hyx h3
          exact List.mem_of_getElem? ((at_ i hij).trans hi)
    refine ⟨setBlock w b (.map (es.modify j (fun e' => { e' with key := x, val := v })) clock), ?_, grownBy_setBlock hb, fun g g1 g2 => ⟨_, _, heap_setBlock_same hb _, hB.same (by rw [hlist]; exact born_set h2), ?_, ?_, ?_⟩⟩
    · simp [Instr.mapUpdate, run_underlying ht, MapKept.run_getObj_map hb, K.check w false hx, h1, hj, h3, K.stays w hx, MapKept.run_setObj_map _ hb, Result.andThen, setBlock]
    · intro y hy
      rw [hlist, who] at hy
      rcases hy with rfl | ⟨hy, _⟩
      · exact ⟨l, hx⟩
      · exact hk y hy
    · rw [hlist, List.pairwise_iff_getElem]
      intro i i' hi hi' hlt
      rw [List.length_set] at hi hi'
      have hne := List.pairwise_iff_getElem.1 hp i i' hi hi' hlt
      rw [List.getElem_set, List.getElem_set]
      have h2' : es.toList[j] = e0 := (List.getElem?_eq_some_iff.1 h2).2
      split
      · rename_i h
        subst h
        rw [if_neg (by omega)]
        rw [h2', h3] at hne
        exact hne
      · split
        · rename_i h
          subst h
          rw [h2', h3] at hne
          exact hne
        · exact hne
    · intro y u
      rw [hlist]
      by_cases hyx : y = x
      · subst hyx
        rw [g1]
        constructor
        · rintro ⟨⟩
          exact ⟨_, (who _).2 (Or.inl rfl), rfl, rfl⟩
        · rintro ⟨c, hc, h5, h6⟩
          rcases (who c).1 hc with rfl | ⟨_, h7⟩
          · rw [← h6]
          · exact absurd h5 h7
      · rw [g2 y hyx, hf]
        constructor
        · rintro ⟨c, hc, h5, h6⟩
          exact ⟨c, (who c).2 (Or.inr ⟨hc, by rw [h5]; exact hyx⟩), h5, h6⟩
        · rintro ⟨c, hc, h5, h6⟩
          rcases (who c).1 hc with rfl | ⟨h7, _⟩
          · exact absurd h5.symm hyx
          · exact ⟨c, h7, h5, h6⟩

/-- 'delete(m, x)'. -/
theorem MapF.delete (h : MapF P k w b f) (K : Keyed P k) (ht : P.underlying t = some (.map k e)) {x : Value} {l : Lit} (hx : keyOf P k x = some l) :
    ∃ w', (Builtin.delete_ #[t, k] ty #[.map (some b), x]).run P w = .ok (.tuple #[]) w' ∧ w.grownBy w' (some b) ∧ ∀ g, g x = none → (∀ y, y ≠ x → g y = f y) → MapF P k w' b g := by
  obtain ⟨es, clock, hb, hB, hk, hp, hf⟩ := h
  rcases K.find w hx es.toList hk with ⟨h1, h2⟩ | ⟨j, e0, h1, h2, h3⟩
  · refine ⟨setBlock w b (.map es clock), ?_, grownBy_setBlock hb, fun g g1 g2 => ⟨_, _, heap_setBlock_same hb _, hB, hk, hp, fun y u => ?_⟩⟩
    · simp [Builtin.delete_, run_underlying ht, MapKept.run_getObj_map hb, K.check w _ hx, h1, MapKept.run_setObj_map _ hb, Result.andThen, setBlock]
    · by_cases hyx : y = x
      · subst hyx
        rw [g1]
        constructor
        · rintro ⟨⟩
        · rintro ⟨c, hc, h5, _⟩
          exact absurd h5 (h2 c hc)
      · rw [g2 y hyx, hf]
  · have hjl : j < es.size := by simpa using (List.getElem?_eq_some_iff.1 h2).1
    have hlist : (es.eraseIdxIfInBounds j).toList = es.toList.eraseIdx j := by simp [Array.eraseIdxIfInBounds, hjl]
    have who : ∀ y, y ∈ es.toList.eraseIdx j ↔ (y ∈ es.toList ∧ y.key ≠ x) := by
      intro y
      rw [List.mem_eraseIdx_iff_getElem?]
      constructor
      · rintro ⟨i, hij, hi⟩
        refine ⟨List.mem_of_getElem? hi, fun h => hij ?_⟩
        exact pair_at hp hi h2 (h.trans h3.symm)
      · rintro ⟨hy, hyx⟩
        obtain ⟨i, hi⟩ := List.mem_iff_getElem?.1 hy
        refine ⟨i, ?_, hi⟩
        rintro rfl
        rw [h2] at hi
        cases hi
        exact hyx h3
    refine ⟨setBlock w b (.map (es.eraseIdxIfInBounds j) clock), ?_, grownBy_setBlock hb, fun g g1 g2 => ⟨_, _, heap_setBlock_same hb _, hB.sub (by rw [hlist]; exact List.eraseIdx_sublist _ _), ?_, ?_, fun y u => ?_⟩⟩
    · simp [Builtin.delete_, run_underlying ht, MapKept.run_getObj_map hb, K.check w _ hx, h1, MapKept.run_setObj_map _ hb, Result.andThen, setBlock]
    · intro y hy
      rw [hlist, who] at hy
      exact hk y hy.1
    · rw [hlist]
      exact hp.sublist (List.eraseIdx_sublist _ _)
    · rw [hlist]
      by_cases hyx : y = x
      · subst hyx
        rw [g1]
        constructor
        · rintro ⟨⟩
        · rintro ⟨c, hc, h5, _⟩
          exact absurd h5 ((who c).1 hc).2
      · rw [g2 y hyx, hf]
        constructor
        · rintro ⟨c, hc, h5, h6⟩
          exact ⟨c, (who c).2 ⟨hc, by rw [h5]; exact hyx⟩, h5, h6⟩
        · rintro ⟨c, hc, h5⟩
          exact ⟨c, ((who c).1 hc).1, h5⟩
end
end Go.Proofs.Ythfhilinajemhaa
