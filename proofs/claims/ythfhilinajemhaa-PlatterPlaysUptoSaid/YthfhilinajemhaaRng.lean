/-
  A range over a map under way, the map as a function; a map cleared. No function of the program.
-/
import Derived.Test.YthfhilinajemhaaFrames
import Derived.Maps.RangeWalk
namespace Go.Proofs.Ythfhilinajemhaa
open Go.RowKit
open Go.ChangeMaps Go.MapKept
open Go.Maps (Keyed)

/-- Block b is a map whose entries are just f's; block r an iterator over it; 'left x': the entry at x is still to come. -/
def RngF (P : Program) (k : TypeId) (w : World) (b r : Nat) (f : Value → Option Value) (left : Value → Prop) : Prop :=
  ∃ es clock since seen c0, w.heap[b]? = some (.map es clock) ∧ Born es clock ∧ (∀ e ∈ es.toList, ∃ l, keyOf P k e.key = some l) ∧ es.toList.Pairwise (fun e e' => e.key ≠ e'.key) ∧
    (∀ x v, f x = some v ↔ ∃ e ∈ es.toList, e.key = x ∧ e.val = v) ∧ w.heap[r]? = some (.mapIter (some b) since seen c0) ∧ (∀ x ∈ es.toList, x.born < since) ∧ since ≤ c0 ∧ since ≤ clock ∧
    ∀ x, left x ↔ ∃ e ∈ es.toList, e.key = x ∧ seen.contains e.born = false

section
variable {P : Program} {k e t ty : TypeId} {w w' : World} {b r : Nat} {f g : Value → Option Value} {left left' : Value → Prop}

theorem RngF.map (h : RngF P k w b r f left) : MapF P k w b f := by
  obtain ⟨es, clock, since, seen, c0, h1, h2, h3, h4, h5, _⟩ := h
  exact ⟨es, clock, h1, h2, h3, h4, h5⟩
theorem RngF.congr (h : RngF P k w b r f left) (hf : ∀ x, g x = f x) (hl : ∀ x, left' x ↔ left x) : RngF P k w b r g left' := by
  obtain ⟨es, clock, since, seen, c0, h1, h2, h3, h4, h5, h6, h7, h8, h9, h10⟩ := h
  exact ⟨es, clock, since, seen, c0, h1, h2, h3, h4, fun x v => by rw [hf]; exact h5 x v, h6, h7, h8, h9, fun x => (hl x).trans (h10 x)⟩
theorem RngF.ne (h : RngF P k w b r f left) : r ≠ b := by
  obtain ⟨es, clock, since, seen, c0, h1, h2, h3, h4, h5, h6, _⟩ := h
  rintro rfl
  rw [h1] at h6
  cases h6
theorem RngF.lt (h : RngF P k w b r f left) : r < w.heap.size := by
  obtain ⟨es, clock, since, seen, c0, h1, h2, h3, h4, h5, h6, _⟩ := h
  exact (Array.getElem?_eq_some_iff.1 h6).1
theorem RngF.kept (h : RngF P k w b r f left) (hb : w'.heap[b]? = w.heap[b]?) (hr : w'.heap[r]? = w.heap[r]?) : RngF P k w' b r f left := by
  obtain ⟨es, clock, since, seen, c0, h1, h2, h3, h4, h5, h6, h7⟩ := h
  exact ⟨es, clock, since, seen, c0, hb.trans h1, h2, h3, h4, h5, hr.trans h6, h7⟩
theorem RngF.fr {F : Nat → Prop} (h : RngF P k w b r f left) (hf : Fr F w w') (hb : ¬ F b) (hr : ¬ F r) : RngF P k w' b r f left :=
  h.kept (hf.block b h.map.lt hb) (hf.block r h.lt hr)
theorem rangeLeft_same {w1 : World} (hb : w1.heap[b]? = w.heap[b]?) (hr : w1.heap[r]? = w.heap[r]?) : w1.rangeLeft b r = w.rangeLeft b r := by
  unfold World.rangeLeft
  rw [hb, hr]

theorem MapF.range (h : MapF P k w b f) (ht : P.underlying t = some (.map k e)) :
    ∃ w', (Instr.range t (.map (some b))).run P w = .ok (.pointer (some ⟨w.heap.size, 0, none⟩)) w' ∧ RngF P k w' b w.heap.size f (fun x => (f x).isSome = true) ∧ Below w.heap.size w w' ∧ w'.heap.size = w.heap.size + 1 := by
  have hlt := h.lt
  obtain ⟨es, clock, hb, hB, hk, hp, hf⟩ := h
  refine ⟨_, run_range_map w t k e b es clock ht hb, ⟨es, clock, clock, #[], clock, ((MapKept.heap_alloc w _).2 b hlt).trans hb, hB, hk, hp, hf, (MapKept.heap_alloc w _).1, hB.1, Nat.le_refl _, Nat.le_refl _, fun x => ?_⟩, (Below.refl _ _).alloc (Nat.le_refl _) _, by simp⟩
  constructor
  · intro hx
    obtain ⟨v, hv⟩ := Option.isSome_iff_exists.1 hx
    obtain ⟨e, he, h1, _⟩ := (hf x v).1 hv
    exact ⟨e, he, h1, by simp⟩
  · rintro ⟨e, he, h1, _⟩
    rw [(hf x e.val).2 ⟨e, he, h1, rfl⟩]; rfl

/-- The step. -/
theorem RngF.next (h : RngF P k w b r f left) (ty : TypeId) :
    ((∀ x, ¬ left x) ∧ (Instr.next (.pointer (some ⟨r, 0, none⟩)) false ty).run P w = .ok (.tuple #[.bool false]) w) ∨
    ∃ x v w', left x ∧ f x = some v ∧ (Instr.next (.pointer (some ⟨r, 0, none⟩)) false ty).run P w = .ok (.tuple #[.bool true, x, v]) w' ∧ RngF P k w' b r f (fun y => left y ∧ y ≠ x) ∧ w'.rangeLeft b r < w.rangeLeft b r ∧
      Fr (fun i => i = r) w w' ∧ w'.heap.size = w.heap.size ∧ (Instr.entry (.pointer (some ⟨r, 0, none⟩))).run P w' = .ok (.tuple #[x, v]) w' := by
  have hne := h.ne
  obtain ⟨es, clock, since, seen, c0, h1, h2, h3, h4, h5, h6, h7, h8, h9, h10⟩ := h
  rcases run_next_at (P := P) w ty r b since c0 seen es clock h6 h1 h7 h8 with ⟨h0, hrun⟩ | ⟨e, he, w1, hal, hrun⟩
  · refine .inl ⟨fun x hx => ?_, hrun⟩
    obtain ⟨e, he, _, hs⟩ := (h10 x).1 hx
    rw [all_seen es seen h0 e he] at hs
    cases hs
  · obtain ⟨hem, hes⟩ := mem_left he
    have hr1 : w1.heap[r]? = some (.mapIter (some b) since seen c0) := by rcases hal with rfl | rfl <;> exact h6
    have hb1 : w1.heap[b]? = some (.map es clock) := by rcases hal with rfl | rfl <;> exact h1
    have hset := heap_set (o' := .mapIter (some b) since (seen.push e.born) clock) hr1
    have hb' : (setBlock w1 r (.mapIter (some b) since (seen.push e.born) clock)).heap[b]? = some (.map es clock) := (hset.2 b (fun e1 => hne e1.symm)).trans hb1
    have hr' : (setBlock w1 r (.mapIter (some b) since (seen.push e.born) clock)).heap[r]? = some (.mapIter (some b) since (seen.push e.born) clock) := hset.1
    refine .inr ⟨e.key, e.val, _, (h10 _).2 ⟨e, hem, rfl, hes⟩, (h5 _ _).2 ⟨e, hem, rfl, rfl⟩, hrun, ⟨es, clock, since, seen.push e.born, clock, hb', h2, h3, h4, h5, hr', h7, h9, h9, fun x => ?_⟩, ?_, ?_, ?_, run_entry_at _ r b since seen es clock e hr' hb' hem h2.2⟩
    · constructor
      · rintro ⟨hx, hxe⟩
        obtain ⟨e1, he1, h11, h12⟩ := (h10 x).1 hx
        refine ⟨e1, he1, h11, ?_⟩
        rw [contains_push, h12, Bool.false_or]
        refine beq_eq_false_iff_ne.2 fun hbb => hxe ?_
        rw [← h11, born_inj h2.2 he1 hem hbb]
      · rintro ⟨e1, he1, h11, h12⟩
        rw [contains_push, Bool.or_eq_false_iff] at h12
        refine ⟨(h10 x).2 ⟨e1, he1, h11, h12.1⟩, fun hxe => ?_⟩
        have : e1 = e := entry_eq_of_key h4 he1 hem (h11.trans hxe)
        rw [this] at h12
        simp at h12
    · unfold World.rangeLeft
      rw [hb', hr', h1, h6]
      exact left_shrinks es seen e he
    · rcases hal with rfl | rfl <;> exact ⟨rfl, rfl, rfl, by simp [setBlock], fun i _ hi => hset.2 i hi⟩
    · rcases hal with rfl | rfl <;> simp [setBlock]

/-- 'delete(m, x)' in the round. -/
theorem RngF.drop (h : RngF P k w b r f left) (K : Keyed P k) (ht : P.underlying t = some (.map k e)) {x : Value} {l : Lit} (hx : keyOf P k x = some l) (hgx : g x = none) (hg : ∀ y, y ≠ x → g y = f y) :
    ∃ w', (Builtin.delete_ #[t, k] ty #[.map (some b), x]).run P w = .ok (.tuple #[]) w' ∧ RngF P k w' b r g (fun y => left y ∧ y ≠ x) ∧ w'.rangeLeft b r ≤ w.rangeLeft b r ∧ Fr (fun i => i = b) w w' ∧ w'.heap.size = w.heap.size := by
  have hne := h.ne
  obtain ⟨es, clock, since, seen, c0, h1, h2, h3, h4, h5, h6, h7, h8, h9, h10⟩ := h
  have fin : ∀ es' : Array MapEntry, es'.toList.Sublist es.toList → (∀ y, y ∈ es'.toList ↔ (y ∈ es.toList ∧ y.key ≠ x)) →
      RngF P k (setBlock w b (.map es' clock)) b r g (fun y => left y ∧ y ≠ x) ∧ (setBlock w b (.map es' clock)).rangeLeft b r ≤ w.rangeLeft b r ∧ Fr (fun i => i = b) w (setBlock w b (.map es' clock)) ∧ (setBlock w b (.map es' clock)).heap.size = w.heap.size := by
    intro es' hs who
    have hb' := heap_setBlock_same h1 (.map es' clock)
    have hr' : (setBlock w b (.map es' clock)).heap[r]? = some (.mapIter (some b) since seen c0) := (heap_setBlock_other h1 _ hne).trans h6
    refine ⟨⟨es', clock, since, seen, c0, hb', h2.sub hs, fun y hy => h3 y (hs.subset hy), h4.sublist hs, fun y u => ?_, hr', fun y hy => h7 y (hs.subset hy), h8, h9, fun y => ?_⟩, ?_, ?_, by simp [setBlock]⟩
    · by_cases hyx : y = x
      · subst hyx
        rw [hgx]
        constructor
        · rintro ⟨⟩
        · rintro ⟨c, hc, h11, _⟩
          exact absurd h11 ((who c).1 hc).2
      · rw [hg y hyx, h5]
        constructor
        · rintro ⟨c, hc, h11, h12⟩
          exact ⟨c, (who c).2 ⟨hc, by rw [h11]; exact hyx⟩, h11, h12⟩
        · rintro ⟨c, hc, h11⟩
          exact ⟨c, ((who c).1 hc).1, h11⟩
    · constructor
      · rintro ⟨hy, hyx⟩
        obtain ⟨c, hc, h11, h12⟩ := (h10 y).1 hy
        exact ⟨c, (who c).2 ⟨hc, by rw [h11]; exact hyx⟩, h11, h12⟩
      · rintro ⟨c, hc, h11, h12⟩
        have := (who c).1 hc
        exact ⟨(h10 y).2 ⟨c, this.1, h11, h12⟩, by rw [← h11]; exact this.2⟩
    · unfold World.rangeLeft
      rw [hb', hr', h1, h6]
      have e1 : ∀ a : Array MapEntry, (leftOf a seen).size = (a.toList.filter fun e => !seen.contains e.born).length := fun a => by
        unfold leftOf
        rw [← Array.toList_filter, Array.length_toList]
      show (leftOf es' seen).size ≤ (leftOf es seen).size
      rw [e1, e1]
      exact (hs.filter _).length_le
    · exact ⟨rfl, rfl, rfl, by simp [setBlock], fun i _ hi => heap_setBlock_other h1 _ hi⟩
  rcases K.find w hx es.toList h3 with ⟨h11, h12⟩ | ⟨j, e0, h11, h12, h13⟩
  · refine ⟨setBlock w b (.map es clock), ?_, fin es (List.Sublist.refl _) (fun y => ⟨fun hy => ⟨hy, h12 y hy⟩, fun hy => hy.1⟩)⟩
    simp [Builtin.delete_, run_underlying ht, MapKept.run_getObj_map h1, K.check w _ hx, h11, MapKept.run_setObj_map _ h1, Result.andThen, setBlock]
  · have hjl : j < es.size := by simpa using (List.getElem?_eq_some_iff.1 h12).1
    have hlist : (es.eraseIdxIfInBounds j).toList = es.toList.eraseIdx j := by simp [Array.eraseIdxIfInBounds, hjl]
    refine ⟨setBlock w b (.map (es.eraseIdxIfInBounds j) clock), ?_, fin _ (by rw [hlist]; exact List.eraseIdx_sublist _ _) (fun y => ?_)⟩
    · simp [Builtin.delete_, run_underlying ht, MapKept.run_getObj_map h1, K.check w _ hx, h11, MapKept.run_setObj_map _ h1, Result.andThen, setBlock]
    · rw [hlist, List.mem_eraseIdx_iff_getElem?]
      constructor
      · rintro ⟨i, hij, hi⟩
        exact ⟨List.mem_of_getElem? hi, fun h => hij (pair_at h4 hi h12 (h.trans h13.symm))⟩
      · rintro ⟨hy, hyx⟩
        obtain ⟨i, hi⟩ := List.mem_iff_getElem?.1 hy
        refine ⟨i, ?_, hi⟩
        rintro rfl
        rw [h12] at hi
        cases hi
        exact hyx h13

/-- 'clear(m)'. -/
theorem MapF.clear (h : MapF P k w b f) (ht : P.underlying t = some (.map k e)) :
    ∃ w', (Builtin.clear_ #[t] ty #[.map (some b)]).run P w = .ok (.tuple #[]) w' ∧ MapF P k w' b (fun _ => none) ∧ Fr (fun i => i = b) w w' ∧ w'.heap.size = w.heap.size := by
  obtain ⟨es, clock, hb, hB, hk, hp, hf⟩ := h
  refine ⟨setBlock w b (.map #[] clock), ?_, ⟨#[], clock, heap_setBlock_same hb _, ⟨by simp, by simp⟩, by simp, by simp, by simp⟩, ⟨rfl, rfl, rfl, by simp [setBlock], fun i _ hi => heap_setBlock_other hb _ hi⟩, by simp [setBlock]⟩
  simp [Builtin.clear_, run_underlying ht, MapKept.run_getObj_map hb, MapKept.run_setObj_map _ hb, Result.andThen, setBlock]
end
section
variable {P : Program} {w : World} {ops : Array Oper} {rest : List Oper} {o : Oper} {a : Act} {Q : Exit → Act → World → Prop}
theorem rangeW (hg : o.guard = none) (m : Operand) (t : TypeId) (hop : o.op = Op.range t m) (k e : TypeId) (ht : P.underlying t = some (.map k e)) (b : Nat) (f : Value → Option Value)
    (hm : a.eval m = .map (some b)) (h : MapF P k w b f)
    (hK : ∀ w', RngF P k w' b w.heap.size f (fun x => (f x).isSome = true) → Below w.heap.size w w' → w'.heap.size = w.heap.size + 1 → wpList P ops Q rest (a.put o.dst (.pointer (some ⟨w.heap.size, 0, none⟩))) w') :
    wpList P ops Q (o :: rest) a w := by
  refine wpList_plain hg fun K' hK' => ?_
  obtain ⟨w', hrun, r1, r2, r3⟩ := h.range ht
  unfold Oper.wp
  simp [execOp, hop, hm, hrun, Result.andThen]
  exact hK' _ _ (hK w' r1 r2 r3)
theorem nextW (hg : o.guard = none) (it : Operand) (hop : o.op = Op.next it false) (k : TypeId) (b r : Nat) (f : Value → Option Value) (left : Value → Prop) (hit : a.eval it = .pointer (some ⟨r, 0, none⟩)) (h : RngF P k w b r f left)
    (hDone : (∀ x, ¬ left x) → wpList P ops Q rest (a.put o.dst (.tuple #[.bool false])) w)
    (hMore : ∀ x v w', left x → f x = some v → RngF P k w' b r f (fun y => left y ∧ y ≠ x) → w'.rangeLeft b r < w.rangeLeft b r → Fr (fun i => i = r) w w' → w'.heap.size = w.heap.size →
      (Instr.entry (.pointer (some ⟨r, 0, none⟩))).run P w' = .ok (.tuple #[x, v]) w' → wpList P ops Q rest (a.put o.dst (.tuple #[.bool true, x, v])) w') :
    wpList P ops Q (o :: rest) a w := by
  refine wpList_plain hg fun K' hK' => ?_
  unfold Oper.wp
  rcases h.next o.type with ⟨hl, hrun⟩ | ⟨x, v, w', h1, h2, hrun, h3, h4, h5, h6, h7⟩
  · simp [execOp, hop, hit, hrun, Result.andThen]
    exact hK' _ _ (hDone hl)
  · simp [execOp, hop, hit, hrun, Result.andThen]
    exact hK' _ _ (hMore x v w' h1 h2 h3 h4 h5 h6 h7)
theorem deleteW (hg : o.guard = none) (m x : Operand) (t k : TypeId) (hop : o.op = Op.call { callee := Callee.builtin Builtin.delete, args := #[m, x], argTypes := #[t, k] })
    (e : TypeId) (K : Keyed P k) (ht : P.underlying t = some (.map k e)) (b r : Nat) (f g : Value → Option Value) (left : Value → Prop) (hm : a.eval m = .map (some b)) (h : RngF P k w b r f left) (key : Value) (hx : a.eval x = key)
    (hkey : ∃ l, keyOf P k key = some l) (hgx : g key = none) (hgy : ∀ y, y ≠ key → g y = f y)
    (hK : ∀ w', RngF P k w' b r g (fun y => left y ∧ y ≠ key) → w'.rangeLeft b r ≤ w.rangeLeft b r → Fr (fun i => i = b) w w' → w'.heap.size = w.heap.size → wpList P ops Q rest (a.put o.dst (.tuple #[])) w') :
    wpList P ops Q (o :: rest) a w := by
  refine wpList_plain hg fun K' hK' => ?_
  obtain ⟨l, hl⟩ := hkey
  obtain ⟨w', hrun, r1, r2, r3, r4⟩ := h.drop (g := g) K ht hl hgx hgy (ty := o.type)
  unfold Oper.wp
  simp [execOp, hop, resolve, invoke, builtin, hm, hx, hrun, Result.andThen]
  exact hK' _ _ (hK w' r1 r2 r3 r4)
theorem clearW (hg : o.guard = none) (m : Operand) (t : TypeId) (hop : o.op = Op.call { callee := Callee.builtin Builtin.clear, args := #[m], argTypes := #[t] })
    (k e : TypeId) (ht : P.underlying t = some (.map k e)) (b : Nat) (f : Value → Option Value) (hm : a.eval m = .map (some b)) (h : MapF P k w b f)
    (hK : ∀ w', MapF P k w' b (fun _ => none) → Fr (fun i => i = b) w w' → w'.heap.size = w.heap.size → wpList P ops Q rest (a.put o.dst (.tuple #[])) w') :
    wpList P ops Q (o :: rest) a w := by
  refine wpList_plain hg fun K' hK' => ?_
  obtain ⟨w', hrun, r1, r2, r3⟩ := h.clear ht (ty := o.type)
  unfold Oper.wp
  simp [execOp, hop, resolve, invoke, builtin, hm, hrun, Result.andThen]
  exact hK' _ _ (hK w' r1 r2 r3)
end
end Go.Proofs.Ythfhilinajemhaa
