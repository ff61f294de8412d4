/-
  Sectors as values; a disk's state: sure sectors in one row of cells, open ones in a map. No walk.
-/
import Derived.Test.YthfhilinajemhaaRead3
import Derived.Test.YthfhilinajemhaaNew
import Derived.Test.YthfhilinajemhaaRng
namespace Go.Proofs.Ythfhilinajemhaa
open Go.RowKit
open Go.Maps (Keyed int_keyed)
set_option linter.unusedVariables false

/-- A sector: 128 bytes. -/
def Cel (c : Array Value) : Prop := ∃ b : Nat → Int, c = row (fun j => .int .u8 (b j)) 128
theorem Cel.size {c : Array Value} (h : Cel c) : c.size = 128 := by obtain ⟨b, rfl⟩ := h; exact row_size _ _
theorem Cel.all {c : Array Value} (h : Cel c) : c.all (·.oneCell') = true := by obtain ⟨b, rfl⟩ := h; exact row_all _ _ fun _ => rfl
theorem Cel.zero : Cel zc := ⟨fun _ => 0, by unfold zc row; exact (by kernel_rfl)⟩

/-- n sectors, flat. -/
def flat (n : Nat) (s : Nat → Array Value) : Array Value := row (fun j => ((s (j / 128))[j % 128]?).getD undef) (n * 128)
theorem flat_size (n : Nat) (s : Nat → Array Value) : (flat n s).size = n * 128 := row_size _ _
theorem flat_at (n : Nat) (s : Nat → Array Value) (i j : Nat) (hi : i < n) (hj : j < 128) : (flat n s)[i * 128 + j]? = some (((s i)[j]?).getD undef) := by
  unfold flat
  rw [row_at _ _ _ (by omega), show (i * 128 + j) / 128 = i by omega, show (i * 128 + j) % 128 = j by omega]
theorem flat_cel (n : Nat) (s : Nat → Array Value) (i : Nat) (hi : i < n) (hc : Cel (s i)) : ∀ j v, (s i)[j]? = some v → (flat n s)[i * 128 + j]? = some v := fun j v hv => by
  have hj : j < 128 := by rw [← hc.size]; exact (Array.getElem?_eq_some_iff.1 hv).1
  rw [flat_at n s i j hi hj, hv]; rfl
theorem flat_congr {n : Nat} {s s' : Nat → Array Value} (h : ∀ i, i < n → s i = s' i) : flat n s = flat n s' := row_congr fun j hj => by rw [h _ (by omega)]
theorem flat_zero (n : Nat) : zeroS n = flat n (fun _ => zc) := by
  apply Array.ext_getElem?
  intro i
  unfold zeroS flat madeCells
  by_cases hi : i < n * 128
  · rw [row_at _ _ _ hi, Array.getElem?_map, Array.getElem?_eq_getElem (by simpa using hi)]
    have h2 : i % 128 < 128 := by omega
    simp [zc, h2]
  · rw [row_none _ _ _ (by omega)]
    simp; omega
def updS (s : Nat → Array Value) (i : Nat) (c : Array Value) : Nat → Array Value := fun k => if k = i then c else s k
/-- cells written one behind the other -/
def putAll : Array Value → Nat → List Value → Array Value
  | A, _, [] => A
  | A, o, v :: r => putAll (A.setIfInBounds o v) (o + 1) r
theorem putAll_at : ∀ (vs : List Value) (A : Array Value) (o i : Nat), o + vs.length ≤ A.size → (putAll A o vs)[i]? = if o ≤ i ∧ i < o + vs.length then vs[i - o]? else A[i]?
  | [], A, o, i, _ => by simp [putAll]; omega
  | v :: r, A, o, i, h => by
    simp only [List.length_cons] at h ⊢
    rw [putAll, putAll_at r _ _ _ (by simp; omega)]
    by_cases h1 : o + 1 ≤ i ∧ i < o + 1 + r.length
    · rw [if_pos h1, if_pos (by omega), show i - o = (i - (o + 1)) + 1 by omega]; rfl
    · rw [if_neg h1, Array.getElem?_setIfInBounds]
      by_cases h2 : o = i
      · subst h2
        rw [if_pos rfl, if_pos (by omega), if_pos (by omega)]; simp
      · rw [if_neg h2, if_neg (by omega)]
theorem Blk.setCells {B : Nat} {t : TypeId} : ∀ {vs : List Value} {A : Array Value} {o : Nat} {w : World}, Blk w B A t → Blk (w.setCells B o vs) B (putAll A o vs) t
  | [], _, _, _, h => h
  | v :: r, A, o, w, h => by rw [World.setCells, putAll]; exact Blk.setCells (vs := r) (h.set o v)
theorem Fr.setCells (B : Nat) : ∀ (vs : List Value) (o : Nat) (w : World), Fr (fun k => k = B) w (w.setCells B o vs)
  | [], _, w => Fr.refl _ w
  | v :: r, o, w => (Fr.cell w B o v).trans (Fr.setCells B r (o + 1) _) (fun _ h => .inl h)
theorem putAll_flat (n : Nat) (s : Nat → Array Value) (i : Nat) (c : Array Value) (hi : i < n) (hc : c.size = 128) : putAll (flat n s) (i * 128) c.toList = flat n (updS s i c) := by
  apply Array.ext_getElem?
  intro k
  rw [putAll_at _ _ _ _ (by rw [flat_size, Array.length_toList, hc]; omega), Array.length_toList, hc]
  by_cases hk : k < n * 128
  · rw [show k = (k / 128) * 128 + k % 128 by omega, flat_at _ (updS s i c) _ _ (by omega) (by omega)]
    unfold updS
    by_cases h1 : i = k / 128
    · rw [if_pos (by omega), if_pos h1.symm, show k / 128 * 128 + k % 128 - i * 128 = k % 128 by omega, Array.getElem?_toList]
      have : k % 128 < c.size := by omega
      rw [Array.getElem?_eq_getElem this]; rfl
    · rw [if_neg (by omega), if_neg (fun h => h1 h.symm), flat_at _ _ _ _ (by omega) (by omega)]
  · rw [if_neg (by omega)]
    unfold flat
    rw [row_none _ _ _ (by omega), row_none _ _ _ (by omega)]
theorem there_flat {w : World} {g n : Nat} {s : Nat → Array Value} (h : Blk w g (flat n s) 45) (i : Nat) (hi : i < n) : w.there g (i * 128) 128 := fun j hj => by
  refine ⟨?_, h.frozen _⟩
  rw [h.cell (flat_at n s i j hi hj)]; rfl

/-- The open sectors, as the map's entries. -/
def opn (op : Int → Option (Array Value)) : Value → Option Value
  | .int .i64 i => (op i).map Value.agg
  | _ => none
/-- A disk: its sectors, its open ones, its counters, its fuse, its steps. -/
structure Dk where
  n : Nat
  s : Nat → Array Value
  op : Int → Option (Array Value)
  k : Nat
  ct : Nat → Int
  ar : Bool
  lf : Int
  dn : Bool
  st : Int
def Dk.ok (d : Dk) : Prop := (1 ≤ d.n ∧ d.n ≤ 2048) ∧ (∀ i, Cel (d.s i)) ∧ (∀ i c, d.op i = some c → 0 ≤ i ∧ i < d.n ∧ Cel c)
/-- The disk lies at p, its map at m, its sectors at g, its counters at gc. -/
structure Disk (w : World) (p m g gc : Nat) (d : Dk) : Prop where
  p : Blk w p (plA d.ar d.lf d.dn (.slice (some ⟨g, 0, none⟩) d.n d.n) (.map (some m)) (.slice (some ⟨gc, 0, none⟩) d.k d.k) d.st) 90
  g : Blk w g (flat d.n d.s) 45
  m : MapF Try.prog 3 w m (opn d.op)
  c : Blk w gc (row (fun j => .int .i64 (d.ct j)) d.k) 3
  ok : d.ok
/-- The blocks of a disk. -/
def Dl (p m g gc : Nat) : Nat → Prop := fun k => k = p ∨ k = m ∨ k = g ∨ k = gc
theorem Blk.ne_map {w : World} {B b : Nat} {vs : Array Value} {t k : TypeId} {P : Program} {f : Value → Option Value} (h : Blk w B vs t) (hm : MapF P k w b f) : B ≠ b := by
  rintro rfl
  obtain ⟨es, ck, h1, _⟩ := hm
  unfold Blk at h
  rw [h] at h1
  cases h1
section
variable {w w' : World} {p m g gc : Nat} {d : Dk}
theorem Disk.keep (h : Disk w p m g gc d) {F : Nat → Prop} (hf : Fr F w w') (hF : ∀ k, F k → ¬ Dl p m g gc k) : Disk w' p m g gc d :=
  ⟨hf.blk h.p (fun e => hF _ e (.inl rfl)), hf.blk h.g (fun e => hF _ e (.inr (.inr (.inl rfl)))), hf.map h.m (fun e => hF _ e (.inr (.inl rfl))), hf.blk h.c (fun e => hF _ e (.inr (.inr (.inr rfl)))), h.ok⟩
theorem Disk.lt (h : Disk w p m g gc d) {k : Nat} (hk : Dl p m g gc k) : k < w.heap.size := by
  rcases hk with rfl | rfl | rfl | rfl
  · exact h.p.lt
  · exact h.m.lt
  · exact h.g.lt
  · exact h.c.lt
theorem Disk.below (h : Disk w p m g gc d) (hb : Below w.heap.size w w') : Disk w' p m g gc d :=
  h.keep (F := fun k => w.heap.size ≤ k) (Fr.of_below hb) (fun k hk hd => by have := h.lt hd; omega)
theorem Disk.alloc (h : Disk w p m g gc d) (o : Obj) : Disk (w.alloc o) p m g gc d := h.below ((Below.refl _ _).alloc (Nat.le_refl _) _)
theorem Disk.drew (h : Disk w p m g gc d) : Disk w.drew p m g gc d := h.below (Below.refl _ _).drew
theorem Disk.pg (h : Disk w p m g gc d) : g ≠ p := h.g.ne h.p (by decide)
theorem Disk.pc (h : Disk w p m g gc d) : gc ≠ p := h.c.ne h.p (by decide)
theorem Disk.gc_ (h : Disk w p m g gc d) : gc ≠ g := h.c.ne h.g (by decide)
theorem Disk.pm (h : Disk w p m g gc d) : p ≠ m := h.p.ne_map h.m
theorem Disk.gm (h : Disk w p m g gc d) : g ≠ m := h.g.ne_map h.m
theorem Disk.cm (h : Disk w p m g gc d) : gc ≠ m := h.c.ne_map h.m
theorem Disk.row (h : Disk w p m g gc d) (i : Nat) (hi : i < d.n) : ∀ j v, (d.s i)[j]? = some v → w.cell? ⟨g, i * 128 + j, none⟩ = some v := fun j v hv => h.g.cell (flat_cel _ _ i hi (h.ok.2.1 i) j v hv)
end
theorem map_fun {P : Program} {k : TypeId} {w : World} {b : Nat} {f g : Value → Option Value} (h : MapF P k w b f) (hg : ∀ x, g x = f x) : MapF P k w b g := by
  rw [show g = f from funext hg]; exact h
theorem opn_none : opn (fun _ => none) = fun _ => none := by
  funext x
  unfold opn
  split <;> rfl
end Go.Proofs.Ythfhilinajemhaa
