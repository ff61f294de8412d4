/-
  The document's disk: its state; what a sector reads.
-/
import Derived.Test.YthfhilinajemhaaRef2
namespace Go.Proofs.Ythfhilinajemhaa
open Go.RowKit
open Go.Maps (Keyed int_keyed)
set_option linter.unusedVariables false

/-- sectors one behind the other, as cells -/
def secs : List (Array Value) → List Value
  | [] => []
  | c :: L => c.toList ++ secs L
theorem secs_append : ∀ L M : List (Array Value), secs (L ++ M) = secs L ++ secs M
  | [], _ => rfl
  | c :: L, M => by rw [List.cons_append, secs, secs, secs_append L M, List.append_assoc]
theorem secs_len : ∀ {L : List (Array Value)}, (∀ c ∈ L, c.size = 128) → (secs L).length = L.length * 128
  | [], _ => rfl
  | c :: L, h => by
    have h1 : c.size = 128 := h c (List.mem_cons_self)
    have h2 : (secs L).length = L.length * 128 := secs_len (fun x hx => h x (List.mem_cons_of_mem _ hx))
    rw [secs, List.length_append, h2, Array.length_toList, h1, List.length_cons]; omega
theorem secs_at : ∀ {L : List (Array Value)} {i : Nat} {c : Array Value}, (∀ c ∈ L, c.size = 128) → L[i]? = some c → ∀ j v, c[j]? = some v → (secs L)[i * 128 + j]? = some v
  | [], i, c, _, hi, _, _, _ => by simp at hi
  | e :: L, 0, c, h, hi, j, v, hv => by
    simp at hi
    subst hi
    have hj : j < e.size := (Array.getElem?_eq_some_iff.1 hv).1
    rw [secs, List.getElem?_append_left (by rw [Array.length_toList]; omega), Nat.zero_mul, Nat.zero_add, Array.getElem?_toList]; exact hv
  | e :: L, i + 1, c, h, hi, j, v, hv => by
    have he : e.size = 128 := h e (List.mem_cons_self)
    simp at hi
    rw [secs, List.getElem?_append_right (by rw [Array.length_toList, he]; omega), Array.length_toList, he, show (i + 1) * 128 + j - 128 = i * 128 + j by omega]
    exact secs_at (fun x hx => h x (List.mem_cons_of_mem _ hx)) hi j v hv
/-- a list of sectors in a row of its own -/
def Scs (w : World) (B : Nat) (v : Value) (L : List (Array Value)) : Prop := w.ownsRow B 45 128 v L.length (secs L)
theorem scs_form {w : World} {B : Nat} {v : Value} {L : List (Array Value)} (h : Scs w B v L) : ∃ A c, v = .slice A L.length c ∧ (∀ i e, L[i]? = some e → (∀ c ∈ L, c.size = 128) → ∃ g, A = some ⟨g, 0, none⟩ ∧ g < w.heap.size ∧ ∀ j u, e[j]? = some u → w.cell? ⟨g, i * 128 + j, none⟩ = some u) := by
  rcases h.2 with ⟨h1, h2⟩ | ⟨g, cap, cur, h0, hb, hg, _⟩
  · refine ⟨none, 0, by rw [h1, h2], fun i e he _ => ?_⟩
    have := (List.getElem?_eq_some_iff.1 he).1
    omega
  · refine ⟨_, _, h0, fun i e he hc => ⟨g, rfl, (Array.getElem?_eq_some_iff.1 hg).1, fun j u hu => ?_⟩⟩
    have h' := h
    unfold Scs at h'
    rw [h0] at h'
    have hadd : (⟨g, 0, none⟩ : Addr).add (i * 128 + j) = ⟨g, i * 128 + j, none⟩ := by unfold Addr.add; split <;> simp_all
    have := World.ownsRow.cells h' (g := g) rfl (i * 128 + j) u (secs_at hc he j u hu)
    rw [hadd] at this
    exact this
/-- the document's disk: its blocks, what was written since (at 'v'), what is left -/
structure RSt (w : World) (r gs gn gk B : Nat) (v : Nat → Value) (d : Dk) (sn : Nat → List (Array Value)) (lf : Int) : Prop where
  hr : Blk w r (rfA (.slice (some ⟨gs, 0, none⟩) d.n d.n) (.slice (some ⟨gn, 0, none⟩) d.n d.n) (.slice (some ⟨gk, 0, none⟩) d.k d.k) d.st d.ar lf d.dn) 77
  hs : Blk w gs (flat d.n d.s) 45
  hn : Blk w gn (row v d.n) 74
  hc : Blk w gk (row (fun j => .int .i64 (d.ct j)) d.k) 3
  own : ∀ i, Scs w B (v i) (sn i)
  apart : ∀ i j b, (v i).ownBlock = some b → (v j).ownBlock = some b → i = j
  off : ∀ i, (v i).ownBlock ≠ some gs
  cel : ∀ i c, c ∈ sn i → Cel c
  last : ∀ i : Nat, d.op (i : Int) = (sn i).getLast?
  low : B ≤ r ∧ B ≤ gs ∧ B ≤ gn ∧ B ≤ gk
  left : d.ar = true → lf = d.lf
  len : ∀ i, ((sn i).length : Int) ≤ d.st
  ok : d.ok
/-- the blocks of the document's disk -/
def Rl (r gs gn gk : Nat) (v : Nat → Value) : Nat → Prop := fun b => b = r ∨ b = gs ∨ b = gn ∨ b = gk ∨ ∃ i, (v i).ownBlock = some b
section
variable {w w' : World} {r gs gn gk B : Nat} {v : Nat → Value} {d : Dk} {sn : Nat → List (Array Value)} {lf : Int}
theorem RSt.keep (h : RSt w r gs gn gk B v d sn lf) {F : Nat → Prop} (hf : Fr F w w') (hF : ∀ k, F k → ¬ Rl r gs gn gk v k) : RSt w' r gs gn gk B v d sn lf :=
  ⟨hf.blk h.hr (fun e => hF _ e (.inl rfl)), hf.blk h.hs (fun e => hF _ e (.inr (.inl rfl))), hf.blk h.hn (fun e => hF _ e (.inr (.inr (.inl rfl)))), hf.blk h.hc (fun e => hF _ e (.inr (.inr (.inr (.inl rfl))))),
   fun i => Fr.own hf (h.own i) (fun k hk e => hF _ e (.inr (.inr (.inr (.inr ⟨i, hk⟩))))), h.apart, h.off, h.cel, h.last, h.low, h.left, h.len, h.ok⟩
theorem RSt.lt (h : RSt w r gs gn gk B v d sn lf) {k : Nat} (hk : Rl r gs gn gk v k) : B ≤ k ∧ k < w.heap.size := by
  rcases hk with rfl | rfl | rfl | rfl | ⟨i, hi⟩
  · exact ⟨h.low.1, h.hr.lt⟩
  · exact ⟨h.low.2.1, h.hs.lt⟩
  · exact ⟨h.low.2.2.1, h.hn.lt⟩
  · exact ⟨h.low.2.2.2, h.hc.lt⟩
  · exact World.ownsRow.lt (h.own i) k hi
theorem RSt.below (h : RSt w r gs gn gk B v d sn lf) (hb : Below w.heap.size w w') : RSt w' r gs gn gk B v d sn lf :=
  h.keep (F := fun k => w.heap.size ≤ k) (Fr.of_below hb) (fun k hk hd => by have := (h.lt hd).2; omega)
theorem RSt.size (h : RSt w r gs gn gk B v d sn lf) (i : Nat) : ∀ c ∈ sn i, c.size = 128 := fun c hc => (h.cel i c hc).size
theorem RSt.now_eq (h : RSt w r gs gn gk B v d sn lf) (i : Nat) : d.now (i : Int) = ((sn i).getLast?).getD (d.s i) := by
  unfold Dk.now
  rw [h.last]; simp
set_option maxHeartbeats 1000000 in
set_option maxRecDepth 20000 in
theorem rnow_sure (h : RSt w r gs gn gk B v d sn lf) (i : Nat) (hi : i < d.n) (he : sn i = []) : Calls Try.prog 54 #[.pointer (some ⟨r, 0, none⟩), .int .i64 i] w (ReadV (.agg (d.s i)) w) := by
  have hz := zc_zero
  have hs := zc_size
  have h2 := h.below ((Below.refl w.heap.size w).alloc (Nat.le_refl _) (.cells zc 45))
  have hX := Lib.hid (Blk.new w zc 45)
  obtain ⟨A, c, hv, _⟩ := scs_form (h2.own i)
  rw [he] at hv
  have y0 := rf0 h2.hr
  have y1 := rf1 h2.hr
  have yi : (w.alloc (.cells zc 45)).cell? ⟨gn, i, none⟩ = some (.slice A 0 c) := by rw [h2.hn.cell (row_at v d.n i hi), hv]; rfl
  have hc := h.ok.2.1 i
  have HL := Lib.hid (load_mid (d.s i) hc.size (w.alloc (.cells zc 45)) gs (i * 128) (fun j u hu => h2.hs.cell (flat_cel _ _ i hi hc j u hu)))
  have hn2 := h.ok.1.2
  have i1 : (i : Int) < (d.n : Int) := by omega
  have i2 : (0 : Int) ≤ (i : Int) := by omega
  have HC := Lib.hid hc
  have hb : Below w.heap.size w ((w.alloc (.cells zc 45)).setRow w.heap.size (d.s i)) := below_setRow ((Below.refl _ _).alloc (Nat.le_refl _) _) (Nat.le_refl _) _
  have HB := Lib.hid hb
  clear h h2 hv hc hb he
  go_enter Try.func54, Try.ntmps54
  go_wp2_with (first
    | (refine loadW rfl 45 _ rfl ⟨gs, i * 128, none⟩ rfl _ HL.out ?_)
    | (refine store_cW rfl _ _ rfl w.heap.size (d.s i) rfl rfl zc hX.out zc_size HC.out.size HC.out.all ?_)
    | fail)
  exact bodyPost_ret (results_cell_row rfl _ _ w.heap.size 45 (d.s i) (0, 0) _ rfl (hX.out.setRow _) Try.underlying45 rfl (info45 HC.out.size)) rfl ⟨rfl, HB.out⟩
set_option maxHeartbeats 1000000 in
set_option maxRecDepth 20000 in
theorem rnow_last (h : RSt w r gs gn gk B v d sn lf) (i : Nat) (hi : i < d.n) (e : Array Value) (he : (sn i).getLast? = some e) (hst : d.st ≤ 100000) : Calls Try.prog 54 #[.pointer (some ⟨r, 0, none⟩), .int .i64 i] w (ReadV (.agg e) w) := by
  have hz := zc_zero
  have hs := zc_size
  have h2 := h.below ((Below.refl w.heap.size w).alloc (Nat.le_refl _) (.cells zc 45))
  have hX := Lib.hid (Blk.new w zc 45)
  obtain ⟨A, c, hv, hat⟩ := scs_form (h2.own i)
  have hlen := h.len i
  rw [List.getLast?_eq_getElem?] at he
  obtain ⟨q, hq⟩ : ∃ q, (sn i).length = q + 1 := by
    have hle := (List.getElem?_eq_some_iff.1 he).1
    exact ⟨(sn i).length - 1, by omega⟩
  rw [hq] at hv hlen he
  rw [show q + 1 - 1 = q by omega] at he
  obtain ⟨g', hA, hg', hc'⟩ := hat q e he (h.size i)
  subst hA
  have y1 := rf1 h2.hr
  have yi : (w.alloc (.cells zc 45)).cell? ⟨gn, i, none⟩ = some (.slice (some ⟨g', 0, none⟩) (q + 1) c) := by rw [h2.hn.cell (row_at v d.n i hi), hv]
  have hc := h.cel i e (List.mem_of_getElem? he)
  have HL := Lib.hid (load_mid e hc.size (w.alloc (.cells zc 45)) g' (q * 128) (fun j u hu => hc' j u hu))
  have hn2 := h.ok.1.2
  have i1 : (i : Int) < (d.n : Int) := by omega
  have i2 : (0 : Int) ≤ (i : Int) := by omega
  have hq1 : ((q + 1 : Nat) : Int) ≤ 100000 := by omega
  have HC := Lib.hid hc
  have hb : Below w.heap.size w ((w.alloc (.cells zc 45)).setRow w.heap.size e) := below_setRow ((Below.refl _ _).alloc (Nat.le_refl _) _) (Nat.le_refl _) _
  have HB := Lib.hid hb
  clear h h2 hv hc hb he hat hc' hq hlen
  go_enter Try.func54, Try.ntmps54
  go_wp2_with (first
    | (refine loadW rfl 45 _ rfl ⟨g', q * 128, none⟩ rfl _ HL.out ?_)
    | (refine store_cW rfl _ _ rfl w.heap.size e rfl rfl zc hX.out zc_size HC.out.size HC.out.all ?_)
    | fail)
  exact bodyPost_ret (results_cell_row rfl _ _ w.heap.size 45 e (0, 0) _ rfl (hX.out.setRow _) Try.underlying45 rfl (info45 HC.out.size)) rfl ⟨rfl, HB.out⟩
theorem rnow_any (h : RSt w r gs gn gk B v d sn lf) (i : Nat) (hi : i < d.n) (hst : d.st ≤ 100000) : Calls Try.prog 54 #[.pointer (some ⟨r, 0, none⟩), .int .i64 i] w (ReadV (.agg (d.now i)) w) := by
  rw [h.now_eq]
  cases hl : (sn i).getLast? with
  | none =>
    rw [List.getLast?_eq_none_iff] at hl
    exact rnow_sure h i hi hl
  | some e => exact rnow_last h i hi e hl hst
end
end Go.Proofs.Ythfhilinajemhaa
