/-
  The document's disk: a sector settled.
-/
import Derived.Test.YthfhilinajemhaaRef3
namespace Go.Proofs.Ythfhilinajemhaa
open Go.RowKit
open Go.Maps (Keyed int_keyed)
set_option linter.unusedVariables false

def updN (sn : Nat → List (Array Value)) (i : Nat) (L : List (Array Value)) : Nat → List (Array Value) := fun k => if k = i then L else sn k
def only (i : Nat) (x : Int) : Bool := decide (x = i)
theorem own_cells {w : World} {base : Nat} {e : TypeId} {size : Nat} {v : Value} {n : Nat} {xs : List Value} (h : w.ownsRow base e size v n xs) {b : Nat} (hb : v.ownBlock = some b) : ∃ cs, Blk w b cs e ∧ base ≤ b := by
  rcases h.2 with ⟨h1, h2⟩ | ⟨g, cap, cur, h0, h3, hg, _⟩
  · rw [h1] at hb; cases hb
  · rw [h0] at hb
    cases hb
    exact ⟨cur, hg, h3⟩
section
variable {w w' : World} {r gs gn gk B : Nat} {v : Nat → Value} {d : Dk} {sn : Nat → List (Array Value)} {lf : Int}
theorem RSt.ne_r (h : RSt w r gs gn gk B v d sn lf) (i : Nat) : (v i).ownBlock ≠ some r := fun e => by
  obtain ⟨cs, hb, _⟩ := own_cells (h.own i) e
  exact (hb.ne h.hr (by decide)) rfl
theorem RSt.ne_n (h : RSt w r gs gn gk B v d sn lf) (i : Nat) : (v i).ownBlock ≠ some gn := fun e => by
  obtain ⟨cs, hb, _⟩ := own_cells (h.own i) e
  exact (hb.ne h.hn (by decide)) rfl
theorem RSt.ne_k (h : RSt w r gs gn gk B v d sn lf) (i : Nat) : (v i).ownBlock ≠ some gk := fun e => by
  obtain ⟨cs, hb, _⟩ := own_cells (h.own i) e
  exact (hb.ne h.hc (by decide)) rfl
theorem RSt.d_rs (h : RSt w r gs gn gk B v d sn lf) : r ≠ gs := h.hr.ne h.hs (by decide)
theorem RSt.d_rn (h : RSt w r gs gn gk B v d sn lf) : r ≠ gn := h.hr.ne h.hn (by decide)
theorem RSt.d_rk (h : RSt w r gs gn gk B v d sn lf) : r ≠ gk := h.hr.ne h.hc (by decide)
theorem RSt.d_sn (h : RSt w r gs gn gk B v d sn lf) : gs ≠ gn := h.hs.ne h.hn (by decide)
theorem RSt.d_sk (h : RSt w r gs gn gk B v d sn lf) : gs ≠ gk := h.hs.ne h.hc (by decide)
theorem RSt.d_nk (h : RSt w r gs gn gk B v d sn lf) : gn ≠ gk := h.hn.ne h.hc (by decide)
theorem RSt.fixed (h : RSt w r gs gn gk B v d sn lf) (i : Nat) (hi : i < d.n) (hs : Blk w' gs (flat d.n (updS d.s i (d.now i))) 45) (hn : Blk w' gn (row (upd v i (.slice none 0 0)) d.n) 74) (hf : Fr (fun k => k = gs ∨ k = gn) w w') :
    RSt w' r gs gn gk B (upd v i (.slice none 0 0)) (d.settled (only i)) (updN sn i []) lf := by
  have hB : B ≤ w'.heap.size := Nat.le_trans h.low.1 (Nat.le_trans (Nat.le_of_lt h.hr.lt) hf.size)
  refine ⟨hf.blk h.hr (fun e => e.elim h.d_rs h.d_rn), ?_, hn, hf.blk h.hc (fun e => e.elim (fun e => h.d_sk e.symm) (fun e => h.d_nk e.symm)), ?_, ?_, ?_, ?_, ?_, h.low, h.left, ?_, Dk.settled_ok h.ok _⟩
  · show Blk w' gs (flat d.n (setS d (only i))) 45
    rw [flat_congr (s' := updS d.s i (d.now i))]
    · exact hs
    · intro k hk
      unfold setS updS only Dk.now
      by_cases e : k = i
      · subst e; simp
      · rw [if_neg (by simpa using (by omega : ¬ (k : Int) = (i : Int))), if_neg e]
  · intro j
    unfold upd updN
    by_cases e : j = i
    · subst e
      rw [if_pos rfl, if_pos rfl]
      exact World.ownsRow_nil _ _ _ _
    · rw [if_neg e, if_neg e]
      exact Fr.own hf (h.own j) (fun k hk hF => hF.elim (fun e => h.off j (e ▸ hk)) (fun e => h.ne_n j (e ▸ hk)))
  · intro j k b hj hk
    unfold upd at hj hk
    by_cases e : j = i
    · rw [if_pos e] at hj; cases hj
    · by_cases e' : k = i
      · rw [if_pos e'] at hk; cases hk
      · rw [if_neg e] at hj; rw [if_neg e'] at hk; exact h.apart j k b hj hk
  · intro j
    unfold upd
    by_cases e : j = i
    · rw [if_pos e]; exact fun e => by cases e
    · rw [if_neg e]; exact h.off j
  · intro j c hc
    unfold updN at hc
    by_cases e : j = i
    · rw [if_pos e] at hc; cases hc
    · rw [if_neg e] at hc; exact h.cel j c hc
  · intro j
    show setOp d (only i) (j : Int) = _
    unfold setOp only updN
    by_cases e : j = i
    · subst e; simp
    · rw [if_neg (by simpa using (by omega : ¬ (j : Int) = (i : Int))), if_neg e]; exact h.last j
  · intro j
    show ((updN sn i [] j).length : Int) ≤ d.st
    unfold updN
    have := h.len j
    by_cases e : j = i
    · rw [if_pos e, List.length_nil]; omega
    · rw [if_neg e]; exact this
def RSettled (w : World) (r gs gn gk B : Nat) (v : Nat → Value) (d : Dk) (sn : Nat → List (Array Value)) (lf : Int) (i : Nat) (e : Ending) (w' : World) : Prop := e = .returned (.tuple #[]) ∧ RSt w' r gs gn gk B (upd v i (.slice none 0 0)) (d.settled (only i)) (updN sn i []) lf ∧ Fr (fun k => k = gs ∨ k = gn) w w'
set_option maxHeartbeats 1000000 in
set_option maxRecDepth 20000 in
theorem rsettle (h : RSt w r gs gn gk B v d sn lf) (i : Nat) (hi : i < d.n) (hst : d.st ≤ 100000) : Calls Try.prog 53 #[.pointer (some ⟨r, 0, none⟩), .int .i64 i] w (RSettled w r gs gn gk B v d sn lf i) := by
  have h1 := h.below (Below.drew (Below.refl w.heap.size w))
  have HN := Lib.hid (rnow_any h1 i hi hst)
  have y0 := rf0 h.hr
  have hn2 := h.ok.1.2
  have i1 : (i : Int) < (d.n : Int) := by omega
  have i2 : (0 : Int) ≤ (i : Int) := by omega
  have hc0 : Cel (d.now i) := by
    unfold Dk.now
    cases ho : d.op i with
    | none => exact h.ok.2.1 i
    | some c => exact (h.ok.2.2 _ c ho).2.2
  obtain ⟨c, ec⟩ : ∃ c, c = d.now i := ⟨_, rfl⟩
  rw [← ec] at HN hc0
  have hc := hc0
  have EC := Lib.hid ec
  clear ec hc0
  have H := Lib.hid h1
  have HN' := Lib.hid h
  have hl : c.toList.length = 128 := by rw [Array.length_toList]; exact hc.size
  have T : w.drew.there gs (i * 128) c.toList.length := by rw [hl]; exact there_flat h1.hs i hi
  have I : Option.map (fun x => x.size) (Try.prog.info? 45) = some c.toList.length := by rw [hl]; kernel_rfl
  have A : ∀ v ∈ c.toList, v.oneCell' = true := fun v hv => by
    have := Array.all_eq_true_iff_forall_mem.1 hc.all v (by simpa using hv)
    exact this
  have HC := Lib.hid hc
  clear h h1 hc hl T
  go_enter Try.func53, Try.ntmps53
  go_wp2
  go_region_held3 (fun W => W.cell? ⟨r, 0, none⟩ = some (.slice (some ⟨gs, 0, none⟩) d.n d.n)) (first | exact y0 | exact y2 | exact y3 | fail) (first
    | (go_at_call 54; refine HN.out.mono ?_; rintro e W2 ⟨rfl, hb2⟩; have H2 := Lib.hid (H.out.below hb2); have B2 := Lib.hid hb2; have y2 := rf0 H2.out.hr; have T2 : W2.there gs (i * 128) c.toList.length := (by rw [Array.length_toList, HC.out.size]; exact there_flat H2.out.hs i hi); have y3 : (W2.setCells gs (i * 128) c.toList).cell? ⟨r, 0, none⟩ = some (.slice (some ⟨gs, 0, none⟩) d.n d.n) := rf0 ((Fr.setCells gs _ _ _).blk H2.out.hr H2.out.d_rs); clear hb2)
    | fail)
  have HS3 : Blk (W2.setCells gs (i * 128) c.toList) gs (flat d.n (updS d.s i c)) 45 := by
    rw [← putAll_flat d.n d.s i c hi HC.out.size]
    exact H2.out.hs.setCells
  have F3 : Fr (fun k => k = gs) W2 (W2.setCells gs (i * 128) c.toList) := Fr.setCells gs _ _ _
  generalize W2.setCells gs (i * 128) c.toList = W3 at *
  have HN3 := F3.blk H2.out.hn (fun e => H2.out.d_sn e.symm)
  have y4 := rf1 (F3.blk H2.out.hr H2.out.d_rs)
  have y5 := HN3.cell (row_at v d.n i hi)
  have f5 := HN3.frozen i
  have HN4 := HN3.set i (.slice none 0 0)
  rw [row_set] at HN4
  have F4 := Fr.cell W3 gn i (.slice none 0 0)
  have HS4 := F4.blk HS3 H2.out.d_sn
  have FA : Fr (fun k => k = gs ∨ k = gn) w (W3.setCell ⟨gn, i, none⟩ (.slice none 0 0)) := by
    have f0 : Fr (fun k => k = gs ∨ k = gn) w w.drew := Fr.of_below (Below.drew (Below.refl w.heap.size w))
    have f1 : Fr (fun k => k = gs ∨ k = gn) w.drew W2 := Fr.of_below B2.out
    exact ((f0.trans f1 (fun _ h => .inl h)).trans F3 (fun _ h => .inl (.inl h))).trans F4 (fun _ h => .inl (.inr h))
  have R := HN'.out.fixed i hi (by rw [← EC.out]; exact HS4) HN4 FA
  have RR := Lib.hid R
  have FF := Lib.hid FA
  clear R FA HS4 HN4 F4 HN3 F3 HS3 T2 y2 y3 H2 B2 HC EC H HN' HN A I
  go_wp2
  go_end0
  exact ⟨rfl, RR.out, FF.out⟩
end
end Go.Proofs.Ythfhilinajemhaa
