/-
  The document's disk: steps, counters and flushes.
-/
import Derived.Test.YthfhilinajemhaaRef4
namespace Go.Proofs.Ythfhilinajemhaa
open Go.RowKit
open Go.Maps (Keyed int_keyed)
set_option linter.unusedVariables false

/-- the document's disk after a call -/
def RTo (w : World) (r gs gn gk B : Nat) (v : Nat → Value) (d : Dk) (lf : Int) (w' : World) : Prop := ∃ v' sn', RSt w' r gs gn gk B v' d sn' lf ∧ Grow (Rl r gs gn gk v) (Rl r gs gn gk v') w w'
def RAns (w : World) (r gs gn gk B : Nat) (v : Nat → Value) (u : Value) (d : Dk) (lf : Int) (e : Ending) (w' : World) : Prop := e = .returned u ∧ RTo w r gs gn gk B v d lf w'
theorem rl_upd {r gs gn gk : Nat} {v : Nat → Value} {i k : Nat} (h : Rl r gs gn gk (upd v i (.slice none 0 0)) k) : Rl r gs gn gk v k := by
  rcases h with h | h | h | h | ⟨j, hj⟩
  · exact .inl h
  · exact .inr (.inl h)
  · exact .inr (.inr (.inl h))
  · exact .inr (.inr (.inr (.inl h)))
  · unfold upd at hj
    by_cases e : j = i
    · rw [if_pos e] at hj; cases hj
    · rw [if_neg e] at hj; exact .inr (.inr (.inr (.inr ⟨j, hj⟩)))
section
variable {w w' : World} {r gs gn gk B : Nat} {v : Nat → Value} {d : Dk} {sn : Nat → List (Array Value)} {lf : Int}
theorem RSettled.to {i : Nat} : ∀ e w', RSettled w r gs gn gk B v d sn lf i e w' → RAns w r gs gn gk B v (.tuple #[]) (d.settled (only i)) lf e w' := fun e w' h =>
  ⟨h.1, _, _, h.2.1, h.2.2.weak (fun k hk => hk.elim (fun h => .inr (.inl h)) (fun h => .inr (.inr (.inl h)))), fun k hk => .inl (rl_upd hk)⟩
theorem RTo.refl (h : RSt w r gs gn gk B v d sn lf) : RTo w r gs gn gk B v d lf w := ⟨v, sn, h, Fr.refl _ _, fun _ h => .inl h⟩
theorem RSt.now (h : RSt w r gs gn gk B v d sn lf) {ar dn : Bool} {lf' dlf st : Int} (hb : Blk w' r (rfA (.slice (some ⟨gs, 0, none⟩) d.n d.n) (.slice (some ⟨gn, 0, none⟩) d.n d.n) (.slice (some ⟨gk, 0, none⟩) d.k d.k) st ar lf' dn) 77) (hf : Fr (fun k => k = r) w w') (hl : ar = true → lf' = dlf) (hst : d.st ≤ st) :
    RTo w r gs gn gk B v (d.set ar dlf dn st) lf' w' :=
  ⟨v, sn, ⟨hb, hf.blk h.hs (fun e => h.d_rs e.symm), hf.blk h.hn (fun e => h.d_rn e.symm), hf.blk h.hc (fun e => h.d_rk e.symm), fun i => Fr.own hf (h.own i) (fun k hk e => h.ne_r i (e ▸ hk)), h.apart, h.off, h.cel, h.last, h.low, hl, fun i => Int.le_trans (h.len i) hst, h.ok⟩,
   hf.weak (fun k hk => .inl hk), fun k hk => .inl hk⟩
theorem rstep_off (h : RSt w r gs gn gk B v d sn lf) (ho : d.off) : Calls Try.prog 52 #[.pointer (some ⟨r, 0, none⟩)] w (RAns w r gs gn gk B v (.int .i64 5) d.downed lf) :=
  (rstep_no h.hr (ho.imp id fun ⟨a, b⟩ => ⟨a, by rw [h.left a]; exact b⟩)).mono fun e w' ⟨he, hb, hf⟩ => ⟨he, h.now hb hf h.left (Int.le_refl _)⟩
def lfS (d : Dk) (lf : Int) : Int := if d.ar = true then lf - 1 else lf
theorem RSt.moved (h : RSt w r gs gn gk B v d sn lf) {ar dn : Bool} {lf' dlf st : Int} (hb : Blk w' r (rfA (.slice (some ⟨gs, 0, none⟩) d.n d.n) (.slice (some ⟨gn, 0, none⟩) d.n d.n) (.slice (some ⟨gk, 0, none⟩) d.k d.k) st ar lf' dn) 77) (hf : Fr (fun k => k = r) w w') (hl : ar = true → lf' = dlf) (hst : d.st ≤ st) :
    RSt w' r gs gn gk B v (d.set ar dlf dn st) sn lf' :=
  ⟨hb, hf.blk h.hs (fun e => h.d_rs e.symm), hf.blk h.hn (fun e => h.d_rn e.symm), hf.blk h.hc (fun e => h.d_rk e.symm), fun i => Fr.own hf (h.own i) (fun k hk e => h.ne_r i (e ▸ hk)), h.apart, h.off, h.cel, h.last, h.low, hl, fun i => Int.le_trans (h.len i) hst, h.ok⟩
/-- the step made: all lists stand -/
def RStay (w : World) (r gs gn gk B : Nat) (v : Nat → Value) (u : Value) (d : Dk) (sn : Nat → List (Array Value)) (lf : Int) (e : Ending) (w' : World) : Prop := e = .returned u ∧ RSt w' r gs gn gk B v d sn lf ∧ Fr (fun k => k = r) w w'
theorem rstep_stay (h : RSt w r gs gn gk B v d sn lf) (ho : ¬ d.off) (hr : d.room) : Calls Try.prog 52 #[.pointer (some ⟨r, 0, none⟩)] w (RStay w r gs gn gk B v (.int .i64 0) d.stepped sn (lfS d lf)) := by
  have h1 := Dk.on ho
  have h0 := h.hr
  rw [h1.1] at h0
  refine (rstep_yes h0 (fun ⟨a, b⟩ => h1.2 ⟨a, by rw [← h.left a]; exact b⟩) hr.1 (fun a => by rw [h.left a]; exact Dk.room_lf hr)).mono ?_
  rintro e w' ⟨he, hb, hf⟩
  refine ⟨he, h.moved ?_ hf (fun a => by unfold lfS; rw [if_pos a, h.left a]) (by omega), hf⟩
  rw [h1.1]; exact hb
theorem rstep_on (h : RSt w r gs gn gk B v d sn lf) (ho : ¬ d.off) (hr : d.room) : Calls Try.prog 52 #[.pointer (some ⟨r, 0, none⟩)] w (RAns w r gs gn gk B v (.int .i64 0) d.stepped (lfS d lf)) := by
  have h1 := Dk.on ho
  have h0 := h.hr
  rw [h1.1] at h0
  refine (rstep_yes h0 (fun ⟨a, b⟩ => h1.2 ⟨a, by rw [← h.left a]; exact b⟩) hr.1 (fun a => by rw [h.left a]; exact Dk.room_lf hr)).mono ?_
  rintro e w' ⟨he, hb, hf⟩
  refine ⟨he, h.now ?_ hf (fun a => by unfold lfS; rw [if_pos a, h.left a]) (by omega)⟩
  rw [h1.1]; exact hb
theorem rraise_none (h : RSt w r gs gn gk B v d sn lf) (i x : Int) (hi : ¬ (0 ≤ i ∧ i < d.k)) : Calls Try.prog 31 #[.pointer (some ⟨r, 0, none⟩), .int .i64 i, .int .i64 x] w (RAns w r gs gn gk B v (.int .i64 1) d lf) := by
  have y2 := rf2 h.hr
  have H := Lib.hid (RTo.refl h)
  clear h
  by_cases h1 : i < 0
  · go_enter Try.func31, Try.ntmps31
    go_wp2
    go_ret
    exact ⟨rfl, H.out⟩
  · have h2 : ¬ i < (d.k : Int) := by omega
    have h3 : (d.k : Int) ≤ i := by omega
    clear hi
    go_enter Try.func31, Try.ntmps31
    go_wp2
    go_ret
    exact ⟨rfl, H.out⟩
theorem rraise_low (h : RSt w r gs gn gk B v d sn lf) (i : Nat) (x : Int) (hi : i < d.k) (hx : x < d.ct i) : Calls Try.prog 31 #[.pointer (some ⟨r, 0, none⟩), .int .i64 i, .int .i64 x] w (RAns w r gs gn gk B v (.int .i64 1) d lf) := by
  have y2 := rf2 h.hr
  have y3 := h.hc.cell (row_at _ _ i hi)
  have H := Lib.hid (RTo.refl h)
  have i1 : (i : Int) < (d.k : Int) := by omega
  have i2 : (0 : Int) ≤ (i : Int) := by omega
  clear h
  go_enter Try.func31, Try.ntmps31
  go_wp2
  go_ret
  exact ⟨rfl, H.out⟩
theorem rraise_down (h : RSt w r gs gn gk B v d sn lf) (i : Nat) (x : Int) (hi : i < d.k) (hx : d.ct i ≤ x) (ho : d.off) : Calls Try.prog 31 #[.pointer (some ⟨r, 0, none⟩), .int .i64 i, .int .i64 x] w (RAns w r gs gn gk B v (.int .i64 5) d.downed lf) := by
  have y2 := rf2 h.hr
  have y3 := h.hc.cell (row_at _ _ i hi)
  have HN := Lib.hid (rstep_off h ho)
  have i1 : (i : Int) < (d.k : Int) := by omega
  have i2 : (0 : Int) ≤ (i : Int) := by omega
  clear h
  go_enter Try.func31, Try.ntmps31
  go_wp2_with (first | (go_at_call 52; refine HN.out.mono ?_; rintro e W2 ⟨rfl, T2⟩; have TT := Lib.hid T2; clear T2) | fail)
  go_ret
  exact ⟨rfl, TT.out⟩
theorem RTo.raise {W : World} (h : RTo w r gs gn gk B v d lf W) (i : Nat) (x : Int) : RTo w r gs gn gk B v (d.raised i x) lf (W.setCell ⟨gk, i, none⟩ (.int .i64 x)) := by
  obtain ⟨v', sn', h', hg⟩ := h
  have hf := Fr.cell W gk i (.int .i64 x)
  have hc := h'.hc.set i (.int .i64 x)
  refine ⟨v', sn', ⟨hf.blk h'.hr h'.d_rk, hf.blk h'.hs h'.d_sk, hf.blk h'.hn h'.d_nk, ?_, fun i => Fr.own hf (h'.own i) (fun k hk e => h'.ne_k i (e ▸ hk)), h'.apart, h'.off, h'.cel, h'.last, h'.low, h'.left, h'.len, h'.ok⟩, hg.1.trans hf (fun j (e : j = gk) => hg.2 j (.inr (.inr (.inr (.inl e))))), hg.2⟩
  rw [row_set] at hc
  have : row (fun j => Value.int .i64 ((d.raised i x).ct j)) (d.raised i x).k = row (upd (fun j => .int .i64 (d.ct j)) i (.int .i64 x)) d.k := row_congr fun j _ => by
    unfold upd
    show Value.int .i64 (if j = i then x else d.ct j) = _
    split <;> rfl
  rw [this]; exact hc
theorem RTo.rf {W : World} (h : RTo w r gs gn gk B v d lf W) : ∃ v', Blk W r (rfA (.slice (some ⟨gs, 0, none⟩) d.n d.n) (.slice (some ⟨gn, 0, none⟩) d.n d.n) (.slice (some ⟨gk, 0, none⟩) d.k d.k) d.st d.ar lf d.dn) 77 ∧ Blk W gs (flat d.n d.s) 45 ∧ Blk W gn (row v' d.n) 74 ∧ Blk W gk (row (fun j => .int .i64 (d.ct j)) d.k) 3 := by
  obtain ⟨v', sn', h', hg⟩ := h
  exact ⟨v', h'.hr, h'.hs, h'.hn, h'.hc⟩
theorem rraise_yes (h : RSt w r gs gn gk B v d sn lf) (i : Nat) (x : Int) (hi : i < d.k) (hx : d.ct i ≤ x) (ho : ¬ d.off) (hr : d.room) : Calls Try.prog 31 #[.pointer (some ⟨r, 0, none⟩), .int .i64 i, .int .i64 x] w (RAns w r gs gn gk B v (.int .i64 0) (d.stepped.raised i x) (lfS d lf)) := by
  have y2 := rf2 h.hr
  have y3 := h.hc.cell (row_at _ _ i hi)
  have HN := Lib.hid (rstep_on h ho hr)
  have i1 : (i : Int) < (d.k : Int) := by omega
  have i2 : (0 : Int) ≤ (i : Int) := by omega
  clear h
  go_enter Try.func31, Try.ntmps31
  go_wp2_with (first | (go_at_call 52; refine HN.out.mono ?_; rintro e W2 ⟨rfl, T2⟩; have TT := Lib.hid (T2.raise i x); obtain ⟨v2, b1, b2, b3, b4⟩ := T2.rf; have z2 : W2.cell? ⟨r, 2, none⟩ = some (.slice (some ⟨gk, 0, none⟩) d.k d.k) := rf2 b1; have z3 : W2.cell? ⟨gk, i, none⟩ = some (.int .i64 (d.ct i)) := b4.cell (row_at _ _ i hi); have z4 := b4.frozen i; clear T2 b1 b2 b3 b4) | fail)
  go_ret
  exact ⟨rfl, TT.out⟩
end
end Go.Proofs.Ythfhilinajemhaa
