/-
  A disk's calls, by its state: New, Write, Read, Raise, Counter, Arm, Steps, Down, Size.
-/
import Derived.Test.YthfhilinajemhaaCrash
namespace Go.Proofs.Ythfhilinajemhaa
open Go.RowKit
open Go.Maps (Keyed int_keyed)
set_option linter.unusedVariables false

def d0 (n k : Nat) : Dk := ⟨n, fun _ => zc, fun _ => none, k, fun _ => 0, false, 0, false, 0⟩
def NewD (w : World) (n k : Nat) (e : Ending) (w' : World) : Prop := ∃ p m g gc, e = .returned (.tuple #[.pointer (some ⟨p, 0, none⟩), .nilIface]) ∧ Disk w' p m g gc (d0 n k) ∧ Below w.heap.size w w' ∧ ∀ i, Dl p m g gc i → w.heap.size ≤ i
theorem zeroK_row (k : Nat) : zeroK k = row (fun _ => .int .i64 0) k := by
  apply Array.ext_getElem?
  intro i
  unfold zeroK madeCells
  by_cases hi : i < k
  · rw [row_at _ _ _ hi, Array.getElem?_map, Array.getElem?_eq_getElem (by simpa using hi)]; simp [Nat.mod_one]
  · rw [row_none _ _ _ (by omega)]; simp; omega
theorem new_d (n k : Nat) (hn : 1 ≤ n ∧ n ≤ 2048) (hk : 1 ≤ k ∧ k ≤ 16) (w : World) : Calls Try.prog 12 #[.int .i64 n, .int .i64 k] w (NewD w n k) :=
  (new_any n k hn hk w).mono fun e w' ⟨p, g, m, gc, he, h1, h2, h3, h4, hb, b1, b2, b3, b4⟩ =>
    ⟨p, m, g, gc, he, ⟨h1, by rw [flat_zero] at h2; exact h2, map_fun h3 (fun x => by rw [show (d0 n k).op = fun _ => none from rfl, opn_none]), by rw [zeroK_row] at h4; exact h4, hn, fun _ => Cel.zero, fun i c h => by cases h⟩, hb, fun i hi => by rcases hi with rfl | rfl | rfl | rfl <;> assumption⟩

/-! ### Write -/
def Dk.put (d : Dk) (i : Int) (c : Array Value) : Dk := { d with op := fun j => if j = i then some c else d.op j }
def Written (w : World) (p m g gc : Nat) (d : Dk) (i : Int) (c : Array Value) (e : Ending) (w' : World) : Prop := e = .returned .nilIface ∧ Disk w' p m g gc (d.stepped.put i c) ∧ Fr (fun k => k = p ∨ k = m) w w'
theorem writed_no {w : World} {p m g gc : Nat} {d : Dk} (h : Disk w p m g gc d) (i : Int) (c : Array Value) (hc : Cel c) (hi : ¬ (0 ≤ i ∧ i < d.n)) : Calls Try.prog 18 #[.pointer (some ⟨p, 0, none⟩), .int .i64 i, .agg c] w (ErrB 1 w) :=
  (write_none i c hc.size hi h.p).mono fun _ _ h => h
theorem writed_down {w : World} {p m g gc : Nat} {d : Dk} (h : Disk w p m g gc d) (i : Int) (c : Array Value) (hc : Cel c) (hi : 0 ≤ i ∧ i < d.n) (ho : d.off) : Calls Try.prog 18 #[.pointer (some ⟨p, 0, none⟩), .int .i64 i, .agg c] w (Downed w p m g gc d) :=
  (write_down i c hc.size hi h.p ho).mono fun _ _ ⟨he, hb, hf⟩ => ⟨he, h.set hb hf, hf⟩
theorem writed_yes {w : World} {p m g gc : Nat} {d : Dk} (h : Disk w p m g gc d) (i : Int) (c : Array Value) (hc : Cel c) (hi : 0 ≤ i ∧ i < d.n) (ho : ¬ d.off) (hr : d.room) : Calls Try.prog 18 #[.pointer (some ⟨p, 0, none⟩), .int .i64 i, .agg c] w (Written w p m g gc d i c) := by
  obtain ⟨h1, h2⟩ := Dk.on ho
  have hp := h.p
  have hn := h.ok.1.2
  rw [h1] at hp
  refine (write_yes i ⟨by omega, by omega⟩ c hc.size hi hp h.m h2 hr.1 (Dk.room_lf hr)).mono fun _ w' ⟨he, hb, ⟨f, hm, hf1, hf2⟩, hf⟩ => ⟨he, ⟨?_, ?_, ?_, ?_, ?_⟩, hf⟩
  · have : d.stepped.dn = false := h1
    show Blk w' p (plA d.ar (d.lf - 1) d.dn _ _ _ (d.st + 1)) 90
    rw [h1]; exact hb
  · exact hf.blk h.g (fun e => e.elim h.pg h.gm)
  · refine map_fun hm (fun x => ?_)
    by_cases hx : x = .int .i64 i
    · subst hx
      rw [hf1]
      show Option.map _ (if i = i then some c else _) = _
      rw [if_pos rfl]; rfl
    · rw [hf2 x hx]
      unfold opn
      split
      · rename_i j
        have : j ≠ i := fun e => hx (by rw [e])
        show Option.map _ (if j = i then some c else d.op j) = _
        rw [if_neg this]
      · rfl
  · exact hf.blk h.c (fun e => e.elim h.pc h.cm)
  · refine ⟨h.ok.1, h.ok.2.1, fun j c' hj => ?_⟩
    have : (if j = i then some c else d.op j) = some c' := hj
    split at this
    · rename_i e
      rw [e]
      cases this
      exact ⟨hi.1, hi.2, hc⟩
    · exact h.ok.2.2 j c' this

/-! ### Read -/
def Dk.now (d : Dk) (i : Int) : Array Value := (d.op i).getD (d.s i.toNat)
theorem Dk.now_cel {d : Dk} (h : d.ok) (i : Int) : Cel (d.now i) := by
  unfold Dk.now
  cases hi : d.op i with
  | none => exact h.2.1 _
  | some c => exact (h.2.2 i c hi).2.2
def ReadV (v : Value) (w : World) (e : Ending) (w' : World) : Prop := e = .returned v ∧ Below w.heap.size w w'
theorem readd_no {w : World} {p m g gc : Nat} {d : Dk} (h : Disk w p m g gc d) (i : Int) (hi : ¬ (0 ≤ i ∧ i < d.n)) : Calls Try.prog 20 #[.pointer (some ⟨p, 0, none⟩), .int .i64 i] w (ReadV (.tuple #[.agg zc, errP 1]) w) :=
  (read_none i hi h.p).mono fun _ _ h => h
theorem readd_down {w : World} {p m g gc : Nat} {d : Dk} (h : Disk w p m g gc d) (i : Int) (hi : 0 ≤ i ∧ i < d.n) (hd : d.dn = true) : Calls Try.prog 20 #[.pointer (some ⟨p, 0, none⟩), .int .i64 i] w (ReadV (.tuple #[.agg zc, errP 5]) w) := by
  have hp := h.p
  rw [hd] at hp
  exact (read_down i hi hp).mono fun _ _ h => h
theorem readd_yes {w : World} {p m g gc : Nat} {d : Dk} (h : Disk w p m g gc d) (i : Int) (hi : 0 ≤ i ∧ i < d.n) (hd : d.dn = false) : Calls Try.prog 20 #[.pointer (some ⟨p, 0, none⟩), .int .i64 i] w (ReadV (.tuple #[.agg (d.now i), .nilIface]) w) := by
  have hp := h.p
  have hn := h.ok.1.2
  rw [hd] at hp
  unfold Dk.now
  cases ho : d.op i with
  | none =>
    obtain ⟨j, rfl⟩ : ∃ j : Nat, i = j := ⟨i.toNat, by omega⟩
    have hc := h.ok.2.1 j
    refine (read_sure (i := j) ⟨by omega, by omega⟩ (by omega) hp h.m (d.s j) hc.size hc.all ?_ h.g.lt (h.row j (by omega))).mono fun _ _ h => h
    show (d.op (j : Int)).map Value.agg = none
    rw [ho]; rfl
  | some c =>
    obtain ⟨_, _, hc⟩ := h.ok.2.2 i c ho
    refine (read_open i ⟨by omega, by omega⟩ hi hp h.m c hc.size hc.all ?_).mono fun _ _ h => h
    show (d.op i).map Value.agg = some (.agg c)
    rw [ho]; rfl
/-! ### Raise, Counter, Arm, Steps, Down, Size -/
def Dk.raised (d : Dk) (i : Nat) (x : Int) : Dk := { d with ct := fun j => if j = i then x else d.ct j }
def RaisedD (w : World) (p m g gc : Nat) (d : Dk) (i : Nat) (x : Int) (e : Ending) (w' : World) : Prop := e = .returned .nilIface ∧ Disk w' p m g gc (d.stepped.raised i x) ∧ Fr (fun k => k = p ∨ k = gc) w w'
section
variable {w : World} {p m g gc : Nat} {d : Dk}
theorem Disk.ct_at (h : Disk w p m g gc d) (i : Nat) (hi : i < d.k) : w.cell? ⟨gc, i, none⟩ = some (.int .i64 (d.ct i)) := h.c.cell (row_at _ _ _ hi)
theorem raised_none (h : Disk w p m g gc d) (i x : Int) (hi : ¬ (0 ≤ i ∧ i < d.k)) : Calls Try.prog 13 #[.pointer (some ⟨p, 0, none⟩), .int .i64 i, .int .i64 x] w fun e w' => e = .returned (errP 1) ∧ w' = w := raise_none i x hi h.p
theorem raised_low (h : Disk w p m g gc d) (i : Nat) (x : Int) (hi : i < d.k) (hx : x < d.ct i) : Calls Try.prog 13 #[.pointer (some ⟨p, 0, none⟩), .int .i64 i, .int .i64 x] w fun e w' => e = .returned (errP 1) ∧ w' = w := raise_low hi hx h.p (h.ct_at i hi)
theorem raised_down (h : Disk w p m g gc d) (i : Nat) (x : Int) (hi : i < d.k) (hx : d.ct i ≤ x) (ho : d.off) : Calls Try.prog 13 #[.pointer (some ⟨p, 0, none⟩), .int .i64 i, .int .i64 x] w (Downed w p m g gc d) :=
  (raise_down hi hx h.p (h.ct_at i hi) ho).mono fun _ _ ⟨he, hb, hf⟩ => ⟨he, h.set hb hf, hf⟩
theorem raised_yes (h : Disk w p m g gc d) (i : Nat) (x : Int) (hi : i < d.k) (hx : d.ct i ≤ x) (ho : ¬ d.off) (hr : d.room) : Calls Try.prog 13 #[.pointer (some ⟨p, 0, none⟩), .int .i64 i, .int .i64 x] w (RaisedD w p m g gc d i x) := by
  obtain ⟨h1, h2⟩ := Dk.on ho
  have hp := h.p
  rw [h1] at hp
  refine (raise_yes hi hx hp h.c (row_at _ _ _ hi) h2 hr.1 (Dk.room_lf hr)).mono fun _ w' ⟨he, hb, hc, hf⟩ => ⟨he, ⟨?_, ?_, ?_, ?_, h.ok⟩, hf⟩
  · show Blk w' p (plA d.ar (d.lf - 1) d.dn _ _ _ (d.st + 1)) 90
    rw [h1]; exact hb
  · exact hf.blk h.g (fun e => e.elim h.pg (fun e => h.gc_ e.symm))
  · exact hf.map h.m (fun e => e.elim (fun e => h.pm e.symm) (fun e => h.cm e.symm))
  · rw [row_set] at hc
    have : row (fun j => Value.int .i64 ((d.stepped.raised i x).ct j)) (d.stepped.raised i x).k = row (upd (fun j => .int .i64 (d.ct j)) i (.int .i64 x)) d.k := row_congr fun j _ => by
      unfold upd
      show Value.int .i64 (if j = i then x else d.ct j) = _
      split <;> rfl
    rw [this]; exact hc
theorem counterd_no (h : Disk w p m g gc d) (i : Int) (hi : ¬ (0 ≤ i ∧ i < d.k)) : Calls Try.prog 16 #[.pointer (some ⟨p, 0, none⟩), .int .i64 i] w fun e w' => e = .returned (.tuple #[.int .i64 0, errP 1]) ∧ w' = w := counter_no i hi h.p
theorem counterd_any (h : Disk w p m g gc d) (i : Nat) (hi : i < d.k) : Calls Try.prog 16 #[.pointer (some ⟨p, 0, none⟩), .int .i64 i] w fun e w' => e = .returned (.tuple #[.int .i64 (d.ct i), .nilIface]) ∧ w' = w := counter_any hi h.p (h.ct_at i hi)
def Armd (w : World) (p m g gc : Nat) (d : Dk) (n : Int) (e : Ending) (w' : World) : Prop := e = .returned .nilIface ∧ Disk w' p m g gc (d.set true n d.dn d.st) ∧ Fr (fun k => k = p) w w'
theorem armd_yes (h : Disk w p m g gc d) (n : Int) (hn : 0 ≤ n) : Calls Try.prog 17 #[.pointer (some ⟨p, 0, none⟩), .int .i64 n] w (Armd w p m g gc d n) :=
  (arm_yes n hn h.p).mono fun _ _ ⟨he, hb, hf⟩ => ⟨he, h.set hb hf, hf⟩
theorem stepsd (h : Disk w p m g gc d) : Calls Try.prog 21 #[.pointer (some ⟨p, 0, none⟩)] w fun e w' => e = .returned (.int .i64 d.st) ∧ w' = w := steps_any h.p
theorem downd (h : Disk w p m g gc d) : Calls Try.prog 22 #[.pointer (some ⟨p, 0, none⟩)] w fun e w' => e = .returned (.bool d.dn) ∧ w' = w := down_any h.p
theorem sized (h : Disk w p m g gc d) : Calls Try.prog 43 #[.pointer (some ⟨p, 0, none⟩)] w fun e w' => e = .returned (.int .i64 d.n) ∧ w' = w := size_any h.p
end
end Go.Proofs.Ythfhilinajemhaa
