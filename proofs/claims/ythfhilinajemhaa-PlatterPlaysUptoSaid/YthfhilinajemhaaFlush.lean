/-
  Flush: no such sectors; the power gone; made sure.
-/
import Derived.Test.YthfhilinajemhaaSettle
namespace Go.Proofs.Ythfhilinajemhaa
open Go.RowKit
open Go.Maps (Keyed int_keyed)
set_option linter.unusedVariables false

theorem Disk.drewN {w : World} {p m g gc : Nat} {d : Dk} (h : Disk w p m g gc d) (j : Nat) : Disk (w.drewN j) p m g gc d := h.below (Below.drewN (Below.refl _ _) j)
theorem two_boxes (w : World) (x y : Array Value) (t u : TypeId) : Below w.heap.size w ((w.alloc (.cells x t)).alloc (.cells y u)) ∧ Blk ((w.alloc (.cells x t)).alloc (.cells y u)) w.heap.size x t ∧ Blk ((w.alloc (.cells x t)).alloc (.cells y u)) (w.heap.size + 1) y u ∧ ((w.alloc (.cells x t)).alloc (.cells y u)).heap.size = w.heap.size + 2 :=
  ⟨((Below.refl _ _).alloc (Nat.le_refl _) _).alloc (by simp) _, (Blk.new _ _ _).alloc _, blk_new' (by simp), by simp⟩
theorem flush_nil (a n : Int) (w : World) : Calls Try.prog 19 #[.pointer none, .int .i64 a, .int .i64 n] w fun e w' => e = .returned (errP 1) ∧ Below w.heap.size w w' := by
  obtain ⟨hb, k1, k2, hs⟩ := two_boxes w #[.int .i64 a] #[.int .i64 n] 3 3
  have x1 := k1.cell (j := 0) (v := .int .i64 a) rfl
  have x2 := k2.cell (j := 0) (v := .int .i64 n) rfl
  have HB := Lib.hid hb
  clear hb k1 k2 hs
  unfold errP
  by_cases ha : a < 0
  · go_enter Try.func19, Try.ntmps19
    go_wp2_with fail
    go_quiet (fail)
    go_wp2
    go_ret
    exact ⟨rfl, Below.drewN HB.out _⟩
  by_cases hn : n < 0
  · have d1 : decide (a < 0) = false := decide_eq_false ha
    go_enter Try.func19, Try.ntmps19
    go_wp2_with fail
    go_quiet (fail)
    go_wp2
    go_ret
    exact ⟨rfl, Below.drewN HB.out _⟩
  · have d1 : decide (a < 0) = false := decide_eq_false ha
    have d2 : decide (n < 0) = false := decide_eq_false hn
    go_enter Try.func19, Try.ntmps19
    go_wp2_with fail
    go_quiet (fail)
    go_wp2
    go_ret
    exact ⟨rfl, Below.drewN HB.out _⟩
/-- the fuse and the steps anew -/
def Dk.set (d : Dk) (ar : Bool) (lf : Int) (dn : Bool) (st : Int) : Dk := { d with ar := ar, lf := lf, dn := dn, st := st }
def Dk.downed (d : Dk) : Dk := d.set d.ar d.lf true d.st
def Dk.stepped (d : Dk) : Dk := d.set d.ar (d.lf - 1) d.dn (d.st + 1)
theorem Disk.set {w w' : World} {p m g gc : Nat} {d : Dk} (h : Disk w p m g gc d) {ar dn : Bool} {lf st : Int} (hp : Blk w' p (plA ar lf dn (.slice (some ⟨g, 0, none⟩) d.n d.n) (.map (some m)) (.slice (some ⟨gc, 0, none⟩) d.k d.k) st) 90) (hf : Fr (fun k => k = p) w w') :
    Disk w' p m g gc (d.set ar lf dn st) :=
  ⟨hp, hf.blk h.g h.pg, hf.map h.m (fun e => h.pm e.symm), hf.blk h.c h.pc, h.ok⟩
/-- the power is gone, or goes -/
def Dk.off (d : Dk) : Prop := d.dn = true ∨ (d.ar = true ∧ d.lf = 0)
theorem Dk.on {d : Dk} (h : ¬ d.off) : d.dn = false ∧ ¬ (d.ar = true ∧ d.lf = 0) := by
  unfold Dk.off at h
  refine ⟨?_, fun e => h (.inr e)⟩
  cases hd : d.dn
  · rfl
  · exact absurd (.inl hd) h
def Dk.room (d : Dk) : Prop := (0 ≤ d.st ∧ d.st < 1000000) ∧ (-1000000 < d.lf ∧ ok64 d.lf)
theorem Dk.room_lf {d : Dk} (h : d.room) : ok64 (d.lf - 1) := by
  obtain ⟨_, h1, h2, h3⟩ := h
  exact ⟨by omega, by omega⟩
def ErrB (n : Int) (w : World) (e : Ending) (w' : World) : Prop := e = .returned (errP n) ∧ Below w.heap.size w w'
def Downed (w : World) (p m g gc : Nat) (d : Dk) (e : Ending) (w' : World) : Prop := e = .returned (errP 5) ∧ Disk w' p m g gc d.downed ∧ Fr (fun k => k = p) w w'
theorem stepd_no {w : World} {p m g gc : Nat} {d : Dk} (h : Disk w p m g gc d) (ho : d.off) : Calls Try.prog 45 #[.pointer (some ⟨p, 0, none⟩)] w (Downed w p m g gc d) :=
  (step_no h.p ho).mono fun _ _ ⟨he, hb, hf⟩ => ⟨he, h.set hb hf, hf⟩
def Stepped (w : World) (p m g gc : Nat) (d : Dk) (e : Ending) (w' : World) : Prop := e = .returned .nilIface ∧ Disk w' p m g gc d.stepped ∧ Fr (fun k => k = p) w w'
theorem stepd_yes {w : World} {p m g gc : Nat} {d : Dk} (h : Disk w p m g gc d) (ho : ¬ d.off) (hr : d.room) : Calls Try.prog 45 #[.pointer (some ⟨p, 0, none⟩)] w (Stepped w p m g gc d) := by
  obtain ⟨h1, h2⟩ := Dk.on ho
  have hp := h.p
  rw [h1] at hp
  refine (step_yes hp h2 hr.1 (Dk.room_lf hr)).mono fun _ _ ⟨he, hb, hf⟩ => ⟨he, ?_, hf⟩
  have := h.set hb hf
  unfold Dk.stepped
  rw [h1]; exact this
theorem flush_no {w : World} {p m g gc : Nat} {d : Dk} (hd : Disk w p m g gc d) (a n : Int) (ha64 : ok64 a) (hn64 : ok64 n) (h : ¬ (0 ≤ a ∧ 0 ≤ n ∧ n ≤ d.n - a)) : Calls Try.prog 19 #[.pointer (some ⟨p, 0, none⟩), .int .i64 a, .int .i64 n] w (ErrB 1 w) := by
  obtain ⟨hb, k1, k2, hs⟩ := two_boxes w #[.int .i64 a] #[.int .i64 n] 3 3
  have x1 := k1.cell (j := 0) (v := .int .i64 a) rfl
  have x2 := k2.cell (j := 0) (v := .int .i64 n) rfl
  have HB := Lib.hid hb
  have hp := (hd.below hb).p
  have hn2 := hd.ok.1.2
  unfold ok64 at ha64 hn64
  clear hb k1 k2 hs
  by_cases ha : a < 0
  · clear hd h hp
    go_enter Try.func19, Try.ntmps19
    go_wp2_with fail
    go_quiet (fail)
    go_wp2
    go_ret
    exact ⟨rfl, Below.drewN HB.out _⟩
  by_cases hn : n < 0
  · have d1 : decide (a < 0) = false := decide_eq_false ha
    clear hd h hp
    go_enter Try.func19, Try.ntmps19
    go_wp2_with fail
    go_quiet (fail)
    go_wp2
    go_ret
    exact ⟨rfl, Below.drewN HB.out _⟩
  · have d1 : decide (a < 0) = false := decide_eq_false ha
    have d2 : decide (n < 0) = false := decide_eq_false hn
    have d3 : d.n - a < n := by omega
    have e1 : IntKind.i64.wrap ((d.n : Int) - a) = (d.n : Int) - a := wrap_ok ⟨by omega, by omega⟩
    have C : ∀ j, Calls Try.prog 43 #[.pointer (some ⟨p, 0, none⟩)] (World.drewN _ j) fun e w' => e = .returned (.int .i64 d.n) ∧ w' = World.drewN _ j := fun j => size_any (hp.drewN j)
    have HC := Lib.hid C
    clear hd h hp C
    go_enter Try.func19, Try.ntmps19
    go_wp2_with fail
    go_quiet ((go_at_call 43; exact Calls.quiet_of_same (HC.out _)))
    go_wp2
    go_ret
    exact ⟨rfl, Below.drewN HB.out _⟩
theorem flush_down {w : World} {p m g gc : Nat} {d : Dk} (hd : Disk w p m g gc d) (a n : Int) (ha64 : ok64 a) (hn64 : ok64 n) (ha : 0 ≤ a) (hn : 0 ≤ n) (han : n ≤ d.n - a) (ho : d.off) : Calls Try.prog 19 #[.pointer (some ⟨p, 0, none⟩), .int .i64 a, .int .i64 n] w (Downed w p m g gc d) := by
  obtain ⟨hb, k1, k2, hs⟩ := two_boxes w #[.int .i64 a] #[.int .i64 n] 3 3
  have x1 := k1.cell (j := 0) (v := .int .i64 a) rfl
  have x2 := k2.cell (j := 0) (v := .int .i64 n) rfl
  have HB := Lib.hid hb
  have hp := (hd.below hb).p
  have HD := Lib.hid (hd.below hb)
  have HO := Lib.hid ho
  have hn2 := hd.ok.1.2
  unfold ok64 at ha64 hn64
  clear hb k1 k2 hs
  have d1 : decide (a < 0) = false := decide_eq_false (by omega)
  have d2 : decide (n < 0) = false := decide_eq_false (by omega)
  have d3 : ¬ d.n - a < n := by omega
  have e1 : IntKind.i64.wrap ((d.n : Int) - a) = (d.n : Int) - a := wrap_ok ⟨by omega, by omega⟩
  have C : ∀ j, Calls Try.prog 43 #[.pointer (some ⟨p, 0, none⟩)] (World.drewN _ j) fun e w' => e = .returned (.int .i64 d.n) ∧ w' = World.drewN _ j := fun j => size_any (hp.drewN j)
  have HC := Lib.hid C
  clear hd hp C ho
  go_enter Try.func19, Try.ntmps19
  go_wp2_with fail
  go_quiet ((go_at_call 43; exact Calls.quiet_of_same (HC.out _)))
  have hdj := Disk.drewN HD.out nq
  go_wp2_with (first | (go_at_call 45; refine (stepd_no hdj HO.out).mono ?_; rintro e w' ⟨rfl, hd', hf'⟩; unfold errP) | fail)
  go_ret
  exact ⟨rfl, hd', ((Fr.of_below (Below.drewN HB.out _) : Fr (fun k => k = p) w _)).trans hf' (fun _ h => .inl h)⟩
def Flushed (w : World) (p m g gc : Nat) (d : Dk) (a n : Int) (e : Ending) (w' : World) : Prop := e = .returned .nilIface ∧ Disk w' p m g gc (d.stepped.settled (inR a n)) ∧ Fr (fun k => k = p ∨ k = m ∨ k = g) w w'
theorem flush_yes {w : World} {p m g gc : Nat} {d : Dk} (hd : Disk w p m g gc d) (a n : Int) (ha64 : ok64 a) (hn64 : ok64 n) (ha : 0 ≤ a) (hn : 0 ≤ n) (han : n ≤ d.n - a) (ho : ¬ d.off) (hr : d.room) : Calls Try.prog 19 #[.pointer (some ⟨p, 0, none⟩), .int .i64 a, .int .i64 n] w (Flushed w p m g gc d a n) := by
  obtain ⟨hb, k1, k2, hs⟩ := two_boxes w #[.int .i64 a] #[.int .i64 n] 3 3
  have hmf : ∀ (fn : Fn) (first cap : Array Value) (w : World), (Instr.makeFunc fn first cap).run Try.prog w = .ok (.func fn first cap) w := fun _ _ _ _ => rfl
  have x1 := k1.cell (j := 0) (v := .int .i64 a) rfl
  have x2 := k2.cell (j := 0) (v := .int .i64 n) rfl
  have HB := Lib.hid hb
  have hp := (hd.below hb).p
  have HD := Lib.hid (hd.below hb)
  have HD0 := Lib.hid hd
  have HO := Lib.hid ho
  have HR := Lib.hid hr
  have hn2 := hd.ok.1.2
  have K1 := Lib.hid k1
  have K2 := Lib.hid k2
  unfold ok64 at ha64 hn64
  clear hb k1 k2 hs
  have d1 : decide (a < 0) = false := decide_eq_false (by omega)
  have d2 : decide (n < 0) = false := decide_eq_false (by omega)
  have d3 : ¬ d.n - a < n := by omega
  have e1 : IntKind.i64.wrap ((d.n : Int) - a) = (d.n : Int) - a := wrap_ok ⟨by omega, by omega⟩
  have C : ∀ j, Calls Try.prog 43 #[.pointer (some ⟨p, 0, none⟩)] (World.drewN _ j) fun e w' => e = .returned (.int .i64 d.n) ∧ w' = World.drewN _ j := fun j => size_any (hp.drewN j)
  have HC := Lib.hid C
  clear hd hp C ho hr
  go_enter Try.func19, Try.ntmps19
  go_wp2_with fail
  go_quiet ((go_at_call 43; exact Calls.quiet_of_same (HC.out _)))
  have hdj := Disk.drewN HD.out nq
  go_wp2_with (first
    | (go_at_call 45; refine (stepd_yes hdj HO.out HR.out).mono ?_; rintro e w' ⟨rfl, hd', hf'⟩; have HD' := Lib.hid hd'; have HF' := Lib.hid hf'; clear hd' hf' hdj)
    | fail)
  have fW : Fr (fun k => k = p) ((w.alloc (Obj.cells #[Value.int IntKind.i64 a] 3)).alloc (Obj.cells #[Value.int IntKind.i64 n] 3)) w' := ⟨HF'.out.os, HF'.out.tape, HF'.out.output, HF'.out.size, HF'.out.block⟩
  have q1 := fW.blk K1.out (fun e => by have := HD0.out.p.lt; omega)
  have q2 := fW.blk K2.out (fun e => by have := HD0.out.p.lt; omega)
  have lm := HD0.out.m.lt
  have lg := HD0.out.g.lt
  have fo : Fr (fun k => k = p ∨ k = m ∨ k = g) w w' := ((Fr.of_below HB.out : Fr (fun k => k = p) w _).trans fW (fun _ h => Or.inl h)).weak (fun _ h => Or.inl h)
  refine (settle_any (gw := 50) (enters_of Try.func50 (by kernel_rfl) rfl) (inR a n) HD'.out (fun i _ _ => flush1_tells q1 q2 (by omega) (by omega) ⟨ha, by omega⟩ ⟨hn, by omega⟩ i)).mono ?_
  rintro e w2 ⟨rfl, hd2, hf2⟩
  have FO := Lib.hid (fo.trans hf2 (fun _ h => .inl (.inr h)))
  have HD2 := Lib.hid hd2
  clear hd2 hf2 fo fW q1 q2
  go_wp2
  go_ret
  exact ⟨rfl, HD2.out, FO.out⟩
end Go.Proofs.Ythfhilinajemhaa
