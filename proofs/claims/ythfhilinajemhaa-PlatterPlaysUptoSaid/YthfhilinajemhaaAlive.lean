/-
  Sectors compared; the chapter's example ('alive').
-/
import Derived.Test.YthfhilinajemhaaActs
namespace Go.Proofs.Ythfhilinajemhaa
open Go.RowKit
open Go.Maps (Keyed int_keyed)
set_option linter.unusedVariables false

def bts (b : Nat → Int) : Array Value := row (fun j => .int .u8 (b j)) 128
theorem run_eqItems_cells (d : Nat) (x y : Nat → Int) (w : World) : ∀ (is : List Nat), (∀ i ∈ is, i < 128) →
    (Op.eqItems (d + 1) 5 1 (bts x) (bts y) is).run Try.prog w = .ok (is.all fun i => x i == y i) w
  | [], _ => by simp [Op.eqItems]
  | i :: is, h => by
    have h2 : Try.prog.underlying 5 = some (.int .u8) := Try.underlying5
    have hi := h i (by simp)
    have ih := run_eqItems_cells d x y w is (fun j hj => h j (by simp [hj]))
    have p1 : ∀ c : Nat → Int, (part 5 (bts c) (i * 1)).run Try.prog w = .ok (.int .u8 (c i)) w := fun c => by
      have : (bts c)[i]? = some (.int .u8 (c i)) := row_at _ _ _ hi
      simp only [part, isAgg, Sem.run_bind, run_underlying h2, Result.andThen_ok, Sem.run_pure, Nat.mul_one, this]
      rfl
    simp only [Op.eqItems, Sem.run_bind, p1, Result.andThen_ok, run_equalIn_int w d 5 .u8 .u8 _ _ h2, List.all_cons]
    cases hfg : (x i == y i)
    · simp
    · simpa using ih
theorem bts_eq (d : Nat) (x y : Nat → Int) (w : World) : (Op.equalIn (d + 1 + 1) 45 (.agg (bts x)) (.agg (bts y))).run Try.prog w = .ok ((List.range 128).all fun i => x i == y i) w := by
  have h1 : Try.prog.underlying 45 = some (.array 128 5) := Try.underlying45
  have hs : Try.prog.info? 5 = some (Try.prog.info? 5).get! := by kernel_rfl
  have hc : Try.prog.cellsOf 5 = 1 := by kernel_rfl
  rw [run_equalIn_array w (d + 1) (bts x) (bts y) h1 hs, hc, run_eqItems_cells d x y w (List.range 128) (fun i hi => List.mem_range.1 hi)]
theorem cel_same {c : Array Value} (h : Cel c) (w : World) : (Op.equalIn 10000 45 (.agg c) (.agg c)).run Try.prog w = .ok true w := by
  obtain ⟨b, rfl⟩ := h
  have := bts_eq 9998 b b w
  rw [show ((List.range 128).all fun i => b i == b i) = true from by rw [List.all_eq_true]; intro i _; exact beq_self_eq_true _] at this
  exact this
theorem cel_diff {c e : Array Value} (h : Cel c) (h' : Cel e) (hne : c ≠ e) (w : World) : (Op.equalIn 10000 45 (.agg c) (.agg e)).run Try.prog w = .ok false w := by
  obtain ⟨b, rfl⟩ := h
  obtain ⟨b', rfl⟩ := h'
  have := bts_eq 9998 b b' w
  rw [show ((List.range 128).all fun i => b i == b' i) = false from by
    cases ha : (List.range 128).all fun i => b i == b' i
    · rfl
    · refine absurd (row_congr fun j hj => ?_) hne
      rw [List.all_eq_true] at ha
      have := ha j (List.mem_range.2 hj)
      rw [beq_iff_eq] at this
      rw [this]] at this
  exact this
/-- a sector whose first byte is x -/
def one (x : Int) : Array Value := bts (fun j => if j = 0 then x else 0)
theorem Cel.one (x : Int) : Cel (one x) := ⟨_, rfl⟩
theorem build_one (x : Int) (w : World) : (Instr.build 45 #[(0, .int .u8 x)]).run Try.prog w = .ok (.agg (one x)) w := by kernel_rfl

structure Mine (S : Nat) (w0 w : World) (p m g gc : Nat) (d : Dk) : Prop where
  disk : Disk w p m g gc d
  own : ∀ k, Dl p m g gc k → S ≤ k
  bel : Below S w0 w
  siz : S ≤ w.heap.size
section
variable {S : Nat} {w0 w w' : World} {p m g gc : Nat} {d d' : Dk}
theorem Mine.step (h : Mine S w0 w p m g gc d) {F : Nat → Prop} (hd : Disk w' p m g gc d') (hf : Fr F w w') (hF : ∀ k, F k → Dl p m g gc k) : Mine S w0 w' p m g gc d' :=
  ⟨hd, h.own, h.bel.trans (hf.below h.siz (fun k hk => h.own k (hF k hk))), Nat.le_trans h.siz hf.size⟩
theorem Mine.below (h : Mine S w0 w p m g gc d) (hb : Below w.heap.size w w') : Mine S w0 w' p m g gc d := h.step (F := fun _ => False) (h.disk.below hb) (Fr.of_below hb) (fun _ h => h.elim)
theorem Mine.keep (h : Mine S w0 w p m g gc d) {F : Nat → Prop} (hf : Fr F w w') (hF : ∀ k, F k → ¬ Dl p m g gc k ∧ S ≤ k) : Mine S w0 w' p m g gc d :=
  ⟨h.disk.keep hf (fun k hk => (hF k hk).1), h.own, h.bel.trans (hf.below h.siz (fun k hk => (hF k hk).2)), Nat.le_trans h.siz hf.size⟩
def NewM (S : Nat) (w0 w : World) (n k : Nat) (e : Ending) (w' : World) : Prop := ∃ p m g gc, e = .returned (.tuple #[.pointer (some ⟨p, 0, none⟩), .nilIface]) ∧ Mine S w0 w' p m g gc (d0 n k) ∧ Below w.heap.size w w' ∧ ∀ i, Dl p m g gc i → w.heap.size ≤ i
theorem new_m (n k : Nat) (hn : 1 ≤ n ∧ n ≤ 2048) (hk : 1 ≤ k ∧ k ≤ 16) (hb : Below S w0 w) (hS : S ≤ w.heap.size) : Calls Try.prog 12 #[.int .i64 n, .int .i64 k] w (NewM S w0 w n k) :=
  (new_d n k hn hk w).mono fun _ w' ⟨p, m, g, gc, he, h1, h2, h3⟩ => ⟨p, m, g, gc, he, ⟨h1, fun i hi => Nat.le_trans hS (h3 i hi), hb.trans (h2.mono hS), Nat.le_trans hS h2.size⟩, h2, h3⟩
/-- what a call leaves: its answer, the disk anew, the world in which it is -/
def Left (S : Nat) (w0 : World) (p m g gc : Nat) (v : Value) (d : Dk) (e : Ending) (w' : World) : Prop := e = .returned v ∧ Mine S w0 w' p m g gc d
/-- .. and how it came of the world before -/
def LeftF (S : Nat) (w0 w : World) (p m g gc : Nat) (v : Value) (d : Dk) (e : Ending) (w' : World) : Prop := e = .returned v ∧ Mine S w0 w' p m g gc d ∧ Fr (Dl p m g gc) w w'
theorem LeftF.left {v : Value} : ∀ e w', LeftF S w0 w p m g gc v d e w' → Left S w0 p m g gc v d e w' := fun _ _ h => ⟨h.1, h.2.1⟩
theorem dl_p {k : Nat} (h : k = p) : Dl p m g gc k := .inl h
theorem dl_pm {k : Nat} (h : k = p ∨ k = m) : Dl p m g gc k := h.elim .inl (fun h => .inr (.inl h))
theorem dl_pmg {k : Nat} (h : k = p ∨ k = m ∨ k = g) : Dl p m g gc k := h.elim .inl (fun h => .inr (h.elim .inl (fun h => .inr (.inl h))))
theorem dl_pc {k : Nat} (h : k = p ∨ k = gc) : Dl p m g gc k := h.elim .inl (fun h => .inr (.inr (.inr h)))
theorem write_m (h : Mine S w0 w p m g gc d) (i : Int) (c : Array Value) (hc : Cel c) (hi : 0 ≤ i ∧ i < d.n) (ho : ¬ d.off) (hr : d.room) : Calls Try.prog 18 #[.pointer (some ⟨p, 0, none⟩), .int .i64 i, .agg c] w (LeftF S w0 w p m g gc .nilIface (d.stepped.put i c)) :=
  (writed_yes h.disk i c hc hi ho hr).mono fun _ _ ⟨he, hd, hf⟩ => ⟨he, h.step hd hf (fun _ h => dl_pm h), hf.weak (fun _ h => dl_pm h)⟩
theorem write_m_down (h : Mine S w0 w p m g gc d) (i : Int) (c : Array Value) (hc : Cel c) (hi : 0 ≤ i ∧ i < d.n) (ho : d.off) : Calls Try.prog 18 #[.pointer (some ⟨p, 0, none⟩), .int .i64 i, .agg c] w (LeftF S w0 w p m g gc (errP 5) d.downed) :=
  (writed_down h.disk i c hc hi ho).mono fun _ _ ⟨he, hd, hf⟩ => ⟨he, h.step hd hf (fun _ h => dl_p h), hf.weak (fun _ h => dl_p h)⟩
theorem write_m_no (h : Mine S w0 w p m g gc d) (i : Int) (c : Array Value) (hc : Cel c) (hi : ¬ (0 ≤ i ∧ i < d.n)) : Calls Try.prog 18 #[.pointer (some ⟨p, 0, none⟩), .int .i64 i, .agg c] w (LeftF S w0 w p m g gc (errP 1) d) :=
  (writed_no h.disk i c hc hi).mono fun _ _ ⟨he, hb⟩ => ⟨he, h.below hb, Fr.of_below hb⟩
theorem flush_m (h : Mine S w0 w p m g gc d) (a n : Int) (ha64 : ok64 a) (hn64 : ok64 n) (ha : 0 ≤ a ∧ 0 ≤ n ∧ n ≤ d.n - a) (ho : ¬ d.off) (hr : d.room) : Calls Try.prog 19 #[.pointer (some ⟨p, 0, none⟩), .int .i64 a, .int .i64 n] w (LeftF S w0 w p m g gc .nilIface (d.stepped.settled (inR a n))) :=
  (flush_yes h.disk a n ha64 hn64 ha.1 ha.2.1 ha.2.2 ho hr).mono fun _ _ ⟨he, hd, hf⟩ => ⟨he, h.step hd hf (fun _ h => dl_pmg h), hf.weak (fun _ h => dl_pmg h)⟩
theorem flush_m_down (h : Mine S w0 w p m g gc d) (a n : Int) (ha64 : ok64 a) (hn64 : ok64 n) (ha : 0 ≤ a ∧ 0 ≤ n ∧ n ≤ d.n - a) (ho : d.off) : Calls Try.prog 19 #[.pointer (some ⟨p, 0, none⟩), .int .i64 a, .int .i64 n] w (LeftF S w0 w p m g gc (errP 5) d.downed) :=
  (flush_down h.disk a n ha64 hn64 ha.1 ha.2.1 ha.2.2 ho).mono fun _ _ ⟨he, hd, hf⟩ => ⟨he, h.step hd hf (fun _ h => dl_p h), hf.weak (fun _ h => dl_p h)⟩
theorem flush_m_no (h : Mine S w0 w p m g gc d) (a n : Int) (ha64 : ok64 a) (hn64 : ok64 n) (ha : ¬ (0 ≤ a ∧ 0 ≤ n ∧ n ≤ d.n - a)) : Calls Try.prog 19 #[.pointer (some ⟨p, 0, none⟩), .int .i64 a, .int .i64 n] w (LeftF S w0 w p m g gc (errP 1) d) :=
  (flush_no h.disk a n ha64 hn64 ha).mono fun _ _ ⟨he, hb⟩ => ⟨he, h.below hb, Fr.of_below hb⟩
theorem crash_m (h : Mine S w0 w p m g gc d) (A : Option Addr) (c : Nat) (L : List Int) (hL : L.length ≤ maxLen) (T : Nat) (hT : T ≤ w.heap.size) (hR : RI w T A L) (hA : ∀ ad, A = some ad → ad.block < T → ¬ Dl p m g gc ad.block) :
    Calls Try.prog 15 #[.pointer (some ⟨p, 0, none⟩), .slice A L.length c] w (LeftF S w0 w p m g gc (.tuple #[]) (d.crashed L)) :=
  (crash_any h.disk A c L hL T hT hR hA).mono fun _ _ ⟨he, hd, hf⟩ => ⟨he, h.step hd hf (fun _ h => dl_pmg h), hf.weak (fun _ h => dl_pmg h)⟩
theorem read_m (h : Mine S w0 w p m g gc d) (i : Int) (hi : 0 ≤ i ∧ i < d.n) (hd : d.dn = false) : Calls Try.prog 20 #[.pointer (some ⟨p, 0, none⟩), .int .i64 i] w (LeftF S w0 w p m g gc (.tuple #[.agg (d.now i), .nilIface]) d) :=
  (readd_yes h.disk i hi hd).mono fun _ _ ⟨he, hb⟩ => ⟨he, h.below hb, Fr.of_below hb⟩
theorem read_m_down (h : Mine S w0 w p m g gc d) (i : Int) (hi : 0 ≤ i ∧ i < d.n) (hd : d.dn = true) : Calls Try.prog 20 #[.pointer (some ⟨p, 0, none⟩), .int .i64 i] w (LeftF S w0 w p m g gc (.tuple #[.agg zc, errP 5]) d) :=
  (readd_down h.disk i hi hd).mono fun _ _ ⟨he, hb⟩ => ⟨he, h.below hb, Fr.of_below hb⟩
theorem read_m_no (h : Mine S w0 w p m g gc d) (i : Int) (hi : ¬ (0 ≤ i ∧ i < d.n)) : Calls Try.prog 20 #[.pointer (some ⟨p, 0, none⟩), .int .i64 i] w (LeftF S w0 w p m g gc (.tuple #[.agg zc, errP 1]) d) :=
  (readd_no h.disk i hi).mono fun _ _ ⟨he, hb⟩ => ⟨he, h.below hb, Fr.of_below hb⟩
end
theorem off_of {d : Dk} (h1 : d.dn = false) (h2 : d.ar = false) : ¬ d.off := by
  unfold Dk.off
  rw [h1, h2]; simp
theorem room_of {d : Dk} {a b : Int} (h1 : d.st = a) (h2 : d.lf = b) (h : (0 ≤ a ∧ a < 1000000) ∧ -1000000 < b ∧ b ≤ 1000000) : d.room := by
  unfold Dk.room ok64
  rw [h1, h2]; omega
section
variable {P : Program} {o : Oper} {a : Act} {w : World} {K : Act → World → Prop} {Q : Exit → Act → World → Prop}
theorem loadO (ty : TypeId) (x : Operand) (ho : o.op = .load ty x) (ad : Addr) (hx : a.eval x = .pointer (some ad)) (v : Value) (hl : (loadVar ty ad).run P w = .ok v w) (h : K (a.put o.dst v) w) : o.wp P a w K Q := by
  unfold Oper.wp execOp
  simp only [ho, hx, Instr.loadAt, Instr.sureAddr, Sem.run_bind, Sem.run_pure, Result.andThen_ok, hl]
  exact h
theorem buildO (t : TypeId) (parts : Array (Nat × Operand)) (ho : o.op = .build t parts) (vs : Array (Nat × Value)) (hvs : (parts.map fun (i, x) => (i, a.eval x)) = vs) (v : Value) (hr : (Instr.build t vs).run P w = .ok v w) (h : K (a.put o.dst v) w) : o.wp P a w K Q := by
  unfold Oper.wp execOp
  simp only [ho, hvs, Sem.run_bind, hr, Result.andThen_ok, Sem.run_pure]
  exact h
end
theorem buildS_one (x : Int) (w : World) : (Instr.buildSlice 27 1 #[(0, .int .i64 x)]).run Try.prog w = .ok (.slice (some ⟨w.heap.size, 0, none⟩) 1 1) (w.alloc (.cells #[.int .i64 x] 3)) := by kernel_rfl
theorem ri_one {w : World} {B : Nat} {x : Int} {S : Nat} (h : Blk w B #[.int .i64 x] 3) (hS : B < S) : RI w S (some ⟨B, 0, none⟩) [x] := fun i y hy => by
  rcases i with _ | i
  · simp at hy; subst hy
    exact ⟨_, rfl, hS, h.cell (j := 0) rfl⟩
  · simp at hy
theorem one_set (x : Int) : zc.setIfInBounds 0 (.int .u8 x) = one x := by kernel_rfl
theorem zc_ne : ¬ zc = #[] := fun h => by
  have := zc_size
  rw [h] at this
  simp at this
end Go.Proofs.Ythfhilinajemhaa
