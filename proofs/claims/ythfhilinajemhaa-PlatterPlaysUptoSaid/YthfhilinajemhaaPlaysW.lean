/-
  PlatterPlays: for every disk and script (of the bulk that the statement names) the law returns true and leaves its arguments alone.
-/
import Derived.Test.YthfhilinajemhaaPairs
import Derived.Deep.CutBlock
import Derived.Deep.DeepCutAuto
import Derived.Test.YthfhilinajemhaaExample
import Derived.Test.YthfhilinajemhaaIntsEq
import Derived.Test.YthfhilinajemhaaNew
namespace Go.Proofs.Ythfhilinajemhaa
open Go.ChangeShapes Go.WideShapes Go.ChangeAt Go.RowKit
open Go.Maps (Keyed)
set_option linter.unusedVariables false

/-- what holds between two rounds -/
structure PB (S : Nat) (w0 : World) (p m g gc r gs gn gk : Nat) (n : Int) (d : Dk) (W : World) : Prop where
  M : Mine S w0 W p m g gc d
  R : ∃ v sn lf, RSt W r gs gn gk S v d sn lf ∧ (∀ k, Dl p m g gc k → ¬ Rl r gs gn gk v k)
  b : Bd n d
section
variable {S : Nat} {w0 : World} {p m g gc r gs gn gk : Nat} {d : Dk} {n : Int} {W W' : World}
theorem PB.below (h : PB S w0 p m g gc r gs gn gk n d W) (hb : Below W.heap.size W W') : PB S w0 p m g gc r gs gn gk n d W' := by
  obtain ⟨v, sn, lf, h1, h2⟩ := h.R
  exact ⟨h.M.below hb, ⟨v, sn, lf, h1.below hb, h2⟩, h.b⟩
theorem PB.box (h : PB S w0 p m g gc r gs gn gk n d W) (o : OpD) : PX S w0 p m g gc r gs gn gk W.heap.size o d d (W.alloc (.cells (opA o) 66)) := by
  have hb : Below W.heap.size W (W.alloc (.cells (opA o) 66)) := (Below.refl _ _).alloc (Nat.le_refl _) _
  obtain ⟨v, sn, lf, h1, h2⟩ := h.R
  exact ⟨h.M.below hb, ⟨v, sn, lf, h1.below hb, h2, fun hk => Nat.lt_irrefl _ (h1.lt hk).2⟩, Blk.new _ _ _, fun hk => Nat.lt_irrefl _ (h.M.disk.lt hk), h.M.siz⟩
theorem PX.pb {b : Nat} {o : OpD} (h : PX S w0 p m g gc r gs gn gk b o d d W) (hb : Bd n d) : PB S w0 p m g gc r gs gn gk n d W := by
  obtain ⟨v, sn, lf, h1, h2, _⟩ := h.R
  exact ⟨h.M, ⟨v, sn, lf, h1, h2⟩, hb⟩
theorem PB.made {nn kk : Nat} (hk : kk ≤ 16) (hn : 1 ≤ nn ∧ nn ≤ 2048) (hM : Mine S w0 W p m g gc (d0 nn kk)) (hW : Below W.heap.size W W')
    (hr : Blk W' r (rfA (.slice (some ⟨gs, 0, none⟩) nn nn) (.slice (some ⟨gn, 0, none⟩) nn nn) (.slice (some ⟨gk, 0, none⟩) kk kk) 0 false 0 false) 77) (hs : Blk W' gs (zeroS nn) 45) (hN : Blk W' gn (zeroN nn) 74) (hK : Blk W' gk (zeroK kk) 3)
    (h1 : W.heap.size ≤ r) (h2 : W.heap.size ≤ gs) (h3 : W.heap.size ≤ gn) (h4 : W.heap.size ≤ gk) : PB S w0 p m g gc r gs gn gk 0 (d0 nn kk) W' := by
  have hlo := hM.siz
  refine ⟨hM.below hW, ⟨fun _ => .slice none 0 0, fun _ => [], 0, ⟨hr, by rw [flat_zero] at hs; exact hs, by rw [zeroN_row] at hN; exact hN, by rw [zeroK_row] at hK; exact hK, fun i => World.ownsRow_nil _ _ _ _, (fun i j b h => by cases h), (fun i e => by cases e), (fun i c hc => by cases hc), fun i => rfl, ⟨by omega, by omega, by omega, by omega⟩, (fun e => by cases e), fun i => Int.le_refl _, ⟨hn, fun _ => Cel.zero, fun i c hc => by cases hc⟩⟩, fun k hk hk2 => ?_⟩, ⟨⟨Int.le_refl _, Int.le_refl _⟩, ⟨by show -(0 : Int) ≤ 0; omega, by show ok64 0; exact ⟨by omega, by omega⟩⟩, hk⟩⟩
  have := hM.disk.lt hk
  rcases hk2 with h | h | h | h | ⟨i, h⟩
  · omega
  · omega
  · omega
  · omega
  · cases h
end
section
variable {w0 : World} {p m g gc r gs gn gk b : Nat} {o : OpD} {d e : Dk} {W W' : World}
theorem RB.mono' {w : World} {S S' : Nat} {A : Option Addr} {R : List Int} (h : RB w S A R) (hS : S ≤ S') : RB w S' A R := fun i x hx => by
  obtain ⟨ad, h1, h2, h3⟩ := h i x hx
  exact ⟨ad, h1, by omega, h3⟩
/-- the op's cells that its call reads -/
theorem PX.s (h : PX w0.heap.size w0 p m g gc r gs gn gk b o d e W) : W.cell? ⟨b, 1, none⟩ = some (.int .i64 o.u) ∧ W.cell? ⟨b, 2, none⟩ = some (.int .i64 o.n) ∧ W.cell? ⟨b, 3, none⟩ = some (.slice o.ba o.bz.length o.bc) :=
  ⟨h.X.cell (j := 1) rfl, h.X.cell (j := 2) rfl, h.X.cell (j := 3) rfl⟩
theorem PX.drew (h : PX w0.heap.size w0 p m g gc r gs gn gk b o d e W) : PX w0.heap.size w0 p m g gc r gs gn gk b o d e W.drew := h.below (Below.refl _ _).drew
theorem PX.cell23 (h : PX w0.heap.size w0 p m g gc r gs gn gk b o d e W) {A : Option Addr} {c : Nat} {R : List Int} (hr : RB w0 w0.heap.size A R) : Calls Try.prog 23 #[.slice A R.length c] W (PAns w0.heap.size w0 p m g gc r gs gn gk b o d e (.agg (cellOf R))) :=
  (cell_any A c R W ((hr.below h.M.bel).mono' h.M.siz)).mono fun ed W' ⟨he, hb⟩ => ⟨he, h.below hb⟩
end
/-- .. and some blocks that no call touches -/
structure PN (S : Nat) (w0 : World) (p m g gc r gs gn gk : Nat) (b : Nat) (o : OpD) (N : Nat → Prop) (d e : Dk) (W : World) : Prop where
  M : Mine S w0 W p m g gc d
  R : ∃ v sn lf, RSt W r gs gn gk S v e sn lf ∧ (∀ k, Dl p m g gc k → ¬ Rl r gs gn gk v k) ∧ ¬ Rl r gs gn gk v b ∧ ∀ k, N k → ¬ Rl r gs gn gk v k
  X : Blk W b (opA o) 66
  nb : ¬ Dl p m g gc b
  lo : S ≤ b
  nN : ∀ k, N k → ¬ Dl p m g gc k ∧ k < W.heap.size
def PNAns (S : Nat) (w0 : World) (p m g gc r gs gn gk : Nat) (b : Nat) (o : OpD) (N : Nat → Prop) (W : World) (d e : Dk) (u : Value) (ed : Ending) (W' : World) : Prop := ed = .returned u ∧ PN S w0 p m g gc r gs gn gk b o N d e W' ∧ ∀ k, N k → W'.heap[k]? = W.heap[k]?
section
variable {S : Nat} {w0 : World} {p m g gc r gs gn gk b : Nat} {o : OpD} {N : Nat → Prop} {d e d' e' : Dk} {W W' : World} {u : Value}
theorem PN.px (h : PN S w0 p m g gc r gs gn gk b o N d e W) : PX S w0 p m g gc r gs gn gk b o d e W := by
  obtain ⟨v, sn, lf, h1, h2, h3, _⟩ := h.R
  exact ⟨h.M, ⟨v, sn, lf, h1, h2, h3⟩, h.X, h.nb, h.lo⟩
theorem PX.pn (h : PX S w0 p m g gc r gs gn gk b o d e W) (hb : Below W.heap.size W W') (hN : ∀ k, N k → W.heap.size ≤ k ∧ k < W'.heap.size) : PN S w0 p m g gc r gs gn gk b o N d e W' := by
  obtain ⟨v, sn, lf, h1, h2, h3⟩ := h.R
  exact ⟨h.M.below hb, ⟨v, sn, lf, h1.below hb, h2, h3, fun k hk hk2 => by have := (hN k hk).1; have := (h1.lt hk2).2; omega⟩, h.X.below hb h.X.lt, h.nb, h.lo, fun k hk => ⟨fun hd => by have := (hN k hk).1; have := h.M.disk.lt hd; omega, (hN k hk).2⟩⟩
theorem PN.left (h : PN S w0 p m g gc r gs gn gk b o N d e W) : ∀ ed W', LeftF S w0 W p m g gc u d' ed W' → PNAns S w0 p m g gc r gs gn gk b o N W d' e u ed W' := fun ed W' ⟨he, hM, hf⟩ => by
  obtain ⟨v, sn, lf, h1, h2, h3, h4⟩ := h.R
  exact ⟨he, ⟨hM, ⟨v, sn, lf, h1.keep hf (fun k hk => h2 k hk), h2, h3, h4⟩, hf.blk h.X h.nb, h.nb, h.lo, fun k hk => ⟨(h.nN k hk).1, Nat.lt_of_lt_of_le (h.nN k hk).2 hf.size⟩⟩, fun k hk => hf.block k (h.nN k hk).2 (h.nN k hk).1⟩
theorem PN.ref (h : PN S w0 p m g gc r gs gn gk b o N d e W) {f : FuncId} {args : Array Value} (hc : ∀ v sn lf, RSt W r gs gn gk S v e sn lf → ∃ lf', Calls Try.prog f args W (RAns W r gs gn gk S v u e' lf')) :
    Calls Try.prog f args W (PNAns S w0 p m g gc r gs gn gk b o N W d e' u) := by
  obtain ⟨v, sn, lf, h1, h2, h3, h4⟩ := h.R
  obtain ⟨lf', hcc⟩ := hc v sn lf h1
  refine hcc.mono ?_
  rintro ed W' ⟨he, v', sn', hr, hg⟩
  have hlo : ∀ k, Rl r gs gn gk v k → S ≤ k := fun k hk => (h1.lt hk).1
  refine ⟨he, ⟨h.M.keep hg.1 (fun k hk => ⟨fun hk2 => h2 k hk2 hk, hlo k hk⟩), ⟨v', sn', lf', hr, fun k hk hk2 => ?_, fun hk2 => ?_, fun k hk hk2 => ?_⟩, hg.1.blk h.X h3, h.nb, h.lo, fun k hk => ⟨(h.nN k hk).1, Nat.lt_of_lt_of_le (h.nN k hk).2 hg.1.size⟩⟩, fun k hk => hg.1.block k (h.nN k hk).2 (h4 k hk)⟩
  · rcases hg.2 k hk2 with h1 | h1
    · exact h2 k hk h1
    · have := h.M.disk.lt hk; omega
  · rcases hg.2 b hk2 with h1 | h1
    · exact h3 h1
    · have := h.X.lt; omega
  · rcases hg.2 k hk2 with h1 | h1
    · exact h4 k hk h1
    · have := (h.nN k hk).2; omega
theorem Blk.heq {B : Nat} {vs : Array Value} {t : TypeId} (h : Blk W B vs t) (e : W'.heap[B]? = W.heap[B]?) : Blk W' B vs t := by
  unfold Blk at h ⊢
  rw [e]; exact h
end
section
variable {S : Nat} {w0 : World} {p m g gc r gs gn gk b : Nat} {o : OpD} {N : Nat → Prop} {d e d' e' : Dk} {W W' : World} {u : Value}
theorem PX.arm (h : PX S w0 p m g gc r gs gn gk b o d e W) (x : Int) : ∃ W1 W2, (∃ ar lf, W.cell? ⟨r, 4, none⟩ = some (.bool ar) ∧ W.frozen? ⟨r, 4, none⟩ = false ∧ W1 = W.setCell ⟨r, 4, none⟩ (.bool true) ∧ W1.cell? ⟨r, 5, none⟩ = some (.int .i64 lf) ∧ W1.frozen? ⟨r, 5, none⟩ = false ∧ W2 = W1.setCell ⟨r, 5, none⟩ (.int .i64 x)) ∧ r ≠ b ∧ PX S w0 p m g gc r gs gn gk b o d (e.set true x e.dn e.st) W2 := by
  obtain ⟨v, sn, lf, h1, h2, h3⟩ := h.R
  have hs := h1.hr.set 4 (.bool true)
  have hs2 := hs.set 5 (.int .i64 x)
  have hF : Fr (fun k => k = r) W ((W.setCell ⟨r, 4, none⟩ (.bool true)).setCell ⟨r, 5, none⟩ (.int .i64 x)) := (Fr.cell W r 4 (.bool true)).trans (Fr.cell _ r 5 _) (fun _ h => .inl h)
  have hrb : r ≠ b := fun e => h3 (.inl e.symm)
  refine ⟨_, _, ⟨e.ar, lf, rf4 h1.hr, h1.hr.frozen 4, rfl, hs.cell (j := 5) rfl, hs.frozen 5, rfl⟩, hrb, h.M.keep hF (fun k hk => ⟨fun hd => h2 k hd (.inl hk), by rw [hk]; exact h1.low.1⟩), ⟨v, sn, x, h1.moved hs2 hF (fun _ => rfl) (Int.le_refl _), h2, h3⟩, hF.blk h.X (fun e => hrb e.symm), h.nb, h.lo⟩
end
theorem longN_mem : ∀ {L : List OpD} {o : OpD}, o ∈ L → 1 + o.kz.length / 8 ≤ longN L
  | [], _, h => by cases h
  | d :: L, o, h => by
    simp only [longN]
    rcases List.mem_cons.1 h with rfl | h
    · omega
    · have := longN_mem h; omega
theorem RI.mono' {w : World} {S S' : Nat} {A : Option Addr} {R : List Int} (h : RI w S A R) (hS : S ≤ S') : RI w S' A R := fun i x hx => by
  obtain ⟨ad, h1, h2, h3⟩ := h i x hx
  exact ⟨ad, h1, by omega, h3⟩
theorem RI.heq {w w' : World} {S ga : Nat} {R : List Int} (h : RI w S (some ⟨ga, 0, none⟩) R) (e : w'.heap[ga]? = w.heap[ga]?) : RI w' S (some ⟨ga, 0, none⟩) R := fun i x hx => by
  obtain ⟨ad, h1, h2, h3⟩ := h i x hx
  cases h1
  refine ⟨_, rfl, h2, ?_⟩
  exact (cell_same (w := w) (w' := w') (a := (⟨ga, 0, none⟩ : Addr).add i) (by rw [addr_add_block]; exact e)).trans h3
section
variable {ops : Array Oper} {rest : List Oper} {o : Oper} {a : Act} {w : World} {Q : Exit → Act → World → Prop}
theorem keepW (hgd : o.guard = none) (s x : Operand) (ho : o.op = .call { callee := .builtin .append, args := #[s, x], argTypes := #[27, 27] }) {g : Nat} (hs : a.eval s = .slice (some ⟨g, 0, none⟩) 0 0) (hg : Blk w g #[] 3) {A : Option Addr} {L : List Int} {c S : Nat} (hx : a.eval x = .slice A L.length c) (hr : RI w S A L) (hL : L.length ≤ 2000000)
    (h : ∀ ga c' w', RI w' w'.heap.size (some ⟨ga, 0, none⟩) L → g ≤ ga → ga < w'.heap.size → Below g w w' → wpList Try.prog ops Q rest (a.put o.dst (.slice (some ⟨ga, 0, none⟩) L.length c')) w') : wpList Try.prog ops Q (o :: rest) a w := by
  refine wpList_plain hgd fun K' hK' => ?_
  obtain ⟨i0, hi0, hz0, hz1, hz2⟩ := info_parts (show (Try.prog.info? 3).map (fun i => (i.zero, i.size, i.bytes)) = some (some (.int .i64 0), 1, 8) by kernel_rfl)
  cases hLL : L with
  | nil =>
    subst hLL
    have hsrc : Src Try.prog 1 27 (.slice A 0 c) 0 [] w := by
      cases A with
      | none => exact Src.ofNil w Try.underlying27 c
      | some ad => exact Src.ofSlice w Try.underlying27 ad 0 c [] rfl (fun j u hj => by cases hj) (fun u hu => by cases hu)
    have hrun := run_append_room_src (P := Try.prog) w 27 27 o.type 3 i0 Try.underlying27 hi0 g 0 0 0 (.slice A 0 c) 0 [] (by rw [hz1]; exact hsrc) (Nat.le_refl _) (fun j hj => by cases hj) (fun j hj => by cases hj)
    have hx' : a.eval x = .slice A 0 c := hx
    unfold Oper.wp
    simp only [execOp, ho, resolve, invoke, builtin, Sem.run_bind, Sem.run_pure, Result.andThen_ok, List.map_toArray, List.map_cons, List.map_nil, hs, hx', hrun]
    exact hK' _ _ (h g 0 w (fun i y hy => by cases hy) (Nat.le_refl _) hg.lt (Below.refl _ _))
  | cons z0 L0 =>
    have hAd : ∃ ad, A = some ad := by
      obtain ⟨ad, h1, _⟩ := hr 0 z0 (by rw [hLL]; rfl)
      exact ⟨ad, h1⟩
    obtain ⟨ad, rfl⟩ := hAd
    have hpos : 0 < L.length := by rw [hLL]; exact Nat.succ_pos _
    have hown : w.ownsRow g 3 1 (.slice (some ⟨g, 0, none⟩) 0 0) 0 [] := ⟨rfl, .inr ⟨g, 0, #[], rfl, Nat.le_refl _, hg, Nat.le_refl _, Nat.zero_le _, rfl, rfl⟩⟩
    obtain ⟨g', cap, w', hrun, h2, h3, h4, h5⟩ := run_append_lies (P := Try.prog) w 27 o.type g 3 i0 _ 1 8 Try.underlying27 hi0 hz0 hz1 hz2 rfl (by omega) _ 0 [] hown ad L.length c (L.map (Value.int .i64)) (by simp) (fun j u hj => by
      rw [List.getElem?_map, Option.map_eq_some_iff] at hj
      obtain ⟨y, hy, rfl⟩ := hj
      obtain ⟨ad', e1, _, e3⟩ := hr j y hy
      cases e1
      exact e3) (fun u hu => by obtain ⟨y, _, rfl⟩ := List.mem_map.1 hu; rfl) hpos (by simp only [maxLen]; omega) (by omega) (Nat.le_of_lt hg.lt) _ rfl
    rw [Nat.zero_add, List.nil_append] at h2
    rw [Nat.zero_add] at hrun
    unfold Oper.wp
    simp only [execOp, ho, resolve, invoke, builtin, Sem.run_bind, Sem.run_pure, Result.andThen_ok, List.map_toArray, List.map_cons, List.map_nil, hs, hx, hrun]
    refine hK' _ _ (h g' cap w' (fun i y hy => ⟨_, rfl, h5, ?_⟩) ?_ h5 ⟨h3.os, h3.tape, h3.output, h3.size, fun k hk => h3.block k (Nat.lt_trans hk hg.lt) (fun e => by have e1 : k = g := Option.some.inj e; omega)⟩)
    · exact World.ownsRow.cells h2 (g := g') rfl i (.int .i64 y) (by rw [List.getElem?_map, hy]; rfl)
    · rcases h4 with e | e
      · cases e; exact Nat.le_refl _
      · rw [e]; exact Nat.le_of_lt hg.lt
end
theorem opened_3000 {w : World} {p m g gc : Nat} {d : Dk} (h : Disk w p m g gc d) : Calls Try.prog 24 #[.pointer (some ⟨p, 0, none⟩), .int .i64 3000] w (OpenOut w (keysL d)) := by
  have := opened_m h 3000 (by omega)
  rw [List.take_of_length_le (by have := keysL_len d; have := h.ok.1.2; omega)] at this
  exact this
theorem ints_t2 {w : World} {S T : Nat} {A B : Option Addr} {c e : Nat} {L : List Int} (hL : L.length ≤ 2048) (hA : Ins w S (.slice A L.length c) L) (hB : Ins w T (.slice B L.length e) L) :
    Calls Try.prog 38 #[.slice A L.length c, .slice B L.length e] w fun e w' => e = .returned (.bool true) ∧ Below w.heap.size w w' :=
  ints_same A B c e L (by omega) _ _ w (ins_ri hA) (ins_ri hB)
set_option maxHeartbeats 8000000 in
set_option maxRecDepth 20000 in
theorem platterPlays_walk (a0 : Int) (_ : ok64 a0) (a1 : Int) (_ : ok64 a1) (A : Option Addr) (c : Nat) (zs : List OpD) (hs : sumK zs ≤ 1048576) (w : World) (hr : RO w w.heap.size A zs) (hok : ∀ z ∈ zs, z.ok) :
    Calls Try.prog 8 #[.int .i64 a0, .int .i64 a1, .slice A zs.length c] w fun e w' => e = .returned (.bool true) ∧ Below w.heap.size w w' := by
  have HR := Lib.hid hr
  have HOK := Lib.hid hok
  have HS := Lib.hid hs
  have hzl := longN_len zs
  clear hr hok hs
  go_enter Try.func8, Try.ntmps8
  go_wp2_with fail
  refine (alive_any w).mono ?_
  rintro e w1 ⟨rfl, hb1⟩
  go_wp2_with fail
  have CL := Lib.hid (long_any A c zs w1 (by
    intro i x hx
    obtain ⟨⟨ad, h1, h2, h3⟩, h4, h5⟩ := (HR.out.below hb1) i x hx
    have hz := hb1.size
    refine ⟨⟨ad, h1, by omega, h3⟩, fun i y hy => ?_, fun i y hy => ?_⟩
    · obtain ⟨a, q1, q2, q3⟩ := h4 i y hy
      exact ⟨a, q1, by omega, q3⟩
    · obtain ⟨a, q1, q2, q3⟩ := h5 i y hy
      exact ⟨a, q1, by omega, q3⟩) HS.out)
  by_cases hbig : 400 < longN zs
  · refine CL.out.mono ?_
    rintro e w2 ⟨rfl, hb2⟩
    rw [decide_eq_true hbig]
    have HB := Lib.hid (hb1.trans (hb2.mono hb1.size))
    clear hb1 hb2 CL
    go_wp2
    go_ret
    exact ⟨rfl, HB.out⟩
  refine CL.out.mono ?_
  rintro e w2 ⟨rfl, hb2⟩
  rw [decide_eq_false hbig]
  have HB := Lib.hid (hb1.trans (hb2.mono hb1.size))
  clear hb1 hb2 CL
  by_cases hin : a0 < 1 ∨ 2048 < a0 ∨ a1 < 1 ∨ 16 < a1
  · have C1 := Lib.hid (new_no a0 a1 hin w2)
    have C2 := Lib.hid (rnew_no a0 a1 hin w2)
    have C3 := Lib.hid (is_any 1 1 (by omega) (by omega))
    unfold errP at C1 C3
    clear hin
    go_wp2_with (first
      | (go_at_call 12; refine C1.out.mono ?_; rintro e w3 ⟨rfl, rfl⟩)
      | (go_at_call 27; refine C2.out.mono ?_; rintro e w4 ⟨rfl, rfl⟩)
      | (go_at_call 28; refine (C3.out _).mono ?_; rintro e w5 ⟨rfl, rfl⟩)
      | fail)
    go_ret
    exact ⟨rfl, HB.out⟩
  obtain ⟨nn, rfl⟩ : ∃ q : Nat, a0 = (q : Int) := ⟨a0.toNat, by omega⟩
  obtain ⟨kk, rfl⟩ : ∃ q : Nat, a1 = (q : Int) := ⟨a1.toNat, by omega⟩
  have hn1 : 1 ≤ nn ∧ nn ≤ 2048 := by omega
  have hk1 : 1 ≤ kk ∧ kk ≤ 16 := by omega
  clear hin
  go_wp2_with fail
  refine (new_m nn kk hn1 hk1 HB.out HB.out.size).mono ?_
  rintro e w3 ⟨p, m, g, gc, rfl, M0, hb3, hd3⟩
  go_wp2_with fail
  refine (rnew_any nn kk hn1 hk1 w3).mono ?_
  rintro e w4 ⟨r, gs, gn, gk, rfl, q1, q2, q3, q4, hb4, l1, l2, l3, l4⟩
  have B0 := Lib.hid (PB.made hk1.2 hn1 M0 hb4 q1 q2 q3 q4 l1 l2 l3 l4)
  clear M0 hb3 hd3 q1 q2 q3 q4 hb4 l1 l2 l3 l4 hn1 hk1
  generalize d0 nn kk = dd at *
  go_wp2_with fail
  have hzl4 : zs.length ≤ 400 := by omega
  have HLN := Lib.hid (show longN zs ≤ 400 by omega)
  clear hzl hbig
  go_loopw [56] (fun i wr => ∃ (k : Nat) (d : Dk), k ≤ zs.length ∧ i = .int .i64 k ∧ Hid (PB w.heap.size w p m g gc r gs gn gk k d wr)) (fun i _ => (zs.length - (Lib.intOf i).toNat))
  case atStart => exact ⟨0, dd, Nat.zero_le _, rfl, B0.out⟩
  case round =>
    obtain ⟨k, d, hk, rfl, HP⟩ := hrel
    by_cases hlt : k < zs.length
    · obtain ⟨o, ho⟩ : ∃ o, zs[k]? = some o := ⟨zs[k]'hlt, List.getElem?_eq_getElem hlt⟩
      have hoo := HOK.out o (List.mem_of_getElem? ho)
      have hro := (HR.out.below HP.out.M.bel) k o ho
      obtain ⟨⟨ad, rfl, had, hco⟩, hrb, hri⟩ := hro
      have Hld := Lib.hid (load_op hco)
      have k0 : (0 : Int) ≤ (k : Int) := by omega
      have k1 : (k : Int) < (zs.length : Int) := by omega
      have kn : (k : Int) ≤ 1000 := by omega
      have HX := Lib.hid (HP.out.box o)
      have HOO := Lib.hid hoo
      have HRB := Lib.hid ((HR.out k o ho).2.1)
      have HRI := Lib.hid ((HR.out k o ho).2.2)
      have HBD := Lib.hid HP.out.b
      have HKL := Lib.hid (show o.kz.length ≤ 4000 from by have := longN_mem (List.mem_of_getElem? ho); have := HLN.out; omega)
      clear hco ho hrb hri hoo HP
      unfold opA at Hld
      go_upto_block 2 with (first | ((with_reducible refine at_ld 66 _ rfl ?_); refine loadW rfl 66 _ rfl (ad.add (k * 5)) rfl _ Hld.out ?_) | fail)
      unfold opA at HX
      generalize wr.heap.size = b at *
      generalize wr.alloc (.cells #[.int .i64 o.k, .int .i64 o.u, .int .i64 o.n, .slice o.ba o.bz.length o.bc, .slice o.ka o.kz.length o.kc] 66) = W at *
      clear Hld
      go_cut [14] (fun s14 wx => s14 = .bool true ∧ ∃ d', Hid (PX w.heap.size w p m g gc r gs gn gk b o d' d' wx) ∧ Hid (Bd (((k + 1 : Nat)) : Int) d'))
      case first =>
        have x1 := HX.out.s
        obtain ⟨x11, x12, x13⟩ := x1
        by_cases hk0 : o.k = 0
        · have hk0t : (o.k == 0) = true := by rw [beq_iff_eq]; exact hk0
          have HK0 := Lib.hid hk0
          clear hk0
          as_aux_lemma =>
            obtain ⟨er, en, d', hnum, hbd, hic, hrc⟩ := write_pair (S := w.heap.size) (w0 := w) (p := p) (m := m) (g := g) (gc := gc) (r := r) (gs := gs) (gn := gn) (gk := gk) HBD.out kn o.u (cellOf o.bz) (Cel.of o.bz)
            have HN := Lib.hid hnum
            have BD' : Hid (Bd (((k + 1 : Nat)) : Int) d') := hbd
            have HI := Lib.hid hic
            have HC := Lib.hid hrc
            clear hnum hbd hic hrc
            have X0 := Lib.hid HX.out.drew
            have s0 := X0.out.s
            go_wp2_with fail
            go_region_held3 (fun W => W.cell? ⟨b, 1, none⟩ = some (.int .i64 o.u) ∧ W.cell? ⟨b, 2, none⟩ = some (.int .i64 o.n) ∧ W.cell? ⟨b, 3, none⟩ = some (.slice o.ba o.bz.length o.bc)) (first | exact s0 | exact s1 | exact s2 | exact s3 | exact s4 | fail) (first
              | (go_at_call 18; refine (X1.out.icall HI.out).mono ?_; rintro ed W2 ⟨rfl, h2⟩; have X2 := Lib.hid h2; have s2 := h2.s; clear h2)
              | (go_at_call 28; refine (HN.out _).mono ?_; rintro ed W9 ⟨rfl, rfl⟩)
              | (go_at_call 29; refine (X3.out.rcall HC.out).mono ?_; rintro ed W4 ⟨rfl, h4⟩; have X4 := Lib.hid h4; have s4 := h4.s; clear h4)
              | (go_at_call 23; refine (X2.out.cell23 HRB.out).mono ?_; rintro ed W3 ⟨rfl, h3⟩; have X3 := Lib.hid h3; have s3 := h3.s; clear h3)
              | (go_at_call 23; refine (X0.out.cell23 HRB.out).mono ?_; rintro ed W1 ⟨rfl, h1⟩; have X1 := Lib.hid h1; have s1 := h1.s; clear h1)
              | fail)
            go_wp2_with fail
            go_meet
            exact ⟨rfl, d', X4, BD'⟩
        have hk0t : (o.k == 0) = false := by rw [beq_eq_false_iff_ne]; exact hk0
        clear hk0
        by_cases hk1 : o.k = 1
        · have hk1t : (o.k == 1) = true := by rw [beq_iff_eq]; exact hk1
          have HK1 := Lib.hid hk1
          clear hk1
          as_aux_lemma =>
            go_wp2_with fail
            obtain ⟨er, en, d', hnum, hbd, hic, hrc⟩ := flush_pair (S := w.heap.size) (w0 := w) (p := p) (m := m) (g := g) (gc := gc) (r := r) (gs := gs) (gn := gn) (gk := gk) HBD.out kn o.u o.n HOO.out.2.1 HOO.out.2.2.1
            have HN := Lib.hid hnum
            have BD' : Hid (Bd (((k + 1 : Nat)) : Int) d') := hbd
            have HI := Lib.hid hic
            have HC := Lib.hid hrc
            clear hnum hbd hic hrc
            have X0 := Lib.hid HX.out.drew
            have s0 := X0.out.s
            go_region_held3 (fun W => W.cell? ⟨b, 1, none⟩ = some (.int .i64 o.u) ∧ W.cell? ⟨b, 2, none⟩ = some (.int .i64 o.n) ∧ W.cell? ⟨b, 3, none⟩ = some (.slice o.ba o.bz.length o.bc)) (first | exact s0 | exact s2 | exact s4 | fail) (first
              | (go_at_call 19; refine (X0.out.icall HI.out).mono ?_; rintro ed W2 ⟨rfl, h2⟩; have X2 := Lib.hid h2; have s2 := h2.s; clear h2)
              | (go_at_call 28; refine (HN.out _).mono ?_; rintro ed W9 ⟨rfl, rfl⟩)
              | (go_at_call 30; refine (X2.out.rcall HC.out).mono ?_; rintro ed W4 ⟨rfl, h4⟩; have X4 := Lib.hid h4; have s4 := h4.s; clear h4)
              | fail)
            go_wp2_with fail
            go_meet
            exact ⟨rfl, d', X4, BD'⟩
        have hk1t : (o.k == 1) = false := by rw [beq_eq_false_iff_ne]; exact hk1
        clear hk1
        by_cases hk2 : o.k = 2
        · have hk2t : (o.k == 2) = true := by rw [beq_iff_eq]; exact hk2
          have HK2 := Lib.hid hk2
          clear hk2
          as_aux_lemma =>
            go_wp2_with fail
            obtain ⟨er, en, d', hnum, hbd, hic, hrc⟩ := raise_pair (S := w.heap.size) (w0 := w) (p := p) (m := m) (g := g) (gc := gc) (r := r) (gs := gs) (gn := gn) (gk := gk) HBD.out kn o.u o.n
            have HN := Lib.hid hnum
            have BD' : Hid (Bd (((k + 1 : Nat)) : Int) d') := hbd
            have HI := Lib.hid hic
            have HC := Lib.hid hrc
            clear hnum hbd hic hrc
            have X0 := Lib.hid HX.out.drew
            have s0 := X0.out.s
            go_region_held3 (fun W => W.cell? ⟨b, 1, none⟩ = some (.int .i64 o.u) ∧ W.cell? ⟨b, 2, none⟩ = some (.int .i64 o.n) ∧ W.cell? ⟨b, 3, none⟩ = some (.slice o.ba o.bz.length o.bc)) (first | exact s0 | exact s2 | exact s4 | fail) (first
              | (go_at_call 13; refine (X0.out.icall HI.out).mono ?_; rintro ed W2 ⟨rfl, h2⟩; have X2 := Lib.hid h2; have s2 := h2.s; clear h2)
              | (go_at_call 28; refine (HN.out _).mono ?_; rintro ed W9 ⟨rfl, rfl⟩)
              | (go_at_call 31; refine (X2.out.rcall HC.out).mono ?_; rintro ed W4 ⟨rfl, h4⟩; have X4 := Lib.hid h4; have s4 := h4.s; clear h4)
              | fail)
            go_wp2_with fail
            go_meet
            exact ⟨rfl, d', X4, BD'⟩
        have hk2t : (o.k == 2) = false := by rw [beq_eq_false_iff_ne]; exact hk2
        clear hk2
        by_cases hk3 : o.k = 3
        · have hk3t : (o.k == 3) = true := by rw [beq_iff_eq]; exact hk3
          have HK3 := Lib.hid hk3
          clear hk3
          as_aux_lemma =>
            go_wp2_with fail
            obtain ⟨er, en, d', hnum, hbd, hic, hrc⟩ := tamper_pair (S := w.heap.size) (w0 := w) (p := p) (m := m) (g := g) (gc := gc) (r := r) (gs := gs) (gn := gn) (gk := gk) HBD.out kn o.u o.bz o.ba o.bc
            have HN := Lib.hid hnum
            have BD' : Hid (Bd (((k + 1 : Nat)) : Int) d') := hbd
            have HI := Lib.hid hic
            have HC := Lib.hid hrc
            clear hnum hbd hic hrc
            have bzl : o.bz.length ≤ 140737488351232 := by have := HOO.out.2.2.2.1; omega
            refine (copy_any o.ba o.bc o.bz W ((HRB.out.below HX.out.M.bel).mono' HX.out.M.siz) bzl).mono ?_
            rintro ed W1 ⟨gb, rfl, hG1, hgb, hb1⟩
            have Y1 := Lib.hid (HX.out.pn (N := fun k => k = gb) hb1 (fun k hk => by rw [hk]; exact ⟨hgb, hG1.lt⟩))
            have G1 := Lib.hid hG1
            have s11 := Y1.out.px.s
            obtain ⟨x21, x22, x23⟩ := s11
            have hlogb := Lib.hid (show w.heap.size ≤ gb from Nat.le_trans HX.out.M.siz hgb)
            have hbgb := Lib.hid (show b ≠ gb from by have := HX.out.X.lt; omega)
            clear hG1 hb1 hgb
            go_wp2_with fail
            have Z0 := Lib.hid Y1.out.px.drew
            have s0 := Z0.out.s
            have Y0 := Lib.hid (show PN w.heap.size w p m g gc r gs gn gk b o (fun k => k = gb) d d W1.drew from ⟨Z0.out.M, (by obtain ⟨v, sn, lf, h1, h2, h3, h4⟩ := Y1.out.R; exact ⟨v, sn, lf, h1.below (Below.refl _ _).drew, h2, h3, h4⟩), Z0.out.X, Z0.out.nb, Z0.out.lo, Y1.out.nN⟩)
            have G0 := Lib.hid (show Blk W1.drew gb (marked o.bz) 5 from G1.out)
            clear Z0
            go_region_held3 (fun W => W.cell? ⟨b, 1, none⟩ = some (.int .i64 o.u) ∧ W.cell? ⟨b, 2, none⟩ = some (.int .i64 o.n) ∧ W.cell? ⟨b, 3, none⟩ = some (.slice o.ba o.bz.length o.bc)) (first | exact s0 | exact s2 | exact s4 | fail) (first
              | (go_at_call 33; refine ((HI.out _ gb _ Y0.out.M G0.out (Y0.out.nN gb rfl).1).mono Y0.out.left).mono ?_; rintro ed W2 ⟨rfl, h2, e2⟩; have Y2 := Lib.hid h2; have s2 := h2.px.s; have G2 := Lib.hid (G0.out.heq (e2 gb rfl)); clear h2 e2)
              | (go_at_call 28; refine (HN.out _).mono ?_; rintro ed W9 ⟨rfl, rfl⟩)
              | (go_at_call 34; refine (Y2.out.ref (fun v sn lf h1 => HC.out _ v sn lf h1 Y2.out.M.siz (HRB.out.below Y2.out.M.bel))).mono ?_; rintro ed W4 ⟨rfl, h4, e4⟩; have Y4 := Lib.hid h4; have s4 := h4.px.s; have G4 := Lib.hid (G2.out.heq (e4 gb rfl)); clear h4 e4)
              | (go_at_call 35; refine (kept_any o.ba o.bc o.bz G4.out (HRB.out.below Y4.out.M.bel) bzl).mono ?_; rintro ed W8 ⟨rfl, rfl⟩)
              | fail)
            go_wp2_with fail
            refine (over_any o.bz G4.out bzl).mono ?_
            rintro ed W6 ⟨rfl, hf6⟩
            have X4 : Hid (PX w.heap.size w p m g gc r gs gn gk b o d' d' W6) := by
              obtain ⟨v, sn, lf, h1, h2, h3, h4⟩ := Y4.out.R
              have hng := Y4.out.nN gb rfl
              have hS : w.heap.size ≤ gb := hlogb.out
              have hbg : b ≠ gb := hbgb.out
              exact ⟨Y4.out.M.keep hf6 (fun k hk => by rw [hk]; exact ⟨hng.1, hS⟩), ⟨v, sn, lf, h1.keep hf6 (fun k hk => by rw [hk]; exact h4 gb rfl), h2, h3⟩, hf6.blk Y4.out.X hbg, Y4.out.nb, Y4.out.lo⟩
            go_wp2_with fail
            go_meet
            exact ⟨rfl, d', X4, BD'⟩
        have hk3t : (o.k == 3) = false := by rw [beq_eq_false_iff_ne]; exact hk3
        clear hk3
        by_cases hk4 : o.k = 4
        · have hk4t : (o.k == 4) = true := by rw [beq_iff_eq]; exact hk4
          have HK4 := Lib.hid hk4
          clear hk4
          as_aux_lemma =>
            have x12 := HX.out.s.2.1
            by_cases hneg : o.n < 0
            · obtain ⟨hbd, hic⟩ := parm_no (S := w.heap.size) (w0 := w) (p := p) (m := m) (g := g) (gc := gc) HBD.out o.n hneg
              have BD' : Hid (Bd (((k + 1 : Nat)) : Int) d) := hbd
              have HI := Lib.hid (HX.out.icall hic)
              have CI := Lib.hid (isC_any 1 1 (by omega) (by omega))
              unfold errP at HI CI
              have hneg2 : ¬ 0 ≤ o.n := by omega
              have hneg3 : decide (0 ≤ o.n) = false := decide_eq_false hneg2
              clear hbd hic
              go_wp2_with fail
              refine HI.out.mono ?_
              rintro ed W1 ⟨rfl, h1⟩
              have X1 := Lib.hid h1
              have s1 := h1.s
              have x22 := h1.s.2.1
              have x32 := h1.drew.s
              clear h1
              go_wp2_with fail
              go_region_held3 (fun W => W.cell? ⟨b, 1, none⟩ = some (.int .i64 o.u) ∧ W.cell? ⟨b, 2, none⟩ = some (.int .i64 o.n) ∧ W.cell? ⟨b, 3, none⟩ = some (.slice o.ba o.bz.length o.bc)) (first | exact x32 | fail) (first
                | (go_at_call 14; refine (CI.out _).mono ?_; rintro ed W9 ⟨rfl, rfl⟩)
                | fail)
              have X4 := Lib.hid X1.out.drew
              go_wp2_with fail
              go_meet
              exact ⟨rfl, d, X4, BD'⟩
            · obtain ⟨hbd, hic⟩ := parm_yes (S := w.heap.size) (w0 := w) (p := p) (m := m) (g := g) (gc := gc) HBD.out k0 o.n (by omega) HOO.out.2.2.1
              have BD' : Hid (Bd (((k + 1 : Nat)) : Int) (d.set true o.n d.dn d.st)) := hbd
              have HI := Lib.hid (HX.out.icall hic)
              have hneg2 : 0 ≤ o.n := by omega
              have hneg3 : decide (0 ≤ o.n) = true := decide_eq_true hneg2
              clear hbd hic
              go_wp2_with fail
              refine HI.out.mono ?_
              rintro ed W1 ⟨rfl, h1⟩
              have X1 := Lib.hid h1
              have s1 := h1.s
              have x22 := h1.s.2.1
              have x32 := h1.drew.s
              clear h1
              go_wp2_with fail
              go_quiet (fail)
              have X2 := Lib.hid (X1.out.below (Below.drewN (Below.refl _ _) nq))
              have z22 := X2.out.s.2.1
              generalize W1.drewN nq = Wd at *
              go_wp2_with fail
              obtain ⟨Wa, Wb, ⟨arz, lfz, q1, q2, q3, q4, q5, q6⟩, hrb, hXb⟩ := X2.out.arm o.n
              have X4 := Lib.hid hXb.drew
              have sd := X2.out.drew.s
              have sb := hXb.drew.s
              subst q3
              subst q6
              have sc := X2.out.s
              have sa : (Wd.setCell ⟨r, 4, none⟩ (.bool true)).drew.cell? ⟨b, 1, none⟩ = some (.int .i64 o.u) ∧ (Wd.setCell ⟨r, 4, none⟩ (.bool true)).drew.cell? ⟨b, 2, none⟩ = some (.int .i64 o.n) ∧ (Wd.setCell ⟨r, 4, none⟩ (.bool true)).drew.cell? ⟨b, 3, none⟩ = some (.slice o.ba o.bz.length o.bc) :=
                ⟨(World.cell?_setCell_far _ _ _ _ hrb).trans sc.1, (World.cell?_setCell_far _ _ _ _ hrb).trans sc.2.1, (World.cell?_setCell_far _ _ _ _ hrb).trans sc.2.2⟩
              clear hXb
              go_region_held3 (fun W => W.cell? ⟨b, 1, none⟩ = some (.int .i64 o.u) ∧ W.cell? ⟨b, 2, none⟩ = some (.int .i64 o.n) ∧ W.cell? ⟨b, 3, none⟩ = some (.slice o.ba o.bz.length o.bc)) (first | exact sd | exact sa | exact sb | fail) (fail)
              go_wp2_with fail
              go_meet
              exact ⟨rfl, _, X4, BD'⟩
        have hk4t : (o.k == 4) = false := by rw [beq_eq_false_iff_ne]; exact hk4
        clear hk4
        by_cases hk5 : o.k = 5
        · have hk5t : (o.k == 5) = true := by rw [beq_iff_eq]; exact hk5
          have HK5 := Lib.hid hk5
          clear hk5
          as_aux_lemma =>
            have x14 : W.cell? ⟨b, 4, none⟩ = some (.slice o.ka o.kz.length o.kc) := HX.out.X.cell (j := 4) rfl
            have hbz : ∀ w, (Instr.buildSlice 27 0 #[]).run Try.prog w = .ok (.slice (some ⟨w.heap.size, 0, none⟩) 0 0) (w.alloc (.cells #[] 3)) := fun w => by kernel_rfl
            obtain ⟨hbd, hic, hrc⟩ := crash_pair (S := w.heap.size) (w0 := w) (p := p) (m := m) (g := g) (gc := gc) (r := r) (gs := gs) (gn := gn) (gk := gk) HBD.out ⟨k0, kn⟩ o.kz (by have := HKL.out; omega) o.ka o.kc
            have BD' : Hid (Bd (((k + 1 : Nat)) : Int) (d.crashed o.kz)) := hbd
            have HI := Lib.hid hic
            have HC := Lib.hid hrc
            clear hbd hic hrc
            have hba : Below W.heap.size W (W.alloc (.cells #[] 3)) := (Below.refl _ _).alloc (Nat.le_refl _) _
            have X1 := Lib.hid (HX.out.below hba)
            have x24 : (W.alloc (.cells #[] 3)).cell? ⟨b, 4, none⟩ = some (.slice o.ka o.kz.length o.kc) := X1.out.X.cell (j := 4) rfl
            have E1 := Lib.hid (Blk.new W #[] 3)
            have RI1 := Lib.hid (HRI.out.below X1.out.M.bel)
            have HBA := Lib.hid hba
            have hkl : o.kz.length ≤ 2000000 := by have := HKL.out; omega
            clear hba
            go_wp2_with (first
              | (refine keepW rfl (.tmp 199) (.tmp 201) rfl rfl E1.out rfl RI1.out hkl ?_; intro ga c9 W2 hri2 hga hgl hbe; have Y2 := Lib.hid (HX.out.pn (N := fun k => k = ga) (HBA.out.trans hbe) (fun k hk => by rw [hk]; exact ⟨hga, hgl⟩)); have RI2 := Lib.hid hri2; have x34 := Y2.out.X.cell (j := 4) rfl; clear hri2 hbe)
              | fail)
            refine ((HI.out _ _ c9 _ Y2.out.M (Nat.le_refl _) RI2.out (fun ad h0 _ => by cases h0; exact (Y2.out.nN ga rfl).1)).mono Y2.out.left).mono ?_
            rintro ed W3 ⟨rfl, h3, e3⟩
            have Y3 := Lib.hid h3
            have RI3 := Lib.hid (RI2.out.heq (e3 ga rfl))
            have x44 := h3.X.cell (j := 4) rfl
            clear h3 e3 x34 x24 x14 RI2 Y2
            go_wp2_with fail
            refine (Y3.out.ref (fun v sn lf h1 => HC.out _ v sn lf h1 Y3.out.M.siz (HRI.out.below Y3.out.M.bel))).mono ?_
            rintro ed W4 ⟨rfl, h4, e4⟩
            have Y4 := Lib.hid h4
            have RI4 := Lib.hid (RI3.out.heq (e4 ga rfl))
            have x54 := h4.X.cell (j := 4) rfl
            clear h4 e4 x44 RI3 Y3
            go_wp2_with fail
            refine (ints_same _ o.ka c9 o.kc o.kz (by have := HKL.out; omega) _ _ W4 RI4.out (HRI.out.below Y4.out.M.bel)).mono ?_
            rintro ed W5 ⟨rfl, hb5⟩
            have X4 := Lib.hid (Y4.out.px.below hb5)
            clear hb5
            go_wp2_with fail
            go_meet
            exact ⟨rfl, _, X4, BD'⟩
        have hk5t : (o.k == 5) = false := by rw [beq_eq_false_iff_ne]; exact hk5
        clear hk5
        as_aux_lemma =>
          have hXs := HX.out.s
          obtain ⟨x11, x12, x13⟩ := hXs
          obtain ⟨v1, sn1, lf1, hR1, _, _⟩ := HX.out.R
          obtain ⟨c1, er, en, hc, A1, A2, A3⟩ := both_read HX.out.M.disk hR1 (by have := HBD.out.st; omega) o.u
          have HA1 := Lib.hid (A1 _ (Below.refl _ _))
          have HA2 := Lib.hid A2
          have HA3 := Lib.hid A3
          have HC := Lib.hid hc
          have BD' := Lib.hid (show Bd (((k + 1 : Nat)) : Int) d from HBD.out.more)
          have hz := zc_zero
          have hs := zc_size
          clear A1 A2 A3 hc hR1
          go_wp2_with fail
          refine HA1.out.mono ?_
          rintro ed W1 ⟨rfl, B1⟩
          have hX1 := Lib.hid (Blk.new W1 zc 45)
          have bx : Below W1.heap.size W1 ((W1.alloc (.cells zc 45)).setRow W1.heap.size c1) := below_setRow ((Below.refl _ _).alloc (Nat.le_refl _) _) (Nat.le_refl _) _
          have X1 := Lib.hid ((Blk.new W1 zc 45).setRow c1)
          have b3 := Lib.hid (B1.trans (bx.mono B1.size))
          have s2 := (HX.out.below b3.out).s
          obtain ⟨x21, x22, x23⟩ := s2
          have B1' := Lib.hid B1
          clear bx B1
          go_wp2_with (first
            | ((with_reducible refine at_st 45 _ _ rfl ?_); refine store_cW rfl _ _ rfl W1.heap.size c1 rfl rfl zc hX1.out zc_size HC.out.size HC.out.all ?_; generalize (W1.alloc (.cells zc 45)).setRow W1.heap.size c1 = W2 at *)
            | fail)
          refine (HA2.out W2 b3.out).mono ?_
          rintro ed W3 ⟨rfl, B3⟩
          have hX3 := Lib.hid (Blk.new W3 zc 45)
          have bx3 : Below W3.heap.size W3 ((W3.alloc (.cells zc 45)).setRow W3.heap.size c1) := below_setRow ((Below.refl _ _).alloc (Nat.le_refl _) _) (Nat.le_refl _) _
          have x13' := X1.out.below B3 X1.out.lt
          have X3 := Lib.hid (x13'.below bx3 x13'.lt)
          have X5 := Lib.hid ((Blk.new W3 zc 45).setRow c1)
          have b4 := b3.out.trans (B3.mono b3.out.size)
          have X4 := Lib.hid (HX.out.below (b4.trans (bx3.mono b4.size)))
          clear B3 bx3 x13' b4
          go_wp2_with (first
            | ((with_reducible refine at_st 45 _ _ rfl ?_); refine store_cW rfl _ _ rfl W3.heap.size c1 rfl rfl zc hX3.out zc_size HC.out.size HC.out.all ?_; generalize (W3.alloc (.cells zc 45)).setRow W3.heap.size c1 = W4 at *)
            | ((with_reducible refine at_ld 45 (.tmp 18) rfl ?_); refine loadG (by kernel_rfl) (.tmp 18) rfl W1.heap.size rfl c1 HC.out.size X3.out ?_)
            | ((with_reducible refine at_ld 45 (.tmp 20) rfl ?_); refine loadG (by kernel_rfl) (.tmp 20) rfl W3.heap.size rfl c1 HC.out.size X5.out ?_)
            | ((with_reducible refine at_eql (.tmp 76) (.tmp 77) rfl ?_); refine eqlG (by kernel_rfl) (.tmp 76) (.tmp 77) rfl c1 c1 rfl rfl true (cel_same HC.out _) ?_)
            | (go_at_call 28; refine (HA3.out _).mono ?_; rintro ed W5 ⟨rfl, rfl⟩)
            | fail)
          go_meet
          exact ⟨rfl, d, X4, BD'⟩
      case rest =>
        obtain ⟨rfl, d', X4, BD'⟩ := hcut
        as_aux_lemma =>
          generalize wc = W4 at *
          go_wp2_with fail
          have hR5 := X4.out.R
          obtain ⟨v5, sn5, lf5, hr5, _, _⟩ := hR5
          have z3 : W4.cell? ⟨r, 3, none⟩ = some (.int .i64 (d').st) := rf3 hr5.hr
          have z6 : W4.cell? ⟨r, 6, none⟩ = some (.bool (d').dn) := rf6 hr5.hr
          have hr5d := hr5.below (Below.drew (Below.refl W4.heap.size W4))
          have y3 : W4.drew.cell? ⟨r, 3, none⟩ = some (.int .i64 (d').st) ∧ W4.drew.cell? ⟨r, 6, none⟩ = some (.bool (d').dn) := ⟨z3, z6⟩
          have hD5 := X4.out.M.disk.drew
          have C21 := Lib.hid (stepsd hD5)
          have C22 := Lib.hid (downd hD5)
          have C24 := Lib.hid (opened_3000 hD5)
          have HR5 := Lib.hid hr5d
          have HL5 := Lib.hid (show (keysL (d')).length ≤ 2048 from Nat.le_trans (keysL_len _) hD5.ok.1.2)
          have C40 := Lib.hid (fun W (hb : Below W4.drew.heap.size W4.drew W) => ropen (hr5d.below hb))
          clear hr5 hr5d hD5
          generalize (d').st = st5 at *
          generalize (d').dn = dn5 at *
          generalize keysL (d') = L5 at *
          go_region_held3 (fun W => W.cell? ⟨r, 3, none⟩ = some (.int .i64 st5) ∧ W.cell? ⟨r, 6, none⟩ = some (.bool dn5)) (first | exact y3 | exact y6 | exact y7 | exact y8 | fail) (first
            | (go_at_call 21; refine C21.out.mono ?_; rintro ed W6 ⟨rfl, rfl⟩)
            | (go_at_call 22; refine C22.out.mono ?_; rintro ed W6 ⟨rfl, rfl⟩)
            | (go_at_call 24; refine C24.out.mono ?_; rintro ed W6 ⟨A6, c6, rfl, hI6, hB6⟩; have h6 := HR5.out.below hB6; have y6 : W6.cell? ⟨r, 3, none⟩ = some (.int .i64 st5) ∧ W6.cell? ⟨r, 6, none⟩ = some (.bool dn5) := ⟨(hB6.cell (p := ⟨r, 3, none⟩) HR5.out.hr.lt).trans y3.1, (hB6.cell (p := ⟨r, 6, none⟩) HR5.out.hr.lt).trans y3.2⟩; have H6 := Lib.hid h6; have I6 := Lib.hid hI6; have B6 := Lib.hid hB6; clear h6 hI6 hB6)
            | (go_at_call 40; refine (C40.out _ B6.out).mono ?_; rintro ed W7 ⟨A7, c7, rfl, hI7, hB7⟩; have y7 : W7.cell? ⟨r, 3, none⟩ = some (.int .i64 st5) ∧ W7.cell? ⟨r, 6, none⟩ = some (.bool dn5) := ⟨(hB7.cell (p := ⟨r, 3, none⟩) H6.out.hr.lt).trans y6.1, (hB7.cell (p := ⟨r, 6, none⟩) H6.out.hr.lt).trans y6.2⟩; have I67 := Lib.hid (ins_below I6.out hB7); have I7 := Lib.hid hI7; have B7 := Lib.hid hB7; clear hI7 hB7)
            | (go_at_call 38; refine (ints_t2 HL5.out I67.out I7.out).mono ?_; rintro ed W8 ⟨rfl, hB8⟩; have y8 : W8.cell? ⟨r, 3, none⟩ = some (.int .i64 st5) ∧ W8.cell? ⟨r, 6, none⟩ = some (.bool dn5) := ⟨(hB8.cell (p := ⟨r, 3, none⟩) (Nat.lt_of_lt_of_le H6.out.hr.lt B7.out.size)).trans y7.1, (hB8.cell (p := ⟨r, 6, none⟩) (Nat.lt_of_lt_of_le H6.out.hr.lt B7.out.size)).trans y7.2⟩; have B8 := Lib.hid hB8; clear hB8)
            | fail)
          have BB := Lib.hid (((Below.drew (Below.refl W4.heap.size W4)).trans B6.out).trans (B7.out.mono B6.out.size))
          have B9 := Lib.hid (BB.out.trans (B8.out.mono BB.out.size))
          go_wp2
          go_roundw
          case rel => exact ⟨k + 1, d', by omega, by go_num, ((X4.out.pb BD'.out).below B9.out)⟩
          case measure => simp [Lib.intOf]; omega
    · obtain rfl : k = zs.length := by omega
      as_aux_lemma =>
        obtain ⟨v, sn, lf, hR, _⟩ := HP.out.R
        have CS := Lib.hid (same_any HP.out.M.disk hR (by have := HP.out.b.st; omega) HP.out.b.k)
        have HB5 := Lib.hid HP.out.M.bel
        have HZ := Lib.hid HP.out.M.siz
        clear hR
        go_wp2_with (first | (go_at_call 41; refine CS.out.mono ?_; rintro e w9 ⟨rfl, hb9⟩; have HB9 := Lib.hid (HB5.out.trans (hb9.mono HZ.out)); clear hb9) | fail)
        go_ret
        exact ⟨rfl, HB9.out⟩
end Go.Proofs.Ythfhilinajemhaa
