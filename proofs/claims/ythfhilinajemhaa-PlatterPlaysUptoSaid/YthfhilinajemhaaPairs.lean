/-
  A call of a disk and the same call of the document's: the two answers are one number, the two states stay one.
-/
import Derived.Test.YthfhilinajemhaaSame
import Derived.Test.YthfhilinajemhaaLong
import Derived.Test.YthfhilinajemhaaMarks
import Derived.Test.YthfhilinajemhaaRef6
import Derived.Test.YthfhilinajemhaaRef9
import Derived.Test.YthfhilinajemhaaRef10
import Derived.Test.YthfhilinajemhaaRef11
namespace Go.Proofs.Ythfhilinajemhaa
open Go.RowKit
open Go.Maps (Keyed int_keyed)
set_option linter.unusedVariables false

/-- what n calls can have made of the numbers -/
structure Bd (n : Int) (d : Dk) : Prop where
  st : 0 ≤ d.st ∧ d.st ≤ n
  lf : -n ≤ d.lf ∧ ok64 d.lf
  k : d.k ≤ 16
theorem Bd.room {n : Int} {d : Dk} (h : Bd n d) (hn : n ≤ 1000) : d.room := by
  have h1 := h.st
  have h2 := h.lf
  exact ⟨⟨h1.1, by omega⟩, by omega, h2.2⟩
theorem Bd.more {n : Int} {d : Dk} (h : Bd n d) : Bd (n + 1) d := by
  have h1 := h.st
  have h2 := h.lf
  exact ⟨⟨h1.1, by omega⟩, ⟨by omega, h2.2⟩, h.k⟩
theorem Bd.downed {n : Int} {d : Dk} (h : Bd n d) : Bd (n + 1) d.downed := ⟨h.more.st, h.more.lf, h.k⟩
theorem Bd.stepped {n : Int} {d : Dk} (h : Bd n d) (hn : n ≤ 1000) : Bd (n + 1) d.stepped := by
  have h1 := h.st
  have h2 := h.lf
  refine ⟨⟨by show 0 ≤ d.st + 1; omega, by show d.st + 1 ≤ n + 1; omega⟩, ⟨by show -(n + 1) ≤ d.lf - 1; omega, Dk.room_lf (h.room hn)⟩, h.k⟩
section
variable {S : Nat} {w0 : World} {p m g gc r gs gn gk : Nat} {d : Dk} {n : Int}
/-- the disk's call f answers u and leaves d' -/
def ICall (S : Nat) (w0 : World) (p m g gc : Nat) (f : FuncId) (args : Array Value) (d : Dk) (u : Value) (d' : Dk) : Prop := ∀ W, Mine S w0 W p m g gc d → Calls Try.prog f args W (LeftF S w0 W p m g gc u d')
/-- the document's -/
def RCall (S : Nat) (r gs gn gk : Nat) (f : FuncId) (args : Array Value) (d : Dk) (u : Value) (d' : Dk) : Prop := ∀ W v sn lf, RSt W r gs gn gk S v d sn lf → ∃ lf', Calls Try.prog f args W (RAns W r gs gn gk S v u d' lf')
theorem write_pair (hb : Bd n d) (hn : n ≤ 1000) (i : Int) (c : Array Value) (hc : Cel c) : ∃ (er : Value) (en : Int) (d' : Dk), NumOf er en ∧ Bd (n + 1) d' ∧
    ICall S w0 p m g gc 18 #[.pointer (some ⟨p, 0, none⟩), .int .i64 i, .agg c] d er d' ∧ RCall S r gs gn gk 29 #[.pointer (some ⟨r, 0, none⟩), .int .i64 i, .agg c] d (.int .i64 en) d' := by
  have hst : d.st ≤ 100000 := by have := hb.st; omega
  by_cases hi : 0 ≤ i ∧ i < d.n
  · obtain ⟨j, rfl⟩ : ∃ j : Nat, i = j := ⟨i.toNat, by omega⟩
    have hj : j < d.n := by omega
    by_cases ho : d.off
    · exact ⟨errP 5, 5, d.downed, fun W => is_any 5 5 (by omega) (by omega) W, hb.downed, fun W h => write_m_down h _ c hc hi ho, fun W v sn lf h => ⟨lf, rwrite_down h j c hc.size hj ho⟩⟩
    · exact ⟨.nilIface, 0, d.stepped.put j c, num_nil, ⟨(hb.stepped hn).st, (hb.stepped hn).lf, hb.k⟩, fun W h => write_m h _ c hc hi ho (hb.room hn), fun W v sn lf h => ⟨lfS d lf, rwrite_yes h j c hc hj ho (hb.room hn) hst⟩⟩
  · exact ⟨errP 1, 1, d, fun W => is_any 1 1 (by omega) (by omega) W, hb.more, fun W h => write_m_no h _ c hc hi, fun W v sn lf h => ⟨lf, rwrite_none h i c hc.size hi⟩⟩
theorem flush_pair (hb : Bd n d) (hn : n ≤ 1000) (a z : Int) (ha : ok64 a) (hz : ok64 z) : ∃ (er : Value) (en : Int) (d' : Dk), NumOf er en ∧ Bd (n + 1) d' ∧
    ICall S w0 p m g gc 19 #[.pointer (some ⟨p, 0, none⟩), .int .i64 a, .int .i64 z] d er d' ∧ RCall S r gs gn gk 30 #[.pointer (some ⟨r, 0, none⟩), .int .i64 a, .int .i64 z] d (.int .i64 en) d' := by
  have hst : d.st ≤ 90000 := by have := hb.st; omega
  by_cases hi : 0 ≤ a ∧ 0 ≤ z ∧ z ≤ d.n - a
  · obtain ⟨x, rfl⟩ : ∃ x : Nat, a = x := ⟨a.toNat, by omega⟩
    obtain ⟨y, rfl⟩ : ∃ y : Nat, z = y := ⟨z.toNat, by omega⟩
    by_cases ho : d.off
    · exact ⟨errP 5, 5, d.downed, fun W => is_any 5 5 (by omega) (by omega) W, hb.downed, fun W h => flush_m_down h _ _ ha hz hi ho, fun W v sn lf h => ⟨lf, rflush_down h _ _ ha hz hi.1 hi.2.1 hi.2.2 ho⟩⟩
    · exact ⟨.nilIface, 0, d.stepped.settled (inR x y), num_nil, ⟨(hb.stepped hn).st, (hb.stepped hn).lf, hb.k⟩, fun W h => flush_m h _ _ ha hz hi ho (hb.room hn), fun W v sn lf h => ⟨lfS d lf, rflush_yes h x y (by omega) ho (hb.room hn) hst⟩⟩
  · exact ⟨errP 1, 1, d, fun W => is_any 1 1 (by omega) (by omega) W, hb.more, fun W h => flush_m_no h _ _ ha hz hi, fun W v sn lf h => ⟨lf, rflush_no h a z ha hz hi⟩⟩
theorem LeftF.same {W : World} {u : Value} (h : Mine S w0 W p m g gc d) : ∀ e W', (e = .returned u ∧ W' = W) → LeftF S w0 W p m g gc u d e W' := fun e W' ⟨he, hw⟩ => by
  subst hw
  exact ⟨he, h, Fr.refl _ _⟩
theorem praise_m {w : World} (h : Mine S w0 w p m g gc d) (i : Nat) (x : Int) (hi : i < d.k) (hx : d.ct i ≤ x) (ho : ¬ d.off) (hr : d.room) : Calls Try.prog 13 #[.pointer (some ⟨p, 0, none⟩), .int .i64 i, .int .i64 x] w (LeftF S w0 w p m g gc .nilIface (d.stepped.raised i x)) :=
  (raised_yes h.disk i x hi hx ho hr).mono fun _ _ ⟨he, hd, hf⟩ => ⟨he, h.step hd hf (fun _ h => dl_pc h), hf.weak (fun _ h => dl_pc h)⟩
theorem praise_m_down {w : World} (h : Mine S w0 w p m g gc d) (i : Nat) (x : Int) (hi : i < d.k) (hx : d.ct i ≤ x) (ho : d.off) : Calls Try.prog 13 #[.pointer (some ⟨p, 0, none⟩), .int .i64 i, .int .i64 x] w (LeftF S w0 w p m g gc (errP 5) d.downed) :=
  (raised_down h.disk i x hi hx ho).mono fun _ _ ⟨he, hd, hf⟩ => ⟨he, h.step hd hf (fun _ h => dl_p h), hf.weak (fun _ h => dl_p h)⟩
theorem raise_pair (hb : Bd n d) (hn : n ≤ 1000) (i x : Int) : ∃ (er : Value) (en : Int) (d' : Dk), NumOf er en ∧ Bd (n + 1) d' ∧
    ICall S w0 p m g gc 13 #[.pointer (some ⟨p, 0, none⟩), .int .i64 i, .int .i64 x] d er d' ∧ RCall S r gs gn gk 31 #[.pointer (some ⟨r, 0, none⟩), .int .i64 i, .int .i64 x] d (.int .i64 en) d' := by
  by_cases hi : 0 ≤ i ∧ i < d.k
  · obtain ⟨j, rfl⟩ : ∃ j : Nat, i = j := ⟨i.toNat, by omega⟩
    have hj : j < d.k := by omega
    by_cases hx : x < d.ct j
    · exact ⟨errP 1, 1, d, fun W => is_any 1 1 (by omega) (by omega) W, hb.more, fun W h => (raised_low h.disk j x hj hx).mono (LeftF.same h), fun W v sn lf h => ⟨lf, rraise_low h j x hj hx⟩⟩
    · by_cases ho : d.off
      · exact ⟨errP 5, 5, d.downed, fun W => is_any 5 5 (by omega) (by omega) W, hb.downed, fun W h => praise_m_down h j x hj (by omega) ho, fun W v sn lf h => ⟨lf, rraise_down h j x hj (by omega) ho⟩⟩
      · exact ⟨.nilIface, 0, d.stepped.raised j x, num_nil, ⟨(hb.stepped hn).st, (hb.stepped hn).lf, hb.k⟩, fun W h => praise_m h j x hj (by omega) ho (hb.room hn), fun W v sn lf h => ⟨lfS d lf, rraise_yes h j x hj (by omega) ho (hb.room hn)⟩⟩
  · exact ⟨errP 1, 1, d, fun W => is_any 1 1 (by omega) (by omega) W, hb.more, fun W h => (raised_none h.disk i x hi).mono (LeftF.same h), fun W v sn lf h => ⟨lf, rraise_none h i x hi⟩⟩
theorem ptamper_m {w : World} (h : Mine S w0 w p m g gc d) (i : Nat) (hi : i < d.n) (A : Option Addr) (c : Nat) (R : List Int) (hR : R.length ≤ 128) (T : Nat) (hT : T ≤ w.heap.size) (hr : RB w T A R) (hA : ∀ ad, A = some ad → ad.block < T → ¬ Dl p m g gc ad.block) :
    Calls Try.prog 33 #[.pointer (some ⟨p, 0, none⟩), .int .i64 i, .slice A R.length c] w (LeftF S w0 w p m g gc .nilIface (d.tampered i R)) := by
  have hw : ∀ k, (k = m ∨ k = g) → Dl p m g gc k := fun k h => h.elim (fun h => .inr (.inl h)) (fun h => .inr (.inr (.inl h)))
  cases ho : d.op i with
  | none => exact (tamper_none h.disk i hi A c R hR T hT hr hA ho).mono fun _ _ ⟨he, hd, hf⟩ => ⟨he, h.step hd hf hw, hf.weak hw⟩
  | some b => exact (tamper_open h.disk i hi A c R hR T hT hr hA b ho).mono fun _ _ ⟨he, hd, hf⟩ => ⟨he, h.step hd hf hw, hf.weak hw⟩
theorem tamper_pair (hb : Bd n d) (hn : n ≤ 1000) (i : Int) (R : List Int) (A2 : Option Addr) (c2 : Nat) : ∃ (er : Value) (en : Int) (d' : Dk), NumOf er en ∧ Bd (n + 1) d' ∧
    (∀ W gb cb, Mine S w0 W p m g gc d → Blk W gb (marked R) 5 → ¬ Dl p m g gc gb → Calls Try.prog 33 #[.pointer (some ⟨p, 0, none⟩), .int .i64 i, .slice (some ⟨gb, 0, none⟩) R.length cb] W (LeftF S w0 W p m g gc er d')) ∧
    (∀ W v sn lf, RSt W r gs gn gk S v d sn lf → S ≤ W.heap.size → RB W S A2 R → ∃ lf', Calls Try.prog 34 #[.pointer (some ⟨r, 0, none⟩), .int .i64 i, .slice A2 R.length c2] W (RAns W r gs gn gk S v (.int .i64 en) d' lf')) := by
  have hst : d.st ≤ 100000 := by have := hb.st; omega
  by_cases hi : 0 ≤ i ∧ i < d.n
  · obtain ⟨j, rfl⟩ : ∃ j : Nat, i = j := ⟨i.toNat, by omega⟩
    have hj : j < d.n := by omega
    by_cases hR : R.length ≤ 128
    · refine ⟨.nilIface, 0, d.tampered j R, num_nil, ⟨hb.more.st, hb.more.lf, hb.k⟩, fun W gb cb h hB hD => ?_, fun W v sn lf h hS hr => ⟨lf, rtamper h j hj A2 c2 R hR hst S hS (Nat.le_refl _) hr⟩⟩
      exact ptamper_m h j hj _ cb R hR (gb + 1) hB.lt (marked_rb hB) (fun ad h0 _ hd => by cases h0; exact hD hd)
    · exact ⟨errP 1, 1, d, fun W => is_any 1 1 (by omega) (by omega) W, hb.more, fun W gb cb h hB hD => (tamper_long h.disk j hi _ _ _ (by omega)).mono (LeftF.same h), fun W v sn lf h hS hr => ⟨lf, rtamper_long h j A2 _ c2 hj (by omega)⟩⟩
  · exact ⟨errP 1, 1, d, fun W => is_any 1 1 (by omega) (by omega) W, hb.more, fun W gb cb h hB hD => (tamper_no h.disk i hi _ _ _).mono (LeftF.same h), fun W v sn lf h hS hr => ⟨lf, rtamper_none h i A2 _ c2 hi⟩⟩
theorem parm_no (hb : Bd n d) (x : Int) (hx : x < 0) : Bd (n + 1) d ∧ ICall S w0 p m g gc 17 #[.pointer (some ⟨p, 0, none⟩), .int .i64 x] d (errP 1) d :=
  ⟨hb.more, fun W h => (arm_no x hx W).mono (LeftF.same h)⟩
theorem parm_yes (hb : Bd n d) (hn : 0 ≤ n) (x : Int) (hx : 0 ≤ x) (hx64 : ok64 x) : Bd (n + 1) (d.set true x d.dn d.st) ∧ ICall S w0 p m g gc 17 #[.pointer (some ⟨p, 0, none⟩), .int .i64 x] d .nilIface (d.set true x d.dn d.st) :=
  ⟨⟨hb.more.st, ⟨by show -(n + 1) ≤ x; omega, hx64⟩, hb.k⟩, fun W h => (armd_yes h.disk x hx).mono fun _ _ ⟨he, hd, hf⟩ => ⟨he, h.step hd hf (fun _ h => dl_p h), hf.weak (fun _ h => dl_p h)⟩⟩
theorem crash_pair (hb : Bd n d) (hn : 0 ≤ n ∧ n ≤ 1000) (L : List Int) (hL : L.length ≤ 100000) (A2 : Option Addr) (c2 : Nat) : Bd (n + 1) (d.crashed L) ∧
    (∀ W A c T, Mine S w0 W p m g gc d → T ≤ W.heap.size → RI W T A L → (∀ ad, A = some ad → ad.block < T → ¬ Dl p m g gc ad.block) → Calls Try.prog 15 #[.pointer (some ⟨p, 0, none⟩), .slice A L.length c] W (LeftF S w0 W p m g gc (.tuple #[]) (d.crashed L))) ∧
    (∀ W v sn lf, RSt W r gs gn gk S v d sn lf → S ≤ W.heap.size → RI W S A2 L → ∃ lf', Calls Try.prog 37 #[.pointer (some ⟨r, 0, none⟩), .slice A2 L.length c2] W (RAns W r gs gn gk S v (.tuple #[]) (d.crashed L) lf')) := by
  have hst : d.st ≤ 100000 := by have := hb.st; omega
  refine ⟨⟨hb.more.st, ⟨by show -(n + 1) ≤ (0 : Int); omega, by show ok64 0; exact ⟨by omega, by omega⟩⟩, hb.k⟩, fun W A c T h hT hR hA => crash_m h A c L (by unfold maxLen; omega) T hT hR hA, fun W v sn lf h hS hR => ⟨lf, rcrash h A2 c2 L hL hst S hS (Nat.le_refl _) hR⟩⟩

/-! ### both disks, apart in memory, and the call that is at work -/
structure PX (S : Nat) (w0 : World) (p m g gc r gs gn gk : Nat) (b : Nat) (o : OpD) (d e : Dk) (W : World) : Prop where
  M : Mine S w0 W p m g gc d
  R : ∃ v sn lf, RSt W r gs gn gk S v e sn lf ∧ (∀ k, Dl p m g gc k → ¬ Rl r gs gn gk v k) ∧ ¬ Rl r gs gn gk v b
  X : Blk W b (opA o) 66
  nb : ¬ Dl p m g gc b
  lo : S ≤ b
variable {b : Nat} {o : OpD} {e d' e' : Dk} {W W' : World} {u : Value}
theorem PX.below (h : PX S w0 p m g gc r gs gn gk b o d e W) (hb : Below W.heap.size W W') : PX S w0 p m g gc r gs gn gk b o d e W' := by
  obtain ⟨v, sn, lf, h1, h2, h3⟩ := h.R
  exact ⟨h.M.below hb, ⟨v, sn, lf, h1.below hb, h2, h3⟩, h.X.below hb h.X.lt, h.nb, h.lo⟩
/-- memory of one's own written -/
theorem PX.fr (h : PX S w0 p m g gc r gs gn gk b o d e W) {F : Nat → Prop} (hf : Fr F W W') (hF : ∀ k, F k → S ≤ k ∧ ¬ Dl p m g gc k ∧ k ≠ b) (hR : ∀ v sn lf, RSt W r gs gn gk S v e sn lf → (∀ k, Dl p m g gc k → ¬ Rl r gs gn gk v k) → ¬ Rl r gs gn gk v b → ∀ k, F k → ¬ Rl r gs gn gk v k) : PX S w0 p m g gc r gs gn gk b o d e W' := by
  obtain ⟨v, sn, lf, h1, h2, h3⟩ := h.R
  exact ⟨h.M.keep hf (fun k hk => ⟨(hF k hk).2.1, (hF k hk).1⟩), ⟨v, sn, lf, h1.keep hf (hR v sn lf h1 h2 h3), h2, h3⟩, hf.blk h.X (fun hk => (hF b hk).2.2 rfl), h.nb, h.lo⟩
def PAns (S : Nat) (w0 : World) (p m g gc r gs gn gk : Nat) (b : Nat) (o : OpD) (d e : Dk) (u : Value) (ed : Ending) (W' : World) : Prop := ed = .returned u ∧ PX S w0 p m g gc r gs gn gk b o d e W'
theorem PX.impl (h : PX S w0 p m g gc r gs gn gk b o d e W) : ∀ ed W', LeftF S w0 W p m g gc u d' ed W' → PAns S w0 p m g gc r gs gn gk b o d' e u ed W' := fun ed W' ⟨he, hM, hf⟩ => by
  obtain ⟨v, sn, lf, h1, h2, h3⟩ := h.R
  exact ⟨he, hM, ⟨v, sn, lf, h1.keep hf (fun k hk => h2 k hk), h2, h3⟩, hf.blk h.X h.nb, h.nb, h.lo⟩
theorem PX.icall (h : PX S w0 p m g gc r gs gn gk b o d e W) {f : FuncId} {args : Array Value} (hc : ICall S w0 p m g gc f args d u d') : Calls Try.prog f args W (PAns S w0 p m g gc r gs gn gk b o d' e u) :=
  (hc W h.M).mono h.impl
theorem PX.rans (h : PX S w0 p m g gc r gs gn gk b o d e W) {v : Nat → Value} {lf' : Int} (hd : ∀ k, Dl p m g gc k → ¬ Rl r gs gn gk v k) (hb : ¬ Rl r gs gn gk v b) (hlo : ∀ k, Rl r gs gn gk v k → S ≤ k) : ∀ ed W', RAns W r gs gn gk S v u e' lf' ed W' → PAns S w0 p m g gc r gs gn gk b o d e' u ed W' := fun ed W' ⟨he, v', sn', hr, hg⟩ => by
  refine ⟨he, h.M.keep hg.1 (fun k hk => ⟨fun hk2 => hd k hk2 hk, hlo k hk⟩), ⟨v', sn', lf', hr, fun k hk hk2 => ?_, fun hk2 => ?_⟩, hg.1.blk h.X hb, h.nb, h.lo⟩
  · rcases hg.2 k hk2 with h1 | h1
    · exact hd k hk h1
    · have := h.M.disk.lt hk; omega
  · rcases hg.2 b hk2 with h1 | h1
    · exact hb h1
    · have := h.X.lt; omega
theorem PX.rcall (h : PX S w0 p m g gc r gs gn gk b o d e W) {f : FuncId} {args : Array Value} (hc : RCall S r gs gn gk f args e u e') : Calls Try.prog f args W (PAns S w0 p m g gc r gs gn gk b o d e' u) := by
  obtain ⟨v, sn, lf, h1, h2, h3⟩ := h.R
  obtain ⟨lf', hcc⟩ := hc W v sn lf h1
  exact hcc.mono (h.rans h2 h3 (fun k hk => (h1.lt hk).1))
end
end Go.Proofs.Ythfhilinajemhaa
