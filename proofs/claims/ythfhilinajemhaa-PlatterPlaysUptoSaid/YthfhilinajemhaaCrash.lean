/-
  Crash: a nil disk; the sectors that are kept; the power there again.
-/
import Derived.Test.YthfhilinajemhaaFlush
namespace Go.Proofs.Ythfhilinajemhaa
open Go.RowKit
open Go.Maps (Keyed int_keyed)
set_option linter.unusedVariables false

theorem crash_nil (A : Option Addr) (n c : Nat) (w : World) : Calls Try.prog 15 #[.pointer none, .slice A n c] w fun e w' => e = .returned (.tuple #[]) ∧ Below w.heap.size w w' := by
  have hb : Below w.heap.size w (w.alloc (.cells #[.slice A n c] 27)) := (Below.refl _ _).alloc (Nat.le_refl _) _
  go_enter Try.func15, Try.ntmps15
  go_wp2
  exact bodyPost_ret (results_none rfl _ _ _) rfl ⟨rfl, hb⟩
def Dk.crashed (d : Dk) (L : List Int) : Dk := { d with op := fun _ => none, s := setS d (fun i => decide (i ∈ L)), ar := false, lf := 0, dn := false }
def Crashed (w : World) (p m g gc : Nat) (d : Dk) (L : List Int) (e : Ending) (w' : World) : Prop := e = .returned (.tuple #[]) ∧ Disk w' p m g gc (d.crashed L) ∧ Fr (fun k => k = p ∨ k = m ∨ k = g) w w'
theorem info88 : (Try.prog.info? 88).map (·.size) = some 3 := by kernel_rfl
theorem store_fW {ops : Array Oper} {rest : List Oper} {o : Oper} {a : Act} {w : World} {Q : Exit → Act → World → Prop} (hgd : o.guard = none) (x y : Operand) (ho : o.op = .store 88 x y) {p : Nat} {ar dn : Bool} {lf st : Int} {sv mv cv : Value} (hb : Blk w p (plA ar lf dn sv mv cv st) 90)
    (hx : a.eval x = .pointer (some ⟨p, 0, none⟩)) (hy : a.eval y = .agg #[.bool false, .int .i64 0, .bool false])
    (h : ∀ w', Blk w' p (plA false 0 false sv mv cv st) 90 → Fr (fun k => k = p) w w' → wpList Try.prog ops Q rest (a.put o.dst undef) w') : wpList Try.prog ops Q (o :: rest) a w := by
  refine wpList_store_mid hgd 88 x y ho p 0 #[.bool false, .int .i64 0, .bool false] hx hy (fun j hj => ⟨?_, hb.frozen _⟩) info88 (by kernel_rfl) ?_
  · have hj3 : j < 3 := hj
    have : ∃ v, (plA ar lf dn sv mv cv st)[0 + j]? = some v := by
      rcases j with _ | _ | _ | j
      · exact ⟨_, rfl⟩
      · exact ⟨_, rfl⟩
      · exact ⟨_, rfl⟩
      · omega
    obtain ⟨v, hv⟩ := this
    rw [hb.cell hv]; rfl
  · exact h _ hb.setCells (Fr.setCells p _ _ _)
set_option maxHeartbeats 1000000 in
theorem crash_any {w : World} {p m g gc : Nat} {d : Dk} (hd : Disk w p m g gc d) (A : Option Addr) (c : Nat) (L : List Int) (hL : L.length ≤ maxLen) (S : Nat) (hS : S ≤ w.heap.size) (hR : RI w S A L) (hA : ∀ ad, A = some ad → ad.block < S → ¬ Dl p m g gc ad.block) :
    Calls Try.prog 15 #[.pointer (some ⟨p, 0, none⟩), .slice A L.length c] w (Crashed w p m g gc d L) := by
  have hmf : ∀ (fn : Fn) (first cap : Array Value) (w : World), (Instr.makeFunc fn first cap).run Try.prog w = .ok (.func fn first cap) w := fun _ _ _ _ => rfl
  have hb : Below w.heap.size w (w.alloc (.cells #[.slice A L.length c] 27)) := (Below.refl _ _).alloc (Nat.le_refl _) _
  have k1 := Blk.new w #[.slice A L.length c] 27
  have lm := hd.m.lt
  have lg := hd.g.lt
  have hd1 := hd.below hb
  have hdl : (w.alloc (.cells #[.slice A L.length c] 27)).heap.size = w.heap.size + 1 := by simp
  have C := Lib.hid (settle_any (gw := 47) (enters_of Try.func47 (by kernel_rfl) rfl) (fun i => decide (i ∈ L)) hd1 (fun i _ _ => crash1_tells (c := c) hL k1 (by omega) (hR.below (hb.mono hS)) (by omega) (fun ad h hlt hf => hA ad h hlt (hf.elim (fun e => .inr (.inl e)) (fun e => .inr (.inr (.inl e))))) i))
  have HB := Lib.hid hb
  have HD := Lib.hid hd
  have hbz : ∀ w, (Instr.build 88 #[]).run Try.prog w = .ok (.agg #[.bool false, .int .i64 0, .bool false]) w := fun w => by kernel_rfl
  clear hd hd1 hb k1 hdl hR hA lm lg
  go_enter Try.func15, Try.ntmps15
  go_wp2_with (first
    | (go_at_call 46; refine C.out.mono ?_; rintro e w2 ⟨rfl, hd2, hf2⟩; have x4 := pl4 hd2.p; have HD2 := Lib.hid hd2; have HF2 := Lib.hid hf2; clear hd2 hf2)
    | (refine clearW rfl _ 86 rfl 3 45 Try.underlying86 m _ rfl HD2.out.m ?_; intro w3 hm3 hf3 hs3; have b3 := hf3.blk HD2.out.p HD2.out.pm; have HM3 := Lib.hid hm3; have HF3 := Lib.hid hf3; have B3 := Lib.hid b3; clear x4 hm3 hf3 b3)
    | (refine store_fW rfl _ _ rfl B3.out rfl rfl ?_; intro w4 hp4 hf4)
    | fail)
  go_end0
  have hp : Blk w4 p (plA false 0 false (.slice (some ⟨g, 0, none⟩) d.n d.n) (.map (some m)) (.slice (some ⟨gc, 0, none⟩) d.k d.k) d.st) 90 := hp4
  have hok := HD2.out.ok
  refine ⟨rfl, ⟨hp, hf4.blk (HF3.out.blk HD2.out.g HD2.out.gm) HD2.out.pg, map_fun (hf4.map HM3.out HD2.out.pm.symm) (fun x => by rw [show (d.crashed L).op = fun _ => none from rfl, opn_none]), hf4.blk (HF3.out.blk HD2.out.c HD2.out.cm) HD2.out.pc, hok.1, hok.2.1, fun i c h => by cases h⟩, ?_⟩
  refine (((Fr.of_below HB.out : Fr (fun k => k = p ∨ k = m ∨ k = g) w _).trans HF2.out (fun i h => .inl (.inr h))).trans HF3.out (fun i (h : i = m) => .inl (.inr (.inl h)))).trans hf4 (fun i (h : i = p) => .inl (.inl h))
end Go.Proofs.Ythfhilinajemhaa
