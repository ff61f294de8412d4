/-
  Read: a sector that is sure.
-/
import Derived.Test.YthfhilinajemhaaRead2
namespace Go.Proofs.Ythfhilinajemhaa
open Go.RowKit
open Go.Maps (Keyed int_keyed)
set_option linter.unusedVariables false
theorem load_mid (c : Array Value) (hc : c.size = 128) (w : World) (g o : Nat) (h : ∀ j v, c[j]? = some v → w.cell? ⟨g, o + j, none⟩ = some v) : (loadVar 45 ⟨g, o, none⟩).run Try.prog w = .ok (.agg c) w := by
  have := run_loadVar_mid (P := Try.prog) w g o 45 c.toList _ (fun j v hv => h j v (by rwa [Array.getElem?_toList] at hv)) Try.underlying45 rfl (by rw [Array.length_toList]; exact info45 hc)
  exact this
theorem loadW {P : Program} {ops : Array Oper} {rest : List Oper} {o : Oper} {a : Act} {w : World} {Q : Exit → Act → World → Prop} (hgd : o.guard = none) (t : TypeId) (x : Operand) (ho : o.op = .load t x) (ad : Addr) (hx : a.eval x = .pointer (some ad)) (v : Value) (hl : (loadVar t ad).run P w = .ok v w)
    (h : wpList P ops Q rest (a.put o.dst v) w) : wpList P ops Q (o :: rest) a w :=
  wpList_plain hgd fun K hK => by
    unfold Oper.wp execOp
    simp only [ho, hx, Instr.loadAt, Instr.sureAddr, Sem.run_bind, Sem.run_pure, Result.andThen_ok, hl]
    exact hK _ _ h
section
variable {w : World} {p m : Nat} {ar : Bool} {lf st : Int} {sv cv : Value}
set_option maxRecDepth 20000 in
theorem read_sure {g n z i : Nat} {f : Value → Option Value} (hi64 : ok64 i) (hin : i < n) (h : Blk w p (plA ar lf false (.slice (some ⟨g, 0, none⟩) n z) (.map (some m)) cv st) 90) (hm : MapF Try.prog 3 w m f) (c : Array Value) (hc : c.size = 128) (hall : c.all (·.oneCell') = true) (hf : f (.int .i64 i) = none) (hg : g < w.heap.size) (hrow : ∀ j v, c[j]? = some v → w.cell? ⟨g, i * 128 + j, none⟩ = some v) :
    Calls Try.prog 20 #[.pointer (some ⟨p, 0, none⟩), .int .i64 i] w fun e w' => e = .returned (.tuple #[.agg c, .nilIface]) ∧ Below w.heap.size w w' := by
  have hi : (0 : Int) ≤ i ∧ (i : Int) < n := ⟨by omega, by omega⟩
  have hi1 := hi.1
  have hi2 := hi.2
  have hz := zc_zero
  have hs := zc_size
  have hB := Blk.new w zc 45
  have hB2 : Blk ((w.alloc (.cells zc 45)).alloc (.cells zc 45)) (w.heap.size + 1) zc 45 := by simpa using Blk.new (w.alloc (.cells zc 45)) zc 45
  have hb3 : Below w.heap.size w (((w.alloc (.cells zc 45)).alloc (.cells zc 45)).setRow (w.heap.size + 1) zc) := below_setRow (((Below.refl _ _).alloc (Nat.le_refl _) _).alloc (by simp) _) (by omega) _
  have hL := load_mid c hc _ g (i * 128) (fun j v hj => (hb3.cell (p := ⟨g, i * 128 + j, none⟩) hg).trans (hrow j v hj))
  have y3 := pl3 (h.below hb3 h.lt)
  have hS := (hB.alloc (.cells zc 45)).setRow_other zc (C := w.heap.size + 1) (by omega)
  have hb : Below w.heap.size w ((((w.alloc (.cells zc 45)).alloc (.cells zc 45)).setRow (w.heap.size + 1) zc).setRow w.heap.size c) := below_setRow (below_setRow (((Below.refl _ _).alloc (Nat.le_refl _) _).alloc (by simp) _) (by omega) _) (Nat.le_refl _) _
  have h2 := h.alloc (.cells zc 45)
  have C0 := has_any i h2
  rw [decide_eq_true hi] at C0
  have C := Lib.hid C0
  have y2 := pl2 h2
  have y4 := pl4 h2
  obtain ⟨l, hl⟩ := key_int i hi64
  have hlk : (Instr.lookup 86 (.map (some m)) (.int .i64 i) true).run Try.prog (w.alloc (.cells zc 45)) = .ok (.tuple #[.agg zc, .bool false]) (w.alloc (.cells zc 45)) := by
    have := (hm.alloc (.cells zc 45)).lookup_ok keyed3 Try.underlying86 (zc_zero _) hl
    rw [hf] at this
    exact this
  have HR := Lib.hid (hS.setRow c)
  have HL := Lib.hid hL
  clear C0 hi h h2 hl hf hrow hL
  go_enter Try.func20, Try.ntmps20
  go_wp2_with fail
  refine C.out.mono ?_
  rintro e w' ⟨rfl, hw'⟩
  subst hw'
  go_wp2_with (first | (refine store_cW rfl _ _ rfl (w.heap.size + 1) zc rfl rfl zc hB2 zc_size zc_size zc_all ?_) | (refine loadW rfl 45 _ rfl ⟨g, i * 128, none⟩ rfl _ HL.out ?_) | (refine store_cW rfl _ _ rfl w.heap.size c rfl rfl zc hS zc_size hc hall ?_) | fail)
  exact bodyPost_ret (c_results _ 4 5 rfl _ _ w.heap.size c hc _ rfl rfl HR.out) rfl ⟨rfl, hb⟩
end
end Go.Proofs.Ythfhilinajemhaa
