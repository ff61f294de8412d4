/-
  settle's closure: a sector made sure if it is asked for.
-/
import Derived.Test.YthfhilinajemhaaDisk
import Derived.Shelf.Abstract
namespace Go.Proofs.Ythfhilinajemhaa
open Go.RowKit
open Go.Maps (Keyed int_keyed)
set_option linter.unusedVariables false

/-- A function value that only tells, whatever becomes of the blocks of F. -/
def Tells (F : Nat → Prop) (w0 : World) (gw : Nat) (cb : Array Value) (i : Int) (b : Bool) : Prop :=
  ∀ W, Fr F w0 W → Calls Try.prog gw (#[.int .i64 i] ++ cb) W fun e w' => e = .returned (.bool b) ∧ w' = W

set_option maxHeartbeats 400000 in
theorem settle1_no {F : Nat → Prop} {w0 w : World} {gw bw bp : Nat} {cb : Array Value} (eg : ∀ args w, (callFunc gw args).run Try.prog w = .ok (.enter gw args) w) (i : Int) (c : Array Value) (hc : c.size = 128)
    (ht : Tells F w0 gw cb i false) (hf : Fr F w0 w) (hw : Blk w bw #[.func (.func gw) #[] cb] 91) :
    Calls Try.prog 56 #[.int .i64 i, .agg c, .pointer (some ⟨bw, 0, none⟩), .pointer (some ⟨bp, 0, none⟩)] w fun e w' => e = .returned (.bool false) ∧ Below w.heap.size w w' := by
  have hb : Below w.heap.size w (w.alloc (.cells c 45)) := (Below.refl _ _).alloc (Nat.le_refl _) _
  have hc0 := (hw.alloc (.cells c 45)).cell (j := 0) rfl
  have C := Lib.hid (ht _ (hf.trans (Fr.of_below hb : Fr F w _) (fun _ h => .inl h)))
  clear ht hf hw
  go_enter Try.func56, Try.ntmps56
  go_wp2_with (first | (go_at_fn gw; refine C.out.mono ?_; rintro e w' ⟨rfl, rfl⟩) | fail)
  go_ret
  exact ⟨rfl, hb⟩

theorem store_mW {ops : Array Oper} {rest : List Oper} {o : Oper} {a : Act} {w : World} {Q : Exit → Act → World → Prop} (hgd : o.guard = none) (x y : Operand) (ho : o.op = .store 45 x y) (g n : Nat) (s : Nat → Array Value) (i : Nat) (hi : i < n) (c : Array Value) (hc : Cel c)
    (hx : a.eval x = .pointer (some ⟨g, i * 128, none⟩)) (hy : a.eval y = .agg c) (hg : Blk w g (flat n s) 45)
    (h : ∀ w', Blk w' g (flat n (updS s i c)) 45 → Fr (fun k => k = g) w w' → wpList Try.prog ops Q rest (a.put o.dst undef) w') : wpList Try.prog ops Q (o :: rest) a w := by
  refine wpList_store_mid hgd 45 x y ho g (i * 128) c hx hy ?_ (info45 hc.size) hc.all ?_
  · rw [hc.size]; exact there_flat hg i hi
  · refine h _ ?_ (Fr.setCells g _ _ _)
    rw [← putAll_flat n s i c hi hc.size]
    exact hg.setCells
set_option maxHeartbeats 400000 in
set_option maxRecDepth 20000 in
theorem settle1_yes {F : Nat → Prop} {w0 w : World} {gw bw bp p g n : Nat} {s : Nat → Array Value} {ar dn : Bool} {lf st : Int} {mv cv : Value} {cb : Array Value} (eg : ∀ args w, (callFunc gw args).run Try.prog w = .ok (.enter gw args) w) (i : Nat) (hi : i < n) (hn : n ≤ 2048) (c : Array Value) (hc : Cel c)
    (ht : Tells F w0 gw cb i true) (hf : Fr F w0 w) (hFg : F g) (hw : Blk w bw #[.func (.func gw) #[] cb] 91) (hp : Blk w bp #[.pointer (some ⟨p, 0, none⟩)] 29) (hd : Blk w p (plA ar lf dn (.slice (some ⟨g, 0, none⟩) n n) mv cv st) 90) (hg : Blk w g (flat n s) 45) :
    Calls Try.prog 56 #[.int .i64 i, .agg c, .pointer (some ⟨bw, 0, none⟩), .pointer (some ⟨bp, 0, none⟩)] w fun e w' => e = .returned (.bool true) ∧ Blk w' g (flat n (updS s i c)) 45 ∧ Fr (fun k => k = g) w w' := by
  have hb : Below w.heap.size w (w.alloc (.cells c 45)) := (Below.refl _ _).alloc (Nat.le_refl _) _
  have lg := hg.lt
  have hN := Blk.new w c 45
  have hcs := hc.size
  have k1 := hw.alloc (.cells c 45)
  have k2 := hp.alloc (.cells c 45)
  have k3 := hd.alloc (.cells c 45)
  have k4 := hg.alloc (.cells c 45)
  have k5 : g ≠ bw := hg.ne hw (by decide)
  have hfr := hf.trans (Fr.of_below hb : Fr F w _) (fun _ h => .inl h)
  have fb : Fr (fun k => k = g) w (w.alloc (.cells c 45)) := Fr.of_below hb
  have x1 := k1.cell (j := 0) rfl
  have x2 := k2.cell (j := 0) rfl
  have x3 := pl3 k3
  have HT := Lib.hid ht
  have i1 : (i : Int) < (n : Int) := by omega
  have i2 : (0 : Int) ≤ (i : Int) := by omega
  have HC := Lib.hid hc
  have HF := Lib.hid hfr
  have HFB := Lib.hid fb
  clear ht hf hw hp hd hg hc hfr fb hb
  go_enter Try.func56, Try.ntmps56
  generalize hW : w.alloc (.cells c 45) = W at *
  have C := Lib.hid (HT.out W HF.out)
  go_wp2_with (first | (go_at_fn gw; refine C.out.mono ?_; rintro e w' ⟨rfl, rfl⟩) | fail)
  have hbw : Blk w' bw #[.func (.func gw) #[] cb] 91 := k1
  refine wp_region_still_tail 7 (by kernel_rfl) (by kernel_rfl) ?_
  change wpStill _ _ w'.drew _ _ _
  simp only [List.take_succ_cons, List.take_zero, List.drop_succ_cons, List.drop_zero]
  iterate 5 (refine wpStill_step (fun K hK => ?_); go_simp; (try go_ints); (try go_simp); refine hK _ ?_; clear hK K)
  refine still_load_c rfl (.tmp 5) rfl w.heap.size rfl c hcs (Blk.drew hN) ?_
  go_simp
  iterate 1 (refine wpStill_step (fun K hK => ?_); go_simp; (try go_ints); (try go_simp); refine hK _ ?_; clear hK K)
  refine wpStill_nil ?_
  change wpList _ _ _ _ _ w'.drew
  refine store_mW rfl (.tmp 16) (.tmp 15) rfl g n s i hi c HC.out rfl rfl (Blk.drew k4) ?_
  intro w2 hg2 hf2
  have q1 := (hf2.blk (Blk.drew k1) (fun e => k5 e.symm)).cell (j := 0) rfl
  have hfr : Fr (fun k => k = g) w' w2 := ⟨hf2.os, hf2.tape, hf2.output, hf2.size, hf2.block⟩
  have C2 := Lib.hid (HT.out w2 (HF.out.trans hfr (fun _ (h : _ = g) => .inl (by rw [h]; exact hFg))))
  have HG2 := Lib.hid hg2
  have HR := Lib.hid (HFB.out.trans hfr (fun _ h => .inl h))
  clear hf2 hg2 hfr x1 x2 x3 C hbw
  go_wp2_with (first | (go_at_fn gw; refine C2.out.mono ?_; rintro e w3 ⟨rfl, rfl⟩) | fail)
  go_ret
  exact ⟨rfl, HG2.out, HR.out⟩
end Go.Proofs.Ythfhilinajemhaa
