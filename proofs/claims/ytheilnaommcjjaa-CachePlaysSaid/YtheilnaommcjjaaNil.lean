/-
  What a nil cache answers; an op's line.
-/
import Derived.Test.YtheilnaommcjjaaColl
import Derived.Test.YtheilnaommcjjaaOpen
namespace Go.Proofs.Ytheilnaommcjjaa
open Go.RowKit Go.Shelf
attribute [local go_sem] Oper.semAt_some

def OpD.ln (o : OpD) : Ln := ⟨o.u, o.b, o.c, o.d⟩

def cellA (c : Nat) : Array Value := row (fun j => if j = 0 then .int .u8 c else .int .u8 0) 128
theorem build_cell (c : Nat) (w : World) : (Instr.build 31 #[(0, .int .u8 c)]).run Try.prog w = .ok (.agg (cellA c)) w := by kernel_rfl
theorem build_line (u b : Int) (c : Nat) (d : Bool) (w : World) : (Instr.build 33 #[(0, .int .i64 u), (1, .int .i64 b), (2, .agg (cellA c)), (3, .bool d)]).run Try.prog w = .ok (.agg (lnA ⟨u, b, c, d⟩)) w := by kernel_rfl
section
variable {P : Program} {ops : Array Oper} {rest : List Oper} {o : Oper} {a : Act} {w : World} {Q : Exit → Act → World → Prop}
theorem buildW (hgd : o.guard = none) (t : TypeId) (parts : Array (Nat × Operand)) (ho : o.op = .build t parts) (vs : Array (Nat × Value)) (hvs : (parts.map fun (i, x) => (i, a.eval x)) = vs) (v : Value) (hr : (Instr.build t vs).run P w = .ok v w)
    (h : wpList P ops Q rest (a.put o.dst v) w) : wpList P ops Q (o :: rest) a w :=
  wpList_plain hgd fun K hK => by
    unfold Oper.wp execOp
    simp only [ho, hvs, Sem.run_bind, hr, Result.andThen_ok, Sem.run_pure]
    exact hK _ _ h
end
theorem quota_nil (w : World) : Calls Try.prog 18 #[.pointer none] w fun e w' => e = .returned (.int .i64 0) ∧ w' = w := by
  go_enter Try.func18, Try.ntmps18
  go_wp2
  go_ret
  exact ⟨rfl, rfl⟩
theorem drop_nil (u : Int) (w : World) : Calls Try.prog 16 #[.pointer none, .int .i64 u] w fun e w' => e = .returned (.int .i64 0) ∧ Below w.heap.size w w' := by
  go_enter Try.func16, Try.ntmps16
  go_wp2
  go_ret
  exact ⟨rfl, ((Below.refl _ _).alloc (Nat.le_refl _) _).alloc (by simp) _⟩
theorem put_nil (l : Ln) (w : World) : Calls Try.prog 11 #[.pointer none, .agg (lnA l)] w fun e w' => e = .returned full ∧ Below w.heap.size w w' := by
  have hz := lnA_zero
  have hfs := lnA_size
  go_enter Try.func11, Try.ntmps11
  go_wp2
  go_ret
  exact ⟨rfl, (Below.refl _ _).alloc (Nat.le_refl _) _⟩
theorem get_nil (u b : Int) (w : World) : Calls Try.prog 10 #[.pointer none, .int .i64 u, .int .i64 b] w fun e w' => e = .returned (.tuple #[.agg (lnA zeroLn), .bool false]) ∧ Below w.heap.size w w' := by
  have hz := lnA_zero
  have hfs := lnA_size
  have hb := below_setRow ((Below.refl w.heap.size w).alloc (Nat.le_refl _) (.cells (lnA zeroLn) 33)) (Nat.le_refl _) (lnA zeroLn)
  have hB := Blk.new w (lnA zeroLn) 33
  go_enter Try.func10, Try.ntmps10
  go_wp2_with (first | (refine store_lnW rfl _ _ rfl w.heap.size zeroLn rfl rfl zeroLn hB ?_) | fail)
  exact bodyPost_ret (ln_results _ 6 7 rfl _ _ w.heap.size zeroLn (.bool false) rfl rfl (hB.setRow _)) rfl ⟨rfl, hb⟩
set_option maxHeartbeats 1000000 in
set_option maxRecDepth 20000 in
theorem line_any (o : OpD) (w : World) : Calls Try.prog 14 #[.agg (opA o)] w fun e w' => e = .returned (.agg (lnA o.ln)) ∧ Below w.heap.size w w' := by
  have hz := lnA_zero
  have hfs := lnA_size
  have hB : Blk ((w.alloc (.cells #[.int .i64 o.k, .int .i64 o.u, .int .i64 o.b, .int .u8 o.c, .bool o.d] 42)).alloc (.cells (lnA zeroLn) 33)) (w.heap.size + 1) (lnA zeroLn) 33 := by
    have := Blk.new (w.alloc (.cells #[.int .i64 o.k, .int .i64 o.u, .int .i64 o.b, .int .u8 o.c, .bool o.d] 42)) (lnA zeroLn) 33
    simpa using this
  have hb := below_setRow (((Below.refl w.heap.size w).alloc (Nat.le_refl _) (.cells #[.int .i64 o.k, .int .i64 o.u, .int .i64 o.b, .int .u8 o.c, .bool o.d] 42)).alloc (by simp) (.cells (lnA zeroLn) 33)) (show w.heap.size ≤ w.heap.size + 1 by omega) (lnA o.ln)
  unfold opA
  go_enter Try.func14, Try.ntmps14
  go_wp2_with (first | (refine buildW rfl 31 #[(0, .tmp 8)] rfl #[(0, .int .u8 o.c)] (by simp [Act.eval]) (.agg (cellA o.c)) (build_cell o.c _) ?_) | (refine buildW rfl 33 #[(0, .tmp 4), (1, .tmp 6), (2, .tmp 9), (3, .tmp 11)] rfl #[(0, .int .i64 o.u), (1, .int .i64 o.b), (2, .agg (cellA o.c)), (3, .bool o.d)] (by simp [Act.eval]) (.agg (lnA o.ln)) (build_line o.u o.b o.c o.d _) ?_) | (refine store_lnW rfl _ _ rfl (w.heap.size + 1) o.ln rfl rfl zeroLn hB ?_) | fail)
  exact bodyPost_ret (results_cell_row rfl _ _ (w.heap.size + 1) 33 (lnA o.ln) (0, 0) _ rfl (hB.setRow _) Try.underlying33 rfl (lnA_info o.ln)) rfl ⟨rfl, hb⟩
theorem dirty_nil (most : Nat) (hm : most ≤ 1000) (w : World) : Calls Try.prog 13 #[.pointer none, .int .i64 most] w fun e w' => ∃ A c, e = .returned (.slice A 0 c) ∧ Below w.heap.size w w' :=
  (dirty_any none [] (by simp) most hm w (fun W _ => (lines_nil W).mono fun e w' ⟨he, hw⟩ => ⟨none, 0, he, World.ownsRow_nil _ _ 33 131, by rw [hw]; exact Below.refl _ _⟩)).mono
    fun e w' ⟨A, c, he, _, hb⟩ => ⟨A, c, by simpa [dirtyOf] using he, hb⟩
theorem clean_nil (w : World) : Calls Try.prog 15 #[.pointer none] w fun e w' => e = .returned (.int .i64 0) ∧ Below w.heap.size w w' := by
  refine (callsIn_wide (n := 9)).1 ?_
  refine callsIn_of_wp_marks Try.func15 rfl trivial ?_ rfl
  simp only [Try.ntmps15, List.size_toArray, List.length_cons, List.length_nil, Nat.reduceAdd, Nat.reduceSub, Array.replicate_succ, Array.replicate_zero, List.push_toArray, List.append_toArray, List.nil_append, List.cons_append]
  gi_wp2
  refine ⟨trivial, (callsIn_wide.2 (dirtyM_any none _)).mono ?_⟩
  rintro e w' ⟨rfl, rfl⟩
  gi_wp2
  have hB := (Blk.new ((w.alloc (.cells #[.pointer none] 25)).alloc (.cells #[.int .i64 0] 3)) #[.pointer none] 25)
  have hB3 : Blk (((w.alloc (.cells #[.pointer none] 25)).alloc (.cells #[.int .i64 0] 3)).alloc (.cells #[.pointer none] 25)) (w.heap.size + 1) #[.int .i64 0] 3 := by
    have := (Blk.new (w.alloc (.cells #[.pointer none] 25)) #[.int .i64 0] 3).alloc (.cells #[.pointer none] 25)
    simpa using this
  have hb : Below w.heap.size w (((w.alloc (.cells #[.pointer none] 25)).alloc (.cells #[.int .i64 0] 3)).alloc (.cells #[.pointer none] 25)) := (((Below.refl _ _).alloc (Nat.le_refl _) _).alloc (by simp) _).alloc (by simp; omega) _
  have hs : Hid ((((w.alloc (.cells #[.pointer none] 25)).alloc (.cells #[.int .i64 0] 3)).alloc (.cells #[.pointer none] 25)).heap.size = w.heap.size + 3) := by show _ = _; simp
  have e2 : ((w.alloc (.cells #[.pointer none] 25)).alloc (.cells #[.int .i64 0] 3)).heap.size = w.heap.size + 1 + 1 := by simp
  rw [e2] at hB
  generalize (((w.alloc (.cells #[.pointer none] 25)).alloc (.cells #[.int .i64 0] 3)).alloc (.cells #[.pointer none] 25)) = W5 at *
  clear e2
  refine range_listed (n := 9) (α := Ln) (ps := #[7]) (gf := 37) (lb := #[.pointer (some ⟨w.heap.size + 1 + 1, 0, none⟩)]) (xs := dirtyOf []) rfl (enters_of Try.func37 (by kernel_rfl) rfl) (fun _ => rfl)
    (dirty_listed 8 (by decide) (w.heap.size + 1 + 1) none [] (by simp) (fun W => Blk W (w.heap.size + 1 + 1) #[.pointer none] 25) (fun _ h => h) (fun W _ => (lines_nil W).mono fun e w' ⟨he, hw⟩ => ⟨none, 0, he, World.ownsRow_nil _ _ 33 131, by rw [hw]; exact Below.refl _ _⟩))
    (fun o o' => (hB.alloc _).alloc _) (fun _ _ W => Blk W (w.heap.size + 1) #[.int .i64 0] 3 ∧ Below w.heap.size w W) (fun _ _ _ => False) (fun _ => False) (fun _ h => h.elim) (fun _ _ _ _ h hb => ⟨h.1.below hb h.1.lt, h.2.trans (hb.mono h.2.size)⟩) ?hI (fun _ _ _ _ _ h _ => h) ?h0 ?hround ?hdone ?hstop
  case hI =>
    rintro pre G W l o ⟨h1, h2⟩ hl _
    have := hs.out
    exact ⟨blk_put h1 (by omega) o, below_put h2 (by omega) o⟩
  case h0 => exact fun o o' => ⟨(hB3.alloc _).alloc _, (hb.alloc hb.size _).alloc (by rw [World.size_alloc]; have := hb.size; omega) _⟩
  case hround =>
    rintro pre x G W _ hp
    exact absurd hp (by simp [dirtyOf])
  case hdone =>
    rintro G W ⟨h1, h2⟩ _ hd
    have c1 := h1.cell (j := 0) rfl
    clear hB hB3 hb
    gi_wp2
    refine ⟨by simp, .inl ⟨_, _, rfl, run_takeDeferred hd, ?_⟩⟩
    exact ⟨_, results_tmp rfl _ _ _, rfl, below_put h2 (by have := hs.out; omega) _⟩
  case hstop => exact fun _ _ _ _ h _ => h.elim
end Go.Proofs.Ytheilnaommcjjaa
