/-
  'open': the open sectors collected, as many as are asked for.
-/
import Derived.Test.YthfhilinajemhaaOpened
import Derived.Deep.AppendLies
import Derived.RangeFuncBox
namespace Go.Proofs.Ythfhilinajemhaa
open Go.RowKit Go.Shelf
attribute [local go_sem] Oper.semAt_some
set_option linter.unusedVariables false

/-- an own slice of ints -/
def Ins (w : World) (S : Nat) (v : Value) (L : List Int) : Prop := w.ownsRow S 3 1 v L.length (L.map (Value.int .i64))
theorem blk_put {w : World} {B l : Nat} {vs : Array Value} {t : TypeId} (h : Blk w B vs t) (hl : B ≠ l) (o : Obj) : Blk (w.putObj l o) B vs t := by
  unfold Blk at h ⊢
  rw [World.putObj_heap_other hl]; exact h
theorem below_put {B l : Nat} {w W : World} (h : Below B w W) (hl : B ≤ l) (o : Obj) : Below B w (W.putObj l o) :=
  h.trans ⟨rfl, rfl, rfl, by simp, fun k hk => World.putObj_heap_other (by omega)⟩
theorem fr_put (w : World) (l : Nat) (o : Obj) : Fr (fun k => k = l) w (w.putObj l o) := ⟨rfl, rfl, rfl, by simp, fun k _ hk => World.putObj_heap_other hk⟩
theorem ins_put {w : World} {S l : Nat} {v : Value} {L : List Int} (h : Ins w S v L) (hl : v.ownBlock ≠ some l) (o : Obj) : Ins (w.putObj l o) S v L :=
  Fr.own (fr_put w l o) h (fun k hk he => hl (by rw [hk, he]))
theorem ins_below {w w' : World} {S : Nat} {v : Value} {L : List Int} (h : Ins w S v L) (hb : Below w.heap.size w w') : Ins w' S v L :=
  Fr.own (F := fun _ => False) (Fr.of_below hb) h (fun _ _ => id)
theorem ins_ne {w : World} {S a : Nat} {v : Value} {L : List Int} {vs : Array Value} {t : TypeId} (h : Ins w S v L) (hb : Blk w a vs t) (ht : t ≠ 3) : v.ownBlock ≠ some a := by
  rcases h.2 with ⟨rfl, _⟩ | ⟨g, cap, cur, rfl, _, hg, _⟩
  · simp [Value.ownBlock]
  · intro he
    simp [Value.ownBlock] at he
    subst he
    unfold Blk at hb
    rw [hg] at hb
    injection hb with hb
    injection hb with _ h2
    exact ht h2.symm
theorem ins_fr {F : Nat → Prop} {w w' : World} {S : Nat} {v : Value} {L : List Int} (h : Ins w S v L) (hf : Fr F w w') (hF : ∀ k, v.ownBlock = some k → ¬ F k) : Ins w' S v L := Fr.own hf h hF
theorem fr_set (w : World) (a : Addr) (v : Value) : Fr (fun k => k = a.block) w (w.setCell a v) := ⟨rfl, rfl, rfl, by simp [World.setCell], fun k _ hk => Below.heap_setCell _ _ _ _ hk⟩
theorem ins_lt {w : World} {S : Nat} {v : Value} {L : List Int} (h : Ins w S v L) (k : Nat) (hk : v.ownBlock = some k) : S ≤ k ∧ k < w.heap.size := World.ownsRow.lt h k hk
theorem ins_ri {w : World} {S : Nat} {A : Option Addr} {n c : Nat} {L : List Int} (h : Ins w S (.slice A n c) L) : RI w w.heap.size A L := fun i x hi => by
  rcases h.2 with ⟨h1, h2⟩ | ⟨g, cap, cur, h0, hb, hg, _⟩
  · have := (List.getElem?_eq_some_iff.1 hi).1
    omega
  · injection h0 with h0 _ _
    subst h0
    exact ⟨_, rfl, (Array.getElem?_eq_some_iff.1 hg).1, World.ownsRow.cells h (g := g) rfl i (.int .i64 x) (by rw [List.getElem?_map, hi]; rfl)⟩

section
variable {F : Fence} {n : Nat} {ops : Array Oper} {rest : List Oper} {o : Oper} {a : Act} {w : World} {Q : Exit → Act → World → Prop}
/-- 'append(out, x)' of one number that lies in a block of its own. -/
theorem appendIn_i (hgd : o.guard = none) (s x : Operand) (ho : o.op = .call { callee := .builtin .append, args := #[s, x], argTypes := #[27, 27] })
    (base : Nat) (v : Value) (L : List Int) (hs : a.eval s = v) (hown : Ins w base v L) (g : Nat) (c : Nat) (l : Int) (hx : a.eval x = .slice (some ⟨g, 0, none⟩) 1 c) (hB : Blk w g #[.int .i64 l] 3)
    (h63 : L.length ≤ 3000) (hbase : base ≤ w.heap.size)
    (h : ∀ g cap w', Ins w' base (.slice (some ⟨g, 0, none⟩) (L.length + 1) cap) (L ++ [l]) → w.grownBy w' v.ownBlock → (v.ownBlock = some g ∨ g = w.heap.size) → g < w'.heap.size → wpListIn F n Try.prog ops Q rest (a.put o.dst (.slice (some ⟨g, 0, none⟩) (L.length + 1) cap)) w') :
    wpListIn F n Try.prog ops Q (o :: rest) a w := by
  refine wpListIn_plain hgd fun K hK => ?_
  obtain ⟨i0, hi0, hz0, hz1, hz2⟩ := info_parts (show (Try.prog.info? 3).map (fun i => (i.zero, i.size, i.bytes)) = some (some (.int .i64 0), 1, 8) by kernel_rfl)
  obtain ⟨g', cap, w', hr, h2, h3, h4, h5⟩ := run_append_lies (P := Try.prog) w 27 o.type base 3 i0 _ 1 8 Try.underlying27 hi0 hz0 hz1 hz2 rfl (by omega) v L.length (L.map (Value.int .i64)) hown ⟨g, 0, none⟩ 1 c [.int .i64 l] rfl (fun j v hj => by
    rcases j with _ | j
    · simp at hj; subst hj; exact hB.cell (j := 0) rfl
    · simp at hj) (by simp [Value.oneCell']) (by omega) (by simp only [maxLen]; omega) (by omega) hbase _ rfl
  unfold Oper.wpIn
  refine ⟨?_, ?_⟩
  · simp [Oper.about, ho, resolve, Target.leads, Sem.run_pure]
  · rw [Oper.semAt_plain F _ _ (by rw [ho]; intro c hc'; cases hc')]
    simp only [execOp, ho, resolve, invoke, builtin, Sem.run_bind, Sem.run_pure, Result.andThen_ok, List.map_toArray, List.map_cons, List.map_nil, hs, hx, hr]
    refine hK _ _ (h g' cap w' ?_ h3 h4 h5)
    unfold Ins
    rw [List.length_append, List.map_append]
    exact h2
end
theorem four_boxes (w : World) (x y z u : Array Value) (t1 t2 t3 t4 : TypeId) :
    Blk ((((w.alloc (.cells x t1)).alloc (.cells y t2)).alloc (.cells z t3)).alloc (.cells u t4)) w.heap.size x t1 ∧ Blk ((((w.alloc (.cells x t1)).alloc (.cells y t2)).alloc (.cells z t3)).alloc (.cells u t4)) (w.heap.size + 1) y t2 ∧
    Blk ((((w.alloc (.cells x t1)).alloc (.cells y t2)).alloc (.cells z t3)).alloc (.cells u t4)) (w.heap.size + 1 + 1) z t3 ∧ Blk ((((w.alloc (.cells x t1)).alloc (.cells y t2)).alloc (.cells z t3)).alloc (.cells u t4)) (w.heap.size + 1 + 1 + 1) u t4 ∧
    Below w.heap.size w ((((w.alloc (.cells x t1)).alloc (.cells y t2)).alloc (.cells z t3)).alloc (.cells u t4)) ∧ ((((w.alloc (.cells x t1)).alloc (.cells y t2)).alloc (.cells z t3)).alloc (.cells u t4)).heap.size = w.heap.size + 4 := by
  refine ⟨(((Blk.new _ _ _).alloc _).alloc _).alloc _, ?_, ?_, ?_, ((((Below.refl _ _).alloc (Nat.le_refl _) _).alloc (by simp) _).alloc (by simp; omega) _).alloc (by simp; omega) _, by simp⟩
  · have := ((Blk.new (w.alloc (.cells x t1)) y t2).alloc (.cells z t3)).alloc (.cells u t4); simpa using this
  · have := (Blk.new ((w.alloc (.cells x t1)).alloc (.cells y t2)) z t3).alloc (.cells u t4); simpa using this
  · have := Blk.new (((w.alloc (.cells x t1)).alloc (.cells y t2)).alloc (.cells z t3)) u t4; simpa using this
/-- what holds between two rounds of 'open' -/
def DirI (w : World) (most : Nat) (pre : List Int) (G : Nat → Prop) (W : World) : Prop :=
  ∃ A c, Blk W (w.heap.size + 1 + 1) #[.slice A pre.length c] 27 ∧ Ins W (w.heap.size + 1) (.slice A pre.length c) pre ∧ Blk W w.heap.size #[.int .i64 most] 3 ∧ Below w.heap.size w W ∧ pre.length ≤ most ∧
    ∀ k, G k ↔ k = w.heap.size + 1 + 1 ∨ (Value.slice A pre.length c).ownBlock = some k
def DirX (w : World) (most D : Nat) (c : Code) (pre : List Int) (W : World) : Prop :=
  c = .exit 0 ∧ pre.length = most + 1 ∧ ∃ A c, Blk W (w.heap.size + 1 + 1) #[.slice A most c] 27 ∧ Ins W (w.heap.size + 1) (.slice A most c) (pre.take most) ∧ Below w.heap.size w W ∧ (Value.slice A most c).ownBlock ≠ some D ∧ (Value.slice A most c).ownBlock ≠ some (D + 1)
def OpenOut (w : World) (L : List Int) (e : Ending) (w' : World) : Prop := ∃ A c, e = .returned (.slice A L.length c) ∧ Ins w' w.heap.size (.slice A L.length c) L ∧ Below w.heap.size w w'
set_option maxHeartbeats 2000000 in
set_option maxRecDepth 20000 in
theorem opened_any (p : Option Addr) (L : List Int) (hL : L.length ≤ 2048) (most : Nat) (hm : most ≤ 3000) (w : World)
    (hit : Listed 8 Try.prog 58 #[.pointer (some ⟨w.heap.size + 1 + 1 + 1, 0, none⟩)] encI L (fun W => Blk W (w.heap.size + 1 + 1 + 1) #[.pointer p] 29 ∧ Below w.heap.size w W)) :
    Calls Try.prog 24 #[.pointer p, .int .i64 most] w (OpenOut w (L.take most)) := by
  have hbz : ∀ w, (Instr.buildSlice 27 0 #[]).run Try.prog w = .ok (.slice (some ⟨w.heap.size, 0, none⟩) 0 0) (w.alloc (.cells #[] 3)) := fun w => by kernel_rfl
  refine (callsIn_wide (n := 9)).1 ?_
  refine callsIn_of_wp_marks Try.func24 rfl trivial ?_ rfl
  simp only [Try.ntmps24, List.size_toArray, List.length_cons, List.length_nil, Nat.reduceAdd, Nat.reduceSub, Array.replicate_succ, Array.replicate_zero, List.push_toArray, List.append_toArray, List.nil_append, List.cons_append]
  gi_wp2
  refine ⟨trivial, (callsIn_wide.2 (open_any p _)).mono ?_⟩
  rintro e w' ⟨rfl, rfl⟩
  gi_wp2
  obtain ⟨d0, d1, d2, d3, db, hs5⟩ := four_boxes w #[.int .i64 most] #[] #[.slice (some ⟨w.heap.size + 1, 0, none⟩) 0 0] #[.pointer p] 3 3 27 29
  generalize ((((w.alloc (.cells #[.int .i64 most] 3)).alloc (.cells #[] 3)).alloc (.cells #[.slice (some ⟨w.heap.size + 1, 0, none⟩) 0 0] 27)).alloc (.cells #[.pointer p] 29)) = W5 at *
  have HS5 := Lib.hid hs5
  clear hs5 hbz
  have dl : Ins W5 (w.heap.size + 1) (.slice (some ⟨w.heap.size + 1, 0, none⟩) 0 0) [] := by
    refine ⟨rfl, .inr ⟨w.heap.size + 1, 0, #[], rfl, Nat.le_refl _, d1, Nat.le_refl _, Nat.zero_le _, rfl, rfl⟩⟩
  refine range_listed (n := 9) (ps := #[10]) (gf := 58) (lb := #[.pointer (some ⟨w.heap.size + 1 + 1 + 1, 0, none⟩)]) rfl (enters_of Try.func58 (by kernel_rfl) rfl) (fun _ => rfl)
    hit ?hKb (DirI w most) (DirX w most W5.heap.size) (fun k => k = w.heap.size + 1 + 1 ∨ (Value.slice (some ⟨w.heap.size + 1, 0, none⟩) 0 0).ownBlock = some k) ?hG0 ?hIb ?hI ?hIx ?h0 ?hround ?hdone ?hstop
  case hKb =>
    intro o o'
    exact ⟨(d3.alloc _).alloc _, (db.alloc db.size _).alloc (by have := db.size; rw [World.size_alloc]; omega) _⟩
  case hG0 =>
    rintro k (h | h)
    · rw [h]; exact d2.lt
    · exact (ins_lt dl k h).2
  case hIb =>
    rintro pre G W W' ⟨A, c, h1, h2, h3, h4, h5, h6⟩ hb
    exact ⟨A, c, h1.below hb h1.lt, ins_below h2 hb, h3.below hb h3.lt, h4.trans (hb.mono h4.size), h5, h6⟩
  case hI =>
    rintro pre G W l o ⟨A, c, h1, h2, h3, h4, h5, h6⟩ hl hg
    have hs := HS5.out
    refine ⟨A, c, blk_put h1 (by omega) o, ins_put h2 (fun h => hg ((h6 l).2 (.inr h))) o, blk_put h3 (by omega) o, below_put h4 (by omega) o, h5, h6⟩
  case hIx =>
    rintro c pre W l o ⟨rfl, h0, A, c, h1, h2, h3, h4, h5⟩ hl
    have hs := HS5.out
    refine ⟨rfl, h0, A, c, blk_put h1 (by omega) o, ins_put h2 ?_ o, below_put h3 (by omega) o, h4, h5⟩
    rcases hl with rfl | rfl
    · exact h4
    · exact h5
  case h0 =>
    intro o o'
    refine ⟨_, _, (d2.alloc _).alloc _, ins_below (ins_below dl ((Below.refl _ _).alloc (Nat.le_refl _) _)) ((Below.refl _ _).alloc (Nat.le_refl _) _), (d0.alloc _).alloc _, (db.alloc db.size _).alloc (by have := db.size; rw [World.size_alloc]; omega) _, Nat.zero_le _, fun _ => Iff.rfl⟩
  case hround =>
    intro pre x G W hI hpre hDW g1 g2 K hK
    clear d0 d1 d2 d3 db dl hit
    unfold encI
    gi_wp2
    refine hK _ _ (Below.refl _ _) ?_
    rintro W2 ⟨o, hW2⟩ ⟨A, c, h1, h2, h3, h4, h5, h6⟩
    have hWW : W.heap.size = W2.heap.size := by rw [hW2]; simp
    clear hW2 hI
    have c1 := h1.cell (j := 0) rfl
    have c3 := h3.cell (j := 0) rfl
    have f1 := h1.frozen 0
    by_cases hq : pre.length = most
    · have htest : (((pre.length : Nat) : Int) == ((most : Nat) : Int)) = true := by rw [beq_iff_eq]; omega
      have HQ := Lib.hid hq
      have H6 := Lib.hid h6
      have H5 := Lib.hid h5
      clear hq h6 h5
      gi_wp2
      refine ⟨⟨rfl, by rw [List.length_append, HQ.out]; rfl, A, c, ?_, ?_, h4, fun h => g1 ((H6.out _).2 (.inr (by rw [HQ.out]; exact h))), fun h => g2 ((H6.out _).2 (.inr (by rw [HQ.out]; exact h)))⟩, rfl, rfl⟩
      · rw [← HQ.out]; exact h1
      · rw [← HQ.out, List.take_left]; exact h2
    · have htest : (((pre.length : Nat) : Int) == ((most : Nat) : Int)) = false := by rw [beq_eq_false_iff_ne]; omega
      have hbs := buildS_one x
      have hL3 := Lib.hid (ins_below h2 ((Below.refl _ _).alloc (Nat.le_refl _) (.cells #[.int .i64 x] 3)))
      have hB3 := Lib.hid (Blk.new W2 #[.int .i64 x] 3)
      have hne := Lib.hid (ins_ne h2 h1 (by decide))
      have h1' := Lib.hid (h1.alloc (.cells #[.int .i64 x] 3))
      have hlen : pre.length ≤ 3000 := by omega
      have hsz : w.heap.size + 1 ≤ (W2.alloc (.cells #[.int .i64 x] 3)).heap.size := by have := h3.lt; rw [World.size_alloc]; omega
      have hlt : pre.length + 1 ≤ most := by omega
      have HQ := Lib.hid hq
      have H6 := Lib.hid h6
      have HWW := Lib.hid hWW
      clear hq h6 hWW
      gi_wp2_with (first | (gi_at_builtin; refine appendIn_i rfl (.tmp 15) (.tmp 17) rfl (w.heap.size + 1) (.slice A pre.length c) pre rfl hL3.out W2.heap.size 1 x rfl hB3.out hlen hsz ?_; intro g8 cap8 w8 hl8 hgr8 hat8 hlt8; have b8 : Blk w8 (w.heap.size + 1 + 1) #[.slice A pre.length c] 27 := (by unfold Blk; rw [hgr8.block _ h1'.out.lt (fun h => hne.out h.symm)]; exact h1'.out); have c8 := b8.cell (j := 0) rfl; have f8 := b8.frozen 0; have Hl8 := Lib.hid hl8; have Hgr8 := Lib.hid hgr8; have Hat8 := Lib.hid hat8; clear hl8 hgr8 hat8) | fail)
      have hpl : (pre ++ [x]).length = pre.length + 1 := by simp
      have fa : Fr G W2 (W2.alloc (.cells #[.int .i64 x] 3)) := Fr.of_below ((Below.refl _ _).alloc (Nat.le_refl _) _)
      have fb : Fr G (W2.alloc (.cells #[.int .i64 x] 3)) w8 := Fr.of_grown Hgr8.out (fun k hk => (H6.out k).2 (.inr hk))
      have fc : Fr G w8 (w8.setCell ⟨w.heap.size + 1 + 1, 0, none⟩ (.slice (some ⟨g8, 0, none⟩) (pre.length + 1) cap8)) :=
        ⟨rfl, rfl, rfl, by simp [World.setCell], fun k _ hk => Below.heap_setCell _ _ _ _ (fun e => hk (by rw [e]; exact (H6.out _).2 (.inl rfl)))⟩
      have b9 := b8.set 0 (.slice (some ⟨g8, 0, none⟩) (pre.length + 1) cap8)
      have hB4 : Below w.heap.size w (w8.setCell ⟨w.heap.size + 1 + 1, 0, none⟩ (.slice (some ⟨g8, 0, none⟩) (pre.length + 1) cap8)) := by
        refine ((h4.alloc h4.size _).trans ((Fr.of_grown (F := fun k => w.heap.size ≤ k) Hgr8.out (fun k hk => by have := (ins_lt hL3.out k hk).1; omega)).below (B := w.heap.size) (by omega) (fun _ h => h))).setCell (p := ⟨w.heap.size + 1 + 1, 0, none⟩) (by show w.heap.size ≤ w.heap.size + 1 + 1; omega) _
      have hl9 : Ins (w8.setCell ⟨w.heap.size + 1 + 1, 0, none⟩ (.slice (some ⟨g8, 0, none⟩) (pre.length + 1) cap8)) (w.heap.size + 1) (.slice (some ⟨g8, 0, none⟩) (pre.length + 1) cap8) (pre ++ [x]) :=
        ins_fr Hl8.out (fr_set w8 ⟨w.heap.size + 1 + 1, 0, none⟩ _) (fun k hk (he : k = w.heap.size + 1 + 1) => ins_ne Hl8.out b8 (by decide) (by rw [hk, he]))
      have hne3 : (Value.slice A pre.length c).ownBlock ≠ some w.heap.size := by
        intro e
        have := (ins_lt h2 _ e).1
        omega
      have hb3 : Blk (w8.setCell ⟨w.heap.size + 1 + 1, 0, none⟩ (.slice (some ⟨g8, 0, none⟩) (pre.length + 1) cap8)) w.heap.size #[.int .i64 most] 3 := by
        refine Blk.other ?_ (by show w.heap.size + 1 + 1 ≠ w.heap.size; omega) _
        have h3' := h3.alloc (.cells #[.int .i64 x] 3)
        unfold Blk
        rw [Hgr8.out.block _ h3'.lt (fun h => hne3 h.symm)]
        exact h3'
      refine ⟨fun k => k = w.heap.size + 1 + 1 ∨ (Value.slice (some ⟨g8, 0, none⟩) (pre.length + 1) cap8).ownBlock = some k, ⟨some ⟨g8, 0, none⟩, cap8, by rw [hpl]; exact b9, by rw [hpl]; exact hl9, hb3, hB4, by rw [hpl]; exact hlt, fun _ => by rw [hpl]⟩,
        ((fa.trans fb (fun _ h => .inl h)).trans fc (fun _ h => .inl h)).weak (fun _ h => .inl h), fun k hk => ?_⟩
      rcases hk with hk | hk
      · exact .inl ((H6.out k).2 (.inl hk))
      · have e : g8 = k := by simpa [Value.ownBlock] using hk
        subst e
        rcases Hat8.out with h | h
        · exact .inl ((H6.out _).2 (.inr h))
        · right; rw [h, HWW.out, World.size_alloc]; omega
  case hdone =>
    rintro G W ⟨A, c, h1, h2, h3, h4, h5, h6⟩ hg hd
    have c1 := h1.cell (j := 0) rfl
    clear d0 d1 d2 d3 db dl hit
    have H6 := Lib.hid h6
    clear h6
    gi_wp2
    refine ⟨by simp, .inl ⟨_, _, rfl, run_takeDeferred hd, ?_⟩⟩
    have hn : W5.heap.size ≠ w.heap.size + 1 + 1 := by have := HS5.out; omega
    have htk : L.take most = L := List.take_of_length_le h5
    refine ⟨_, results_tmp rfl _ _ _, A, c, ?_, ?_, ?_⟩
    · rw [htk]; rfl
    · rw [htk]
      exact ownsRow_base_a (ins_put h2 (fun h => hg ((H6.out _).2 (.inr h))) _) (Nat.le_succ _)
    · exact below_put h4 (by have := HS5.out; omega) _
  case hstop =>
    rintro c pre W hpre ⟨rfl, h0, A, c, h1, h2, h3, h4, h5⟩ hd
    have c1 := h1.cell (j := 0) rfl
    have H0 := Lib.hid h0
    clear h0
    clear d0 d1 d2 d3 db dl hit
    gi_wp2
    refine ⟨by simp, .inl ⟨_, _, rfl, run_takeDeferred hd, ?_⟩⟩
    have htk : L.take most = pre.take most := by
      obtain ⟨r, hr⟩ := hpre
      rw [← hr, List.take_append_of_le_length (by rw [H0.out]; omega)]
    have hlen : (L.take most).length = most := by rw [htk, List.length_take, H0.out]; omega
    refine ⟨_, results_tmp rfl _ _ _, A, c, ?_, ?_, ?_⟩
    · rw [hlen]; rfl
    · rw [hlen, htk]
      exact ownsRow_base_a (ins_put h2 h4 _) (Nat.le_succ _)
    · exact below_put h3 (by have := HS5.out; omega) _
theorem opened_nil (most : Nat) (hm : most ≤ 3000) (w : World) : Calls Try.prog 24 #[.pointer none, .int .i64 most] w (OpenOut w []) := by
  have := opened_any none [] (by simp) most hm w (nil_listed 8 (by decide) _ _ (fun W h => h.1))
  rwa [List.take_nil] at this
theorem opened_m {w : World} {p m g gc : Nat} {d : Dk} (h : Disk w p m g gc d) (most : Nat) (hm : most ≤ 3000) : Calls Try.prog 24 #[.pointer (some ⟨p, 0, none⟩), .int .i64 most] w (OpenOut w ((keysL d).take most)) :=
  opened_any (some ⟨p, 0, none⟩) (keysL d) (Nat.le_trans (keysL_len d) h.ok.1.2) most hm w (open_listed 8 (by decide) _ p m g gc d _ (fun W hW => ⟨hW.1, h.below hW.2⟩))
end Go.Proofs.Ythfhilinajemhaa
