/-
  CachePlays: for every quota, script and number the law returns true and leaves its arguments alone. No condition.
-/
import Derived.Test.YtheilnaommcjjaaRef4
import Derived.Test.YtheilnaommcjjaaRef5
import Derived.Test.YtheilnaommcjjaaOpen
import Derived.Deep.RegionHeld3
namespace Go.Proofs.Ytheilnaommcjjaa
open Go.ChangeShapes Go.WideShapes Go.ChangeAt Go.RowKit
open Go.Maps (Keyed)
set_option linter.unusedVariables false

theorem num_any (b : Bool) (w : World) : Calls Try.prog 20 #[errV b] w fun e w' => e = .returned (.int .i64 (if b then 0 else 7)) ∧ w' = w := by
  cases b
  · exact num_full w
  · exact num_nil w
def rangeE : Value := .iface 52 (.int .i64 1)
theorem num_range (w : World) : Calls Try.prog 20 #[rangeE] w fun e w' => e = .returned (.int .i64 1) ∧ w' = w := by
  have hta : ∀ w, (Instr.typeAssert (.iface 52 (.int .i64 1)) 27 52 true).run Try.prog w = .ok (.tuple #[.int .i64 1, .bool true]) w := fun w => by kernel_rfl
  unfold rangeE
  go_enter Try.func20, Try.ntmps20
  go_wp2
  go_ret
  exact ⟨rfl, rfl⟩
theorem is_range (w : World) : Calls Try.prog 17 #[rangeE, .int .i64 1] w fun e w' => e = .returned (.bool true) ∧ w' = w := by
  go_enter Try.func17, Try.ntmps17
  go_wp2_with fail
  refine (num_range w).mono ?_
  rintro e w1 ⟨rfl, rfl⟩
  go_wp2
  go_ret
  exact ⟨rfl, rfl⟩
theorem new_no (q : Int) (h : q < 1 ∨ 8 < q) (w : World) : Calls Try.prog 9 #[.int .i64 q] w fun e w' => e = .returned (.tuple #[.pointer none, rangeE]) ∧ w' = w := by
  unfold rangeE
  rcases h with h | h
  · go_enter Try.func9, Try.ntmps9
    go_wp2
    go_ret2
    exact ⟨rfl, rfl⟩
  · have h' : ¬ q < 1 := by omega
    go_enter Try.func9, Try.ntmps9
    go_wp2
    go_ret2
    exact ⟨rfl, rfl⟩
theorem quota_any (a m : Nat) (v : Value) (q : Nat) (L : List Ln) (w : World) (h : St w a m v q L) : Calls Try.prog 18 #[.pointer (some ⟨a, 0, none⟩)] w fun e w' => e = .returned (.int .i64 q) ∧ w' = w := by
  have b0 := h.blk.cell (j := 0) rfl
  go_enter Try.func18, Try.ntmps18
  go_wp2
  go_ret
  exact ⟨rfl, rfl⟩
theorem most_of (a0 : Int) : ∃ t : Nat, t < 10 ∧ wrap64 ((IntKind.u64.wrap a0).tmod 10) = (t : Int) := by
  have h0 : 0 ≤ IntKind.u64.wrap a0 := by simp [IntKind.wrap, IntKind.bits, IntKind.signed]; omega
  refine ⟨((IntKind.u64.wrap a0).tmod 10).toNat, ?_, ?_⟩
  all_goals
    have h1 := Int.tmod_lt_of_pos (IntKind.u64.wrap a0) (show (0 : Int) < 10 by decide)
    have h2 := Int.tmod_nonneg 10 h0
    have e1 : wrap64 ((IntKind.u64.wrap a0).tmod 10) = (IntKind.u64.wrap a0).tmod 10 := by unfold wrap64; omega
    try rw [e1]
    omega

/-- what holds between two rounds: both caches hold the same lines, apart in memory -/
structure PInv (w0 W : World) (a m q : Nat) (v : Value) (L : List Ln) (r : Nat) (A : Option Addr) (c : Nat) (M : List Ln) : Prop where
  st : St W a m v q L
  rs : RSt W 0 r q A c M
  bel : Below w0.heap.size w0 W
  siz : w0.heap.size ≤ W.heap.size
  own : ∀ k, Fm a m v k → w0.heap.size ≤ k
  row : ∀ k, Rm r A k → w0.heap.size ≤ k
  dis : ∀ k, Fm a m v k → ¬ Rm r A k
theorem PInv.impl {w0 W W' : World} {a m q r c : Nat} {v v' : Value} {L L' M : List Ln} {A : Option Addr} (h : PInv w0 W a m q v L r A c M) (hst : St W' a m v' q L') (hg : Grow (Fm a m v) (Fm a m v') W W') : PInv w0 W' a m q v' L' r A c M := by
  obtain ⟨s1, s2, s3⟩ := hg.step h.bel h.siz h.own
  exact ⟨hst, h.rs.fr hg.1 h.dis, s1, s2, s3, h.row, fun k hk hr => (hg.2 k hk).elim (fun h1 => h.dis k h1 hr) (fun h1 => by have := h.rs.fm_lt hr; omega)⟩
theorem PInv.refc {w0 W W' : World} {a m q r c c' : Nat} {v : Value} {L M M' : List Ln} {A A' : Option Addr} (h : PInv w0 W a m q v L r A c M) (hrs : RSt W' 0 r q A' c' M') (hg : Grow (Rm r A) (Rm r A') W W') : PInv w0 W' a m q v L r A' c' M' := by
  obtain ⟨s1, s2, s3⟩ := hg.step h.bel h.siz h.row
  exact ⟨h.st.fr hg.1 (fun k hk hf => h.dis k hf hk), hrs, s1, s2, h.own, s3, fun k hk hr => (hg.2 k hr).elim (fun h1 => h.dis k hk h1) (fun h1 => by have := h.st.fm_lt hk; omega)⟩
theorem PInv.fr {w0 W W' : World} {a m q r c : Nat} {v : Value} {L M : List Ln} {A : Option Addr} {F : Nat → Prop} (h : PInv w0 W a m q v L r A c M) (hf : Fr F W W') (h1 : ∀ k, F k → ¬ Fm a m v k) (h2 : ∀ k, F k → ¬ Rm r A k) (h3 : ∀ k, F k → w0.heap.size ≤ k) : PInv w0 W' a m q v L r A c M :=
  ⟨h.st.fr hf h1, h.rs.fr hf h2, h.bel.trans (hf.below h.siz h3), Nat.le_trans h.siz hf.size, h.own, h.row, h.dis⟩
theorem PInv.below {w0 W W' : World} {a m q r c : Nat} {v : Value} {L M : List Ln} {A : Option Addr} (h : PInv w0 W a m q v L r A c M) (hb : Below W.heap.size W W') : PInv w0 W' a m q v L r A c M :=
  h.fr (F := fun k => W.heap.size ≤ k) ⟨hb.os, hb.tape, hb.output, hb.size, fun k hk _ => hb.block k hk⟩ (fun k hk hf => by have := h.st.fm_lt hf; omega) (fun k hk hf => by have := h.rs.fm_lt hf; omega) (fun k hk => Nat.le_trans h.siz hk)
theorem drewN_below (W : World) (n : Nat) : Below W.heap.size W (W.drewN n) := Below.drewN (Below.refl _ _) n
theorem RSt.snap {w : World} {B r q c : Nat} {A : Option Addr} {L : List Ln} (h : RSt w B r q A c L) : Snap (fun _ => False) w A L := fun i l hi => by
  obtain ⟨g, h1, _, h3, h4⟩ := h.at hi
  exact ⟨g, h1, id, h3, h4⟩
theorem Snap.free {G : Nat → Prop} {w : World} {A : Option Addr} {L : List Ln} (h : Snap G w A L) : Snap (fun _ => False) w A L := fun i l hi => by
  obtain ⟨g, h1, _, h3, h4⟩ := h i l hi
  exact ⟨g, h1, id, h3, h4⟩
theorem Snap.below {w w' : World} {A : Option Addr} {L : List Ln} (h : Snap (fun _ => False) w A L) (hb : Below w.heap.size w w') : Snap (fun _ => False) w' A L := h.fr (Grow.below hb)
theorem Snap.take {G : Nat → Prop} {w : World} {A : Option Addr} {L : List Ln} (h : Snap G w A L) (n : Nat) : Snap G w A (L.take n) := fun i l hi => by
  rw [List.getElem?_take] at hi
  split at hi
  · exact h i l hi
  · cases hi

theorem same_any' (A1 A2 : Option Addr) (c1 c2 : Nat) (M : List Ln) (hM : M.length ≤ 9) (w : World) (h1 : Snap (fun _ => False) w A1 M) (h2 : Snap (fun _ => False) w A2 M) :
    Calls Try.prog 25 #[.slice A1 M.length c1, .slice A2 M.length c2] w fun e w' => e = .returned (.bool true) ∧ Below w.heap.size w w' :=
  (same_any A1 A2 c1 c2 M hM w h1 h2).mono fun e w' ⟨he, n, hw⟩ => ⟨he, by rw [hw]; exact drewN_below w n⟩
theorem run_min3 (i j k : Int) (w : World) (hk : (if j < i then j else i) = k) : (Builtin.min_ #[3, 3] 3 #[.int .i64 i, .int .i64 j]).run Try.prog w = .ok (.int .i64 k) w := by
  rw [← hk]; rfl
theorem step_min {ops : Array Oper} {o : Oper} {a : Act} {w : World} {K : Act → World → Prop} {Q : Exit → Act → World → Prop} {E : Prop} (hw : Region.wanted o (yielded ops a.tmps) = true) (x y : Operand) (ho : o.op = .call { callee := .builtin .min, args := #[x, y], argTypes := #[3, 3] }) (hty : o.type = 3)
    (i j k : Int) (hx : a.eval x = .int .i64 i) (hy : a.eval y = .int .i64 j) (hk : (if j < i then j else i) = k) (h : K (a.put o.dst (.int .i64 k)) w) : if Region.wanted o (yielded ops a.tmps) = true then Oper.wp Try.prog o a w K Q else E := by
  rw [if_pos hw]
  have hr : (execOp a.eval o).run Try.prog w = .ok (.value (.int .i64 k)) w := by
    have h1 := run_min3 i j k w hk
    unfold execOp
    simp only [ho, hty]
    show Sem.run Try.prog (do
      let r ← (do pure (Next.value (← Builtin.min_ #[3, 3] 3 (#[x, y].map a.eval))))
      pure r) w = _
    have : (#[x, y].map a.eval) = #[.int .i64 i, .int .i64 j] := by simp [hx, hy]
    rw [this]
    simp only [Sem.run_bind, h1, Result.andThen_ok, Sem.run_pure]
  unfold Oper.wp
  rw [hr]
  exact h
theorem Fr.setRow (w : World) (g : Nat) (cs : Array Value) : Fr (fun k => k = g) w (w.setRow g cs) := by
  have hb := below_setRow (Below.refl 0 w) (Nat.zero_le g) cs
  exact ⟨hb.os, hb.tape, hb.output, hb.size, fun k hk hn => Go.setRow_other w g k cs hn⟩
theorem cells5 {w : World} {B : Nat} {v0 v1 v2 v3 v4 : Value} (h : Blk w B #[v0, v1, v2, v3, v4] 42) : w.cell? ⟨B, 0, none⟩ = some v0 ∧ w.cell? ⟨B, 1, none⟩ = some v1 ∧ w.cell? ⟨B, 2, none⟩ = some v2 ∧ w.cell? ⟨B, 3, none⟩ = some v3 ∧ w.cell? ⟨B, 4, none⟩ = some v4 :=
  ⟨h.cell (j := 0) rfl, h.cell (j := 1) rfl, h.cell (j := 2) rfl, h.cell (j := 3) rfl, h.cell (j := 4) rfl⟩
theorem build_none (w : World) : (Instr.build 33 #[]).run Try.prog w = .ok (.agg (lnA zeroLn)) w := by kernel_rfl
/-- the row that a listing has made: room for its lines -/
def Room (w : World) (g n : Nat) : Prop := ∃ cur, Blk w g cur 33 ∧ n * 131 ≤ cur.size
theorem Lns.room {w : World} {S c : Nat} {A : Option Addr} {L : List Ln} (h : Lns w S (.slice A L.length c) L) : ∃ g, L.length ≤ c ∧ (0 < L.length → A = some ⟨g, 0, none⟩ ∧ S ≤ g ∧ Room w g L.length) := by
  rcases h.2 with ⟨h1, h2⟩ | ⟨g, cap, cur, h1, h3, h4, h5, _, h6, _⟩
  · exact ⟨0, by omega, fun h => by omega⟩
  · injection h1 with e1 _ e3
    exact ⟨g, by omega, fun _ => ⟨e1, h3, cur, h4, by rw [h6]; exact Nat.mul_le_mul_right _ h5⟩⟩
theorem Room.below {w w' : World} {g n : Nat} (h : Room w g n) (hb : Below w.heap.size w w') : Room w' g n := by
  obtain ⟨cur, h1, h2⟩ := h
  exact ⟨cur, h1.below hb h1.lt, h2⟩
/-- a line stored into the middle of a row -/
theorem storeVar_ln_at (l : Ln) (w : World) (g k : Nat) (cur : Array Value) (h : Blk w g cur 33) (hfit : k * 131 + 131 ≤ cur.size) : ∃ cur', cur'.size = cur.size ∧ (storeVar 33 ⟨g, k * 131, none⟩ (.agg (lnA l))).run Try.prog w = .ok () (w.setRow g cur') := by
  have hll : (lnA l).toList.length = 131 := by rw [Array.length_toList, lnA_size]
  have hst := run_storeCells_at Try.prog g (k * 131) 33 (lnA l).toList 0 cur w h (by rw [hll]; omega) (fun v hv => by
    have := Array.all_eq_true_iff_forall_mem.1 (lnA_all l) v (by simpa using hv)
    exact this)
  simp only [Nat.add_zero, hll] at hst
  refine ⟨(cur.toList.take (k * 131) ++ (lnA l).toList ++ cur.toList.drop (k * 131 + 131)).toArray, ?_, ?_⟩
  · simp only [List.size_toArray, List.length_append, List.length_take, List.length_drop, Array.length_toList, lnA_size]
    omega
  · have hq : Try.prog.info? 33 = some (Try.prog.info? 33).get! := by kernel_rfl
    have hs : (Try.prog.info? 33).get!.size = 131 := by kernel_rfl
    simp only [storeVar, sizeOf, typeInfo, run_program, Sem.run_bind, Result.andThen_ok]
    rw [hq]
    simp [hs, Value.cells, lnA_size, hst]
theorem dirty_len' {L : List Ln} (h : L.length ≤ 8) : (dirtyOf L).length ≤ 8 := Nat.le_trans (List.length_filter_le _ _) h
section
variable {P : Program} {ops : Array Oper} {rest : List Oper} {o : Oper} {a : Act} {w : World} {Q : Exit → Act → World → Prop}
theorem storeW (hgd : o.guard = none) (ty : TypeId) (x y : Operand) (ho : o.op = .store ty x y) (ad : Addr) (hx : a.eval x = .pointer (some ad)) (v : Value) (hy : a.eval y = v) (w' : World) (hl : (storeVar ty ad v).run P w = .ok () w')
    (h : wpList P ops Q rest (a.put o.dst undef) w') : wpList P ops Q (o :: rest) a w :=
  wpList_plain hgd fun K hK => by
    unfold Oper.wp execOp
    simp only [ho, hx, hy, Instr.storeAt, Instr.sureAddr, Sem.run_bind, Sem.run_pure, Result.andThen_ok, hl]
    exact hK _ _ h
end

set_option maxHeartbeats 40000000 in
set_option maxRecDepth 20000 in
theorem cachePlays_walk (a0 : Int) (_ : ok64 a0) (A : Option Addr) (n c : Nat) (zs : List OpD) (hz : zs.length = n) (_ : n ≤ c) (_ : c ≤ maxLen) (a2 : Int) (_ : ok64 a2) (w : World) (hr : RO w w.heap.size A zs) (hok : ∀ z ∈ zs, z.ok) :
    Calls Try.prog 6 #[.int .i64 a0, .slice A n c, .int .i64 a2] w fun e w' => e = .returned (.bool true) ∧ Below w.heap.size w w' := by
  subst hz
  by_cases hbig : (400 : Int) < (zs.length : Int)
  · go_enter Try.func6, Try.ntmps6
    go_wp2_with fail
    refine (alive_any w).mono ?_
    rintro e w1 ⟨rfl, hb1⟩
    go_wp2
    go_ret
    exact ⟨rfl, hb1⟩
  by_cases hlo : a0 < 1
  · go_enter Try.func6, Try.ntmps6
    go_wp2_with fail
    refine (alive_any w).mono ?_
    rintro e w1 ⟨rfl, hb1⟩
    go_wp2_with fail
    refine (new_no a0 (.inl hlo) w1).mono ?_
    rintro e w2 ⟨rfl, rfl⟩
    go_wp2_with fail
    refine (is_range w2).mono ?_
    rintro e w3 ⟨rfl, rfl⟩
    go_wp2
    go_ret
    exact ⟨rfl, hb1⟩
  by_cases hhi : 8 < a0
  · go_enter Try.func6, Try.ntmps6
    go_wp2_with fail
    refine (alive_any w).mono ?_
    rintro e w1 ⟨rfl, hb1⟩
    go_wp2_with fail
    refine (new_no a0 (.inr hhi) w1).mono ?_
    rintro e w2 ⟨rfl, rfl⟩
    go_wp2_with fail
    refine (is_range w2).mono ?_
    rintro e w3 ⟨rfl, rfl⟩
    go_wp2
    go_ret
    exact ⟨rfl, hb1⟩
  obtain ⟨q, rfl⟩ : ∃ q : Nat, a0 = (q : Int) := ⟨a0.toNat, by omega⟩
  have hq1 : 1 ≤ q := by omega
  have hq8 : q ≤ 8 := by omega
  go_enter Try.func6, Try.ntmps6
  go_wp2_with fail
  refine (alive_any w).mono ?_
  rintro e w1 ⟨rfl, hb1⟩
  go_wp2_with fail
  refine (new_any q hq1 hq8 w1).mono ?_
  rintro e w2 ⟨a, m, rfl, st, hb2, ha, hm⟩
  obtain ⟨mt, hmt10, hmt⟩ := most_of a2
  go_wp2_with fail
  rw [hmt]
  generalize (IntKind.u64.wrap a2).tmod 10 = t10 at *
  clear hmt
  refine (quota_any a m _ q [] w2 st).mono ?_
  rintro e w' ⟨rfl, rfl⟩
  go_wp2_with fail
  have hI : PInv w (w'.alloc (.cells #[.int .i64 q, .slice none 0 0] 55)) a m q (.slice none 0 0) [] w'.heap.size none 0 [] :=
    ⟨st.below ((Below.refl _ _).alloc (Nat.le_refl _) _), ⟨Blk.new _ _ _, World.ownsRow_nil _ _ 33 131, by simp⟩, (hb1.trans (hb2.mono hb1.size)).alloc (Nat.le_trans hb1.size hb2.size) _, by rw [World.size_alloc]; have := hb1.size; have := hb2.size; omega, fun k hk => (by
      rcases hk with h | h | h
      · have := hb1.size; omega
      · have := hb1.size; omega
      · cases h), fun k hk => (by
      rcases hk with h | ⟨o, h⟩
      · have := hb1.size; have := hb2.size; omega
      · cases h), fun k hk hk2 => (by
      rcases hk2 with h | ⟨o, h⟩
      · have := st.fm_lt hk; omega
      · cases h)⟩
  have HI := Lib.hid hI
  clear hI
  have hz := lnA_zero
  have hfs := lnA_size
  generalize hrr : w'.heap.size = r at *
  generalize w'.alloc (.cells #[.int .i64 q, .slice none 0 0] 55) = w3 at *
  clear hrr st hb2 ha hm
  go_loopw [61] (fun i wr => ∃ (k : Nat) (L : List Ln) (v : Value) (A' : Option Addr) (c' : Nat), k ≤ zs.length ∧ i = .int .i64 k ∧ Hid (PInv w wr a m q v L r A' c' L)) (fun i _ => (zs.length - intOf i).toNat)
  case atStart => exact ⟨0, [], _, none, 0, Nat.zero_le _, rfl, HI.out⟩
  case round =>
    obtain ⟨k, L, v, A', c', hk, rfl, HR⟩ := hrel
    by_cases hlt : (k : Int) < (zs.length : Int)
    · obtain ⟨o, ho⟩ : ∃ o, zs[k]? = some o := ⟨zs[k]'(by omega), List.getElem?_eq_getElem (by omega)⟩
      have hoo := hok o (List.mem_of_getElem? ho)
      obtain ⟨ad, rfl, had, hco⟩ := (hr.below HR.out.bel) k o ho
      have Hld := Lib.hid (load_op hco)
      have Ho := Lib.hid ho
      clear hco ho
      have hbx : Below wr.heap.size wr (wr.alloc (.cells (opA o) 42)) := (Below.refl _ _).alloc (Nat.le_refl _) _
      have hB := Blk.new wr (opA o) 42
      have HR1 := Lib.hid (HR.out.below hbx)
      have hnf : ¬ Fm a m v wr.heap.size := fun h => by have := HR.out.st.fm_lt h; omega
      have hnr : ¬ Rm r A' wr.heap.size := fun h => by have := HR.out.rs.fm_lt h; omega
      have hL8 : L.length ≤ 8 := Nat.le_trans HR.out.st.len HR.out.st.q8
      have HND := Lib.hid HR.out.st.nodup
      have hs2 : ok64 o.u ∧ ok64 o.b := ⟨hoo.2.1, hoo.2.2.1⟩
      clear hbx HR
      unfold opA at hB Hld HR1
      by_cases hk0 : o.k = 0
      · have hk0t : (o.k == 0) = true := by rw [beq_iff_eq]; exact hk0
        have HK := Lib.hid hk0
        clear hk0
        go_wp2_with (first | (refine loadW rfl 42 _ rfl (ad.add (k * 5)) rfl _ Hld.out ?_) | fail)
        obtain ⟨W, hW⟩ : ∃ W, W = wr.alloc (.cells #[.int .i64 o.k, .int .i64 o.u, .int .i64 o.b, .int .u8 o.c, .bool o.d] 42) := ⟨_, rfl⟩
        have hsz : wr.heap.size < W.heap.size := by rw [hW, World.size_alloc]; omega
        rw [← hW] at hB HR1 ⊢
        clear hW
        refine (get_g (o.u, o.b) hs2 HR1.out.st).mono ?_
        rintro e w4 ⟨v4, rfl, st4, gr4⟩
        have HR4 := Lib.hid (HR1.out.impl st4 gr4)
        have hB4 := gr4.1.blk hB hnf
        clear st4 gr4 hB HR1
        obtain ⟨x, hx⟩ : ∃ x, (findLn L (o.u, o.b)).getD zeroLn = x := ⟨_, rfl⟩
        obtain ⟨is, his⟩ : ∃ is, (findLn L (o.u, o.b)).isSome = is := ⟨_, rfl⟩
        rw [hx, his]
        have Hx := Lib.hid hx
        have His := Lib.hid his
        clear hx his
        have hbx : Below w4.heap.size w4 ((w4.alloc (.cells (lnA zeroLn) 33)).setRow w4.heap.size (lnA x)) := below_setRow ((Below.refl _ _).alloc (Nat.le_refl _) _) (Nat.le_refl _) _
        have hX : Blk ((w4.alloc (.cells (lnA zeroLn) 33)).setRow w4.heap.size (lnA x)) w4.heap.size (lnA x) 33 := Blk.setRow (Blk.new _ _ _) _
        have HR5 := Lib.hid (HR4.out.below hbx)
        have hB5 := hB4.below hbx hB4.lt
        have hN := Blk.new w4 (lnA zeroLn) 33
        have hnr4 : ¬ Rm r A' w4.heap.size := fun h => by have := HR4.out.rs.fm_lt h; omega
        obtain ⟨W5, hW5⟩ : ∃ W5, (w4.alloc (.cells (lnA zeroLn) 33)).setRow w4.heap.size (lnA x) = W5 := ⟨_, rfl⟩
        rw [hW5] at hX HR5 hB5
        have HW5 := Lib.hid hW5
        have hsz5 : w4.heap.size < W5.heap.size := hX.lt
        clear hbx HR4 hB4 hW5
        have x1 := hB5.cell (j := 1) rfl
        have x2 := hB5.cell (j := 2) rfl
        go_wp2_with (first | (refine store_lnW rfl _ _ rfl w4.heap.size x rfl rfl zeroLn hN ?_; rw [HW5.out]) | fail)
        refine (rget_any r q c' A' L HND.out hL8 (o.u, o.b) W5 HR5.out.rs).mono ?_
        rintro e w6 ⟨A6, c6, rfl, rs6, gr6⟩
        rw [Hx.out, His.out]
        have HR6 := Lib.hid (HR5.out.refc rs6 gr6)
        have hX6 := gr6.1.blk hX hnr4
        clear rs6 gr6 hB5 HR5 hX x1 x2
        have hbx : Below w6.heap.size w6 ((w6.alloc (.cells (lnA zeroLn) 33)).setRow w6.heap.size (lnA x)) := below_setRow ((Below.refl _ _).alloc (Nat.le_refl _) _) (Nat.le_refl _) _
        have hY : Blk ((w6.alloc (.cells (lnA zeroLn) 33)).setRow w6.heap.size (lnA x)) w6.heap.size (lnA x) 33 := Blk.setRow (Blk.new _ _ _) _
        have hX7 := hX6.below hbx hX6.lt
        have HR7 := Lib.hid (HR6.out.below hbx)
        have hN6 := Blk.new w6 (lnA zeroLn) 33
        obtain ⟨W7, hW7⟩ : ∃ W7, (w6.alloc (.cells (lnA zeroLn) 33)).setRow w6.heap.size (lnA x) = W7 := ⟨_, rfl⟩
        rw [hW7] at hX7 HR7 hY
        have HW7 := Lib.hid hW7
        clear hbx HR6 hX6 hW7
        have le := fun w => ln_eq x x w
        rw [eqLn_self] at le
        have hii : (is == is) = true := by simp
        go_wp2_with (first | (refine store_lnW rfl _ _ rfl w6.heap.size x rfl rfl zeroLn hN6 ?_; rw [HW7.out]) | (refine load_lnW rfl _ rfl w4.heap.size rfl x hX7 ?_) | (refine load_lnW rfl _ rfl w6.heap.size rfl x hY ?_) | fail)
        go_wp2_with fail
        refine (lines_g HR7.out.st).mono ?_
        rintro e W5 ⟨A5, c5, rfl, hl5, hb5⟩
        have HR5 := Lib.hid (HR7.out.below hb5)
        have SL5 := Lib.hid (Snap.of_lns (G := fun k => k < W7.heap.size) hl5 (fun _ h => h))
        have Hfm := Lib.hid (fun k (hk : Fm a m v4 k) => HR7.out.st.fm_lt hk)
        have Hrm := Lib.hid (fun k (hk : Rm r A6 k) => HR7.out.rs.fm_lt hk)
        have Hws := Lib.hid HR7.out.siz
        have hrow5 := Lib.hid hl5
        clear hl5 hb5
        go_wp2_with fail
        refine (rdirty_any r q c6 A6 (touch L (o.u, o.b)) W5 HR5.out.rs).mono ?_
        rintro e W6 ⟨A9, c9, rfl, hl6, hb6⟩
        have HR6 := Lib.hid (HR5.out.below hb6)
        have SL6 := Lib.hid (SL5.out.fr (Grow.below hb6))
        have SD6 := Lib.hid (Snap.of_lns (G := fun _ => False) hl6 (fun _ h => h.elim))
        have hrow6 := Lib.hid (lns_below hrow5.out hb6)
        have hcap6 : (dirtyOf (touch L (o.u, o.b))).length ≤ c9 := by
          rcases hl6.2 with ⟨h1, h2⟩ | ⟨g, cap, cur, h1, _, _, h2, _⟩
          · omega
          · injection h1 with _ _ h3
            omega
        have h8 : (touch L (o.u, o.b)).length ≤ 8 := Nat.le_trans HR6.out.st.len HR6.out.st.q8
        have hd8 := dirty_len' h8
        clear hl6 hb6 HR5 SL5 hrow5 HR7
        generalize hLL : touch L (o.u, o.b) = N at *
        have HLL := Lib.hid hLL
        clear hLL
        have hT : ((dirtyOf N).take mt).length = min mt (dirtyOf N).length := List.length_take
        have C1 := Lib.hid (same_any' A5 A6 c5 c6 N (by omega) W6.drew (SL6.out.free : Snap (fun _ => False) W6 A5 N) (HR6.out.rs.snap : Snap (fun _ => False) W6 A6 N))
        have HT := Lib.hid hT
        have bR := HR6.out.rs.blk.cell (j := 1) rfl
        have ST6 : Hid (St W6.drew a m v4 q N) := HR6.out.st.below (drewN_below W6 1)
        have HR7 : Hid (PInv w W6.drew a m q v4 N r A6 c6 N) := HR6.out.below (drewN_below W6 1)
        have SD7 : Hid (Snap (fun _ => False) W6.drew A9 (dirtyOf N)) := SD6.out.below (drewN_below W6 1)
        have RW7 : Hid (Lns W6.drew W7.heap.size (.slice A5 N.length c5) N) := lns_below hrow6.out (drewN_below W6 1)
        clear hT HR6 SD6 SL6 hrow6
        obtain ⟨t, ht⟩ : ∃ t : Nat, t = min mt (dirtyOf N).length := ⟨_, rfl⟩
        have hTl : ((dirtyOf N).take mt).length = t := by rw [HT.out, ht]
        have hminv : (if ((dirtyOf N).length : Int) < (mt : Int) then ((dirtyOf N).length : Int) else (mt : Int)) = (t : Int) := by split <;> omega
        have ht8 : (t : Int) ≤ 8 := by omega
        have htc : (t : Int) ≤ (c9 : Int) := by omega
        have ht0 : (0 : Int) ≤ (t : Int) := by omega
        have HTl := Lib.hid hTl
        have HRO := Lib.hid (Lns.room RW7.out)
        have z0 : W6.drew.cell? ⟨r, 1, none⟩ = some (Value.slice A6 N.length c6) := HR7.out.rs.blk.cell (j := 1) rfl
        have hrl : r < W6.drew.heap.size := HR7.out.rs.blk.lt
        clear hTl ht HT hcap6 hd8 bR RW7
        go_wp2_with fail
        go_region_held3 (fun w' => w'.cell? ⟨r, 1, none⟩ = some (Value.slice A6 N.length c6)) (first | exact z0 | exact z7 | exact z8 | exact z9 | fail) (first | (refine step_min (by kernel_rfl) (.tmp 143) (.tmp 145) rfl rfl _ _ _ rfl rfl hminv ?_) | (go_at_call 25; refine C1.out.mono ?_; rintro e w7 ⟨rfl, hb7⟩; have z7 : w7.cell? ⟨r, 1, none⟩ = some (Value.slice A6 N.length c6) := (hb7.cell hrl).trans z0; have hrl7 := Nat.lt_of_lt_of_le hrl hb7.size; clear C1) | (go_at_call 13; refine (dirty_g mt (by omega) (ST6.out.below hb7)).mono ?_; rintro e w8 ⟨A8, c8, rfl, hl8, hb8⟩; have SA8 := Lib.hid (Snap.of_lns (G := fun _ => False) hl8 (fun _ h => h.elim)); have SD8 := Lib.hid ((SD7.out.below hb7).below hb8); have z8 : w8.cell? ⟨r, 1, none⟩ = some (Value.slice A6 N.length c6) := (hb8.cell hrl7).trans z7; have hb78 := hb7.trans (hb8.mono hb7.size); have hrl8 := Nat.lt_of_lt_of_le hrl hb78.size; rw [HTl.out]; clear hl8 hb8 hb7 z7 hrl7) | (go_at_call 25; have h := same_any' A8 A9 c8 c9 ((dirtyOf N).take mt) (by rw [HTl.out]; omega) w8 SA8.out (SD8.out.take mt); rw [HTl.out] at h; refine h.mono ?_; rintro e w9 ⟨rfl, hb9⟩; have z9 : w9.cell? ⟨r, 1, none⟩ = some (Value.slice A6 N.length c6) := (hb9.cell hrl8).trans z8; have HR9 := Lib.hid (HR7.out.below (hb78.trans (hb9.mono hb78.size))); have HB9 := Lib.hid (hb78.trans (hb9.mono hb78.size)); clear hb9 hb78 z8 hrl8))
        all_goals
          go_wp2_with fail
          obtain ⟨g5, hgc, hg⟩ := HRO.out
          have Hg := Lib.hid hg
          clear hg z0 z9 hrl
          have hnc : (N.length : Int) ≤ (c5 : Int) := by omega
          go_loopw [19, 153] (fun _ i wl => ∃ j : Nat, j ≤ N.length ∧ i = .int .i64 j ∧ Hid (PInv w wl a m q v4 N r A6 c6 N) ∧ Hid (0 < N.length → Room wl g5 N.length)) (fun _ i _ => (N.length - intOf i).toNat)
          case atStart => exact ⟨0, Nat.zero_le _, rfl, HR9.out, fun h => (Hg.out h).2.2.below HB9.out⟩
          case round =>
            obtain ⟨j, hj3, rfl, hP, hRm⟩ := hrel
            by_cases hl3 : (j : Int) < (N.length : Int)
            · have hn0 : 0 < N.length := by omega
              obtain ⟨hA, hge, _⟩ := Hg.out hn0
              subst hA
              obtain ⟨cur, hB, hsz⟩ := hRm.out hn0
              obtain ⟨cur', hc1, hst⟩ := storeVar_ln_at zeroLn wr g5 j cur hB (by omega)
              have hP2 : Hid (PInv w (wr.setRow g5 cur') a m q v4 N r A6 c6 N) := hP.out.fr (Fr.setRow wr g5 cur') (fun k hk hf => by have := Hfm.out k hf; omega) (fun k hk hf => by have := Hrm.out k hf; omega) (fun k hk => by have := Hws.out; omega)
              have hR2 : Hid (0 < N.length → Room (wr.setRow g5 cur') g5 N.length) := fun _ => ⟨cur', hB.setRow cur', by rw [hc1]; exact hsz⟩
              have Hst := Lib.hid hst
              clear hst hB hsz hc1 hP hRm
              go_wp2_with (first | (refine buildW rfl 33 #[] rfl #[] (by simp) (.agg (lnA zeroLn)) (build_none _) ?_) | (refine storeW rfl 33 _ _ rfl ⟨g5, j * 131, none⟩ rfl _ rfl _ Hst.out ?_) | fail)
              exact ⟨⟨j + 1, by omega, rfl, hP2.out, hR2.out⟩, by simp only [intOf]; omega⟩
            · go_wp2
              exact ⟨⟨k + 1, N, v4, A6, c6, by omega, rfl, hP.out⟩, by simp only [intOf]; omega⟩
      by_cases hk1 : o.k = 1
      · have hk0f : (o.k == 0) = false := beq_eq_false_iff_ne.2 hk0
        have hk1t : (o.k == 1) = true := by rw [beq_iff_eq]; exact hk1
        clear hk0 hk1
        go_wp2_with (first | (refine loadW rfl 42 _ rfl (ad.add (k * 5)) rfl _ Hld.out ?_) | fail)
        obtain ⟨W, hW⟩ : ∃ W, W = wr.alloc (.cells #[.int .i64 o.k, .int .i64 o.u, .int .i64 o.b, .int .u8 o.c, .bool o.d] 42) := ⟨_, rfl⟩
        have hsz : wr.heap.size < W.heap.size := by rw [hW, World.size_alloc]; omega
        rw [← hW] at hB HR1 ⊢
        clear hW
        have HRd : Hid (PInv w W.drew a m q v L r A' c' L) := HR1.out.below (drewN_below W 1)
        have hBd : Blk W.drew wr.heap.size #[.int .i64 o.k, .int .i64 o.u, .int .i64 o.b, .int .u8 o.c, .bool o.d] 42 := hB.drewN 1
        have zz0 := cells5 hBd
        have lo1 := Lib.hid (line_any o W.drew)
        have lo2 := line_any o
        have hnum := num_any (putOK q L o.ln)
        have hput := fun w (h : St w a m v q L) => put_g o.ln hs2 h
        have hrput := fun w h => rput_any r q c' A' L HND.out hL8 hq8 o.ln w h
        have hpn : (if putOK q L o.ln then (0 : Int) else 7) = putN q L o.ln := rfl
        rw [hpn] at hnum
        obtain ⟨pn, hpn2⟩ : ∃ pn, putN q L o.ln = pn := ⟨_, rfl⟩
        obtain ⟨ev, hev⟩ : ∃ ev, errV (putOK q L o.ln) = ev := ⟨_, rfl⟩
        rw [hpn2, hev] at hnum
        rw [hev] at hput
        rw [hpn2] at hrput
        unfold opA at lo1 lo2
        have Hnum := Lib.hid hnum
        have Hput := Lib.hid hput
        have Hrput := Lib.hid hrput
        have Lo2 := Lib.hid lo2
        clear hpn hpn2 hev hnum hput hrput lo2 HR1 hB
        go_region_held3 (fun w' => w'.cell? ⟨wr.heap.size, 0, none⟩ = some (.int .i64 o.k) ∧ w'.cell? ⟨wr.heap.size, 1, none⟩ = some (.int .i64 o.u) ∧ w'.cell? ⟨wr.heap.size, 2, none⟩ = some (.int .i64 o.b) ∧ w'.cell? ⟨wr.heap.size, 3, none⟩ = some (.int .u8 o.c) ∧ w'.cell? ⟨wr.heap.size, 4, none⟩ = some (.bool o.d)) (first | exact zz0 | exact zz2 | exact zz3 | exact zz5 | exact zz7 | fail) (first | (go_at_call 14; refine lo1.out.mono ?_; rintro e W2 ⟨rfl, hb2⟩; have HP2 := Lib.hid (HRd.out.below hb2); have hB2 := hBd.below hb2 hBd.lt; have zz2 := cells5 hB2; clear hb2 lo1 HRd hBd) | (go_at_call 11; refine (Hput.out W2 HP2.out.st).mono ?_; rintro e W3 ⟨v3, rfl, st3, gr3⟩; have HP3 := Lib.hid (HP2.out.impl st3 gr3); have hB3 := gr3.1.blk hB2 hnf; have zz3 := cells5 hB3; clear st3 gr3 HP2 hB2 zz2) | (go_at_call 20; refine (Hnum.out W3).mono ?_; rintro e W4 ⟨rfl, rfl⟩) | (go_at_call 14; refine (Lo2.out W4).mono ?_; rintro e W5 ⟨rfl, hb5⟩; have HP5 := Lib.hid (HP3.out.below hb5); have hB5 := hB3.below hb5 hB3.lt; have zz5 := cells5 hB5; clear hb5 HP3 hB3 zz3) | (go_at_call 21; refine (Hrput.out W5 HP5.out.rs).mono ?_; rintro e W7 ⟨A6, c6, rfl, rs6, gr6⟩; have HP7 := Lib.hid (HP5.out.refc rs6 gr6); have hB7 := gr6.1.blk hB5 hnr; have zz7 := cells5 hB7; clear rs6 gr6 HP5 hB5 zz5))
        clear zz7 hB7 zz0
        go_wp2_with fail
        refine (lines_g HP7.out.st).mono ?_
        rintro e W5 ⟨A5, c5, rfl, hl5, hb5⟩
        have HR5 := Lib.hid (HP7.out.below hb5)
        have SL5 := Lib.hid (Snap.of_lns (G := fun k => k < W7.heap.size) hl5 (fun _ h => h))
        have Hfm := Lib.hid (fun k (hk : Fm a m v3 k) => HP7.out.st.fm_lt hk)
        have Hrm := Lib.hid (fun k (hk : Rm r A6 k) => HP7.out.rs.fm_lt hk)
        have Hws := Lib.hid HP7.out.siz
        have hrow5 := Lib.hid hl5
        clear hl5 hb5
        go_wp2_with fail
        refine (rdirty_any r q c6 A6 (putL q L o.ln) W5 HR5.out.rs).mono ?_
        rintro e W6 ⟨A9, c9, rfl, hl6, hb6⟩
        have HR6 := Lib.hid (HR5.out.below hb6)
        have SL6 := Lib.hid (SL5.out.fr (Grow.below hb6))
        have SD6 := Lib.hid (Snap.of_lns (G := fun _ => False) hl6 (fun _ h => h.elim))
        have hrow6 := Lib.hid (lns_below hrow5.out hb6)
        have hcap6 : (dirtyOf (putL q L o.ln)).length ≤ c9 := by
          rcases hl6.2 with ⟨h1, h2⟩ | ⟨g, cap, cur, h1, _, _, h2, _⟩
          · omega
          · injection h1 with _ _ h3
            omega
        have h8 : (putL q L o.ln).length ≤ 8 := Nat.le_trans HR6.out.st.len HR6.out.st.q8
        have hd8 := dirty_len' h8
        clear hl6 hb6 HR5 SL5 hrow5 HP7
        generalize hLL : putL q L o.ln = N at *
        have HLL := Lib.hid hLL
        clear hLL
        have hT : ((dirtyOf N).take mt).length = min mt (dirtyOf N).length := List.length_take
        have C1 := Lib.hid (same_any' A5 A6 c5 c6 N (by omega) W6.drew (SL6.out.free : Snap (fun _ => False) W6 A5 N) (HR6.out.rs.snap : Snap (fun _ => False) W6 A6 N))
        have HT := Lib.hid hT
        have bR := HR6.out.rs.blk.cell (j := 1) rfl
        have ST6 : Hid (St W6.drew a m v3 q N) := HR6.out.st.below (drewN_below W6 1)
        have HR7 : Hid (PInv w W6.drew a m q v3 N r A6 c6 N) := HR6.out.below (drewN_below W6 1)
        have SD7 : Hid (Snap (fun _ => False) W6.drew A9 (dirtyOf N)) := SD6.out.below (drewN_below W6 1)
        have RW7 : Hid (Lns W6.drew W7.heap.size (.slice A5 N.length c5) N) := lns_below hrow6.out (drewN_below W6 1)
        clear hT HR6 SD6 SL6 hrow6
        obtain ⟨t, ht⟩ : ∃ t : Nat, t = min mt (dirtyOf N).length := ⟨_, rfl⟩
        have hTl : ((dirtyOf N).take mt).length = t := by rw [HT.out, ht]
        have hminv : (if ((dirtyOf N).length : Int) < (mt : Int) then ((dirtyOf N).length : Int) else (mt : Int)) = (t : Int) := by split <;> omega
        have ht8 : (t : Int) ≤ 8 := by omega
        have htc : (t : Int) ≤ (c9 : Int) := by omega
        have ht0 : (0 : Int) ≤ (t : Int) := by omega
        have HTl := Lib.hid hTl
        have HRO := Lib.hid (Lns.room RW7.out)
        have z0 : W6.drew.cell? ⟨r, 1, none⟩ = some (Value.slice A6 N.length c6) := HR7.out.rs.blk.cell (j := 1) rfl
        have hrl : r < W6.drew.heap.size := HR7.out.rs.blk.lt
        clear hTl ht HT hcap6 hd8 bR RW7
        go_wp2_with fail
        go_region_held3 (fun w' => w'.cell? ⟨r, 1, none⟩ = some (Value.slice A6 N.length c6)) (first | exact z0 | exact z7 | exact z8 | exact z9 | fail) (first | (refine step_min (by kernel_rfl) (.tmp 143) (.tmp 145) rfl rfl _ _ _ rfl rfl hminv ?_) | (go_at_call 25; refine C1.out.mono ?_; rintro e w7 ⟨rfl, hb7⟩; have z7 : w7.cell? ⟨r, 1, none⟩ = some (Value.slice A6 N.length c6) := (hb7.cell hrl).trans z0; have hrl7 := Nat.lt_of_lt_of_le hrl hb7.size; clear C1) | (go_at_call 13; refine (dirty_g mt (by omega) (ST6.out.below hb7)).mono ?_; rintro e w8 ⟨A8, c8, rfl, hl8, hb8⟩; have SA8 := Lib.hid (Snap.of_lns (G := fun _ => False) hl8 (fun _ h => h.elim)); have SD8 := Lib.hid ((SD7.out.below hb7).below hb8); have z8 : w8.cell? ⟨r, 1, none⟩ = some (Value.slice A6 N.length c6) := (hb8.cell hrl7).trans z7; have hb78 := hb7.trans (hb8.mono hb7.size); have hrl8 := Nat.lt_of_lt_of_le hrl hb78.size; rw [HTl.out]; clear hl8 hb8 hb7 z7 hrl7) | (go_at_call 25; have h := same_any' A8 A9 c8 c9 ((dirtyOf N).take mt) (by rw [HTl.out]; omega) w8 SA8.out (SD8.out.take mt); rw [HTl.out] at h; refine h.mono ?_; rintro e w9 ⟨rfl, hb9⟩; have z9 : w9.cell? ⟨r, 1, none⟩ = some (Value.slice A6 N.length c6) := (hb9.cell hrl8).trans z8; have HR9 := Lib.hid (HR7.out.below (hb78.trans (hb9.mono hb78.size))); have HB9 := Lib.hid (hb78.trans (hb9.mono hb78.size)); clear hb9 hb78 z8 hrl8))
        all_goals
          go_wp2_with fail
          obtain ⟨g5, hgc, hg⟩ := HRO.out
          have Hg := Lib.hid hg
          clear hg z0 z9 hrl
          have hnc : (N.length : Int) ≤ (c5 : Int) := by omega
          go_loopw [19, 153] (fun _ i wl => ∃ j : Nat, j ≤ N.length ∧ i = .int .i64 j ∧ Hid (PInv w wl a m q v3 N r A6 c6 N) ∧ Hid (0 < N.length → Room wl g5 N.length)) (fun _ i _ => (N.length - intOf i).toNat)
          case atStart => exact ⟨0, Nat.zero_le _, rfl, HR9.out, fun h => (Hg.out h).2.2.below HB9.out⟩
          case round =>
            obtain ⟨j, hj3, rfl, hP, hRm⟩ := hrel
            by_cases hl3 : (j : Int) < (N.length : Int)
            · have hn0 : 0 < N.length := by omega
              obtain ⟨hA, hge, _⟩ := Hg.out hn0
              subst hA
              obtain ⟨cur, hB, hsz⟩ := hRm.out hn0
              obtain ⟨cur', hc1, hst⟩ := storeVar_ln_at zeroLn wr g5 j cur hB (by omega)
              have hP2 : Hid (PInv w (wr.setRow g5 cur') a m q v3 N r A6 c6 N) := hP.out.fr (Fr.setRow wr g5 cur') (fun k hk hf => by have := Hfm.out k hf; omega) (fun k hk hf => by have := Hrm.out k hf; omega) (fun k hk => by have := Hws.out; omega)
              have hR2 : Hid (0 < N.length → Room (wr.setRow g5 cur') g5 N.length) := fun _ => ⟨cur', hB.setRow cur', by rw [hc1]; exact hsz⟩
              have Hst := Lib.hid hst
              clear hst hB hsz hc1 hP hRm
              go_wp2_with (first | (refine buildW rfl 33 #[] rfl #[] (by simp) (.agg (lnA zeroLn)) (build_none _) ?_) | (refine storeW rfl 33 _ _ rfl ⟨g5, j * 131, none⟩ rfl _ rfl _ Hst.out ?_) | fail)
              exact ⟨⟨j + 1, by omega, rfl, hP2.out, hR2.out⟩, by simp only [intOf]; omega⟩
            · go_wp2
              exact ⟨⟨k + 1, N, v3, A6, c6, by omega, rfl, hP.out⟩, by simp only [intOf]; omega⟩
      by_cases hk2 : o.k = 2
      · have hk0f : (o.k == 0) = false := beq_eq_false_iff_ne.2 hk0
        have hk1f : (o.k == 1) = false := beq_eq_false_iff_ne.2 hk1
        have hk2t : (o.k == 2) = true := by rw [beq_iff_eq]; exact hk2
        clear hk0 hk1 hk2
        go_wp2_with (first | (refine loadW rfl 42 _ rfl (ad.add (k * 5)) rfl _ Hld.out ?_) | fail)
        refine (clean_g HR1.out.st).mono ?_
        rintro e W2 ⟨rfl, st2, gr2⟩
        obtain ⟨Lc, hLc⟩ : ∃ Lc, L.map cleanLn = Lc := ⟨_, rfl⟩
        rw [hLc] at st2
        have HLc := Lib.hid hLc
        have HP2 := Lib.hid (HR1.out.impl st2 gr2)
        clear st2 gr2 HR1 hB hLc
        go_wp2_with fail
        refine (rclean_any r q c' A' L W2 HP2.out.rs ((rdirty_any r q c' A' L W2 HP2.out.rs).mono fun e w' ⟨A9, c9, he, _, hb⟩ => ⟨A9, c9, he, hb⟩)).mono ?_
        rintro e W3 ⟨rfl, rs3, gr3⟩
        rw [HLc.out] at rs3
        have HP3 := Lib.hid (HP2.out.refc rs3 gr3)
        clear rs3 gr3 HP2 HLc
        go_wp2_with fail
        refine (lines_g HP3.out.st).mono ?_
        rintro e W5 ⟨A5, c5, rfl, hl5, hb5⟩
        have HR5 := Lib.hid (HP3.out.below hb5)
        have SL5 := Lib.hid (Snap.of_lns (G := fun k => k < W3.heap.size) hl5 (fun _ h => h))
        have Hfm := Lib.hid (fun k (hk : Fm a m v k) => HP3.out.st.fm_lt hk)
        have Hrm := Lib.hid (fun k (hk : Rm r A' k) => HP3.out.rs.fm_lt hk)
        have Hws := Lib.hid HP3.out.siz
        have hrow5 := Lib.hid hl5
        clear hl5 hb5
        go_wp2_with fail
        refine (rdirty_any r q c' A' (Lc) W5 HR5.out.rs).mono ?_
        rintro e W6 ⟨A9, c9, rfl, hl6, hb6⟩
        have HR6 := Lib.hid (HR5.out.below hb6)
        have SL6 := Lib.hid (SL5.out.fr (Grow.below hb6))
        have SD6 := Lib.hid (Snap.of_lns (G := fun _ => False) hl6 (fun _ h => h.elim))
        have hrow6 := Lib.hid (lns_below hrow5.out hb6)
        have hcap6 : (dirtyOf (Lc)).length ≤ c9 := by
          rcases hl6.2 with ⟨h1, h2⟩ | ⟨g, cap, cur, h1, _, _, h2, _⟩
          · omega
          · injection h1 with _ _ h3
            omega
        have h8 : (Lc).length ≤ 8 := Nat.le_trans HR6.out.st.len HR6.out.st.q8
        have hd8 := dirty_len' h8
        clear hl6 hb6 HR5 SL5 hrow5 HP3
        generalize hLL : Lc = N at *
        have HLL := Lib.hid hLL
        clear hLL
        have hT : ((dirtyOf N).take mt).length = min mt (dirtyOf N).length := List.length_take
        have C1 := Lib.hid (same_any' A5 A' c5 c' N (by omega) W6.drew (SL6.out.free : Snap (fun _ => False) W6 A5 N) (HR6.out.rs.snap : Snap (fun _ => False) W6 A' N))
        have HT := Lib.hid hT
        have bR := HR6.out.rs.blk.cell (j := 1) rfl
        have ST6 : Hid (St W6.drew a m v q N) := HR6.out.st.below (drewN_below W6 1)
        have HR7 : Hid (PInv w W6.drew a m q v N r A' c' N) := HR6.out.below (drewN_below W6 1)
        have SD7 : Hid (Snap (fun _ => False) W6.drew A9 (dirtyOf N)) := SD6.out.below (drewN_below W6 1)
        have RW7 : Hid (Lns W6.drew W3.heap.size (.slice A5 N.length c5) N) := lns_below hrow6.out (drewN_below W6 1)
        clear hT HR6 SD6 SL6 hrow6
        obtain ⟨t, ht⟩ : ∃ t : Nat, t = min mt (dirtyOf N).length := ⟨_, rfl⟩
        have hTl : ((dirtyOf N).take mt).length = t := by rw [HT.out, ht]
        have hminv : (if ((dirtyOf N).length : Int) < (mt : Int) then ((dirtyOf N).length : Int) else (mt : Int)) = (t : Int) := by split <;> omega
        have ht8 : (t : Int) ≤ 8 := by omega
        have htc : (t : Int) ≤ (c9 : Int) := by omega
        have ht0 : (0 : Int) ≤ (t : Int) := by omega
        have HTl := Lib.hid hTl
        have HRO := Lib.hid (Lns.room RW7.out)
        have z0 : W6.drew.cell? ⟨r, 1, none⟩ = some (Value.slice A' N.length c') := HR7.out.rs.blk.cell (j := 1) rfl
        have hrl : r < W6.drew.heap.size := HR7.out.rs.blk.lt
        clear hTl ht HT hcap6 hd8 bR RW7
        go_wp2_with fail
        go_region_held3 (fun w' => w'.cell? ⟨r, 1, none⟩ = some (Value.slice A' N.length c')) (first | exact z0 | exact z7 | exact z8 | exact z9 | fail) (first | (refine step_min (by kernel_rfl) (.tmp 143) (.tmp 145) rfl rfl _ _ _ rfl rfl hminv ?_) | (go_at_call 25; refine C1.out.mono ?_; rintro e w7 ⟨rfl, hb7⟩; have z7 : w7.cell? ⟨r, 1, none⟩ = some (Value.slice A' N.length c') := (hb7.cell hrl).trans z0; have hrl7 := Nat.lt_of_lt_of_le hrl hb7.size; clear C1) | (go_at_call 13; refine (dirty_g mt (by omega) (ST6.out.below hb7)).mono ?_; rintro e w8 ⟨A8, c8, rfl, hl8, hb8⟩; have SA8 := Lib.hid (Snap.of_lns (G := fun _ => False) hl8 (fun _ h => h.elim)); have SD8 := Lib.hid ((SD7.out.below hb7).below hb8); have z8 : w8.cell? ⟨r, 1, none⟩ = some (Value.slice A' N.length c') := (hb8.cell hrl7).trans z7; have hb78 := hb7.trans (hb8.mono hb7.size); have hrl8 := Nat.lt_of_lt_of_le hrl hb78.size; rw [HTl.out]; clear hl8 hb8 hb7 z7 hrl7) | (go_at_call 25; have h := same_any' A8 A9 c8 c9 ((dirtyOf N).take mt) (by rw [HTl.out]; omega) w8 SA8.out (SD8.out.take mt); rw [HTl.out] at h; refine h.mono ?_; rintro e w9 ⟨rfl, hb9⟩; have z9 : w9.cell? ⟨r, 1, none⟩ = some (Value.slice A' N.length c') := (hb9.cell hrl8).trans z8; have HR9 := Lib.hid (HR7.out.below (hb78.trans (hb9.mono hb78.size))); have HB9 := Lib.hid (hb78.trans (hb9.mono hb78.size)); clear hb9 hb78 z8 hrl8))
        all_goals
          go_wp2_with fail
          obtain ⟨g5, hgc, hg⟩ := HRO.out
          have Hg := Lib.hid hg
          clear hg z0 z9 hrl
          have hnc : (N.length : Int) ≤ (c5 : Int) := by omega
          go_loopw [19, 153] (fun _ i wl => ∃ j : Nat, j ≤ N.length ∧ i = .int .i64 j ∧ Hid (PInv w wl a m q v N r A' c' N) ∧ Hid (0 < N.length → Room wl g5 N.length)) (fun _ i _ => (N.length - intOf i).toNat)
          case atStart => exact ⟨0, Nat.zero_le _, rfl, HR9.out, fun h => (Hg.out h).2.2.below HB9.out⟩
          case round =>
            obtain ⟨j, hj3, rfl, hP, hRm⟩ := hrel
            by_cases hl3 : (j : Int) < (N.length : Int)
            · have hn0 : 0 < N.length := by omega
              obtain ⟨hA, hge, _⟩ := Hg.out hn0
              subst hA
              obtain ⟨cur, hB, hsz⟩ := hRm.out hn0
              obtain ⟨cur', hc1, hst⟩ := storeVar_ln_at zeroLn wr g5 j cur hB (by omega)
              have hP2 : Hid (PInv w (wr.setRow g5 cur') a m q v N r A' c' N) := hP.out.fr (Fr.setRow wr g5 cur') (fun k hk hf => by have := Hfm.out k hf; omega) (fun k hk hf => by have := Hrm.out k hf; omega) (fun k hk => by have := Hws.out; omega)
              have hR2 : Hid (0 < N.length → Room (wr.setRow g5 cur') g5 N.length) := fun _ => ⟨cur', hB.setRow cur', by rw [hc1]; exact hsz⟩
              have Hst := Lib.hid hst
              clear hst hB hsz hc1 hP hRm
              go_wp2_with (first | (refine buildW rfl 33 #[] rfl #[] (by simp) (.agg (lnA zeroLn)) (build_none _) ?_) | (refine storeW rfl 33 _ _ rfl ⟨g5, j * 131, none⟩ rfl _ rfl _ Hst.out ?_) | fail)
              exact ⟨⟨j + 1, by omega, rfl, hP2.out, hR2.out⟩, by simp only [intOf]; omega⟩
            · go_wp2
              exact ⟨⟨k + 1, N, v, A', c', by omega, rfl, hP.out⟩, by simp only [intOf]; omega⟩
      · have hk0f : (o.k == 0) = false := beq_eq_false_iff_ne.2 hk0
        have hk1f : (o.k == 1) = false := beq_eq_false_iff_ne.2 hk1
        have hk2f : (o.k == 2) = false := beq_eq_false_iff_ne.2 hk2
        clear hk0 hk1 hk2
        go_wp2_with (first | (refine loadW rfl 42 _ rfl (ad.add (k * 5)) rfl _ Hld.out ?_) | fail)
        obtain ⟨W, hW⟩ : ∃ W, W = wr.alloc (.cells #[.int .i64 o.k, .int .i64 o.u, .int .i64 o.b, .int .u8 o.c, .bool o.d] 42) := ⟨_, rfl⟩
        have hsz : wr.heap.size < W.heap.size := by rw [hW, World.size_alloc]; omega
        rw [← hW] at hB HR1 ⊢
        clear hW
        have HRd : Hid (PInv w W.drew a m q v L r A' c' L) := HR1.out.below (drewN_below W 1)
        have hBd : Blk W.drew wr.heap.size #[.int .i64 o.k, .int .i64 o.u, .int .i64 o.b, .int .u8 o.c, .bool o.d] 42 := hB.drewN 1
        have zz0 := (cells5 hBd).2.1
        obtain ⟨dn, hdn⟩ : ∃ dn, (L.length : Int) - ((dropL o.u L).length : Nat) = dn := ⟨_, rfl⟩
        have hdrop := fun w (h : St w a m v q L) => drop_g o.u h
        have hrdrop := fun w h => rdrop_any r q c' A' L o.u w h
        rw [hdn] at hdrop hrdrop
        have Hdrop := Lib.hid hdrop
        have Hrdrop := Lib.hid hrdrop
        clear hdn hdrop hrdrop HR1 hB
        go_region_held3 (fun w' => w'.cell? ⟨wr.heap.size, 1, none⟩ = some (.int .i64 o.u)) (first | exact zz0 | exact zz2 | exact zz3 | fail) (first | (go_at_call 16; refine (Hdrop.out _ HRd.out.st).mono ?_; rintro e W2 ⟨v2, rfl, st2, gr2⟩; have HP2 := Lib.hid (HRd.out.impl st2 gr2); have hB2 := gr2.1.blk hBd hnf; have zz2 := (cells5 hB2).2.1; clear st2 gr2 HRd hBd) | (go_at_call 23; refine (Hrdrop.out W2 HP2.out.rs).mono ?_; rintro e W3 ⟨A6, c6, rfl, rs3, gr3⟩; have HP3 := Lib.hid (HP2.out.refc rs3 gr3); have hB3 := gr3.1.blk hB2 hnr; have zz3 := (cells5 hB3).2.1; clear rs3 gr3 HP2 hB2 zz2))
        clear zz3 hB3 zz0
        go_wp2_with fail
        refine (lines_g HP3.out.st).mono ?_
        rintro e W5 ⟨A5, c5, rfl, hl5, hb5⟩
        have HR5 := Lib.hid (HP3.out.below hb5)
        have SL5 := Lib.hid (Snap.of_lns (G := fun k => k < W3.heap.size) hl5 (fun _ h => h))
        have Hfm := Lib.hid (fun k (hk : Fm a m v2 k) => HP3.out.st.fm_lt hk)
        have Hrm := Lib.hid (fun k (hk : Rm r A6 k) => HP3.out.rs.fm_lt hk)
        have Hws := Lib.hid HP3.out.siz
        have hrow5 := Lib.hid hl5
        clear hl5 hb5
        go_wp2_with fail
        refine (rdirty_any r q c6 A6 (dropL o.u L) W5 HR5.out.rs).mono ?_
        rintro e W6 ⟨A9, c9, rfl, hl6, hb6⟩
        have HR6 := Lib.hid (HR5.out.below hb6)
        have SL6 := Lib.hid (SL5.out.fr (Grow.below hb6))
        have SD6 := Lib.hid (Snap.of_lns (G := fun _ => False) hl6 (fun _ h => h.elim))
        have hrow6 := Lib.hid (lns_below hrow5.out hb6)
        have hcap6 : (dirtyOf (dropL o.u L)).length ≤ c9 := by
          rcases hl6.2 with ⟨h1, h2⟩ | ⟨g, cap, cur, h1, _, _, h2, _⟩
          · omega
          · injection h1 with _ _ h3
            omega
        have h8 : (dropL o.u L).length ≤ 8 := Nat.le_trans HR6.out.st.len HR6.out.st.q8
        have hd8 := dirty_len' h8
        clear hl6 hb6 HR5 SL5 hrow5 HP3
        generalize hLL : dropL o.u L = N at *
        have HLL := Lib.hid hLL
        clear hLL
        have hT : ((dirtyOf N).take mt).length = min mt (dirtyOf N).length := List.length_take
        have C1 := Lib.hid (same_any' A5 A6 c5 c6 N (by omega) W6.drew (SL6.out.free : Snap (fun _ => False) W6 A5 N) (HR6.out.rs.snap : Snap (fun _ => False) W6 A6 N))
        have HT := Lib.hid hT
        have bR := HR6.out.rs.blk.cell (j := 1) rfl
        have ST6 : Hid (St W6.drew a m v2 q N) := HR6.out.st.below (drewN_below W6 1)
        have HR7 : Hid (PInv w W6.drew a m q v2 N r A6 c6 N) := HR6.out.below (drewN_below W6 1)
        have SD7 : Hid (Snap (fun _ => False) W6.drew A9 (dirtyOf N)) := SD6.out.below (drewN_below W6 1)
        have RW7 : Hid (Lns W6.drew W3.heap.size (.slice A5 N.length c5) N) := lns_below hrow6.out (drewN_below W6 1)
        clear hT HR6 SD6 SL6 hrow6
        obtain ⟨t, ht⟩ : ∃ t : Nat, t = min mt (dirtyOf N).length := ⟨_, rfl⟩
        have hTl : ((dirtyOf N).take mt).length = t := by rw [HT.out, ht]
        have hminv : (if ((dirtyOf N).length : Int) < (mt : Int) then ((dirtyOf N).length : Int) else (mt : Int)) = (t : Int) := by split <;> omega
        have ht8 : (t : Int) ≤ 8 := by omega
        have htc : (t : Int) ≤ (c9 : Int) := by omega
        have ht0 : (0 : Int) ≤ (t : Int) := by omega
        have HTl := Lib.hid hTl
        have HRO := Lib.hid (Lns.room RW7.out)
        have z0 : W6.drew.cell? ⟨r, 1, none⟩ = some (Value.slice A6 N.length c6) := HR7.out.rs.blk.cell (j := 1) rfl
        have hrl : r < W6.drew.heap.size := HR7.out.rs.blk.lt
        clear hTl ht HT hcap6 hd8 bR RW7
        go_wp2_with fail
        go_region_held3 (fun w' => w'.cell? ⟨r, 1, none⟩ = some (Value.slice A6 N.length c6)) (first | exact z0 | exact z7 | exact z8 | exact z9 | fail) (first | (refine step_min (by kernel_rfl) (.tmp 143) (.tmp 145) rfl rfl _ _ _ rfl rfl hminv ?_) | (go_at_call 25; refine C1.out.mono ?_; rintro e w7 ⟨rfl, hb7⟩; have z7 : w7.cell? ⟨r, 1, none⟩ = some (Value.slice A6 N.length c6) := (hb7.cell hrl).trans z0; have hrl7 := Nat.lt_of_lt_of_le hrl hb7.size; clear C1) | (go_at_call 13; refine (dirty_g mt (by omega) (ST6.out.below hb7)).mono ?_; rintro e w8 ⟨A8, c8, rfl, hl8, hb8⟩; have SA8 := Lib.hid (Snap.of_lns (G := fun _ => False) hl8 (fun _ h => h.elim)); have SD8 := Lib.hid ((SD7.out.below hb7).below hb8); have z8 : w8.cell? ⟨r, 1, none⟩ = some (Value.slice A6 N.length c6) := (hb8.cell hrl7).trans z7; have hb78 := hb7.trans (hb8.mono hb7.size); have hrl8 := Nat.lt_of_lt_of_le hrl hb78.size; rw [HTl.out]; clear hl8 hb8 hb7 z7 hrl7) | (go_at_call 25; have h := same_any' A8 A9 c8 c9 ((dirtyOf N).take mt) (by rw [HTl.out]; omega) w8 SA8.out (SD8.out.take mt); rw [HTl.out] at h; refine h.mono ?_; rintro e w9 ⟨rfl, hb9⟩; have z9 : w9.cell? ⟨r, 1, none⟩ = some (Value.slice A6 N.length c6) := (hb9.cell hrl8).trans z8; have HR9 := Lib.hid (HR7.out.below (hb78.trans (hb9.mono hb78.size))); have HB9 := Lib.hid (hb78.trans (hb9.mono hb78.size)); clear hb9 hb78 z8 hrl8))
        all_goals
          go_wp2_with fail
          obtain ⟨g5, hgc, hg⟩ := HRO.out
          have Hg := Lib.hid hg
          clear hg z0 z9 hrl
          have hnc : (N.length : Int) ≤ (c5 : Int) := by omega
          go_loopw [19, 153] (fun _ i wl => ∃ j : Nat, j ≤ N.length ∧ i = .int .i64 j ∧ Hid (PInv w wl a m q v2 N r A6 c6 N) ∧ Hid (0 < N.length → Room wl g5 N.length)) (fun _ i _ => (N.length - intOf i).toNat)
          case atStart => exact ⟨0, Nat.zero_le _, rfl, HR9.out, fun h => (Hg.out h).2.2.below HB9.out⟩
          case round =>
            obtain ⟨j, hj3, rfl, hP, hRm⟩ := hrel
            by_cases hl3 : (j : Int) < (N.length : Int)
            · have hn0 : 0 < N.length := by omega
              obtain ⟨hA, hge, _⟩ := Hg.out hn0
              subst hA
              obtain ⟨cur, hB, hsz⟩ := hRm.out hn0
              obtain ⟨cur', hc1, hst⟩ := storeVar_ln_at zeroLn wr g5 j cur hB (by omega)
              have hP2 : Hid (PInv w (wr.setRow g5 cur') a m q v2 N r A6 c6 N) := hP.out.fr (Fr.setRow wr g5 cur') (fun k hk hf => by have := Hfm.out k hf; omega) (fun k hk hf => by have := Hrm.out k hf; omega) (fun k hk => by have := Hws.out; omega)
              have hR2 : Hid (0 < N.length → Room (wr.setRow g5 cur') g5 N.length) := fun _ => ⟨cur', hB.setRow cur', by rw [hc1]; exact hsz⟩
              have Hst := Lib.hid hst
              clear hst hB hsz hc1 hP hRm
              go_wp2_with (first | (refine buildW rfl 33 #[] rfl #[] (by simp) (.agg (lnA zeroLn)) (build_none _) ?_) | (refine storeW rfl 33 _ _ rfl ⟨g5, j * 131, none⟩ rfl _ rfl _ Hst.out ?_) | fail)
              exact ⟨⟨j + 1, by omega, rfl, hP2.out, hR2.out⟩, by simp only [intOf]; omega⟩
            · go_wp2
              exact ⟨⟨k + 1, N, v2, A6, c6, by omega, rfl, hP.out⟩, by simp only [intOf]; omega⟩
    · obtain rfl : k = zs.length := by omega
      go_wp2
      go_ret
      exact ⟨rfl, HR.out.bel⟩
/-! ### the row's frame -/
theorem cachePlays_own : ownKnob Try.prog.godebug = none := by kernel_rfl
theorem cachePlays_laid : laidOutB Try.prog = true := by kernel_rfl
set_option maxRecDepth 100000 in
theorem cachePlays_lifted (os : Os) (started : os.Started) (H : Type) (enc : TypeId × Value → H) :
    ReturnsInHanded {} Try.checked os 6 .any (Rows.cachePlaysSpec.pre6 enc Try.prog Try.f6 Rows.cachePlaysRow.domain false) (Rows.cachePlaysSpec.post enc Try.prog Try.f6 false true false false) := by
  refine returnsInHanded_of_change (C := Try.checked) cachePlays_own started (by kernel_rfl) Try.func6
    (ChangeSpec.witness6 (enc := enc) (C := Try.checked) false ⟨#[], #[.int .i64 0, .slice none 0 0, .int .i64 0], []⟩ 8 (by kernel_rfl) (by kernel_rfl) (by kernel_rfl) (by kernel_rfl)) ?_
  intro W base args ds gs before hval0 hW hcnd _
  have hval : ∀ (j : Nat) t v, Try.f6.params[j]? = some t → args[j]? = some v → Value.okWide Try.prog W .any base t v := hval0
  have hW' := hW
  obtain ⟨p, q, hA0, hV, rfl, hfz, hnd⟩ := hW
  have hlt0 : ∀ x ∈ p, x.block < W.heap.size := fun x hx => hW'.lt x (List.mem_append.2 (.inl hx))
  have hA : DataW.TrodAll enc Try.prog W 0 (fun _ => true) true Try.f6.params.toList args.toList ds p := hA0
  rw [Try.params6] at hA hval
  obtain ⟨v0, vs0, d0, ds0, p0, q0, hargs, rfl, rfl, h0, r0⟩ := trodAll_cons hA
  obtain ⟨v1, vs1, d1, ds1, p1, q1, rfl, rfl, rfl, h1, r1⟩ := trodAll_cons r0
  obtain ⟨v2, vs2, d2, ds2, p2, q2, rfl, rfl, rfl, h2, r2⟩ := trodAll_cons r1
  obtain ⟨rfl, rfl, rfl⟩ := trodAll_nil r2
  obtain rfl : args = #[v0, v1, v2] := by cases args; simp_all
  obtain ⟨rfl, rfl⟩ := trodVars_none hV
  have k0 := h0
  have lt0 : ∀ x ∈ p0, x.block < W.heap.size := fun x hx => hlt0 x (by simp [hx])
  have k1 := h1
  have lt1 : ∀ x ∈ p1, x.block < W.heap.size := fun x hx => hlt0 x (by simp [hx])
  have k2 := h2
  have lt2 : ∀ x ∈ p2, x.block < W.heap.size := fun x hx => hlt0 x (by simp [hx])
  obtain ⟨a0, rfl, rfl, rfl, w0⟩ := open_int Try.underlying3 (hval 0 3 v0 rfl rfl) h0
  obtain ⟨A1, n1, c1, zs1, rfl, hl1, hn1, hm1, hr1, hk1⟩ := ops_of (hval 1 40 v1 rfl rfl) h1
  obtain ⟨a2, rfl, rfl, rfl, w2⟩ := open_int Try.underlying3 (hval 2 3 v2 rfl rfl) h2
  clear hA0 hval0
  refine (cachePlays_walk a0 (ok64_of w0) A1 n1 c1 zs1 hl1 hn1 hm1 a2 (ok64_of w2) W hr1 hk1).mono fun e W' ⟨he, bel⟩ => ?_
  subst he
  exact ⟨_, rfl, _, _, _, [], _, [], hW', trodAll_mk1 (shut_bool Try.underlying4 _), (trodAll_cons_mk (Below.trod cachePlays_laid (by kernel_rfl) (of_decide_eq_true (by kernel_rfl)) k0 bel lt0) (trodAll_cons_mk (Below.trod cachePlays_laid (by kernel_rfl) (of_decide_eq_true (by kernel_rfl)) k1 bel lt1) (trodAll_cons_mk (Below.trod cachePlays_laid (by kernel_rfl) (of_decide_eq_true (by kernel_rfl)) k2 bel lt2) trodAll_mk0))), rfl, bel.frame _, fun h => by cases h⟩

theorem cachePlays_proved : Rows.CachePlaysSaid :=
  OpenClaim.holds_of_wide 6 Try.f6 rfl rfl rfl rfl rfl rfl rfl ⟨rfl, rfl, rfl, rfl, rfl⟩ rfl rfl rfl rfl rfl (by kernel_rfl) Try.func6 (by kernel_rfl)
    (of_decide_eq_true (by kernel_rfl)) (by unfold Func.isWrapper; rw [if_neg (of_decide_eq_false (by kernel_rfl))]; exact ⟨rfl, rfl⟩)
    (fun os started H enc _ => cachePlays_lifted os started H enc)
#print axioms cachePlays_proved

end Go.Proofs.Ytheilnaommcjjaa
