/-
  Tamper: bytes copied over a sector's first ones.
-/
import Derived.Test.YthfhilinajemhaaBytes
namespace Go.Proofs.Ythfhilinajemhaa
open Go.RowKit
open Go.Maps (Keyed int_keyed)
set_option linter.unusedVariables false

/-- bytes laid over a sector's first ones -/
def overB (b : Nat → Int) (R : List Int) (j : Nat) : Int := if j < R.length then R.getD j 0 else b j
def overC (c : Array Value) (R : List Int) : Array Value := putAll c 0 (R.map (Value.int .u8))
theorem overC_bts (b : Nat → Int) (R : List Int) (h : R.length ≤ 128) : overC (bts b) R = bts (overB b R) := by
  apply Array.ext_getElem?
  intro i
  unfold overC
  have hsz : (bts b).size = 128 := row_size _ _
  rw [putAll_at _ _ _ _ (by rw [hsz, List.length_map]; omega), List.length_map]
  unfold bts overB
  by_cases hi : i < 128
  · rw [row_at (fun j => Value.int .u8 (if j < R.length then R.getD j 0 else b j)) _ _ hi]
    by_cases h1 : i < R.length
    · rw [if_pos ⟨by omega, by omega⟩, if_pos h1, Nat.sub_zero, List.getElem?_map, List.getElem?_eq_getElem h1, List.getD_eq_getElem?_getD, List.getElem?_eq_getElem h1]; rfl
    · rw [if_neg (by omega), if_neg h1, row_at _ _ _ hi]
  · rw [if_neg (by omega), row_none _ _ _ (by omega), row_none _ _ _ (by omega)]
theorem Cel.over {c : Array Value} (h : Cel c) {R : List Int} (hR : R.length ≤ 128) : Cel (overC c R) := by
  obtain ⟨b, rfl⟩ := h
  exact ⟨_, overC_bts b R hR⟩
theorem putAll_over (n : Nat) (s : Nat → Array Value) (i : Nat) (R : List Int) (hi : i < n) (hc : Cel (s i)) (hR : R.length ≤ 128) : putAll (flat n s) (i * 128) (R.map (Value.int .u8)) = flat n (updS s i (overC (s i) R)) := by
  have hcs := hc.size
  have hos := (hc.over hR).size
  apply Array.ext_getElem?
  intro k
  rw [putAll_at _ _ _ _ (by rw [flat_size, List.length_map]; omega), List.length_map]
  by_cases hk : k < n * 128
  · rw [show k = (k / 128) * 128 + k % 128 by omega, flat_at _ (updS s i _) _ _ (by omega) (by omega)]
    have hat : (overC (s i) R)[k % 128]? = if k % 128 < R.length then (R.map (Value.int .u8))[k % 128]? else (s i)[k % 128]? := by
      unfold overC
      rw [putAll_at _ _ _ _ (by rw [hcs, List.length_map]; omega), List.length_map]
      by_cases h : k % 128 < R.length
      · rw [if_pos ⟨by omega, by omega⟩, if_pos h, Nat.sub_zero]
      · rw [if_neg (by omega), if_neg h]
    unfold updS
    by_cases h1 : i = k / 128
    · rw [if_pos h1.symm, hat]
      by_cases h2 : k % 128 < R.length
      · rw [if_pos (by omega), if_pos h2, show k / 128 * 128 + k % 128 - i * 128 = k % 128 by omega, List.getElem?_eq_getElem (by simpa using h2)]; rfl
      · rw [if_neg (by omega), if_neg h2, flat_at _ _ _ _ (by omega) (by omega), ← h1]
    · rw [if_neg (by omega), if_neg (fun h => h1 h.symm), flat_at _ _ _ _ (by omega) (by omega)]
  · rw [if_neg (by omega)]
    unfold flat
    rw [row_none _ _ _ (by omega), row_none _ _ _ (by omega)]
theorem info5 : (Try.prog.info? 5).map (·.size) = some 1 := by kernel_rfl
theorem run_copyB {w : World} {g off dLen dCap : Nat} {cur : Array Value} {t ty : TypeId} (hg : Blk w g cur t) {A : Option Addr} {sCap S : Nat} {R : List Int} (hr : RB w S A R) (hlen : R.length ≤ dLen) (hfit : off + R.length ≤ cur.size) :
    ∃ w', (Builtin.copy_ #[22, 22] ty #[.slice (some ⟨g, off, none⟩) dLen dCap, .slice A R.length sCap]).run Try.prog w = .ok (goInt R.length) w' ∧ Blk w' g (putAll cur off (R.map (Value.int .u8))) t ∧ Fr (fun k => k = g) w w' := by
  by_cases h0 : R.length = 0
  · obtain rfl : R = [] := List.eq_nil_of_length_eq_zero h0
    exact ⟨w, run_copy_none w 22 22 ty 5 _ _ _ _ _ _ Try.underlying22 info5 (by simp), hg, Fr.refl _ _⟩
  · have hA : ∃ ad, A = some ad := by
      obtain ⟨ad, h, _⟩ := hr 0 R[0] (List.getElem?_eq_getElem (by omega))
      exact ⟨ad, h⟩
    obtain ⟨ad, rfl⟩ := hA
    have hn : (R.map (Value.int .u8)).length = Nat.min R.length dLen := by rw [List.length_map]; exact (Nat.min_eq_left hlen).symm
    have := run_copy_cells (P := Try.prog) w 22 22 ty 5 g off dLen dCap ad R.length sCap (R.map (Value.int .u8)) Try.underlying22 info5 hn (fun j v hv => by
        rw [List.getElem?_map, Option.map_eq_some_iff] at hv
        obtain ⟨x, hx, rfl⟩ := hv
        obtain ⟨ad', h1, _, h3⟩ := hr j x hx
        cases h1
        exact h3) (fun j hj => by
        rw [List.length_map] at hj
        rw [hg.cell (Array.getElem?_eq_getElem (show off + j < cur.size by omega))]; rfl) (fun j hj => hg.frozen _) (fun v hv => by
        obtain ⟨x, _, rfl⟩ := List.mem_map.1 hv
        rfl)
    rw [List.length_map] at this
    exact ⟨_, this, hg.setCells, Fr.setCells g _ _ _⟩
section
variable {ops : Array Oper} {rest : List Oper} {o : Oper} {a : Act} {w : World} {Q : Exit → Act → World → Prop}
theorem copyW (hgd : o.guard = none) (d s : Operand) (ho : o.op = .call { callee := .builtin .copy, args := #[d, s], argTypes := #[22, 22] }) {g off dLen dCap : Nat} {cur : Array Value} {t : TypeId} (hd : a.eval d = .slice (some ⟨g, off, none⟩) dLen dCap) {A : Option Addr} {R : List Int} {sCap S : Nat} (hs : a.eval s = .slice A R.length sCap)
    (hg : Blk w g cur t) (hr : RB w S A R) (hlen : R.length ≤ dLen) (hfit : off + R.length ≤ cur.size)
    (h : ∀ w', Blk w' g (putAll cur off (R.map (Value.int .u8))) t → Fr (fun k => k = g) w w' → wpList Try.prog ops Q rest (a.put o.dst (goInt R.length)) w') : wpList Try.prog ops Q (o :: rest) a w := by
  refine wpList_plain hgd fun K' hK' => ?_
  obtain ⟨w', hrun, h1, h2⟩ := run_copyB (ty := o.type) (dCap := dCap) (sCap := sCap) hg hr hlen hfit
  unfold Oper.wp
  simp [execOp, ho, resolve, invoke, builtin, hd, hs, hrun, Result.andThen]
  exact hK' _ _ (h w' h1 h2)
end
theorem tamper_nil (i : Int) (A : Option Addr) (n c : Nat) (w : World) : Calls Try.prog 33 #[.pointer none, .int .i64 i, .slice A n c] w fun e w' => e = .returned (errP 1) ∧ w' = w := by
  unfold errP
  go_enter Try.func33, Try.ntmps33
  go_wp2_with (first | (go_at_call 49; refine (has_nil i w).mono ?_; rintro e w' ⟨rfl, rfl⟩) | fail)
  go_ret
  exact ⟨rfl, rfl⟩
theorem tamper_no {w : World} {p m g gc : Nat} {d : Dk} (h : Disk w p m g gc d) (i : Int) (hi : ¬ (0 ≤ i ∧ i < d.n)) (A : Option Addr) (n c : Nat) : Calls Try.prog 33 #[.pointer (some ⟨p, 0, none⟩), .int .i64 i, .slice A n c] w fun e w' => e = .returned (errP 1) ∧ w' = w := by
  have C := has_any i h.p
  rw [decide_eq_false hi] at C
  have HC := Lib.hid C
  clear hi C
  unfold errP
  go_enter Try.func33, Try.ntmps33
  go_wp2_with (first | (go_at_call 49; refine HC.out.mono ?_; rintro e w' ⟨rfl, rfl⟩) | fail)
  go_ret
  exact ⟨rfl, rfl⟩
theorem tamper_long {w : World} {p m g gc : Nat} {d : Dk} (h : Disk w p m g gc d) (i : Int) (hi : 0 ≤ i ∧ i < d.n) (A : Option Addr) (n c : Nat) (hn : 128 < (n : Int)) : Calls Try.prog 33 #[.pointer (some ⟨p, 0, none⟩), .int .i64 i, .slice A n c] w fun e w' => e = .returned (errP 1) ∧ w' = w := by
  have C := has_any i h.p
  rw [decide_eq_true hi] at C
  have HC := Lib.hid C
  clear hi C
  unfold errP
  go_enter Try.func33, Try.ntmps33
  go_wp2_with (first | (go_at_call 49; refine HC.out.mono ?_; rintro e w' ⟨rfl, rfl⟩) | fail)
  go_ret
  exact ⟨rfl, rfl⟩
theorem RB.fr' {w w' : World} {S : Nat} {A : Option Addr} {R : List Int} {F : Nat → Prop} (h : RB w S A R) (hS : S ≤ w.heap.size) (hf : Fr F w w') (hF : ∀ ad, A = some ad → ad.block < S → ¬ F ad.block) : RB w' S A R := fun i x hx => by
  obtain ⟨ad, h1, h2, h3⟩ := h i x hx
  refine ⟨ad, h1, h2, ?_⟩
  have hb := addr_add_block ad i
  have e : w'.heap[(ad.add i).block]? = w.heap[(ad.add i).block]? := by rw [hb]; exact hf.block _ (by omega) (hF ad h1 h2)
  rw [cell_same e]
  exact h3
def Dk.tampered (d : Dk) (i : Nat) (R : List Int) : Dk := { d with s := updS d.s i (overC (d.s i) R), op := fun j => if j = (i : Int) then (d.op j).map (overC · R) else d.op j }
def Tampered (w : World) (p m g gc : Nat) (d : Dk) (i : Nat) (R : List Int) (e : Ending) (w' : World) : Prop := e = .returned .nilIface ∧ Disk w' p m g gc (d.tampered i R) ∧ Fr (fun k => k = m ∨ k = g) w w'
theorem Dk.tampered_ok {d : Dk} (h : d.ok) (i : Nat) (R : List Int) (hR : R.length ≤ 128) : (d.tampered i R).ok := by
  refine ⟨h.1, fun j => ?_, fun j c hj => ?_⟩
  · show Cel (updS d.s i (overC (d.s i) R) j)
    unfold updS
    split
    · exact (h.2.1 i).over hR
    · exact h.2.1 j
  · have hj' : (if j = (i : Int) then (d.op j).map (overC · R) else d.op j) = some c := hj
    split at hj'
    · obtain ⟨c0, h0, rfl⟩ := Option.map_eq_some_iff.1 hj'
      obtain ⟨a, b, e⟩ := h.2.2 j c0 h0
      exact ⟨a, b, e.over hR⟩
    · exact h.2.2 j c hj'
theorem Disk.tampered {w w' : World} {p m g gc : Nat} {d : Dk} (h : Disk w p m g gc d) {i : Nat} {R : List Int} (hR : R.length ≤ 128) (hm : MapF Try.prog 3 w' m (opn (d.tampered i R).op)) (hg : Blk w' g (flat d.n (updS d.s i (overC (d.s i) R))) 45) (hf : Fr (fun k => k = m ∨ k = g) w w') : Disk w' p m g gc (d.tampered i R) :=
  ⟨hf.blk h.p (fun e => e.elim h.pm (fun e => h.pg e.symm)), hg, hm, hf.blk h.c (fun e => e.elim h.cm h.gc_), Dk.tampered_ok h.ok i R hR⟩
theorem zc_cel_all : zc.all (·.oneCell') = true := (Cel.zero).all
set_option maxHeartbeats 1000000 in
set_option maxRecDepth 20000 in
theorem tamper_none {w : World} {p m g gc : Nat} {d : Dk} (h : Disk w p m g gc d) (i : Nat) (hi : i < d.n) (A : Option Addr) (c : Nat) (R : List Int) (hR : R.length ≤ 128) (S : Nat) (hS : S ≤ w.heap.size) (hr : RB w S A R) (hA : ∀ ad, A = some ad → ad.block < S → ¬ Dl p m g gc ad.block) (ho : d.op i = none) :
    Calls Try.prog 33 #[.pointer (some ⟨p, 0, none⟩), .int .i64 i, .slice A R.length c] w (Tampered w p m g gc d i R) := by
  have hz := zc_zero
  have hs := zc_size
  have C := has_any (i : Int) h.p
  rw [decide_eq_true (show 0 ≤ (i : Int) ∧ (i : Int) < d.n from ⟨by omega, by omega⟩)] at C
  have HC := Lib.hid C
  have hn2 := h.ok.1.2
  obtain ⟨l, hl⟩ := key_int (i : Int) ⟨by omega, by omega⟩
  have hlk : ∀ w', MapF Try.prog 3 w' m (opn d.op) → (Instr.lookup 86 (.map (some m)) (.int .i64 i) true).run Try.prog w' = .ok (.tuple #[.agg zc, .bool false]) w' := fun w' hm => by
    have := hm.lookup_ok keyed3 Try.underlying86 (zc_zero _) hl
    rw [show opn d.op (.int .i64 i) = none from by show (d.op i).map Value.agg = none; rw [ho]; rfl] at this
    exact this
  have HLK := Lib.hid hlk
  have y3 := pl3 h.p
  have HD := Lib.hid h
  have HR := Lib.hid hr
  have hRl : ¬ (128 : Int) < (R.length : Int) := by omega
  have i1 : (i : Int) < (d.n : Int) := by omega
  have i2 : (0 : Int) ≤ (i : Int) := by omega
  have hfit : i * 128 + R.length ≤ (flat d.n d.s).size := by rw [flat_size]; omega
  have HO := Lib.hid ho
  clear h hr C hlk hl ho
  go_enter Try.func33, Try.ntmps33
  go_wp2_with (first
    | (go_at_call 49; refine HC.out.mono ?_; rintro e w' ⟨rfl, rfl⟩)
    | (refine copyW rfl (.tmp 25) (.tmp 26) rfl rfl rfl HD.out.g HR.out hR hfit ?_; intro w1 hg1 hf1; have hm1 := hf1.map HD.out.m HD.out.gm.symm; have hp1 := hf1.blk HD.out.p HD.out.pg.symm; have x4 := pl4 hp1; have hk1 := HLK.out w1 hm1; have HG1 := Lib.hid hg1; have HF1 := Lib.hid hf1; have HM1 := Lib.hid hm1; clear hg1 hf1 hm1 hp1)
    | (refine store_cW rfl _ _ rfl w1.heap.size zc rfl rfl zc (Blk.new w1 _ _) zc_size zc_size zc_cel_all ?_)
    | fail)
  have hbx : Below w1.heap.size w1 ((w1.alloc (.cells zc 45)).setRow w1.heap.size zc) := below_setRow ((Below.refl _ _).alloc (Nat.le_refl _) _) (Nat.le_refl _) _
  have hop : ∀ j, (d.tampered i R).op j = d.op j := fun j => by
    show (if j = (i : Int) then (d.op j).map (overC · R) else d.op j) = _
    split
    · rename_i e; rw [e, HO.out]; rfl
    · rfl
  have hD := HD.out.tampered (i := i) hR (map_fun (HM1.out.kept' (hbx.block m HM1.out.lt)) (opn_congr hop)) (by rw [← putAll_over d.n d.s i R hi (HD.out.ok.2.1 i) hR]; exact HG1.out.below hbx HG1.out.lt) ((HF1.out.trans (Fr.of_below hbx : Fr (fun _ => False) w1 _) (fun _ h => h.elim)).weak (fun _ (h : _ = g) => .inr h))
  have hF : Fr (fun k => k = m ∨ k = g) w' ((w1.alloc (.cells zc 45)).setRow w1.heap.size zc) := (HF1.out.trans (Fr.of_below hbx : Fr (fun _ => False) w1 _) (fun _ h => h.elim)).weak (fun _ (h : _ = g) => .inr h)
  go_ret
  exact ⟨rfl, hD, hF⟩
set_option maxHeartbeats 1000000 in
set_option maxRecDepth 20000 in
theorem tamper_open {w : World} {p m g gc : Nat} {d : Dk} (h : Disk w p m g gc d) (i : Nat) (hi : i < d.n) (A : Option Addr) (c : Nat) (R : List Int) (hR : R.length ≤ 128) (S : Nat) (hS : S ≤ w.heap.size) (hr : RB w S A R) (hA : ∀ ad, A = some ad → ad.block < S → ¬ Dl p m g gc ad.block) (b : Array Value) (ho : d.op i = some b) :
    Calls Try.prog 33 #[.pointer (some ⟨p, 0, none⟩), .int .i64 i, .slice A R.length c] w (Tampered w p m g gc d i R) := by
  have hz := zc_zero
  have hs := zc_size
  have C := has_any (i : Int) h.p
  rw [decide_eq_true (show 0 ≤ (i : Int) ∧ (i : Int) < d.n from ⟨by omega, by omega⟩)] at C
  have HC := Lib.hid C
  have hn2 := h.ok.1.2
  have hcb := (h.ok.2.2 i b ho).2.2
  have hbs := hcb.size
  have hba := hcb.all
  have hos := (hcb.over hR).size
  have HOB := Lib.hid (show putAll b 0 (R.map (Value.int .u8)) = overC b R from rfl)
  obtain ⟨l, hl⟩ := key_int (i : Int) ⟨by omega, by omega⟩
  have HL := Lib.hid hl
  have hlk : ∀ w', MapF Try.prog 3 w' m (opn d.op) → (Instr.lookup 86 (.map (some m)) (.int .i64 i) true).run Try.prog w' = .ok (.tuple #[.agg b, .bool true]) w' := fun w' hm => by
    have := hm.lookup_ok keyed3 Try.underlying86 (zc_zero _) hl
    rw [show opn d.op (.int .i64 i) = some (.agg b) from by show (d.op i).map Value.agg = _; rw [ho]; rfl] at this
    exact this
  have HLK := Lib.hid hlk
  have y3 := pl3 h.p
  have HD := Lib.hid h
  have HR := Lib.hid hr
  have HA := Lib.hid hA
  have hRl : ¬ (128 : Int) < (R.length : Int) := by omega
  have i1 : (i : Int) < (d.n : Int) := by omega
  have i2 : (0 : Int) ≤ (i : Int) := by omega
  have hfit : i * 128 + R.length ≤ (flat d.n d.s).size := by rw [flat_size]; omega
  have hfit2 : 0 + R.length ≤ b.size := by omega
  have HO := Lib.hid ho
  clear h hr C hlk hl ho hA
  go_enter Try.func33, Try.ntmps33
  go_wp2_with (first
    | (go_at_call 49; refine HC.out.mono ?_; rintro e w' ⟨rfl, rfl⟩)
    | (refine copyW rfl (.tmp 25) (.tmp 26) rfl rfl rfl HD.out.g HR.out hR hfit ?_; intro w1 hg1 hf1; have hm1 := hf1.map HD.out.m HD.out.gm.symm; have hp1 := hf1.blk HD.out.p HD.out.pg.symm; have x4 := pl4 hp1; have hk1 := HLK.out w1 hm1; have HG1 := Lib.hid hg1; have HF1 := Lib.hid hf1; have HM1 := Lib.hid hm1; have HP1 := Lib.hid hp1; have hX := Blk.new w1 zc 45; clear hg1 hf1 hm1 hp1)
    | (refine store_cW rfl _ _ rfl w1.heap.size b rfl rfl zc hX zc_size hbs hba ?_; have hbx : Below w1.heap.size w1 ((w1.alloc (.cells zc 45)).setRow w1.heap.size b) := below_setRow ((Below.refl _ _).alloc (Nat.le_refl _) _) (Nat.le_refl _) _; have B2 := Lib.hid (hX.setRow b); have HBX := Lib.hid hbx; have R2 := Lib.hid ((HR.out.fr' hS HF1.out (fun ad h hl (e : ad.block = g) => HA.out ad h hl (.inr (.inr (.inl e))))).below (hbx.mono (Nat.le_trans hS HF1.out.size))); clear hbx hX)
    | (refine copyW rfl (.tmp 38) (.tmp 39) rfl rfl rfl B2.out R2.out hR hfit2 ?_; intro w3 hg3 hf3; have HG3 := Lib.hid hg3; have HF3 := Lib.hid hf3; clear hg3 hf3)
    | fail)
  generalize (w1.alloc (.cells zc 45)).setRow w1.heap.size b = W2 at *
  have hm3 : MapF Try.prog 3 w3 m (opn d.op) := HF3.out.map (HM1.out.kept' (HBX.out.block m HM1.out.lt)) (fun (e : m = w1.heap.size) => by have := HM1.out.lt; omega)
  have hp3 := HF3.out.blk (HP1.out.below HBX.out HP1.out.lt) (fun (e : p = w1.heap.size) => by have := HP1.out.lt; omega)
  have hg3 := HF3.out.blk (HG1.out.below HBX.out HG1.out.lt) (fun (e : g = w1.heap.size) => by have := HG1.out.lt; omega)
  have hc3 := HG3.out
  rw [HOB.out] at hc3
  obtain ⟨w4, hu, hgr, hmap⟩ := (MapF.drew hm3).update keyed3 Try.underlying86 HL.out (.agg (overC b R))
  have hm4 := hmap (opn (d.tampered i R).op) (by show Option.map _ (if (i : Int) = (i : Int) then (d.op i).map (overC · R) else _) = _; rw [if_pos rfl, HO.out]; rfl) (fun y hy => by
    unfold opn
    split
    · rename_i j
      have : j ≠ (i : Int) := fun e => hy (by rw [e])
      show Option.map _ (if j = (i : Int) then (d.op j).map (overC · R) else d.op j) = _
      rw [if_neg this]
    · rfl)
  have f4 : Fr (fun k => k = m) w3 w4 := Fr.of_grown (w := w3) (w' := w4) (row := some m) ⟨hgr.os, hgr.tape, hgr.output, hgr.size, hgr.block⟩ (fun k hk => (Option.some.inj hk).symm)
  have hF13 : Fr (fun k => k = g) w' w3 := (HF1.out.trans (Fr.of_below HBX.out : Fr (fun _ => False) w1 W2) (fun _ h => h.elim)).trans HF3.out (fun k (h : k = w1.heap.size) => .inr (by rw [h]; exact HF1.out.size))
  have hF := Lib.hid ((hF13.weak (F' := fun k => k = m ∨ k = g) (fun _ h => .inr h)).trans f4 (fun _ (h : _ = m) => .inl (.inl h)))
  have hD := Lib.hid (HD.out.tampered (i := i) hR hm4 (by rw [← putAll_over d.n d.s i R hi (HD.out.ok.2.1 i) hR]; exact f4.blk hg3 HD.out.gm) hF.out)
  have y4 := pl4 hp3
  have HC3 := Lib.hid hc3
  clear hmap hm4 hgr f4 hF13 hg3 hp3 hm3 x4 hk1 y3 HC hc3 hz
  refine wp_region_still_tail 6 (by kernel_rfl) (by kernel_rfl) ?_
  change wpStill _ _ w3.drew _ _ _
  simp only [List.take_succ_cons, List.take_zero, List.drop_succ_cons, List.drop_zero]
  iterate 5 (refine wpStill_step (fun K hK => ?_); go_simp; (try go_ints); (try go_simp); refine hK _ ?_; clear hK K)
  refine still_load_c rfl (.tmp 7) rfl w1.heap.size rfl (overC b R) hos (Blk.drew HC3.out) ?_
  go_simp
  refine wpStill_nil ?_
  change wpList _ _ _ _ _ w3.drew
  go_wp2
  go_ret
  exact ⟨rfl, hD.out, hF.out⟩
end Go.Proofs.Ythfhilinajemhaa
