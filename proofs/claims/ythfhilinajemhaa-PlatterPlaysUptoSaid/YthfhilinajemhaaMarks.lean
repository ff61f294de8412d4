/-
  Copies with marks: made, looked at, written over.
-/
import Derived.Test.YthfhilinajemhaaTamper
import Derived.Deep.AppendSrc
import Derived.Laws.BytesArg
namespace Go.Proofs.Ythfhilinajemhaa
open Go.RowKit
open Go.Maps (Keyed int_keyed)
set_option linter.unusedVariables false

theorem RB.src {w : World} {S : Nat} {A : Option Addr} {R : List Int} (h : RB w S A R) (c : Nat) : Src Try.prog 1 22 (.slice A R.length c) R.length (R.map (Value.int .u8)) w := by
  cases A with
  | none =>
    have hR : R = [] := by
      cases R with
      | nil => rfl
      | cons x L => obtain ⟨ad, h0, _⟩ := h 0 x rfl; cases h0
    subst hR
    exact Src.ofNil w Try.underlying22 c
  | some a =>
    refine Src.ofSlice w Try.underlying22 a R.length c (R.map (Value.int .u8)) (by simp) (fun j u hj => ?_) (fun u hu => ?_)
    · rw [List.getElem?_map, Option.map_eq_some_iff] at hj
      obtain ⟨x, hx, rfl⟩ := hj
      obtain ⟨ad, h0, _, h2⟩ := h j x hx
      cases h0
      exact h2
    · obtain ⟨x, _, rfl⟩ := List.mem_map.1 hu
      rfl
theorem RB.str {w : World} {S : Nat} {A : Option Addr} {R : List Int} (h : RB w S A R) (c : Nat) : (convert 22 9 (.slice A R.length c)).run Try.prog w = .ok (.string (strOfNums R)) w := by
  cases A with
  | none =>
    have hR : R = [] := by
      cases R with
      | nil => rfl
      | cons x L => obtain ⟨ad, h0, _⟩ := h 0 x rfl; cases h0
    subst hR
    exact run_convert_bytes_nil w 22 5 Try.underlying22 Try.underlying5 _ _ 9 Try.underlying9
  | some a =>
    have hl : (loadCells a R.length).run Try.prog w = .ok (R.map (Value.int .u8)).toArray w := by
      have := run_loadCells_list (P := Try.prog) w a (R.map (Value.int .u8)) (fun j v hj => by
        rw [List.getElem?_map, Option.map_eq_some_iff] at hj
        obtain ⟨x, hx, rfl⟩ := hj
        obtain ⟨ad, h0, _, h2⟩ := h j x hx
        cases h0
        exact h2)
      simpa using this
    rw [run_convert_bytes_string w 22 9 5 _ R.length c Try.underlying22 Try.underlying5 Try.underlying9, run_bytesToString w _ R.length c R hl, foldl_push_bytes]
    simp [strOfNums, ByteArray.empty, ByteArray.emptyWithCapacity]
    rfl
section
variable {ops : Array Oper} {rest : List Oper} {o : Oper} {a : Act} {w : World} {Q : Exit → Act → World → Prop}
theorem appendRoomW (hgd : o.guard = none) (s x : Operand) (ho : o.op = .call { callee := .builtin .append, args := #[s, x], argTypes := #[22, 22] }) {g n cap : Nat} {cur : Array Value} (hs : a.eval s = .slice (some ⟨g, 0, none⟩) n cap) {A : Option Addr} {R : List Int} {c S : Nat} (hx : a.eval x = .slice A R.length c)
    (hg : Blk w g cur 5) (hr : RB w S A R) (hroom : n + R.length ≤ cap) (hfit : n + R.length ≤ cur.size)
    (h : ∀ w', Blk w' g (putAll cur n (R.map (Value.int .u8))) 5 → Fr (fun k => k = g) w w' → wpList Try.prog ops Q rest (a.put o.dst (.slice (some ⟨g, 0, none⟩) (n + R.length) cap)) w') : wpList Try.prog ops Q (o :: rest) a w := by
  refine wpList_plain hgd fun K' hK' => ?_
  obtain ⟨i0, hi0, hi1⟩ : ∃ i, Try.prog.info? 5 = some i ∧ i.size = 1 := ⟨(Try.prog.info? 5).get!, by kernel_rfl, by kernel_rfl⟩
  have hrun := run_append_room_src (P := Try.prog) w 22 22 o.type 5 i0 Try.underlying22 hi0 g 0 n cap (.slice A R.length c) R.length (R.map (Value.int .u8)) (by rw [hi1]; exact hr.src c) hroom
    (fun j hj => by
      rw [List.length_map] at hj
      rw [hi1, Nat.mul_one, Nat.zero_add, hg.cell (Array.getElem?_eq_getElem (show n + j < cur.size by omega))]; rfl) (fun j hj => hg.frozen _)
  rw [hi1, Nat.mul_one, Nat.zero_add] at hrun
  unfold Oper.wp
  simp only [execOp, ho, resolve, invoke, builtin, Sem.run_bind, Sem.run_pure, Result.andThen_ok, List.map_toArray, List.map_cons, List.map_nil, hs, hx, hrun]
  exact hK' _ _ (h _ hg.setCells (Fr.setCells g _ _ _))
end
theorem putAll_size : ∀ (vs : List Value) (A : Array Value) (o : Nat), (putAll A o vs).size = A.size
  | [], _, _ => rfl
  | v :: r, A, o => by rw [putAll, putAll_size r]; simp
/-- bytes with two marks behind them -/
def marked (R : List Int) : Array Value := ((R ++ [165, 90]).map (Value.int .u8)).toArray
theorem marked_size (R : List Int) : (marked R).size = R.length + 2 := by simp [marked]
theorem marked_put (Z : Array Value) (R : List Int) (hZ : Z.size = R.length + 2) : putAll (putAll Z 0 (R.map (Value.int .u8))) R.length ([165, 90].map (Value.int .u8)) = marked R := by
  have h1 : ∀ i, (putAll Z 0 (R.map (Value.int .u8)))[i]? = if i < R.length then (R.map (Value.int .u8))[i]? else Z[i]? := fun i => by
    rw [putAll_at _ _ _ _ (by rw [List.length_map]; omega), List.length_map]
    by_cases h : i < R.length
    · rw [if_pos ⟨by omega, by omega⟩, if_pos h, Nat.sub_zero]
    · rw [if_neg (by omega), if_neg h]
  have hs : (putAll Z 0 (R.map (Value.int .u8))).size = R.length + 2 := by rw [putAll_size, hZ]
  apply Array.ext_getElem?
  intro i
  rw [putAll_at _ _ _ _ (by rw [hs]; simp), h1]
  simp only [List.length_map, List.length_cons, List.length_nil]
  unfold marked
  by_cases h : i < R.length
  · rw [if_neg (by omega), if_pos h]
    simp [List.getElem?_append_left, h]
  · rw [if_neg h]
    by_cases h2 : i < R.length + 2
    · rw [if_pos (by omega)]
      simp only [List.map_append, List.getElem?_toArray]
      rw [List.getElem?_append_right (by simp; omega), List.length_map]
    · rw [if_neg (by omega), Array.getElem?_eq_none (by omega), Array.getElem?_eq_none (by simp; omega)]
theorem make_B (n : Nat) (h : n ≤ 140737488351234) (w : World) : (Instr.makeSlice 22 (.int .i64 0) (.int .i64 n)).run Try.prog w = .ok (.slice (some ⟨w.heap.size, 0, none⟩) 0 n) (w.alloc (.cells (madeCells #[.int .u8 0] n) 5)) := by
  obtain ⟨i, hi, hz, hs, hb⟩ : ∃ i, Try.prog.info? 5 = some i ∧ i.zero = some (.int .u8 0) ∧ i.size = 1 ∧ i.bytes = 1 := by
    refine ⟨(Try.prog.info? 5).get!, by kernel_rfl, by kernel_rfl, by kernel_rfl, by kernel_rfl⟩
  have := run_make (P := Try.prog) w 22 5 i _ Try.underlying22 hi hz .i64 .i64 0 (n : Int) (Int.le_refl _) (by omega) (by rw [hb]; omega) (by omega)
  rw [hs, Nat.mul_one] at this
  exact this
theorem buildS_two (w : World) : (Instr.buildSlice 22 2 #[(0, .int .u8 165), (1, .int .u8 90)]).run Try.prog w = .ok (.slice (some ⟨w.heap.size, 0, none⟩) 2 2) (w.alloc (.cells #[.int .u8 165, .int .u8 90] 5)) := by kernel_rfl
theorem rb_two (w : World) : RB (w.alloc (.cells #[.int .u8 165, .int .u8 90] 5)) (w.heap.size + 1) (some ⟨w.heap.size, 0, none⟩) [165, 90] := fun i x hx => by
  have hB := Blk.new w #[.int .u8 165, .int .u8 90] 5
  refine ⟨_, rfl, Nat.lt_succ_self _, ?_⟩
  rcases i with _ | _ | i
  · cases hx; exact hB.cell (j := 0) rfl
  · cases hx; exact hB.cell (j := 1) rfl
  · cases hx
def Copied (w : World) (R : List Int) (e : Ending) (w' : World) : Prop := ∃ g, e = .returned (.slice (some ⟨g, 0, none⟩) R.length (R.length + 2)) ∧ Blk w' g (marked R) 5 ∧ w.heap.size ≤ g ∧ Below w.heap.size w w'
set_option maxHeartbeats 1000000 in
set_option maxRecDepth 20000 in
theorem copy_any (A : Option Addr) (c : Nat) (R : List Int) (w : World) (hr : RB w w.heap.size A R) (hlen : R.length ≤ 140737488351232) : Calls Try.prog 32 #[.slice A R.length c] w (Copied w R) := by
  have hM : ∀ w, (Instr.makeSlice 22 (.int .i64 0) (.int .i64 ((R.length : Int) + 2))).run Try.prog w = .ok (.slice (some ⟨w.heap.size, 0, none⟩) 0 (R.length + 2)) (w.alloc (.cells (madeCells #[.int .u8 0] (R.length + 2)) 5)) := make_B (R.length + 2) (by omega)
  have hZ : (madeCells #[.int .u8 0] (R.length + 2)).size = R.length + 2 := by simp [madeCells]
  have hb2 := buildS_two
  generalize madeCells #[.int .u8 0] (R.length + 2) = Z at *
  have HP := Lib.hid (marked_put Z R hZ)
  have HZ := Lib.hid hZ
  have hb1 : Below w.heap.size w (w.alloc (.cells Z 5)) := (Below.refl _ _).alloc (Nat.le_refl _) _
  have HR := Lib.hid (hr.below hb1)
  have HB := Lib.hid hb1
  have hX := Lib.hid (Blk.new w Z 5)
  clear hr hZ hb1
  go_enter Try.func32, Try.ntmps32
  go_wp2_with (first
    | (refine appendRoomW rfl (.tmp 6) (.tmp 7) rfl rfl rfl hX.out HR.out (by omega) (by rw [HZ.out]; omega) ?_; intro w1 hg1 hf1; have G1 := Lib.hid hg1; have F1 := Lib.hid hf1; have hsz1 := Lib.hid hf1.size; have hsz2 := Lib.hid ((Blk.lt hg1)); have hX2 := Lib.hid (hg1.alloc (.cells #[.int .u8 165, .int .u8 90] 5)); have hR2 := Lib.hid (rb_two w1); have hq := Lib.hid ((putAll_size (R.map (Value.int .u8)) Z 0).trans HZ.out); clear hg1 hf1)
    | (refine appendRoomW rfl (.tmp 8) (.tmp 9) rfl (g := w.heap.size) (n := R.length) (cap := R.length + 2) (A := some ⟨w1.heap.size, 0, none⟩) (R := [165, 90]) (c := 2) rfl rfl hX2.out hR2.out (by simp only [List.length_cons, List.length_nil]; omega) (by rw [hq.out]; simp only [List.length_cons, List.length_nil]; omega) ?_; intro w3 hg3 hf3; have G3 := Lib.hid hg3; have F3 := Lib.hid hf3; clear hg3 hf3)
    | fail)
  go_ret
  refine ⟨w.heap.size, rfl, by rw [← HP.out]; exact G3.out, Nat.le_refl _, ?_⟩
  have b1 := F1.out.below (B := w.heap.size) (by simp) (fun k hk => by omega)
  have b2 : Below w.heap.size w1 (w1.alloc (.cells #[.int .u8 165, .int .u8 90] 5)) := (Below.refl _ _).alloc (Nat.le_of_lt hsz2.out) _
  have b3 := F3.out.below (B := w.heap.size) (by have := hsz2.out; simp; omega) (fun k hk => by omega)
  exact ((HB.out.trans b1).trans b2).trans b3
theorem marked_at (R : List Int) (i : Nat) : (marked R)[i]? = (R ++ [165, 90])[i]?.map (Value.int .u8) := by
  unfold marked
  rw [List.getElem?_toArray, List.getElem?_map]
theorem marked_rb {w : World} {g : Nat} {R : List Int} (h : Blk w g (marked R) 5) : RB w (g + 1) (some ⟨g, 0, none⟩) R := fun i x hx => by
  refine ⟨_, rfl, Nat.lt_succ_self _, ?_⟩
  have hadd : (⟨g, 0, none⟩ : Addr).add i = ⟨g, i, none⟩ := by unfold Addr.add; split <;> simp_all
  have hi := (List.getElem?_eq_some_iff.1 hx).1
  rw [hadd]
  refine h.cell ?_
  rw [marked_at, List.getElem?_append_left hi, hx]; rfl
set_option maxHeartbeats 1000000 in
set_option maxRecDepth 20000 in
theorem kept_any {w : World} {g S : Nat} (A : Option Addr) (c : Nat) (R : List Int) (hg : Blk w g (marked R) 5) (hr : RB w S A R) (hlen : R.length ≤ 140737488351232) :
    Calls Try.prog 35 #[.slice (some ⟨g, 0, none⟩) R.length (R.length + 2), .slice A R.length c] w fun e w' => e = .returned (.bool true) ∧ w' = w := by
  have c1 := (marked_rb hg).str (R.length + 2)
  have c2 := hr.str c
  have y1 : w.cell? ⟨g, R.length, none⟩ = some (.int .u8 165) := hg.cell (by rw [marked_at, List.getElem?_append_right (Nat.le_refl _), Nat.sub_self]; rfl)
  have y2 : w.cell? ⟨g, R.length + 1, none⟩ = some (.int .u8 90) := hg.cell (by rw [marked_at, List.getElem?_append_right (by omega), show R.length + 1 - R.length = 1 by omega]; rfl)
  clear hg hr
  generalize strOfNums R = Z at *
  go_enter Try.func35, Try.ntmps35
  go_wp2
  go_ret
  exact ⟨rfl, rfl⟩
set_option maxHeartbeats 1000000 in
set_option maxRecDepth 20000 in
theorem over_any {w : World} {g : Nat} (R : List Int) (hg : Blk w g (marked R) 5) (hlen : R.length ≤ 140737488351232) :
    Calls Try.prog 36 #[.slice (some ⟨g, 0, none⟩) R.length (R.length + 2)] w fun e w' => e = .returned (.tuple #[]) ∧ Fr (fun k => k = g) w w' := by
  have H0 := Lib.hid hg
  clear hg
  go_enter Try.func36, Try.ntmps36
  go_wp2
  go_loopw [5] (fun i wr => ∃ k : Nat, k ≤ R.length ∧ i = .int .i64 k ∧ Fr (fun k => k = g) w wr ∧ ∃ cs : Array Value, Blk wr g cs 5 ∧ ∀ j, j < R.length → ∃ x, cs[j]? = some (.int .u8 x)) (fun i _ => (R.length - (Lib.intOf i).toNat))
  case atStart => exact ⟨0, by omega, rfl, Fr.refl _ _, _, H0.out, fun j hj => ⟨R[j], by rw [marked_at, List.getElem?_append_left hj, List.getElem?_eq_getElem hj]; rfl⟩⟩
  case round =>
    obtain ⟨k, hk, rfl, hf, cs, hb, hcs⟩ := hrel
    by_cases hlt : k < R.length
    · obtain ⟨x, hx⟩ := hcs k hlt
      have y1 := hb.cell hx
      have y2 := hb.frozen k
      have k0 : (0 : Int) ≤ (k : Int) := by omega
      have k1 : (k : Int) < (R.length : Int) := by omega
      have HB := Lib.hid hb
      have HF := Lib.hid hf
      have HC := Lib.hid hcs
      clear hb hf hcs hx
      go_wp2
      go_roundw
      case rel =>
        refine ⟨k + 1, by omega, by go_num, HF.out.trans (Fr.cell wr g k _) (fun _ h => .inl h), _, HB.out.set k _, fun j hj => ?_⟩
        obtain ⟨y, hy⟩ := HC.out j hj
        rw [Array.getElem?_setIfInBounds]
        by_cases e : k = j
        · subst e
          rw [if_pos rfl, if_pos (Array.getElem?_eq_some_iff.1 hy).1]
          exact ⟨_, rfl⟩
        · rw [if_neg e]
          exact ⟨y, hy⟩
      case measure => simp [Lib.intOf]; omega
    · have HF := Lib.hid hf
      clear hf hcs hb
      go_wp2
      go_end0
      exact ⟨rfl, HF.out⟩
end Go.Proofs.Ythfhilinajemhaa
