/-
  The document's disk: its open sectors.
-/
import Derived.Test.YthfhilinajemhaaRef5
import Derived.Test.YthfhilinajemhaaColl
namespace Go.Proofs.Ythfhilinajemhaa
open Go.RowKit
open Go.Maps (Keyed int_keyed)
set_option linter.unusedVariables false

theorem rappendW_i {ops : Array Oper} {rest : List Oper} {o : Oper} {a : Act} {w : World} {Q : Exit → Act → World → Prop} (hgd : o.guard = none) (s x : Operand) (ho : o.op = .call { callee := .builtin .append, args := #[s, x], argTypes := #[27, 27] })
    (base : Nat) (v : Value) (L : List Int) (hs : a.eval s = v) (hown : Ins w base v L) (g : Nat) (c : Nat) (l : Int) (hx : a.eval x = .slice (some ⟨g, 0, none⟩) 1 c) (hB : Blk w g #[.int .i64 l] 3)
    (h63 : L.length ≤ 3000) (hbase : base ≤ w.heap.size)
    (h : ∀ g cap w', Ins w' base (.slice (some ⟨g, 0, none⟩) (L.length + 1) cap) (L ++ [l]) → w.grownBy w' v.ownBlock → wpList Try.prog ops Q rest (a.put o.dst (.slice (some ⟨g, 0, none⟩) (L.length + 1) cap)) w') :
    wpList Try.prog ops Q (o :: rest) a w := by
  refine wpList_plain hgd fun K hK => ?_
  obtain ⟨i0, hi0, hz0, hz1, hz2⟩ := info_parts (show (Try.prog.info? 3).map (fun i => (i.zero, i.size, i.bytes)) = some (some (.int .i64 0), 1, 8) by kernel_rfl)
  obtain ⟨g', cap, w', hr, h2, h3, h4, h5⟩ := run_append_lies (P := Try.prog) w 27 o.type base 3 i0 _ 1 8 Try.underlying27 hi0 hz0 hz1 hz2 rfl (by omega) v L.length (L.map (Value.int .i64)) hown ⟨g, 0, none⟩ 1 c [.int .i64 l] rfl (fun j v hj => by
    rcases j with _ | j
    · simp at hj; subst hj; exact hB.cell (j := 0) rfl
    · simp at hj) (by simp [Value.oneCell']) (by omega) (by simp only [maxLen]; omega) (by omega) hbase _ rfl
  unfold Oper.wp
  simp only [execOp, ho, resolve, invoke, builtin, Sem.run_bind, Sem.run_pure, Result.andThen_ok, List.map_toArray, List.map_cons, List.map_nil, hs, hx, hr]
  refine hK _ _ (h g' cap w' ?_ h3)
  unfold Ins
  rw [List.length_append, List.map_append]
  exact h2
/-- the open ones among the first k sectors -/
def keysK (d : Dk) (k : Nat) : List Int := ((List.range k).filter (fun (i : Nat) => (d.op (i : Int)).isSome)).map (fun (i : Nat) => (i : Int))
theorem keysK_all (d : Dk) : keysK d d.n = keysL d := rfl
theorem keysK_zero (d : Dk) : keysK d 0 = [] := rfl
theorem keysK_len (d : Dk) (k : Nat) : (keysK d k).length ≤ k := by
  unfold keysK
  rw [List.length_map]
  exact Nat.le_trans (List.length_filter_le _ _) (by rw [List.length_range]; exact Nat.le_refl _)
theorem keysK_yes {d : Dk} {k : Nat} (h : (d.op (k : Int)).isSome = true) : keysK d (k + 1) = keysK d k ++ [(k : Int)] := by
  unfold keysK
  rw [List.range_succ, List.filter_append, List.map_append]
  simp [h]
theorem keysK_no {d : Dk} {k : Nat} (h : (d.op (k : Int)).isSome = false) : keysK d (k + 1) = keysK d k := by
  unfold keysK
  rw [List.range_succ, List.filter_append, List.map_append]
  simp [h]
section
variable {w w' : World} {r gs gn gk B : Nat} {v : Nat → Value} {d : Dk} {sn : Nat → List (Array Value)} {lf : Int}
def Sofar (w : World) (d : Dk) (k : Nat) (o : Value) (wr : World) : Prop := ∃ A c, o = .slice A (keysK d k).length c ∧ Ins wr w.heap.size (.slice A (keysK d k).length c) (keysK d k) ∧ Below w.heap.size w wr
set_option maxHeartbeats 2000000 in
theorem ropen (h : RSt w r gs gn gk B v d sn lf) : Calls Try.prog 40 #[.pointer (some ⟨r, 0, none⟩)] w (OpenOut w (keysL d)) := by
  have H := Lib.hid h
  have hn2 := h.ok.1
  have S0 : Hid (Sofar w d 0 (.slice none 0 0) w) := ⟨none, 0, rfl, World.ownsRow_nil _ _ _ _, Below.refl _ _⟩
  clear h
  go_enter Try.func40, Try.ntmps40
  go_wp2
  go_loopw [3, 4] (fun o i wr => ∃ k : Nat, k ≤ d.n ∧ i = .int .i64 k ∧ Sofar w d k o wr) (fun _ i _ => (d.n - (Lib.intOf i).toNat))
  case atStart => exact ⟨0, by omega, rfl, S0.out⟩
  case round =>
    obtain ⟨k, hk, rfl, A, c, rfl, hI, hb⟩ := hrel
    have h1 := H.out.below hb
    have y1 := rf1 h1.hr
    by_cases hlt : k < d.n
    · have i1 : (k : Int) < (d.n : Int) := by omega
      have i2 : (0 : Int) ≤ (k : Int) := by omega
      obtain ⟨A2, c2, hv, _⟩ := scs_form (h1.own k)
      have y3 : wr.cell? ⟨gn, k, none⟩ = some (.slice A2 (sn k).length c2) := by rw [← hv]; exact h1.hn.cell (row_at v d.n k hlt)
      have hl := h1.last k
      have HI := Lib.hid hI
      have HB := Lib.hid hb
      clear h1 hv hI hb
      by_cases hs : (sn k) = []
      · rw [hs] at hl y3
        have hno := Lib.hid (keysK_no (d := d) (k := k) (by rw [hl]; rfl))
        clear hl
        go_wp2
        go_roundw
        case rel => exact ⟨k + 1, by omega, by go_num, by rw [Sofar, hno.out]; exact ⟨A, c, rfl, HI.out, HB.out⟩⟩
        case measure => simp [Lib.intOf]; omega
      · have hpos : 0 < (sn k).length := List.length_pos_iff.2 hs
        have hyes := Lib.hid (keysK_yes (d := d) (k := k) (by rw [hl, List.getLast?_eq_some_getLast hs]; rfl))
        clear hl hs
        generalize (sn k).length = q at *
        have hq1 : (0 : Int) < (q : Int) := by omega
        have hbs := buildS_one (k : Int)
        have hb7 : Below wr.heap.size wr (wr.alloc (.cells #[.int .i64 k] 3)) := (Below.refl _ _).alloc (Nat.le_refl _) _
        have I7 := Lib.hid (ins_below HI.out hb7)
        have B7 := Lib.hid (Blk.new wr #[.int .i64 k] 3)
        have hS7 : w.heap.size ≤ (wr.alloc (.cells #[.int .i64 k] 3)).heap.size := by have := HB.out.size; simp; omega
        have hl7 : (keysK d k).length ≤ 3000 := by have := keysK_len d k; omega
        have H7 := Lib.hid (HB.out.trans (hb7.mono HB.out.size))
        clear hb7
        go_wp2_with (first
          | (refine rappendW_i rfl (.tmp 23) (.tmp 25) rfl w.heap.size _ (keysK d k) rfl I7.out wr.heap.size 1 (k : Int) rfl B7.out hl7 hS7 ?_; intro g8 cap8 w8 hl8 hgr8; have HL8 := Lib.hid hl8; have HG8 := Lib.hid hgr8; clear hl8 hgr8)
          | fail)
        have f8 : Fr (fun j => w.heap.size ≤ j) (wr.alloc (.cells #[.int .i64 k] 3)) w8 := Fr.of_grown HG8.out (fun j hj => (ins_lt I7.out j hj).1)
        go_roundw
        case rel => exact ⟨k + 1, by omega, by go_num, by rw [Sofar, hyes.out]; exact ⟨_, _, by rw [List.length_append]; rfl, by rw [List.length_append]; exact HL8.out, H7.out.trans (f8.below hS7 (fun _ h => h))⟩⟩
        case measure => simp [Lib.intOf]; omega
    · obtain rfl : k = d.n := by omega
      have HI := Lib.hid hI
      have HB := Lib.hid hb
      clear h1 hI hb
      go_wp2
      go_ret
      exact ⟨A, c, rfl, HI.out, HB.out⟩
end
end Go.Proofs.Ythfhilinajemhaa
