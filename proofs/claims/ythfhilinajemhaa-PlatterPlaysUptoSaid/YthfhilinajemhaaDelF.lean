/-
  maps.DeleteFunc over the open sectors, with settle's closure.
-/
import Derived.Test.YthfhilinajemhaaSettle1
import Derived.Deep.LoopGhost
namespace Go.Proofs.Ythfhilinajemhaa
open Go.RowKit
open Go.Maps (Keyed int_keyed)
set_option linter.unusedVariables false

theorem ite_iff {α : Type} {p q : Prop} {_ : Decidable p} {_ : Decidable q} {x y : α} (h : p ↔ q) : (if p then x else y) = if q then x else y := by
  by_cases hp : p
  · rw [if_pos hp, if_pos (h.1 hp)]
  · rw [if_neg hp, if_neg (fun hq => hp (h.2 hq))]
open Classical in
/-- What is open while 'left' is still to come. -/
noncomputable def opL (d : Dk) (pd : Int → Bool) (left : Value → Prop) (i : Int) : Option (Array Value) := if pd i = true ∧ ¬ left (.int .i64 i) then none else d.op i
open Classical in
noncomputable def sL (d : Dk) (pd : Int → Bool) (left : Value → Prop) (i : Nat) : Array Value := if pd i = true ∧ ¬ left (.int .i64 i) then (d.op i).getD (d.s i) else d.s i
def setOp (d : Dk) (pd : Int → Bool) (i : Int) : Option (Array Value) := if pd i = true then none else d.op i
def setS (d : Dk) (pd : Int → Bool) (i : Nat) : Array Value := if pd i = true then (d.op i).getD (d.s i) else d.s i
theorem opn_int {op : Int → Option (Array Value)} {x v : Value} (h : opn op x = some v) : ∃ i c, x = .int .i64 i ∧ v = .agg c ∧ op i = some c := by
  unfold opn at h
  split at h
  · rename_i i
    obtain ⟨c, hc, rfl⟩ := Option.map_eq_some_iff.1 h
    exact ⟨i, c, rfl, rfl, hc⟩
  · cases h
theorem opn_congr {op op' : Int → Option (Array Value)} (h : ∀ i, op i = op' i) : ∀ x, opn op x = opn op' x := fun x => by rw [show op = op' from funext h]
theorem opL_left {d : Dk} {pd : Int → Bool} {left : Value → Prop} {i : Int} {c : Array Value} (h : opL d pd left i = some c) : d.op i = some c := by
  unfold opL at h
  split at h
  · cases h
  · exact h
theorem opL_start (d : Dk) (pd : Int → Bool) (i : Int) : opL d pd (fun x => (opn d.op x).isSome = true) i = d.op i := by
  unfold opL
  split
  · rename_i h
    have h2 := h.2
    simp only [opn, Option.isSome_map] at h2
    cases hd : d.op i with
    | none => rfl
    | some c => rw [hd] at h2; simp at h2
  · rfl
theorem sL_start (d : Dk) (pd : Int → Bool) (i : Nat) : sL d pd (fun x => (opn d.op x).isSome = true) i = d.s i := by
  unfold sL
  split
  · rename_i h
    have h2 := h.2
    simp only [opn, Option.isSome_map] at h2
    cases hd : d.op i with
    | none => rfl
    | some c => rw [hd] at h2; simp at h2
  · rfl
theorem opL_end {d : Dk} {pd : Int → Bool} {left : Value → Prop} (h : ∀ x, ¬ left x) (i : Int) : setOp d pd i = opL d pd left i := by
  unfold setOp opL
  simp [h]
theorem sL_end {d : Dk} {pd : Int → Bool} {left : Value → Prop} (h : ∀ x, ¬ left x) (i : Nat) : sL d pd left i = setS d pd i := by
  unfold setS sL
  simp [h]
theorem opL_stay {d : Dk} {pd : Int → Bool} {left : Value → Prop} {j : Int} (hj : pd j = false) (i : Int) : opL d pd (fun y => left y ∧ y ≠ .int .i64 j) i = opL d pd left i := by
  unfold opL
  by_cases h : i = j
  · subst h; simp [hj]
  · have : (Value.int .i64 i ≠ .int .i64 j) := by intro e; injection e; contradiction
    exact ite_iff ⟨fun e => ⟨e.1, fun hl => e.2 ⟨hl, this⟩⟩, fun e => ⟨e.1, fun hl => e.2 hl.1⟩⟩
theorem sL_stay {d : Dk} {pd : Int → Bool} {left : Value → Prop} {j : Int} (hj : pd j = false) (i : Nat) : sL d pd (fun y => left y ∧ y ≠ .int .i64 j) i = sL d pd left i := by
  unfold sL
  by_cases h : (i : Int) = j
  · subst h; simp [hj]
  · have : (Value.int .i64 (i : Int) ≠ .int .i64 j) := by intro e; injection e; contradiction
    exact ite_iff ⟨fun e => ⟨e.1, fun hl => e.2 ⟨hl, this⟩⟩, fun e => ⟨e.1, fun hl => e.2 hl.1⟩⟩
theorem opL_go {d : Dk} {pd : Int → Bool} {left : Value → Prop} {j : Int} (hj : pd j = true) : opL d pd (fun y => left y ∧ y ≠ .int .i64 j) j = none := by
  unfold opL; simp [hj]
theorem opL_other {d : Dk} {pd : Int → Bool} {left : Value → Prop} {j i : Int} (h : i ≠ j) : opL d pd (fun y => left y ∧ y ≠ .int .i64 j) i = opL d pd left i := by
  unfold opL
  have : (Value.int .i64 i ≠ .int .i64 j) := by intro e; injection e; contradiction
  exact ite_iff ⟨fun e => ⟨e.1, fun hl => e.2 ⟨hl, this⟩⟩, fun e => ⟨e.1, fun hl => e.2 hl.1⟩⟩
theorem sL_go {d : Dk} {pd : Int → Bool} {left : Value → Prop} {j : Nat} {c : Array Value} (hj : pd j = true) (hc : d.op j = some c) (i : Nat) : updS (sL d pd left) j c i = sL d pd (fun y => left y ∧ y ≠ .int .i64 j) i := by
  unfold updS sL
  by_cases h : i = j
  · subst h; simp [hj, hc]
  · have : (Value.int .i64 (i : Int) ≠ .int .i64 (j : Int)) := by intro e; injection e; omega
    rw [if_neg h]
    exact ite_iff ⟨fun e => ⟨e.1, fun hl => e.2 hl.1⟩, fun e => ⟨e.1, fun hl => e.2 ⟨hl, this⟩⟩⟩
/-- What the loop keeps. -/
def DelR (w : World) (m g r : Nat) (d : Dk) (pd : Int → Bool) (wr : World) : Prop :=
  ∃ left : Value → Prop, RngF Try.prog 3 wr m r (opn (opL d pd left)) left ∧ Blk wr g (flat d.n (sL d pd left)) 45 ∧ Fr (fun k => k = m ∨ k = g) w wr
def DelOut (w : World) (m g : Nat) (d : Dk) (pd : Int → Bool) (e : Ending) (w' : World) : Prop :=
  e = .returned (.tuple #[]) ∧ MapF Try.prog 3 w' m (opn (setOp d pd)) ∧ Blk w' g (flat d.n (setS d pd)) 45 ∧ Fr (fun k => k = m ∨ k = g) w w'
set_option maxHeartbeats 1000000 in
set_option maxRecDepth 20000 in
theorem delf_any {w : World} {p m g gc gw bw bp : Nat} {d : Dk} {cb : Array Value} (eg : ∀ args w, (callFunc gw args).run Try.prog w = .ok (.enter gw args) w) (pd : Int → Bool) (hd : Disk w p m g gc d)
    (hw : Blk w bw #[.func (.func gw) #[] cb] 91) (hp : Blk w bp #[.pointer (some ⟨p, 0, none⟩)] 29) (ht : ∀ i : Int, 0 ≤ i → i < d.n → Tells (fun k => k = m ∨ k = g) w gw cb i (pd i)) :
    Calls Try.prog 55 #[.map (some m), .func (.func 56) #[] #[.pointer (some ⟨bw, 0, none⟩), .pointer (some ⟨bp, 0, none⟩)]] w (DelOut w m g d pd) := by
  have hz := zc_zero
  have hs := zc_size
  have HT := Lib.hid ht
  have HD := Lib.hid hd
  have HW := Lib.hid hw
  have HP := Lib.hid hp
  have hm := Lib.hid hd.m
  clear ht hd hw hp
  go_enter Try.func55, Try.ntmps55
  go_wp2_with (first
    | (refine rangeW rfl _ 86 rfl 3 45 Try.underlying86 m _ rfl hm.out ?_; intro w1 hrg0 hb0 hs0)
    | fail)
  have H0 : Hid (DelR w m g w.heap.size d pd w1) := Lib.hid ⟨_, hrg0.congr (opn_congr (opL_start d pd)) (fun _ => Iff.rfl), by
    rw [flat_congr (fun i _ => sL_start d pd i)]; exact HD.out.g.below hb0 HD.out.g.lt, Fr.of_below hb0⟩
  clear hrg0 hb0 hs0
  go_frame
  go_loopw [8] (fun _ wr => DelR w m g w.heap.size d pd wr) (fun _ wr => wr.rangeLeft m w.heap.size)
  case atStart => exact H0.out
  case round =>
    obtain ⟨left, hrg, hg, hfr⟩ := hrel
    have HG := Lib.hid hg
    have HFR := Lib.hid hfr
    have HRG := Lib.hid hrg
    clear hg hfr hrg H0
    go_wp2_with (first | (refine nextW rfl _ rfl 3 m w.heap.size _ left rfl HRG.out ?_ ?_) | fail)
    · intro hl
      have HL := Lib.hid hl
      clear hl
      go_wp2
      go_end0
      refine ⟨rfl, map_fun HRG.out.map (opn_congr (opL_end HL.out)), ?_, HFR.out⟩
      rw [← flat_congr (fun i _ => sL_end (pd := pd) HL.out i)]; exact HG.out
    · intro x v w1 hl hv hrg1 hlt hfr1 hs1 hen
      obtain ⟨i, c, rfl, rfl, hc⟩ := opn_int hv
      obtain ⟨h0, h1, hcel⟩ := HD.out.ok.2.2 i c (opL_left hc)
      obtain ⟨j, rfl⟩ : ∃ j : Nat, i = j := ⟨i.toNat, by omega⟩
      have HO := Lib.hid (opL_left hc)
      have hcs := hcel.size
      have hca := hcel.all
      have hB := Blk.new w1 zc 45
      have hL := hB.setRow c
      have hbz : Below w1.heap.size w1 ((w1.alloc (.cells zc 45)).setRow w1.heap.size c) := below_setRow ((Below.refl _ _).alloc (Nat.le_refl _) _) (Nat.le_refl _) _
      have hrw := HRG.out.lt
      have f01 : Fr (fun k => k = m ∨ k = g) w w1 := HFR.out.trans hfr1 (fun k (h : k = w.heap.size) => .inr (by omega))
      have f03 := f01.trans (Fr.of_below hbz : Fr (fun _ => False) w1 _) (fun _ h => h.elim)
      have n1 : ¬ (bw = m ∨ bw = g) := by
        rintro (h | h)
        · exact HW.out.ne_map HD.out.m h
        · exact HD.out.g.ne HW.out (by decide) h.symm
      have n2 : ¬ (bp = m ∨ bp = g) := by
        rintro (h | h)
        · exact HP.out.ne_map HD.out.m h
        · exact HD.out.g.ne HP.out (by decide) h.symm
      have n3 : ¬ (p = m ∨ p = g) := by
        rintro (h | h)
        · exact HD.out.pm h
        · exact HD.out.pg h.symm
      have k1 := Lib.hid (f03.blk HW.out n1)
      have k2 := Lib.hid (f03.blk HP.out n2)
      have k3 := Lib.hid (f03.blk HD.out.p n3)
      have hgr : g ≠ w.heap.size := by have := HD.out.g.lt; omega
      have hgw1 := hfr1.blk HG.out hgr
      have k4 := Lib.hid (hgw1.below hbz hgw1.lt)
      have hgl := hgw1.lt
      have hml := hrg1.map.lt
      have hrl := hrg1.lt
      have hrm := hrg1.ne
      have hrg3 := Lib.hid (hrg1.fr (F := fun k => w1.heap.size ≤ k) (Fr.of_below hbz) (by omega) (by omega))
      have e3 := Lib.hid (rangeLeft_same (w := w1) (w1 := (w1.alloc (.cells zc 45)).setRow w1.heap.size c) (hbz.block m hml) (hbz.block w.heap.size hrl))
      have HF3 := Lib.hid f03
      have HT3 := Lib.hid (HT.out (j : Int) h0 h1)
      have HC := Lib.hid hcel
      have HLT := Lib.hid hlt
      have hgm := Lib.hid HD.out.gm
      have hj : j < d.n := by omega
      have hn := HD.out.ok.1.2
      have hlw : m < w.heap.size := HD.out.m.lt
      clear hc hv hl f01 f03 hfr1 hrg1 hgw1 hlt hs1 n1 n2 n3 hcel
      cases hpd : pd j
      · rw [hpd] at HT3
        go_wp2_with (first
          | (refine store_cW rfl _ _ rfl w1.heap.size c rfl rfl zc hB zc_size hcs hca ?_)
          | (refine load_cW rfl _ rfl w1.heap.size rfl c hcs hL ?_)
          | (go_at_call 56; refine (settle1_no eg _ c hcs HT3.out HF3.out k1.out).mono ?_; rintro e w4 ⟨rfl, hb4⟩)
          | fail)
        have hrg4 := hrg3.out.fr (F := fun k => w1.heap.size ≤ k) (Fr.of_below (hb4.mono (by simp))) (by omega) (by omega)
        have hg4 := k4.out.below hb4 k4.out.lt
        have hf4 := HF3.out.trans (Fr.of_below hb4 : Fr (fun _ => False) _ w4) (fun _ h => h.elim)
        have e4 := rangeLeft_same (w := (w1.alloc (.cells zc 45)).setRow w1.heap.size c) (w1 := w4) (hb4.block m (by simp; omega)) (hb4.block w.heap.size (by simp; omega))
        go_roundw
        case rel => exact ⟨_, hrg4.congr (opn_congr (opL_stay hpd)) (fun _ => Iff.rfl), by rw [flat_congr (fun i _ => sL_stay hpd i)]; exact hg4, hf4⟩
        case measure => rw [e4, e3.out]; exact HLT.out
      · rw [hpd] at HT3
        have hgo : ∀ y, y ≠ Value.int .i64 (j : Int) → opn (opL d pd (fun y => left y ∧ y ≠ .int .i64 (j : Int))) y = opn (opL d pd left) y := by
          intro y hy
          unfold opn
          split
          · rename_i i
            rw [opL_other (fun h => hy (by rw [h]))]
          · rfl
        have hgx : opn (opL d pd (fun y => left y ∧ y ≠ .int .i64 (j : Int))) (.int .i64 (j : Int)) = none := by
          show (opL d pd _ (j : Int)).map Value.agg = none
          rw [opL_go hpd]; rfl
        have HGO := Lib.hid hgo
        have HGX := Lib.hid hgx
        have hkey := Lib.hid (key_int (j : Int) ⟨by omega, by omega⟩)
        have hmg : ¬ m = g := fun h => hgm.out h.symm
        have hrg' : ¬ w.heap.size = g := fun h => hgr h.symm
        clear hgo hgx
        go_wp2_with (first
          | (refine store_cW rfl _ _ rfl w1.heap.size c rfl rfl zc hB zc_size hcs hca ?_)
          | (refine load_cW rfl _ rfl w1.heap.size rfl c hcs hL ?_)
          | (go_at_call 56; refine (settle1_yes eg j hj hn c HC.out HT3.out HF3.out (.inr rfl) k1.out k2.out k3.out k4.out).mono ?_; rintro e w4 ⟨rfl, hg4, hf4⟩; have HG4 := Lib.hid hg4; have HF := Lib.hid hf4; have hrg4 := Lib.hid (hrg3.out.fr hf4 hmg hrg'); clear hg4 hf4)
          | (refine deleteW rfl _ _ 86 3 rfl 45 keyed3 Try.underlying86 m w.heap.size _ _ _ rfl hrg4.out _ rfl hkey.out HGX.out HGO.out ?_; intro w5 hrg5 hle5 hf5 hs5; go_frame)
          | fail)
        have hf4 := HF.out
        have e4 := Lib.hid (rangeLeft_same (w := (w1.alloc (.cells zc 45)).setRow w1.heap.size c) (w1 := w4) (hf4.block m (by simp; omega) hmg) (hf4.block w.heap.size (by simp; omega) hrg'))
        have HF4 := HF3.out.trans hf4 (fun _ (h : _ = g) => .inl (.inr h))
        have hg5 := hf5.blk HG4.out hgm.out
        have hf05 := HF4.trans hf5 (fun _ (h : _ = m) => .inl (.inl h))
        go_roundw
        case rel => exact ⟨_, hrg5.congr (fun _ => rfl) (fun x => ⟨fun h => ⟨h, h.2⟩, fun h => h.1⟩), by rw [← flat_congr (fun i _ => sL_go hpd HO.out i)]; exact hg5, hf05⟩
        case measure => have := HLT.out; have e3' := e3.out; have e4' := e4.out; omega
end Go.Proofs.Ythfhilinajemhaa
