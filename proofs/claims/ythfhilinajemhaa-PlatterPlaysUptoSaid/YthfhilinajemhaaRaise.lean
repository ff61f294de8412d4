/-
  Raise: too low or no such counter; the power gone; raised.
-/
import Derived.Test.YthfhilinajemhaaCount
namespace Go.Proofs.Ythfhilinajemhaa
open Go.RowKit
open Go.Maps (Keyed)
set_option linter.unusedVariables false
theorem Fr.weak {F F' : Nat → Prop} {w w' : World} (h : Fr F w w') (hF : ∀ k, F k → F' k) : Fr F' w w' := ⟨h.os, h.tape, h.output, h.size, fun k hk hn => h.block k hk (fun hf => hn (hF k hf))⟩
theorem Blk.ne {w : World} {B C : Nat} {vs us : Array Value} {t u : TypeId} (h : Blk w B vs t) (k : Blk w C us u) (hne : t ≠ u) : B ≠ C := by
  rintro rfl
  unfold Blk at h k
  rw [h] at k
  injection k with k
  injection k with _ k
  exact hne k
section
variable {w : World} {p : Nat} {ar dn : Bool} {lf st : Int} {sv mv cv : Value}
theorem raise_nil (i nn : Int) (w : World) : Calls Try.prog 13 #[.pointer none, .int .i64 i, .int .i64 nn] w fun e w' => e = .returned (errP 1) ∧ w' = w := by
  go_enter Try.func13, Try.ntmps13
  go_wp2_with (refine (counted_nil i w).mono ?_; rintro e w' ⟨rfl, rfl⟩)
  go_ret
  exact ⟨rfl, rfl⟩
theorem raise_none {A : Option Addr} {n c : Nat} (i nn : Int) (hi : ¬ (0 ≤ i ∧ i < n)) (h : Blk w p (plA ar lf dn sv mv (.slice A n c) st) 90) : Calls Try.prog 13 #[.pointer (some ⟨p, 0, none⟩), .int .i64 i, .int .i64 nn] w fun e w' => e = .returned (errP 1) ∧ w' = w := by
  have C := counted_any i h
  rw [decide_eq_false hi] at C
  clear hi
  go_enter Try.func13, Try.ntmps13
  go_wp2_with (refine C.mono ?_; rintro e w' ⟨rfl, rfl⟩)
  go_ret
  exact ⟨rfl, rfl⟩
theorem raise_low {gc n c i : Nat} {x nn : Int} (hi : i < n) (hl : nn < x) (h : Blk w p (plA ar lf dn sv mv (.slice (some ⟨gc, 0, none⟩) n c) st) 90) (hx : w.cell? ⟨gc, i, none⟩ = some (.int .i64 x)) : Calls Try.prog 13 #[.pointer (some ⟨p, 0, none⟩), .int .i64 i, .int .i64 nn] w fun e w' => e = .returned (errP 1) ∧ w' = w := by
  have C := counted_any i h
  rw [decide_eq_true (show (0 : Int) ≤ i ∧ (i : Int) < n from ⟨by omega, by omega⟩)] at C
  have b5 := pl5 h
  have h1 : (i : Int) < (n : Int) := by omega
  have h2 : (0 : Int) ≤ (i : Int) := by omega
  clear h
  go_enter Try.func13, Try.ntmps13
  go_wp2_with (refine C.mono ?_; rintro e w' ⟨rfl, rfl⟩)
  go_ret
  exact ⟨rfl, rfl⟩
theorem raise_down {gc n c i : Nat} {x nn : Int} (hi : i < n) (hl : x ≤ nn) (h : Blk w p (plA ar lf dn sv mv (.slice (some ⟨gc, 0, none⟩) n c) st) 90) (hx : w.cell? ⟨gc, i, none⟩ = some (.int .i64 x)) (hd : dn = true ∨ (ar = true ∧ lf = 0)) : Calls Try.prog 13 #[.pointer (some ⟨p, 0, none⟩), .int .i64 i, .int .i64 nn] w fun e w' => e = .returned (errP 5) ∧ Blk w' p (plA ar lf true sv mv (.slice (some ⟨gc, 0, none⟩) n c) st) 90 ∧ Fr (fun k => k = p) w w' := by
  have C := Lib.hid (counted_any i h)
  rw [decide_eq_true (show (0 : Int) ≤ i ∧ (i : Int) < n from ⟨by omega, by omega⟩)] at C
  have D := Lib.hid (step_no h hd)
  have b5 := pl5 h
  have h1 : (i : Int) < (n : Int) := by omega
  have h2 : (0 : Int) ≤ (i : Int) := by omega
  have h3 : ¬ nn < x := by omega
  clear h hd
  go_enter Try.func13, Try.ntmps13
  go_wp2_with fail
  refine C.out.mono ?_
  rintro e w' ⟨rfl, rfl⟩
  go_wp2_with fail
  refine D.out.mono ?_
  rintro e w2 ⟨rfl, hb, hf⟩
  unfold errP
  have Hb := Lib.hid hb
  clear hb
  go_wp2
  go_ret
  exact ⟨rfl, Hb.out, hf⟩
theorem raise_yes {gc n c i : Nat} {K : Array Value} {x nn : Int} (hi : i < n) (hl : x ≤ nn) (h : Blk w p (plA ar lf false sv mv (.slice (some ⟨gc, 0, none⟩) n c) st) 90) (hK : Blk w gc K 3) (hx : K[i]? = some (.int .i64 x)) (hd : ¬ (ar = true ∧ lf = 0)) (hs64 : 0 ≤ st ∧ st < 1000000) (hl64 : ok64 (lf - 1)) : Calls Try.prog 13 #[.pointer (some ⟨p, 0, none⟩), .int .i64 i, .int .i64 nn] w fun e w' => e = .returned .nilIface ∧ Blk w' p (plA ar (lf - 1) false sv mv (.slice (some ⟨gc, 0, none⟩) n c) (st + 1)) 90 ∧ Blk w' gc (K.setIfInBounds i (.int .i64 nn)) 3 ∧ Fr (fun k => k = p ∨ k = gc) w w' := by
  have C := Lib.hid (counted_any i h)
  rw [decide_eq_true (show (0 : Int) ≤ i ∧ (i : Int) < n from ⟨by omega, by omega⟩)] at C
  have D := Lib.hid (step_yes h hd hs64 hl64)
  have b5 := pl5 h
  have hne : gc ≠ p := hK.ne h (by decide)
  have x1 := hK.cell hx
  have h1 : (i : Int) < (n : Int) := by omega
  have h2 : (0 : Int) ≤ (i : Int) := by omega
  have h3 : ¬ nn < x := by omega
  have Hx := Lib.hid hx
  clear h hd hx
  go_enter Try.func13, Try.ntmps13
  go_wp2_with fail
  refine C.out.mono ?_
  rintro e w' ⟨rfl, rfl⟩
  go_wp2_with fail
  refine D.out.mono ?_
  rintro e w2 ⟨rfl, hb, hf⟩
  have hK2 := hf.blk hK hne
  have y5 := pl5 hb
  have x2 := hK2.cell Hx.out
  have f2 := hK2.frozen i
  have HS := Lib.hid (hK2.set i (.int .i64 nn))
  have Hb := Lib.hid (hb.other (a := ⟨gc, i, none⟩) hne (.int .i64 nn))
  have HF := Lib.hid ((hf.weak (F' := fun k => k = p ∨ k = gc) (fun _ h => Or.inl h)).trans (Fr.cell w2 gc i (.int .i64 nn)) (fun i hi => Or.inl (Or.inr hi)))
  clear hb hK2 x1 b5 hf
  go_wp2
  go_ret
  exact ⟨rfl, Hb.out, HS.out, HF.out⟩
end
end Go.Proofs.Ythfhilinajemhaa
