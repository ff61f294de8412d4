/-
  settle; Flush's and Crash's closures; slices.Contains.
-/
import Derived.Test.YthfhilinajemhaaDelF
import Derived.Lib.Walk
namespace Go.Proofs.Ythfhilinajemhaa
open Go.RowKit
open Go.Maps (Keyed int_keyed)
set_option linter.unusedVariables false

theorem Tells.of_fr {F : Nat → Prop} {w0 w : World} {gw : Nat} {cb : Array Value} {i : Int} {b : Bool} (h : Tells F w0 gw cb i b) (hf : Fr F w0 w) : Tells F w gw cb i b := fun W hW => h W (hf.trans hW (fun _ h => .inl h))
def Dk.settled (d : Dk) (pd : Int → Bool) : Dk := { d with op := setOp d pd, s := setS d pd }
theorem Dk.settled_ok {d : Dk} (h : d.ok) (pd : Int → Bool) : (d.settled pd).ok := by
  refine ⟨h.1, fun i => ?_, fun i c hc => ?_⟩
  · show Cel (setS d pd i)
    unfold setS
    split
    · cases ho : d.op i with
      | none => exact h.2.1 i
      | some c => exact (h.2.2 i c ho).2.2
    · exact h.2.1 i
  · have : setOp d pd i = some c := hc
    unfold setOp at this
    split at this
    · cases this
    · exact h.2.2 i c this
theorem Disk.settled {w w' : World} {p m g gc : Nat} {d : Dk} {pd : Int → Bool} (h : Disk w p m g gc d) (hm : MapF Try.prog 3 w' m (opn (setOp d pd))) (hg : Blk w' g (flat d.n (setS d pd)) 45) (hf : Fr (fun k => k = m ∨ k = g) w w') : Disk w' p m g gc (d.settled pd) :=
  ⟨hf.blk h.p (fun e => e.elim h.pm (fun e => h.pg e.symm)), hg, hm, hf.blk h.c (fun e => e.elim h.cm h.gc_), Dk.settled_ok h.ok pd⟩
def SetOut (w : World) (p m g gc : Nat) (d : Dk) (pd : Int → Bool) (e : Ending) (w' : World) : Prop :=
  e = .returned (.tuple #[]) ∧ Disk w' p m g gc (d.settled pd) ∧ Fr (fun k => k = m ∨ k = g) w w'
set_option maxHeartbeats 1000000 in
theorem settle_any {w : World} {p m g gc gw : Nat} {d : Dk} {cb : Array Value} (eg : ∀ args w, (callFunc gw args).run Try.prog w = .ok (.enter gw args) w) (pd : Int → Bool) (hd : Disk w p m g gc d)
    (ht : ∀ i : Int, 0 ≤ i → i < d.n → Tells (fun k => k = m ∨ k = g) w gw cb i (pd i)) :
    Calls Try.prog 46 #[.pointer (some ⟨p, 0, none⟩), .func (.func gw) #[] cb] w (SetOut w p m g gc d pd) := by
  have hmf : ∀ (fn : Fn) (first cap : Array Value) (w : World), (Instr.makeFunc fn first cap).run Try.prog w = .ok (.func fn first cap) w := fun _ _ _ _ => rfl
  obtain ⟨W, hW⟩ : ∃ W, W = (w.alloc (.cells #[.pointer (some ⟨p, 0, none⟩)] 29)).alloc (.cells #[.func (.func gw) #[] cb] 91) := ⟨_, rfl⟩
  have hb : Below w.heap.size w W := by rw [hW]; exact ((Below.refl _ _).alloc (Nat.le_refl _) _).alloc (by simp) _
  have k1 : Blk W w.heap.size #[.pointer (some ⟨p, 0, none⟩)] 29 := by rw [hW]; exact (Blk.new _ _ _).alloc _
  have k2 : Blk W (w.heap.size + 1) #[.func (.func gw) #[] cb] 91 := by rw [hW]; exact blk_new' (by simp)
  have hdW := hd.below hb
  have C := Lib.hid (delf_any eg pd hdW k2 k1 (fun i h0 h1 => (ht i h0 h1).of_fr (Fr.of_below hb)))
  have x1 := k1.cell (j := 0) (v := .pointer (some ⟨p, 0, none⟩)) rfl
  have x4 := pl4 hdW.p
  have HD := Lib.hid hdW
  have HB := Lib.hid hb
  clear ht hd hdW hb k1 k2 x1
  subst hW
  go_enter Try.func46, Try.ntmps46
  go_wp2_with (first | (go_at_call 55; refine C.out.mono ?_; rintro e w' ⟨rfl, hm', hg', hf'⟩) | fail)
  have hf0 : Fr (fun k => k = m ∨ k = g) w w' := (Fr.of_below HB.out : Fr (fun k => k = m ∨ k = g) w _).trans hf' (fun _ h => .inl h)
  go_end0
  exact ⟨rfl, HD.out.settled hm' hg' hf', hf0⟩
theorem addr_add_block (a : Addr) (i : Nat) : (a.add i).block = a.block := by unfold Addr.add; split <;> rfl
/-- a slice of ints that can be read, below block S -/
def RI (w : World) (S : Nat) (A : Option Addr) (R : List Int) : Prop := ∀ i x, R[i]? = some x → ∃ ad, A = some ad ∧ ad.block < S ∧ w.cell? (ad.add i) = some (.int .i64 x)
theorem RI.below {w w' : World} {S : Nat} {A : Option Addr} {R : List Int} (h : RI w S A R) (hb : Below S w w') : RI w' S A R := fun i x hx => by
  obtain ⟨ad, h1, h2, h3⟩ := h i x hx
  refine ⟨ad, h1, h2, ?_⟩
  rw [hb.cell (p := ad.add i) (by rw [addr_add_block]; exact h2)]
  exact h3
theorem cell_same {w w' : World} {a : Addr} (h : w'.heap[a.block]? = w.heap[a.block]?) : w'.cell? a = w.cell? a := by
  unfold World.cell?
  rw [h]
theorem RI.fr {w w' : World} {S : Nat} {A : Option Addr} {R : List Int} {F : Nat → Prop} (h : RI w S A R) (hf : Fr F w w') (hS : S ≤ w.heap.size) (hF : ∀ k, F k → S ≤ k) : RI w' S A R :=
  h.below (hf.below hS hF)
theorem RI.fr' {w w' : World} {S : Nat} {A : Option Addr} {R : List Int} {F : Nat → Prop} (h : RI w S A R) (hS : S ≤ w.heap.size) (hf : Fr F w w') (hF : ∀ ad, A = some ad → ad.block < S → ¬ F ad.block) : RI w' S A R := fun i x hx => by
  obtain ⟨ad, h1, h2, h3⟩ := h i x hx
  refine ⟨ad, h1, h2, ?_⟩
  have hb := addr_add_block ad i
  have e : w'.heap[(ad.add i).block]? = w.heap[(ad.add i).block]? := by rw [hb]; exact hf.block _ (by omega) (hF ad h1 h2)
  rw [cell_same e]
  exact h3
def IdxOut (L : List Int) (x : Int) (w : World) (e : Ending) (w' : World) : Prop := ∃ k : Int, e = .returned (.int .i64 k) ∧ decide (k ≥ 0) = decide (x ∈ L) ∧ w = w'
set_option maxHeartbeats 400000 in
theorem index_any (A : Option Addr) (c : Nat) (L : List Int) (x : Int) (w : World) (S : Nat) (hL : L.length ≤ maxLen) (h : RI w S A L) : Calls Try.prog 57 #[.slice A L.length c, .int .i64 x] w (IdxOut L x w) := by
  unfold maxLen at hL
  have HR := Lib.hid h
  clear h
  go_enter Try.func57, Try.ntmps57
  go_wp2
  go_loop [5, 8] (fun _ i => ∃ k : Nat, k ≤ L.length ∧ i = .int .i64 k ∧ Hid (∀ j, j < k → L[j]? ≠ some x)) (fun _ i => L.length - (Lib.intOf i).toNat)
  case atStart => exact ⟨0, Nat.zero_le _, rfl, Lib.hid (fun j hj => absurd hj (Nat.not_lt_zero _))⟩
  case round =>
    obtain ⟨k, hk, rfl, hne⟩ := hrel
    by_cases hlt : k < L.length
    · obtain ⟨ad, hA, hS, hcell⟩ := HR.out k L[k] (List.getElem?_eq_getElem hlt)
      subst hA
      by_cases he : x = L[k]
      · have ht : (x == L[k]) = true := beq_iff_eq.2 he
        have HE := Lib.hid he
        clear he
        go_wp2
        go_ret
        refine ⟨k, rfl, ?_, rfl⟩
        have h1 : x ∈ L := by rw [HE.out]; exact List.getElem_mem hlt
        simp [h1]
      · have ht : (x == L[k]) = false := beq_eq_false_iff_ne.2 he
        have HE := Lib.hid he
        clear he
        go_wp2
        go_round
        case rel => exact ⟨k + 1, by omega, by go_num, Lib.hid (fun j hj => by
          by_cases hjk : j = k
          · subst hjk; rw [List.getElem?_eq_getElem hlt]; intro e; exact HE.out (Option.some.inj e).symm
          · exact hne.out j (by omega))⟩
        case measure => simp [Lib.intOf]; omega
    · go_wp2
      go_ret
      refine ⟨-1, rfl, ?_, rfl⟩
      have h1 : ¬ x ∈ L := by
        intro hm
        obtain ⟨j, hj⟩ := List.mem_iff_getElem?.1 hm
        have := (List.getElem?_eq_some_iff.1 hj).1
        exact hne.out j (by omega) hj
      simp [h1]
theorem contains_any (A : Option Addr) (c : Nat) (L : List Int) (x : Int) (w : World) (S : Nat) (hL : L.length ≤ maxLen) (h : RI w S A L) : Calls Try.prog 48 #[.slice A L.length c, .int .i64 x] w fun e w' => e = .returned (.bool (decide (x ∈ L))) ∧ w' = w := by
  have C := index_any A c L x w S hL h
  clear h
  go_enter Try.func48, Try.ntmps48
  go_wp2_with (first | (go_at_call 57; refine C.mono ?_; rintro e w' ⟨k, rfl, hk, rfl⟩; have HK := Lib.hid hk; clear hk) | fail)
  go_ret
  exact ⟨ret_bool HK.out, rfl⟩
theorem crash1_tells {F : Nat → Prop} {w : World} {bk S c : Nat} {A : Option Addr} {L : List Int} (hL : L.length ≤ maxLen) (hb : Blk w bk #[.slice A L.length c] 27) (hFb : ¬ F bk) (hR : RI w S A L) (hS : S ≤ w.heap.size) (hFA : ∀ ad, A = some ad → ad.block < S → ¬ F ad.block) (i : Int) :
    Tells F w 47 #[.pointer (some ⟨bk, 0, none⟩)] i (decide (i ∈ L)) := by
  intro W hf
  have k1 := (hf.blk hb hFb).cell (j := 0) rfl
  have C := contains_any A c L i W S hL (hR.fr' hS hf hFA)
  clear hf hb hR
  go_enter Try.func47, Try.ntmps47
  go_wp2_with (first | (go_at_call 48; refine C.mono ?_; rintro e w' ⟨rfl, rfl⟩) | fail)
  go_ret
  exact ⟨rfl, rfl⟩
def inR (a n i : Int) : Bool := decide (a ≤ i ∧ i < a + n)
theorem flush1_tells {F : Nat → Prop} {w : World} {b1 b2 : Nat} {a n : Int} (h1 : Blk w b1 #[.int .i64 a] 3) (h2 : Blk w b2 #[.int .i64 n] 3) (hF1 : ¬ F b1) (hF2 : ¬ F b2) (ha : 0 ≤ a ∧ a ≤ 3000) (hn : 0 ≤ n ∧ n ≤ 3000) (i : Int) :
    Tells F w 50 #[.pointer (some ⟨b1, 0, none⟩), .pointer (some ⟨b2, 0, none⟩)] i (inR a n i) := by
  intro W hf
  have k1 := (hf.blk h1 hF1).cell (j := 0) rfl
  have k2 := (hf.blk h2 hF2).cell (j := 0) rfl
  clear hf h1 h2
  obtain ⟨a0, a1⟩ := ha
  obtain ⟨n0, n1⟩ := hn
  unfold inR
  by_cases hi : a ≤ i
  · rw [show decide (a ≤ i ∧ i < a + n) = decide (i < a + n) from by simp [hi]]
    go_enter Try.func50, Try.ntmps50
    go_wp2
    go_ret
    exact ⟨rfl, rfl⟩
  · rw [show decide (a ≤ i ∧ i < a + n) = false from by simp [hi]]
    go_enter Try.func50, Try.ntmps50
    go_wp2
    go_ret
    exact ⟨rfl, rfl⟩
end Go.Proofs.Ythfhilinajemhaa
