/-
  The document's cache: where a line stands; a line taken out.
-/
import Derived.Test.YtheilnaommcjjaaLastLaw
import Derived.Deep.AppendLies
namespace Go.Proofs.Ytheilnaommcjjaa
open Go.RowKit

/-- the document's cache at block r, its lines in a slice of the call's own -/
structure RSt (w : World) (B r q : Nat) (A : Option Addr) (c : Nat) (L : List Ln) : Prop where
  blk : Blk w r #[.int .i64 q, .slice A L.length c] 55
  row : Lns w B (.slice A L.length c) L
  len : L.length ≤ 9
def Rm (r : Nat) (A : Option Addr) : Nat → Prop := fun k => k = r ∨ ∃ o, A = some ⟨k, o, none⟩
theorem RSt.fr {F : Nat → Prop} {w w' : World} {B r q c : Nat} {A : Option Addr} {L : List Ln} (h : RSt w B r q A c L) (hf : Fr F w w') (hF : ∀ k, F k → ¬ Rm r A k) : RSt w' B r q A c L :=
  ⟨hf.blk h.blk (fun k => hF _ k (.inl rfl)), lns_fr h.row hf (fun k hk hk' => hF k hk' (.inr (by
    rcases A with _ | ad
    · simp [Value.ownBlock] at hk
    · obtain ⟨g, o, s⟩ := ad
      rcases h.row.2 with ⟨h1, _⟩ | ⟨g', cap, cur, h1, _⟩
      · simp at h1
      · injection h1 with h1
        injection h1 with h1
        rw [h1] at hk ⊢
        have e : g' = k := by simpa [Value.ownBlock] using hk
        exact ⟨0, by rw [e]⟩))), h.len⟩
theorem RSt.below {w w' : World} {B r q c : Nat} {A : Option Addr} {L : List Ln} (h : RSt w B r q A c L) (hb : Below w.heap.size w w') : RSt w' B r q A c L :=
  h.fr (F := fun _ => False) (Fr.of_below hb) (fun _ h => h.elim)
theorem RSt.fm_lt {w : World} {B r q c : Nat} {A : Option Addr} {L : List Ln} (h : RSt w B r q A c L) {k : Nat} (hk : Rm r A k) : k < w.heap.size := by
  rcases hk with rfl | ⟨o, rfl⟩
  · exact h.blk.lt
  · rcases h.row.2 with ⟨h1, _⟩ | ⟨g', cap, cur, h1, _, hg, _⟩
    · simp at h1
    · injection h1 with h1
      injection h1 with h1
      injection h1 with h1 _ _
      rw [h1]
      exact (Array.getElem?_eq_some_iff.1 hg).1
theorem RSt.at {w : World} {B r q c : Nat} {A : Option Addr} {L : List Ln} (h : RSt w B r q A c L) {i : Nat} {l : Ln} (hi : L[i]? = some l) : ∃ g, A = some ⟨g, 0, none⟩ ∧ B ≤ g ∧ g < w.heap.size ∧ ∀ j, j < 131 → w.cell? ⟨g, i * 131 + j, none⟩ = some (lnE l j) := by
  rcases h.row.2 with ⟨h1, h2⟩ | ⟨g, cap, cur, h1, hb, hg, _⟩
  · have := (List.getElem?_eq_some_iff.1 hi).1
    omega
  · injection h1 with h1
    subst h1
    refine ⟨g, rfl, hb, (Array.getElem?_eq_some_iff.1 hg).1, fun j hj => ?_⟩
    have hadd : (⟨g, 0, none⟩ : Addr).add (i * 131 + j) = ⟨g, i * 131 + j, none⟩ := by unfold Addr.add; split <;> simp_all
    have := World.ownsRow.cells h.row (g := g) rfl (i * 131 + j) _ (lr_at L i j l hi hj)
    rw [hadd] at this
    exact this

/-- where a spot's line stands -/
def posLn (L : List Ln) (s : Spot) : Int := if (findLn L s).isSome then ((L.findIdx (fun l => decide (l.spot = s)) : Nat) : Int) else -1
theorem posLn_at {L : List Ln} {s : Spot} {k : Nat} {l : Ln} (hk : L[k]? = some l) (hs : l.spot = s) (h : ∀ j x, j < k → L[j]? = some x → x.spot ≠ s) : posLn L s = k ∧ findLn L s = some l := by
  have hlt := (List.getElem?_eq_some_iff.1 hk).1
  have e := (List.getElem?_eq_some_iff.1 hk).2
  have hidx : L.findIdx (fun l => decide (l.spot = s)) = k := by
    rw [List.findIdx_eq hlt]
    refine ⟨by rw [e]; exact decide_eq_true hs, fun j hj => decide_eq_false (h j _ hj (List.getElem?_eq_getElem (by omega)))⟩
  have hf : findLn L s = some l := by
    unfold findLn
    rw [List.find?_eq_some_iff_append]
    refine ⟨decide_eq_true hs, L.take k, L.drop (k + 1), ?_, fun a ha => ?_⟩
    · rw [← e, List.getElem_cons_drop, List.take_append_drop]
    · obtain ⟨j, hj⟩ := List.mem_iff_getElem?.1 ha
      have hjl := (List.getElem?_eq_some_iff.1 hj).1
      rw [List.length_take] at hjl
      rw [List.getElem?_take, if_pos (by omega)] at hj
      simp [h j a (by omega) hj]
  refine ⟨?_, hf⟩
  unfold posLn
  rw [hf, hidx]
  rfl
theorem posLn_not {L : List Ln} {s : Spot} (h : ∀ j x, j < L.length → L[j]? = some x → x.spot ≠ s) : posLn L s = -1 := by
  unfold posLn
  have : findLn L s = none := by
    unfold findLn
    rw [List.find?_eq_none]
    intro x hx
    obtain ⟨j, hj⟩ := List.mem_iff_getElem?.1 hx
    simp [h j x (List.getElem?_eq_some_iff.1 hj).1 hj]
  rw [this]
  rfl

set_option maxHeartbeats 400000 in
set_option maxRecDepth 20000 in
theorem find_any (B r q c : Nat) (A : Option Addr) (L : List Ln) (s : Spot) (w : World) (h : RSt w B r q A c L) :
    Calls Try.prog 31 #[.pointer (some ⟨r, 0, none⟩), .int .i64 s.1, .int .i64 s.2] w fun e w' => e = .returned (.int .i64 (posLn L s)) ∧ w' = w := by
  have hL := h.len
  have hLI : (L.length : Int) ≤ 9 := by omega
  have b1 := h.blk.cell (j := 1) rfl
  go_enter Try.func31, Try.ntmps31
  go_wp2
  go_loop [7] (fun i => ∃ k : Nat, k ≤ L.length ∧ i = .int .i64 k ∧ Hid (∀ j x, j < k → L[j]? = some x → x.spot ≠ s)) (fun i => (L.length - intOf i).toNat)
  case atStart => exact ⟨0, Nat.zero_le _, rfl, by unfold Hid; intro j x hj; omega⟩
  case round =>
    obtain ⟨k, hk, rfl, hH⟩ := hrel
    by_cases hlt : (k : Int) < (L.length : Int)
    · obtain ⟨l, hl⟩ : ∃ l, L[k]? = some l := ⟨L[k]'(by omega), List.getElem?_eq_getElem (by omega)⟩
      obtain ⟨g, rfl, _, _, hcl⟩ := h.at hl
      have c0 := hcl 0 (by omega)
      have c1 := hcl 1 (by omega)
      rw [show lnE l 0 = .int .i64 l.u from rfl, Nat.add_zero] at c0
      rw [show lnE l 1 = .int .i64 l.b from rfl] at c1
      have Hl := Lib.hid hl
      clear hcl hl
      have step : l.spot ≠ s → Hid (∀ j x, j < k + 1 → L[j]? = some x → x.spot ≠ s) := fun hne j x hj hx => by
        by_cases hjk : j = k
        · subst hjk
          rw [Hl.out] at hx
          rw [← Option.some.inj hx]
          exact hne
        · exact hH.out j x (by omega) hx
      by_cases h1 : l.u = s.1
      · have t1 : (l.u == s.1) = true := by rw [beq_iff_eq]; exact h1
        by_cases h2 : l.b = s.2
        · have t2 : (l.b == s.2) = true := by rw [beq_iff_eq]; exact h2
          have hp := posLn_at Hl.out (Prod.ext h1 h2) hH.out
          have Hp := Lib.hid hp
          clear hp step h1 h2
          go_wp2
          go_ret
          refine ⟨?_, rfl⟩
          rw [Hp.out.1]
          rfl
        · have t2 : (l.b == s.2) = false := beq_eq_false_iff_ne.2 h2
          have st := step (fun he => h2 (by rw [← he]; rfl))
          clear step h1 h2
          go_wp2
          exact ⟨⟨k + 1, by omega, rfl, st⟩, by simp only [intOf]; omega⟩
      · have t1 : (l.u == s.1) = false := beq_eq_false_iff_ne.2 h1
        have st := step (fun he => h1 (by rw [← he]; rfl))
        clear step h1
        go_wp2
        exact ⟨⟨k + 1, by omega, rfl, st⟩, by simp only [intOf]; omega⟩
    · obtain rfl : k = L.length := by omega
      go_wp2
      go_ret
      refine ⟨?_, rfl⟩
      rw [posLn_not hH.out]
      rfl

theorem erase_take {L : List Ln} {i k : Nat} {l : Ln} (h : L[k]? = some l) : (L.take (k + 1)).eraseIdx i = (L.take k).eraseIdx i ++ (if k = i then [] else [l]) := by
  have hlt := (List.getElem?_eq_some_iff.1 h).1
  have hs : L.take (k + 1) = L.take k ++ [l] := by rw [List.take_add_one, h]; rfl
  rw [hs]
  have hl : (L.take k).length = k := by rw [List.length_take]; omega
  by_cases hi : i < k
  · rw [List.eraseIdx_append_of_lt_length (by omega), if_neg (by omega)]
  · rw [List.eraseIdx_append_of_length_le (by omega), List.eraseIdx_of_length_le (l := L.take k) (by omega)]
    by_cases he : k = i
    · subst he
      rw [if_pos rfl, hl, Nat.sub_self]
      rfl
    · rw [if_neg he, List.eraseIdx_of_length_le (by simp; omega)]

section
variable {ops : Array Oper} {rest : List Oper} {o : Oper} {a : Act} {w : World} {Q : Exit → Act → World → Prop}
/-- 'append(out, l)' of one line that lies in a block of its own. -/
theorem appendW_ln (hgd : o.guard = none) (s x : Operand) (ho : o.op = .call { callee := .builtin .append, args := #[s, x], argTypes := #[37, 37] })
    (base : Nat) (v : Value) (L : List Ln) (hs : a.eval s = v) (hown : Lns w base v L) (g : Nat) (c : Nat) (l : Ln) (hx : a.eval x = .slice (some ⟨g, 0, none⟩) 1 c) (hB : Blk w g (lnA l) 33)
    (h63 : L.length ≤ 1000) (hbase : base ≤ w.heap.size)
    (h : ∀ g cap w', Lns w' base (.slice (some ⟨g, 0, none⟩) (L.length + 1) cap) (L ++ [l]) → w.grownBy w' v.ownBlock → (v.ownBlock = some g ∨ g = w.heap.size) → g < w'.heap.size → wpList Try.prog ops Q rest (a.put o.dst (.slice (some ⟨g, 0, none⟩) (L.length + 1) cap)) w') :
    wpList Try.prog ops Q (o :: rest) a w := by
  obtain ⟨i0, hi0, hz0, hz1, hz2⟩ := info_parts (show (Try.prog.info? 33).map (fun i => (i.zero, i.size, i.bytes)) = some (some (.agg (lnA zeroLn)), 131, 152) by kernel_rfl)
  refine wpList_append_lies w hgd s x 37 ho base 33 i0 _ 131 152 Try.underlying37 hi0 hz0 hz1 hz2 (lnA_size zeroLn) (by omega) v L.length (lr L) hs hown ⟨g, 0, none⟩ 1 c (lr [l]) hx (lr_len [l]) (news_ln hB) (lr_one [l]) (by omega) (by simp only [maxLen]; omega) (by omega) hbase _ rfl (fun g' cap w' h2 h3 h4 h5 => h g' cap w' ?_ h3 h4 h5)
  unfold Lns
  rw [List.length_append, lr_append]
  exact h2
end
end Go.Proofs.Ytheilnaommcjjaa
