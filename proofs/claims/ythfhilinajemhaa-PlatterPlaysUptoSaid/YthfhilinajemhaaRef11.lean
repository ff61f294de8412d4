/-
  The document's disk: bytes laid over a sector.
-/
import Derived.Test.YthfhilinajemhaaRefT
namespace Go.Proofs.Ythfhilinajemhaa
open Go.RowKit
open Go.Maps (Keyed int_keyed)
set_option linter.unusedVariables false

section
variable {w w' : World} {r gs gn gk B : Nat} {v : Nat → Value} {d : Dk} {sn : Nat → List (Array Value)} {lf : Int}
/-- the blocks that are written -/
def TF (gs : Nat) (v : Nat → Value) (i : Nat) : Nat → Prop := fun b => b = gs ∨ (v i).ownBlock = some b
def Tmp (w : World) (gs B : Nat) (v : Nat → Value) (d : Dk) (i : Nat) (T : List Int) (M : List (Array Value)) (wr : World) : Prop := Fr (TF gs v i) w wr ∧ Blk wr gs (flat d.n (updS d.s i (overC (d.s i) T))) 45 ∧ Scs wr B (v i) M
theorem RSt.tmp (h : RSt w r gs gn gk B v d sn lf) (i : Nat) (R : List Int) : Tmp w gs B v d i [] ((sn i).map (overC · [])) w := by
  refine ⟨Fr.refl _ _, by rw [tampered_zero]; exact h.hs, ?_⟩
  rw [show (sn i).map (overC · []) = sn i from by simp [overC_nil]]
  exact h.own i
theorem Tmp.tampered {wr : World} (h : RSt w r gs gn gk B v d sn lf) {i : Nat} {R : List Int} (hR : R.length ≤ 128) (ht : Tmp w gs B v d i R ((sn i).map (overC · R)) wr) : RTo w r gs gn gk B v (d.tampered i R) lf wr := by
  obtain ⟨hf, hs, ho⟩ := ht
  refine ⟨v, updN sn i ((sn i).map (overC · R)), ⟨hf.blk h.hr (fun e => e.elim h.d_rs (h.ne_r i)), hs, hf.blk h.hn (fun e => e.elim (fun e => h.d_sn e.symm) (h.ne_n i)), hf.blk h.hc (fun e => e.elim (fun e => h.d_sk e.symm) (h.ne_k i)), ?_, h.apart, h.off, ?_, ?_, h.low, h.left, ?_, Dk.tampered_ok h.ok i R hR⟩, hf.weak (fun k hk => hk.elim (fun e => .inr (.inl e)) (fun e => .inr (.inr (.inr (.inr ⟨i, e⟩))))), fun k hk => .inl hk⟩
  · intro j
    unfold updN
    by_cases e : j = i
    · subst e; rw [if_pos rfl]; exact ho
    · rw [if_neg e]
      exact Fr.own hf (h.own j) (fun k hk hF => hF.elim (fun e' => h.off j (e' ▸ hk)) (fun e' => e (h.apart j i k hk e')))
  · intro j c hc
    unfold updN at hc
    by_cases e : j = i
    · rw [if_pos e] at hc
      obtain ⟨c0, h0, rfl⟩ := List.mem_map.1 hc
      exact (h.cel i c0 h0).over hR
    · rw [if_neg e] at hc; exact h.cel j c hc
  · intro j
    show (if (j : Int) = (i : Int) then (d.op (j : Int)).map (overC · R) else d.op (j : Int)) = _
    unfold updN
    by_cases e : j = i
    · subst e
      rw [if_pos rfl, if_pos rfl, h.last, List.getLast?_map]
    · rw [if_neg (by omega), if_neg e]; exact h.last j
  · intro j
    show ((updN sn i ((sn i).map (overC · R)) j).length : Int) ≤ d.st
    unfold updN
    by_cases e : j = i
    · rw [if_pos e, List.length_map]; exact h.len i
    · rw [if_neg e]; exact h.len j
theorem Tmp.first {wr : World} (h : RSt w r gs gn gk B v d sn lf) {i : Nat} (hi : i < d.n) {R : List Int} (hR : R.length ≤ 128) {j : Nat} {x : Int} (hx : R[j]? = some x) {M : List (Array Value)} (ht : Tmp w gs B v d i (R.take j) M wr) :
    Tmp w gs B v d i (R.take (j + 1)) M (wr.setCell ⟨gs, i * 128 + j, none⟩ (.int .u8 x)).drew := by
  obtain ⟨hf, hs, ho⟩ := ht
  have hj := (List.getElem?_eq_some_iff.1 hx).1
  have hc := h.ok.2.1 i
  have f1 := Fr.cell wr gs (i * 128 + j) (.int .u8 x)
  have h1 := hs.set (i * 128 + j) (.int .u8 x)
  have e1 : updS d.s i (overC (d.s i) (R.take j)) i = overC (d.s i) (R.take j) := by unfold updS; rw [if_pos rfl]
  rw [flat_set _ _ i j _ hi (by omega) (by rw [e1]; exact overC_size hc (by rw [List.length_take]; omega)), e1, ← overC_succ hc hR hx] at h1
  have e2 : updS (updS d.s i (overC (d.s i) (R.take j))) i (overC (d.s i) (R.take (j + 1))) = updS d.s i (overC (d.s i) (R.take (j + 1))) := by
    funext k
    unfold updS
    split <;> rfl
  rw [e2] at h1
  exact ⟨(hf.trans f1 (fun k e => .inl (.inl e))).trans (Fr.of_below (Below.drew (Below.refl _ _)) : Fr (fun _ => False) _ _) (fun _ h => h.elim), h1, (Fr.own f1 ho (fun k hk (e : k = gs) => h.off i (e ▸ hk)) : Scs (wr.setCell ⟨gs, i * 128 + j, none⟩ (.int .u8 x)) B (v i) M)⟩
theorem Tmp.next {wr : World} (h : RSt w r gs gn gk B v d sn lf) {i : Nat} {R : List Int} (hR : R.length ≤ 128) {j k : Nat} {x : Int} (hx : R[j]? = some x) {c : Array Value} (hk : (sn i)[k]? = some c) {g q cc : Nat} (hv : v i = .slice (some ⟨g, 0, none⟩) q cc) (hq : (sn i).length = q) {T : List Int}
    (ht : Tmp w gs B v d i T (mixL (sn i) R j k) wr) : Tmp w gs B v d i T (mixL (sn i) R j (k + 1)) (wr.setCell ⟨g, k * 128 + j, none⟩ (.int .u8 x)).drew := by
  obtain ⟨hf, hs, ho⟩ := ht
  have hj := (List.getElem?_eq_some_iff.1 hx).1
  have f1 := Fr.cell wr g (k * 128 + j) (.int .u8 x)
  have hg : (v i).ownBlock = some g := by rw [hv]; rfl
  refine ⟨(hf.trans f1 (fun k e => .inl (.inr (by rw [e]; exact hg)))).trans (Fr.of_below (Below.drew (Below.refl _ _)) : Fr (fun _ => False) _ _) (fun _ h => h.elim), f1.blk hs (fun e => h.off i (e ▸ hg)), ?_⟩
  have hc := h.cel i c (List.mem_of_getElem? hk)
  rw [mixL_succ hR hk hc hx]
  unfold Scs at ho ⊢
  rw [mixL_len, hq, hv] at ho
  rw [List.length_set, mixL_len, hq, hv, secs_set _ (fun c hc => (mixL_cel (h.cel i) hR j k c hc).size) (mixL_at R j k hk) (by omega)]
  exact own_set ho _ _
theorem Tmp.cell {wr : World} (h : RSt w r gs gn gk B v d sn lf) {i : Nat} {R : List Int} (hR : R.length ≤ 128) {j k : Nat} (hj : j < 128) (hk : k < (sn i).length) {g q cc : Nat} (hv : v i = .slice (some ⟨g, 0, none⟩) q cc) (hq : (sn i).length = q) {T : List Int}
    (ht : Tmp w gs B v d i T (mixL (sn i) R j k) wr) : (∃ u, wr.cell? ⟨g, k * 128 + j, none⟩ = some u) ∧ wr.frozen? ⟨g, k * 128 + j, none⟩ = false := by
  obtain ⟨hf, hs, ho⟩ := ht
  have hg : (v i).ownBlock = some g := by rw [hv]; rfl
  obtain ⟨cs, hb, _⟩ := own_cells ho hg
  refine ⟨?_, hb.frozen _⟩
  have hk2 := mixL_at R j k (List.getElem?_eq_getElem hk)
  have hcs := (mixL_cel (h.cel i) hR j k _ (List.mem_of_getElem? hk2)).size
  have := World.ownsRow.cells ho (g := g) hg (k * 128 + j) _ (secs_at (fun c hc => (mixL_cel (h.cel i) hR j k c hc).size) hk2 j _ (Array.getElem?_eq_getElem (show j < _ by rw [hcs]; exact hj)))
  have hadd : (⟨g, 0, none⟩ : Addr).add (k * 128 + j) = ⟨g, k * 128 + j, none⟩ := by unfold Addr.add; split <;> simp_all
  rw [hadd] at this
  exact ⟨_, this⟩
theorem rtamper_none (h : RSt w r gs gn gk B v d sn lf) (i : Int) (A : Option Addr) (n c : Nat) (hi : ¬ (0 ≤ i ∧ i < d.n)) : Calls Try.prog 34 #[.pointer (some ⟨r, 0, none⟩), .int .i64 i, .slice A n c] w (RAns w r gs gn gk B v (.int .i64 1) d lf) := by
  have y0 := rf0 h.hr
  have H := Lib.hid (RTo.refl h)
  clear h
  by_cases h1 : i < 0
  · go_enter Try.func34, Try.ntmps34
    go_wp2
    go_ret
    exact ⟨rfl, H.out⟩
  · have h2 : ¬ i < (d.n : Int) := by omega
    have h3 : (d.n : Int) ≤ i := by omega
    clear hi
    go_enter Try.func34, Try.ntmps34
    go_wp2
    go_ret
    exact ⟨rfl, H.out⟩
theorem rtamper_long (h : RSt w r gs gn gk B v d sn lf) (i : Nat) (A : Option Addr) (n c : Nat) (hi : i < d.n) (hn : 128 < (n : Int)) : Calls Try.prog 34 #[.pointer (some ⟨r, 0, none⟩), .int .i64 i, .slice A n c] w (RAns w r gs gn gk B v (.int .i64 1) d lf) := by
  have y0 := rf0 h.hr
  have H := Lib.hid (RTo.refl h)
  have i1 : (i : Int) < (d.n : Int) := by omega
  have i2 : (0 : Int) ≤ (i : Int) := by omega
  clear h
  go_enter Try.func34, Try.ntmps34
  go_wp2
  go_ret
  exact ⟨rfl, H.out⟩
set_option maxHeartbeats 4000000 in
theorem rtamper (h : RSt w r gs gn gk B v d sn lf) (i : Nat) (hi : i < d.n) (A : Option Addr) (c : Nat) (R : List Int) (hRl : R.length ≤ 128) (hst : d.st ≤ 100000) (S : Nat) (hS : S ≤ w.heap.size) (hSB : S ≤ B) (hR : RB w S A R) :
    Calls Try.prog 34 #[.pointer (some ⟨r, 0, none⟩), .int .i64 i, .slice A R.length c] w (RAns w r gs gn gk B v (.int .i64 0) (d.tampered i R) lf) := by
  have y0 := rf0 h.hr
  have hn2 := h.ok.1
  have H := Lib.hid h
  have HR := Lib.hid hR
  have T0 := Lib.hid (h.tmp i R)
  have i1 : (i : Int) < (d.n : Int) := by omega
  have i2 : (0 : Int) ≤ (i : Int) := by omega
  have i3 : ¬ (128 : Int) < (R.length : Int) := by omega
  have hlen := h.len i
  have hq1 : (sn i).length ≤ 100000 := by omega
  obtain ⟨A2, c2, hv, _⟩ := scs_form (h.own i)
  have HV := Lib.hid hv
  clear h hR hv hlen
  go_enter Try.func34, Try.ntmps34
  go_wp2
  go_loopw [7] (fun k wr => ∃ j : Nat, j ≤ R.length ∧ k = .int .i64 j ∧ Tmp w gs B v d i (R.take j) ((sn i).map (overC · (R.take j))) wr) (fun k _ => (R.length - (Lib.intOf k).toNat))
  case atStart => exact ⟨0, by omega, rfl, by rw [List.take_zero]; exact T0.out⟩
  case round =>
    obtain ⟨j, hj, rfl, hT⟩ := hrel
    by_cases hlt : j < R.length
    · have hb := hT.1
      have b1 := hb.blk H.out.hr (fun e => e.elim H.out.d_rs (H.out.ne_r i))
      have b2 := hb.blk H.out.hn (fun e => e.elim (fun e => H.out.d_sn e.symm) (H.out.ne_n i))
      obtain ⟨ad, hA, hbl, hc⟩ := (HR.out.fr' hS hb (fun ad h0 hl hk => hk.elim (fun e => by have := H.out.low.2.1; omega) (fun e => by have := (World.ownsRow.lt (H.out.own i) _ e).1; omega))) j R[j] (List.getElem?_eq_getElem hlt)
      subst hA
      have hx := Lib.hid (List.getElem?_eq_getElem hlt)
      generalize R[j] = x at *
      have z0 : wr.cell? ⟨r, 0, none⟩ = some (.slice (some ⟨gs, 0, none⟩) d.n d.n) := rf0 b1
      have z1 : wr.cell? ⟨r, 1, none⟩ = some (.slice (some ⟨gn, 0, none⟩) d.n d.n) := rf1 b1
      have z2 : wr.cell? ⟨gn, i, none⟩ = some (.slice A2 (sn i).length c2) := by rw [← HV.out]; exact b2.cell (row_at v d.n i hi)
      have j0 : (0 : Int) ≤ (j : Int) := by omega
      have j1 : (j : Int) < (R.length : Int) := by omega
      have j2 : (j : Int) < 128 := by omega
      have HT := Lib.hid hT
      obtain ⟨u0, hu0⟩ : ∃ u, wr.cell? ⟨gs, i * 128 + j, none⟩ = some u := ⟨_, hT.2.1.cell (flat_at _ _ i j hi (by omega))⟩
      have hf0 := hT.2.1.frozen (i * 128 + j)
      have s7 : (wr.setCell ⟨gs, i * 128 + j, none⟩ (.int .u8 x)).drew.cell? ⟨r, 0, none⟩ = some (.slice (some ⟨gs, 0, none⟩) d.n d.n) ∧ (wr.setCell ⟨gs, i * 128 + j, none⟩ (.int .u8 x)).drew.cell? (ad.add j) = some (.int .u8 x) := by
        refine ⟨(World.cell?_setCell_far _ _ _ _ ?_).trans z0, (World.cell?_setCell_far _ _ _ _ ?_).trans hc⟩
        · exact fun e => H.out.d_rs e.symm
        · rw [addr_add_block]
          have := H.out.low.2.1
          intro e
          have e' : gs = ad.block := e
          omega
      have T1 := Lib.hid (hT.first H.out hi hRl hx.out)
      clear b1 b2 hb hT
      go_wp2_with fail
      go_region_held3 (fun W => W.cell? ⟨r, 0, none⟩ = some (.slice (some ⟨gs, 0, none⟩) d.n d.n) ∧ W.cell? (ad.add j) = some (.int .u8 x)) (first | go_keep | exact s7) (fail)
      generalize (wr.setCell ⟨gs, i * 128 + j, none⟩ (.int .u8 x)).drew = W1 at *
      clear s7 hu0 hf0 z0 z1 z2 hc
      go_wp2_with fail
      go_loopw [8] (fun k wr => ∃ q : Nat, q ≤ (sn i).length ∧ k = .int .i64 q ∧ Tmp w gs B v d i (R.take (j + 1)) (mixL (sn i) R j q) wr) (fun k _ => ((sn i).length - (Lib.intOf k).toNat))
      case atStart => exact ⟨0, by omega, rfl, by rw [mixL_zero]; exact T1.out⟩
      case round =>
        obtain ⟨q, hq, rfl, hT⟩ := hrel
        have hb := hT.1
        have b1 := hb.blk H.out.hr (fun e => e.elim H.out.d_rs (H.out.ne_r i))
        have b2 := hb.blk H.out.hn (fun e => e.elim (fun e => H.out.d_sn e.symm) (H.out.ne_n i))
        have z1 : wr.cell? ⟨r, 1, none⟩ = some (.slice (some ⟨gn, 0, none⟩) d.n d.n) := rf1 b1
        have z2 : wr.cell? ⟨gn, i, none⟩ = some (.slice A2 (sn i).length c2) := by rw [← HV.out]; exact b2.cell (row_at v d.n i hi)
        by_cases hlq : q < (sn i).length
        · obtain ⟨g, cc, hv2, _⟩ := World.ownsRow.form (H.out.own i) (by omega)
          have hA2 := HV.out
          rw [hv2] at hA2
          injection hA2 with ea eb ec
          subst ea
          subst ec
          have hg : (v i).ownBlock = some g := by rw [hv2]; rfl
          obtain ⟨⟨u1, hu1⟩, hf1⟩ := hT.cell H.out hRl (show j < 128 by omega) hlq hv2 rfl
          obtain ⟨ad', had, _, hcq⟩ := (HR.out.fr' hS hb (fun ad h0 hl hk => hk.elim (fun e => by have := H.out.low.2.1; omega) (fun e => by have := (World.ownsRow.lt (H.out.own i) _ e).1; omega))) j x hx.out
          cases had
          have hlo := (World.ownsRow.lt (H.out.own i) g hg).1
          have s8 : (wr.setCell ⟨g, q * 128 + j, none⟩ (.int .u8 x)).drew.cell? ⟨r, 1, none⟩ = some (.slice (some ⟨gn, 0, none⟩) d.n d.n) ∧ (wr.setCell ⟨g, q * 128 + j, none⟩ (.int .u8 x)).drew.cell? ⟨gn, i, none⟩ = some (.slice (some ⟨g, 0, none⟩) (sn i).length cc) ∧ (wr.setCell ⟨g, q * 128 + j, none⟩ (.int .u8 x)).drew.cell? (ad.add j) = some (.int .u8 x) := by
            refine ⟨(World.cell?_setCell_far _ _ _ _ ?_).trans z1, (World.cell?_setCell_far _ _ _ _ ?_).trans z2, (World.cell?_setCell_far _ _ _ _ ?_).trans hcq⟩
            · exact fun e => H.out.ne_r i (by rw [hg, show g = r from e])
            · exact fun e => H.out.ne_n i (by rw [hg, show g = gn from e])
            · rw [addr_add_block]
              intro e
              have e' : g = ad.block := e
              omega
          have q0 : (0 : Int) ≤ (q : Int) := by omega
          have q1 : (q : Int) < ((sn i).length : Int) := by omega
          have T2 := Lib.hid (hT.next H.out hRl hx.out (List.getElem?_eq_getElem hlq) hv2 rfl)
          clear eb b1 b2 hb hT hv2 hg
          go_wp2_with fail
          go_region_held3 (fun W => W.cell? ⟨r, 1, none⟩ = some (.slice (some ⟨gn, 0, none⟩) d.n d.n) ∧ W.cell? ⟨gn, i, none⟩ = some (.slice (some ⟨g, 0, none⟩) (sn i).length cc) ∧ W.cell? (ad.add j) = some (.int .u8 x)) (first | go_keep | exact s8) (fail)
          generalize (wr.setCell ⟨g, q * 128 + j, none⟩ (.int .u8 x)).drew = W2 at *
          go_wp2
          go_roundw
          case rel => exact ⟨q + 1, by omega, by go_num, T2.out⟩
          case measure => simp [Lib.intOf]; omega
        · obtain rfl : q = (sn i).length := by omega
          rw [mixL_all] at hT
          have HT2 := Lib.hid hT
          clear b1 b2 hb hT
          go_wp2
          go_roundw
          case rel => exact ⟨j + 1, by omega, by go_num, HT2.out⟩
          case measure => simp [Lib.intOf]; omega
    · obtain rfl : j = R.length := by omega
      rw [List.take_length] at hT
      have HT := Lib.hid (hT.tampered H.out hRl)
      clear hT
      go_wp2
      go_ret
      exact ⟨rfl, HT.out⟩
end
end Go.Proofs.Ythfhilinajemhaa
