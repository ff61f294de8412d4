import Derived.Test.YtheilnaommcjjaaDel
import Derived.Test.YtheilnaommcjjaaQuiet
import Derived.Deep.AppendLies
namespace Go.Proofs.Ytheilnaommcjjaa
open Go.RowKit

/-- where the cache's own blocks may lie -/
def Ft (a : Nat) (v : Value) : Nat → Prop := fun k => k = a ∨ v.ownBlock = some k
/-- a new order lies where the old one lay, or in a new block -/
def Near (w : World) (v v' : Value) : Prop := ∀ k, v'.ownBlock = some k → v.ownBlock = some k ∨ w.heap.size ≤ k

theorem Ord.ne {w : World} {v : Value} {L : List Spot} {a : Nat} {vs : Array Value} (h : Ord w v L) (hb : Blk w a vs 64) : v.ownBlock ≠ some a := by
  rcases h.2 with ⟨rfl, _⟩ | ⟨g, cap, cur, rfl, _, hg, _⟩
  · simp [Value.ownBlock]
  · intro he
    simp [Value.ownBlock] at he
    subst he
    unfold Blk at hb
    rw [hg] at hb
    injection hb with hb
    injection hb with _ ht
    exact absurd ht (by decide)

theorem Ord.slice {w : World} {v : Value} {L : List Spot} (h : Ord w v L) : ∃ A c, v = .slice A L.length c := by
  rcases h.2 with ⟨rfl, h0⟩ | ⟨g, cap, cur, rfl, _⟩
  · exact ⟨none, 0, by rw [h0]⟩
  · exact ⟨_, _, rfl⟩

theorem news_spot {w : World} {g : Nat} {s : Spot} (h : Blk w g (spotA s) 66) : ∀ j u, (sc [s])[j]? = some u → w.cell? ((⟨g, 0, none⟩ : Addr).add j) = some u := by
  intro j u hu
  have hadd : (⟨g, 0, none⟩ : Addr).add j = ⟨g, j, none⟩ := by unfold Addr.add; split <;> simp_all
  rw [hadd]
  exact h.cell (by simpa [spotA, sc] using hu)

set_option maxHeartbeats 1000000 in
theorem use_any (a q : Nat) (mp : Value) (v : Value) (S : List Spot) (s : Spot) (w : World) (hb : Blk w a #[.int .i64 q, v, mp] 64) (ho : Ord w v S) (hS : S.length ≤ 100) :
    Calls Try.prog 26 #[.pointer (some ⟨a, 0, none⟩), spotV s] w fun e w' => e = .returned (.tuple #[]) ∧ ∃ v', Blk w' a #[.int .i64 q, v', mp] 64 ∧ Ord w' v' (S.erase s ++ [s]) ∧ Fr (Ft a v) w w' ∧ Near w v v' := by
  unfold spotV spotA
  go_enter Try.func26, Try.ntmps26
  go_wp2
  have hbox := Blk.new w (spotA s) 66
  have hb0 := (Below.refl w.heap.size w).alloc (Nat.le_refl _) (.cells (spotA s) 66)
  have ho0 := ho.below hb0
  have hb1 := hb.below hb0 hb.lt
  unfold spotA at hbox hb0 ho0 hb1
  have hal := hb.lt
  have hsz : (w.alloc (.cells #[.int .i64 s.1, .int .i64 s.2] 66)).heap.size = w.heap.size + 1 := by simp
  generalize hW : w.alloc (.cells #[.int .i64 s.1, .int .i64 s.2] 66) = w0 at *
  clear hW
  have HSZ := Lib.hid hsz
  clear hsz
  refine wp_region_class (Cls w0.heap.size w0) (by kernel_rfl) (by kernel_rfl) (Cls.drew _ _) ?_
  go_big_quiet_want; go_big_quiet_op; go_big_quiet_on
  go_big_quiet_want; go_big_quiet_op; refine ⟨_, fun _ _ => rfl, ?_⟩; go_big_quiet_on
  go_big_quiet_want; go_big_quiet_op; refine ⟨_, fun _ _ => rfl, ?_⟩; go_big_quiet_on
  go_big_quiet_want; refine quiet_load_cell 62 _ rfl ⟨a, 1, none⟩ rfl v Try.isAgg62 (cls_cell hb1 rfl (by rw [HSZ.out]; omega)) ?_; go_simp; go_big_quiet_on
  go_big_quiet_want; refine quiet_load_row 66 _ rfl w.heap.size rfl (spotA s) (fun w hw => load_spot s w _ (cls_blk hbox (by rw [HSZ.out]; omega) w hw)) ?_; go_simp; go_big_quiet_on
  go_big_quiet_want; go_big_quiet_op; refine ⟨_, fun wc hc => (index_any v S s wc (ho0.below hc.out)).mono (fun e w' ⟨he, hb⟩ => ⟨he, (hc.out.trans (hb.mono hc.out.size) : Cls w0.heap.size w0 w')⟩), ?_⟩; go_big_quiet_on
  go_big_quiet_want; go_big_quiet_op; go_big_quiet_on
  refine wpQuiet_nil ?_
  intro w1 hw1
  have hb2 := hb1.below hw1.out (by rw [HSZ.out]; omega)
  have hbox2 := hbox.below hw1.out (by rw [HSZ.out]; omega)
  have ho2 := ho0.below hw1.out
  have hbel := hb0.trans (hw1.out.mono (by rw [HSZ.out]; omega))
  clear hb1 hbox ho0 hb0 hw1 HSZ
  clear w0
  by_cases hm : s ∈ S
  · have hpos : pos s S = ((S.idxOf s : Nat) : Int) := if_pos hm
    have hilt : S.idxOf s < S.length := List.idxOf_lt_length_iff.2 hm
    have hers : S.eraseIdx (S.idxOf s) = S.erase s := (List.erase_eq_eraseIdx_of_idxOf rfl).symm
    rw [hpos]
    generalize S.idxOf s = i at *
    clear hpos
    have HE := Lib.hid hers
    clear hers
    have h0 : (0 : Int) ≤ (i : Int) := by omega
    have c0 := hb2.cell (j := 0) rfl
    have c1 := hb2.cell (j := 1) rfl
    have c2 := hb2.cell (j := 2) rfl
    have f0 := hb2.frozen
    go_wp2_with fail
    refine (delete_any v S i hilt w1 ho2).mono ?_
    rintro e w2 ⟨v2, rfl, ho3, hob, hgr⟩
    rw [HE.out] at ho3
    obtain ⟨A2, n2, z2, hv2⟩ : ∃ A n c, v2 = .slice A n c := by obtain ⟨A, c, e⟩ := ho3.slice; exact ⟨A, _, c, e⟩
    subst hv2
    have hva : v.ownBlock ≠ some a := ho.ne hb
    have hb3 : Blk w2 a #[.int .i64 q, v, mp] 64 := by
      unfold Blk; rw [hgr.block a hb2.lt (fun h => hva h.symm)]; exact hb2
    have hbox3 : Blk w2 w.heap.size #[.int .i64 s.1, .int .i64 s.2] 66 := by
      unfold Blk
      rw [hgr.block _ hbox2.lt (fun h => ?_)]
      · exact hbox2
      · have := ho.lt _ h.symm
        omega
    clear c0 c1 c2 f0
    have c0 := hb3.cell (j := 0) rfl
    have c1 := hb3.cell (j := 1) rfl
    have c2 := hb3.cell (j := 2) rfl
    have f0 := hb3.frozen
    go_wp2
    have hb5 : Blk (w2.setCell ⟨a, 1, none⟩ (.slice A2 n2 z2)) a #[.int .i64 q, .slice A2 n2 z2, mp] 64 := hb3.set 1 (.slice A2 n2 z2)
    have hbox5 := hbox3.other (a := ⟨a, 1, none⟩) (by show a ≠ w.heap.size; omega) (.slice A2 n2 z2)
    have hg5 : w2.grownBy (w2.setCell ⟨a, 1, none⟩ (.slice A2 n2 z2)) (some a) := ⟨rfl, rfl, rfl, by simp [World.setCell], fun k _ hk => Below.heap_setCell _ _ _ _ (fun e => hk (by rw [e]))⟩
    have ho5 := ho3.kept hg5 (.inr (by rw [hob]; exact hva))
    have hfr : Fr (Ft a v) w (w2.setCell ⟨a, 1, none⟩ (.slice A2 n2 z2)) :=
      ((Fr.of_below hbel : Fr (Ft a v) w w1).trans (Fr.of_grown (F := Ft a v) hgr (fun k hk => .inr hk)) (fun _ h => .inl h)).trans (Fr.of_grown (F := Ft a v) hg5 (fun k hk => .inl (Option.some.inj hk).symm)) (fun _ h => .inl h)
    have hnear : Near w v (.slice A2 n2 z2) := fun k hk => .inl (by rw [← hob]; exact hk)
    generalize hw3 : w2.setCell ⟨a, 1, none⟩ (.slice A2 n2 z2) = w3 at *
    have hS3 : (S.erase s).length ≤ 100 := Nat.le_trans List.length_erase_le hS
    generalize hS3' : S.erase s = S3 at *
    have HS := Lib.hid hS3'
    clear hS3' HE hw3 hg5 hob ho3 hb3 hbox3 c0 c1 c2 f0 hgr hbel hb2 hbox2 ho2 hilt
    have hal3 := hb5.lt
    have c0 := hb5.cell (j := 0) rfl
    have c1 := hb5.cell (j := 1) rfl
    have c2 := hb5.cell (j := 2) rfl
    have d0 := hbox5.cell (j := 0) rfl
    have d1 := hbox5.cell (j := 1) rfl
    have ho6 : Ord (w3.drew.alloc (.cells (spotA s) 66)) (.slice A2 n2 z2) S3 := ho5.below ((Below.refl _ _).drew.alloc (Nat.le_refl _) _)
    have hnw := Blk.new w3.drew (spotA s) 66
    unfold spotA at ho6 hnw
    have hb6 : Blk (w3.drew.alloc (.cells #[.int .i64 s.1, .int .i64 s.2] 66)) a #[.int .i64 q, .slice A2 n2 z2, mp] 64 := Blk.alloc hb5 _
    have hsz6 : Hid ((w3.drew.alloc (.cells #[.int .i64 s.1, .int .i64 s.2] 66)).heap.size = w3.heap.size + 1) := by show _ = _; simp
    obtain ⟨i0, hi0, hz0, hz1, hz2⟩ := info_parts (show (Try.prog.info? 66).map (fun i => (i.zero, i.size, i.bytes)) = some (some (.agg #[.int .i64 0, .int .i64 0]), 2, 16) by kernel_rfl)
    have hva6 : (Value.slice A2 n2 z2).ownBlock ≠ some a := ho5.ne hb5
    have hfr6 : Fr (Ft a v) w (w3.drew.alloc (.cells #[.int .i64 s.1, .int .i64 s.2] 66)) := hfr.trans (Fr.of_below (F := fun _ => False) ((Below.refl _ _).drew.alloc (Nat.le_refl _) _)) (fun _ h => h.elim)
    have Hn := Lib.hid hnear
    have Hb := Lib.hid hb6
    have Ho := Lib.hid ho6
    have Hw := Lib.hid hnw
    have Hf := Lib.hid hfr6
    clear hnear hb6 ho6 hnw hfr6
    have Hc := Lib.hid (news_spot (s := s) Hw.out)
    go_region_law (
      refine step_append_lies _ rfl (.tmp 28) (.tmp 30) 62 rfl 0 66 i0 _ 2 16 Try.underlying62 hi0 hz0 hz1 hz2 rfl (by omega) (.slice A2 n2 z2) S3.length (sc S3) (by simp [Act.eval]) Ho.out ⟨w3.heap.size, 0, none⟩ 1 1 (sc [s]) (by simp [Act.eval]) rfl Hc.out (sc_one _) (by omega) (by simp only [maxLen]; omega) (by omega) (Nat.zero_le _) (w3.heap.size + 1) hsz6.out ?_
      intro g6 cap6 w6 hown6 hgr6 hat6 hlt6
      have hb7 : Blk w6 a #[.int .i64 q, .slice A2 n2 z2, mp] 64 := by
          unfold Blk
          rw [hgr6.block a Hb.out.lt (fun h => hva6 h.symm)]
          exact Hb.out
      have hO : Ord w6 (.slice (some ⟨g6, 0, none⟩) (S3.length + 1) cap6) (S3 ++ [s]) := by
          unfold Ord
          rw [List.length_append, sc_append]
          exact hown6
      have hF : Fr (Ft a v) w w6 := Hf.out.trans (Fr.of_grown (F := Ft a (.slice A2 n2 z2)) hgr6 (fun k hk => .inr hk)) (fun k hk => hk.elim (fun h => .inl (.inl h)) (fun h => (Hn.out k h).elim (fun h => .inl (.inr h)) .inr))
      have hN : Near w v (.slice (some ⟨g6, 0, none⟩) (S3.length + 1) cap6) := by
          intro k hk
          have hk' : g6 = k := by simpa [Value.ownBlock] using hk
          subst hk'
          rcases hat6 with h | h
          · exact Hn.out _ h
          · have := hfr.size
            exact .inr (by omega)
      have hga : some g6 ≠ some a := by
          have := hO.ne hb7
          simpa [Value.ownBlock] using this
      clear hown6 hgr6 hat6
      have HO := Lib.hid hO
      have HF := Lib.hid hF
      have HN := Lib.hid hN
      have Hga := Lib.hid hga
      clear hO hF hN hga
      have c0 := hb7.cell (j := 0) rfl
      have c1 := hb7.cell (j := 1) rfl
      have c2 := hb7.cell (j := 2) rfl
      have f0 := hb7.frozen)
    all_goals (
      go_end0
      have hg8 : w6.grownBy (w6.setCell ⟨a, 1, none⟩ (.slice (some ⟨g6, 0, none⟩) (S3.length + 1) cap6)) (some a) := ⟨rfl, rfl, rfl, by simp [World.setCell], fun k _ hk => Below.heap_setCell _ _ _ _ (fun e => hk (by rw [e]))⟩
      refine ⟨rfl, .slice (some ⟨g6, 0, none⟩) (S3.length + 1) cap6, hb7.set 1 _, ?_, HF.out.trans (Fr.of_grown (F := Ft a v) hg8 (fun k hk => .inl (Option.some.inj hk).symm)) (fun _ h => .inl h), HN.out⟩
      rw [HS.out]
      exact HO.out.kept hg8 (.inr Hga.out))
  · have hers : S.erase s = S := List.erase_of_not_mem hm
    rw [show pos s S = -1 from if_neg hm]
    obtain ⟨A2, n2, z2, hv⟩ : ∃ A n c, v = .slice A n c := by obtain ⟨A, c, e⟩ := ho.slice; exact ⟨A, _, c, e⟩
    subst hv
    have HS := Lib.hid hers
    clear hers
    have hfr : Fr (Ft a (.slice A2 n2 z2)) w w1 := Fr.of_below hbel
    have hnear : Near w (.slice A2 n2 z2) (.slice A2 n2 z2) := fun k hk => .inl hk
    clear hm hbel
    go_wp2
    have hal3 := hb2.lt
    have c0 := hb2.cell (j := 0) rfl
    have c1 := hb2.cell (j := 1) rfl
    have c2 := hb2.cell (j := 2) rfl
    have d0 := hbox2.cell (j := 0) rfl
    have d1 := hbox2.cell (j := 1) rfl
    have ho6 : Ord (w1.drew.alloc (.cells (spotA s) 66)) (.slice A2 n2 z2) S := ho2.below ((Below.refl _ _).drew.alloc (Nat.le_refl _) _)
    have hnw := Blk.new w1.drew (spotA s) 66
    unfold spotA at ho6 hnw
    have hb6 : Blk (w1.drew.alloc (.cells #[.int .i64 s.1, .int .i64 s.2] 66)) a #[.int .i64 q, .slice A2 n2 z2, mp] 64 := Blk.alloc hb2 _
    have hsz6 : Hid ((w1.drew.alloc (.cells #[.int .i64 s.1, .int .i64 s.2] 66)).heap.size = w1.heap.size + 1) := by show _ = _; simp
    obtain ⟨i0, hi0, hz0, hz1, hz2⟩ := info_parts (show (Try.prog.info? 66).map (fun i => (i.zero, i.size, i.bytes)) = some (some (.agg #[.int .i64 0, .int .i64 0]), 2, 16) by kernel_rfl)
    have hva6 : (Value.slice A2 n2 z2).ownBlock ≠ some a := ho2.ne hb2
    have hfr6 : Fr (Ft a (.slice A2 n2 z2)) w (w1.drew.alloc (.cells #[.int .i64 s.1, .int .i64 s.2] 66)) := hfr.trans (Fr.of_below (F := fun _ => False) ((Below.refl _ _).drew.alloc (Nat.le_refl _) _)) (fun _ h => h.elim)
    have Hn := Lib.hid hnear
    have Hb := Lib.hid hb6
    have Ho := Lib.hid ho6
    have Hw := Lib.hid hnw
    have Hf := Lib.hid hfr6
    clear hnear hb6 ho6 hnw hfr6
    have Hc := Lib.hid (news_spot (s := s) Hw.out)
    go_region_law (
      refine step_append_lies _ rfl (.tmp 28) (.tmp 30) 62 rfl 0 66 i0 _ 2 16 Try.underlying62 hi0 hz0 hz1 hz2 rfl (by omega) (.slice A2 n2 z2) S.length (sc S) (by simp [Act.eval]) Ho.out ⟨w1.heap.size, 0, none⟩ 1 1 (sc [s]) (by simp [Act.eval]) rfl Hc.out (sc_one _) (by omega) (by simp only [maxLen]; omega) (by omega) (Nat.zero_le _) (w1.heap.size + 1) hsz6.out ?_
      intro g6 cap6 w6 hown6 hgr6 hat6 hlt6
      have hb7 : Blk w6 a #[.int .i64 q, .slice A2 n2 z2, mp] 64 := by
          unfold Blk
          rw [hgr6.block a Hb.out.lt (fun h => hva6 h.symm)]
          exact Hb.out
      have hO : Ord w6 (.slice (some ⟨g6, 0, none⟩) (S.length + 1) cap6) (S ++ [s]) := by
          unfold Ord
          rw [List.length_append, sc_append]
          exact hown6
      have hF : Fr (Ft a (.slice A2 n2 z2)) w w6 := Hf.out.trans (Fr.of_grown (F := Ft a (.slice A2 n2 z2)) hgr6 (fun k hk => .inr hk)) (fun k hk => hk.elim (fun h => .inl (.inl h)) (fun h => (Hn.out k h).elim (fun h => .inl (.inr h)) .inr))
      have hN : Near w (.slice A2 n2 z2) (.slice (some ⟨g6, 0, none⟩) (S.length + 1) cap6) := by
          intro k hk
          have hk' : g6 = k := by simpa [Value.ownBlock] using hk
          subst hk'
          rcases hat6 with h | h
          · exact Hn.out _ h
          · have := hfr.size
            exact .inr (by omega)
      have hga : some g6 ≠ some a := by
          have := hO.ne hb7
          simpa [Value.ownBlock] using this
      clear hown6 hgr6 hat6
      have HO := Lib.hid hO
      have HF := Lib.hid hF
      have HN := Lib.hid hN
      have Hga := Lib.hid hga
      clear hO hF hN hga
      have c0 := hb7.cell (j := 0) rfl
      have c1 := hb7.cell (j := 1) rfl
      have c2 := hb7.cell (j := 2) rfl
      have f0 := hb7.frozen)
    all_goals (
      go_end0
      have hg8 : w6.grownBy (w6.setCell ⟨a, 1, none⟩ (.slice (some ⟨g6, 0, none⟩) (S.length + 1) cap6)) (some a) := ⟨rfl, rfl, rfl, by simp [World.setCell], fun k _ hk => Below.heap_setCell _ _ _ _ (fun e => hk (by rw [e]))⟩
      refine ⟨rfl, .slice (some ⟨g6, 0, none⟩) (S.length + 1) cap6, hb7.set 1 _, ?_, HF.out.trans (Fr.of_grown (F := Ft a (.slice A2 n2 z2)) hg8 (fun k hk => .inl (Option.some.inj hk).symm)) (fun _ h => .inl h), HN.out⟩
      rw [HS.out]
      exact HO.out.kept hg8 (.inr Hga.out))
end Go.Proofs.Ytheilnaommcjjaa
