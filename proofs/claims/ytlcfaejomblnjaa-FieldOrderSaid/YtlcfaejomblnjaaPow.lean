/-
  The walks over a byte's powers: the iterator hands on b^0, b^1, b^2 .. one behind the other, to whatever body, till the body leaves.
-/
import Derived.Test.YtlcfaejomblnjaaUntil
import Derived.Test.YtlcfaejomblnjaaBytes
import Derived.Shelf.RegionOpen
import Derived.OwnWalkIn
import Derived.TacticsInMore
import Derived.LoopNIn
import Derived.LoopIn
import Derived.Sort.LoopGhostIn
namespace Go.Proofs.Ytlcfaejomblnjaa
open Go.RowKit Go.Shelf
attribute [local go_sem] Oper.semAt_some

/-- the first m powers -/
def pows (b m : Nat) : List Nat := (List.range m).map (Nums.pow b)
theorem pows_snoc (b m : Nat) : pows b (m + 1) = pows b m ++ [Nums.pow b m] := by simp [pows, List.range_succ]
theorem pows_length (b m : Nat) : (pows b m).length = m := by simp [pows]

/-- 'Powers(b)': a closure over a box that holds b. -/
theorem powers_any (b : Nat) (w : World) :
    Calls Try.prog 23 #[.int .u8 b] w fun e w' => e = .returned (.func (.func 28) #[] #[.pointer (some ⟨w.heap.size, 0, none⟩)]) ∧ w' = w.alloc (.cells #[.int .u8 b] 5) := by
  have hmf : ∀ (fn : Fn) (first cap : Array Value) (w : World), (Instr.makeFunc fn first cap).run Try.prog w = .ok (.func fn first cap) w := fun _ _ _ _ => rfl
  go_enter Try.func23, Try.ntmps23
  go_wp2
  go_ret
  exact ⟨rfl, rfl⟩

set_option maxHeartbeats 1000000 in
theorem powers_endless (n : Nat) (hn : 1 ≤ n) (b : Nat) (hb : b < 256) (B : Nat) :
    Endless n Try.prog 28 #[.pointer (some ⟨B, 0, none⟩)] (fun x : Nat => #[.int .u8 x]) (fun pre => ∃ m, pre = pows b m) (fun W => Blk W B #[.int .u8 b] 5) (fun pre x => x = Nums.pow b pre.length) := by
  intro l N J Jx W hJ hY h0
  refine callsIn_of_wp Try.func28 rfl trivial ?_ rfl
  simp only [Try.ntmps28, List.size_toArray, List.length_cons, List.length_nil, Nat.reduceAdd, Nat.reduceSub, Array.replicate_succ, Array.replicate_zero, List.push_toArray, List.append_toArray, List.nil_append, List.cons_append]
  gi_wp2
  gi_loopg [3] N (fun k p wr => ∃ m : Nat, p = .int .u8 (Nums.pow b m : Nat) ∧ J (pows b m) wr ∧ k + m = N)
  case atStart => exact ⟨0, rfl, h0, rfl⟩
  case round =>
    obtain ⟨m, rfl, hJm, hk⟩ := hrel
    obtain ⟨fn, tmps, assign, body, hy, hR⟩ := hY _ (Nums.pow b m) _ hJm (by rw [pows_length])
    have hps := pows_snoc b m
    rw [← hps] at hR
    have hnext : Nums.mul (Nums.pow b m) b = Nums.pow b (m + 1) := rfl
    have HN := Lib.hid hnext
    have hpl := Nums.pow_lt b m
    have HK := Lib.hid hk
    clear hps hnext hk hJm h0
    generalize hpp : pows b (m + 1) = ps at *
    have HP := Lib.hid hpp
    clear hpp
    generalize hq : Nums.pow b m = q at *
    clear hq
    gi_wp2
    refine hR.mono ?_
    rintro e W' (⟨rfl, hJ'⟩ | ⟨rfl, hJx'⟩)
    · have hc : W'.cell? ⟨B, 0, none⟩ = some (.int .u8 b) := (hJ _ _ hJ').2.cell rfl
      have hlen := (hJ _ _ hJ').1
      rw [← HP.out, pows_length] at hlen
      have hk := HK.out
      gi_wp2
      refine ⟨trivial, (callsIn_wide.2 (mul_any q b hpl hb _)).mono ?_⟩
      rintro e W2 ⟨rfl, rfl⟩
      rw [HN.out]
      gi_wp2
      gi_roundg (gk - 1)
      case measure => omega
      case rel => exact ⟨m + 1, rfl, by rw [HP.out]; exact hJ', by omega⟩
    · gi_wp2
      go_end0
      exact ⟨⟨_, rfl⟩, ps, ⟨m + 1, HP.out.symm⟩, hJx'⟩

end Go.Proofs.Ytlcfaejomblnjaa
