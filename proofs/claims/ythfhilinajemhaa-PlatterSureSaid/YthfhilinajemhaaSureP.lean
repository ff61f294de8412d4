/-
  PlatterSure: for every two lists of bytes and every list of kept sectors the law returns true and leaves its arguments alone. No condition.
-/
import Derived.Test.YthfhilinajemhaaExample
import Derived.Test.YthfhilinajemhaaOpen3
import Derived.Test.YthfhilinajemhaaColl
import Derived.Test.YthfhilinajemhaaTally
import Derived.Test.YthfhilinajemhaaEqG
namespace Go.Proofs.Ythfhilinajemhaa
open Go.ChangeShapes Go.WideShapes Go.ChangeAt Go.RowKit
open Go.Maps (Keyed)
set_option linter.unusedVariables false

theorem RB.mono {w : World} {S S' : Nat} {A : Option Addr} {R : List Int} (h : RB w S A R) (hS : S ≤ S') : RB w S' A R := fun i x hx => by
  obtain ⟨ad, h1, h2, h3⟩ := h i x hx
  exact ⟨ad, h1, by omega, h3⟩
theorem cell_m {w0 w : World} {A : Option Addr} {c : Nat} {R : List Int} (hr : RB w0 w0.heap.size A R) (hb : Below w0.heap.size w0 w) : Calls Try.prog 23 #[.slice A R.length c] w fun e w' => e = .returned (.agg (cellOf R)) ∧ Below w.heap.size w w' :=
  cell_any A c R w ((hr.below hb).mono hb.size)
/-- the cells written, by sector -/
def cX (X : List BD) (i : Int) : Option (Array Value) := if 0 ≤ i then (X[i.toNat]?).map (fun e => cellOf e.z) else none
def sX (X : List BD) (i : Nat) : Array Value := ((X[i]?).map (fun e => cellOf e.z)).getD zc
theorem cX_nat (X : List BD) (i : Nat) : cX X (i : Int) = (X[i]?).map (fun e => cellOf e.z) := by
  unfold cX; rw [if_pos (by omega)]; simp
theorem cX_snoc {X : List BD} {k : Nat} {e : BD} (h : X[k]? = some e) (i : Int) : (if i = (k : Int) then some (cellOf e.z) else cX (X.take k) i) = cX (X.take (k + 1)) i := by
  by_cases h0 : 0 ≤ i
  · obtain ⟨j, rfl⟩ : ∃ j : Nat, i = j := ⟨i.toNat, by omega⟩
    rw [cX_nat, cX_nat]
    by_cases hj : j = k
    · subst hj
      rw [if_pos rfl, List.getElem?_take, if_pos (by omega), h]; rfl
    · rw [if_neg (by omega), List.getElem?_take, List.getElem?_take]
      by_cases h1 : j < k
      · rw [if_pos h1, if_pos (by omega)]
      · rw [if_neg h1, if_neg (by omega)]
  · rw [if_neg (by omega)]
    unfold cX
    rw [if_neg h0, if_neg h0]
theorem cX_nil (i : Int) : cX [] i = none := by unfold cX; split <;> simp
/-- the disk: X made sure, k of Y written, a steps made -/
def dS (n : Nat) (X Y : List BD) (a k : Nat) : Dk := { n := n, s := sX X, op := cX (Y.take k), k := 1, ct := fun _ => 0, ar := false, lf := -((a + k : Nat) : Int), dn := false, st := ((a + k : Nat) : Int) }
theorem dS_start (n : Nat) (Y : List BD) : dS n [] Y 0 0 = d0 n 1 := by
  unfold dS d0
  simp only [List.take_zero]
  have h1 : sX [] = fun _ => zc := by funext i; simp [sX]
  have h2 : cX [] = fun _ => none := by funext i; exact cX_nil i
  rw [h1, h2]; rfl
theorem dS_put {n : Nat} {X Y : List BD} {a k : Nat} {e : BD} (h : Y[k]? = some e) : (dS n X Y a k).stepped.put (k : Int) (cellOf e.z) = dS n X Y a (k + 1) := by
  unfold dS Dk.stepped Dk.put Dk.set
  simp only
  congr 1
  · funext i; exact cX_snoc h i
  · omega
theorem dS_room (n : Nat) (X Y : List BD) (a k : Nat) (h : a + k ≤ 1000) : (dS n X Y a k).room := room_of (a := ((a + k : Nat) : Int)) (b := -((a + k : Nat) : Int)) rfl rfl (by omega)
theorem dS_flush {n : Nat} {X Y : List BD} (hX : X.length ≤ n) : (dS n [] X 0 X.length).stepped.settled (inR 0 n) = dS n X Y (X.length + 1) 0 := by
  unfold Dk.settled
  have ho : setOp (dS n [] X 0 X.length).stepped (inR 0 n) = cX (Y.take 0) := by
    funext i
    rw [List.take_zero, cX_nil]
    unfold setOp inR
    split
    · rfl
    · rename_i h
      rw [decide_eq_true_iff] at h
      show cX (X.take X.length) i = none
      rw [List.take_length]
      unfold cX
      split
      · rw [List.getElem?_eq_none (by omega)]; rfl
      · rfl
  have hs : setS (dS n [] X 0 X.length).stepped (inR 0 n) = sX X := by
    funext i
    unfold setS inR
    show (if decide ((0 : Int) ≤ i ∧ (i : Int) < 0 + n) = true then (cX (X.take X.length) i).getD (sX [] i) else sX [] i) = sX X i
    rw [List.take_length, cX_nat]
    have h0 : sX [] i = zc := by simp [sX]
    rw [h0]
    split
    · rfl
    · rename_i h
      rw [decide_eq_true_iff] at h
      unfold sX
      rw [List.getElem?_eq_none (by omega)]; rfl
  rw [ho, hs]
  unfold dS Dk.stepped Dk.set
  simp only
  congr 1
  · omega
  · omega
theorem frow (w : World) (B : Nat) (cs : Array Value) : Fr (fun k => k = B) w (w.setRow B cs) := by
  have hb := below_setRow (Below.refl 0 w) (Nat.zero_le B) cs
  exact ⟨hb.os, hb.tape, hb.output, hb.size, fun k hk hn => Go.setRow_other w B k _ hn⟩
theorem read_v {S : Nat} {w0 w : World} {p m g gc : Nat} {d : Dk} {v : Array Value} (h : Mine S w0 w p m g gc d) (i : Int) (hi : 0 ≤ i ∧ i < d.n) (hd : d.dn = false) (hv : d.now i = v) : Calls Try.prog 20 #[.pointer (some ⟨p, 0, none⟩), .int .i64 i] w (LeftF S w0 w p m g gc (.tuple #[.agg v, .nilIface]) d) := by
  have := read_m h i hi hd
  rwa [hv] at this
def wantC (X Y : List BD) (K : List Int) (k : Nat) : Array Value := if (k : Int) ∈ K then ((Y[k]?).map (fun e => cellOf e.z)).getD (sX X k) else sX X k
theorem dS_now (n : Nat) (X Y : List BD) (a : Nat) (K : List Int) (k : Nat) : ((dS n X Y a Y.length).crashed K).now (k : Int) = wantC X Y K k := by
  show (setS (dS n X Y a Y.length) (fun i => decide (i ∈ K)) (k : Int).toNat) = _
  rw [Int.toNat_natCast]
  unfold setS wantC
  show (if decide ((k : Int) ∈ K) = true then (cX (Y.take Y.length) k).getD (sX X k) else sX X k) = _
  rw [List.take_length, cX_nat]
  by_cases h : (k : Int) ∈ K
  · rw [if_pos (decide_eq_true h), if_pos h]
  · rw [if_neg (by rw [decide_eq_true_iff]; exact h), if_neg h]
theorem keys_crashed (d : Dk) (K : List Int) : keysL (d.crashed K) = [] := by
  unfold keysL
  show List.map _ (List.filter (fun i => (none : Option (Array Value)).isSome) _) = []
  simp
/-- the world behind a new sector with c in it -/
theorem new_row {S : Nat} {w0 w : World} {p m g gc mw : Nat} {d : Dk} {f : Value → Option Value} (h : Mine S w0 w p m g gc d) (hm : MapF Try.prog 3 w mw f) (c : Array Value) :
    Mine S w0 ((w.alloc (.cells zc 45)).setRow w.heap.size c) p m g gc d ∧ MapF Try.prog 3 ((w.alloc (.cells zc 45)).setRow w.heap.size c) mw f ∧ Blk ((w.alloc (.cells zc 45)).setRow w.heap.size c) w.heap.size c 45 ∧ Below w.heap.size w ((w.alloc (.cells zc 45)).setRow w.heap.size c) := by
  have hbx : Below w.heap.size w ((w.alloc (.cells zc 45)).setRow w.heap.size c) := below_setRow ((Below.refl _ _).alloc (Nat.le_refl _) _) (Nat.le_refl _) _
  exact ⟨h.below hbx, hm.kept' (hbx.block mw hm.lt), Blk.setRow (Blk.new _ _ _) _, hbx⟩
theorem set_row {S : Nat} {w0 w : World} {p m g gc mw B : Nat} {d : Dk} {f : Value → Option Value} (h : Mine S w0 w p m g gc d) (hm : MapF Try.prog 3 w mw f) (hB : ¬ Dl p m g gc B) (hS : S ≤ B) (c0 c : Array Value) (hb : Blk w B c0 45) :
    Mine S w0 (w.setRow B c) p m g gc d ∧ MapF Try.prog 3 (w.setRow B c) mw f ∧ Blk (w.setRow B c) B c 45 :=
  ⟨h.keep (frow w B c) (fun k (hk : k = B) => ⟨by rw [hk]; exact hB, by rw [hk]; exact hS⟩), (frow w B c).map hm (fun e => hb.ne_map hm e.symm), hb.setRow c⟩
set_option maxHeartbeats 8000000 in
set_option maxRecDepth 20000 in
theorem sure_walk (A : Option Addr) (c : Nat) (X : List BD) (A1 : Option Addr) (c1 : Nat) (Y : List BD) (A2 : Option Addr) (c2 : Nat) (K : List Int) (hKm : K.length ≤ maxLen) (w : World) (hrX : RBB w w.heap.size A X) (hrY : RBB w w.heap.size A1 Y) (hrK : RI w w.heap.size A2 K) (hKo : ∀ z ∈ K, ok64 z) :
    Calls Try.prog 6 #[.slice A X.length c, .slice A1 Y.length c1, .slice A2 K.length c2] w fun e w' => e = .returned (.bool true) ∧ Below w.heap.size w w' := by
  obtain ⟨n, hn⟩ : ∃ n, n = max X.length Y.length := ⟨_, rfl⟩
  have hmax : max (X.length : Int) (Y.length : Int) = (n : Int) := by omega
  have HX := Lib.hid hrX
  have HY := Lib.hid hrY
  have HK := Lib.hid hrK
  have HKo := Lib.hid hKo
  have HKm := Lib.hid hKm
  have hXn : X.length ≤ n := by omega
  have hYn : Y.length ≤ n := by omega
  clear hrX hrY hrK hKo hn hKm
  by_cases h1 : (n : Int) < 1
  · go_enter Try.func6, Try.ntmps6
    go_wp2_with fail
    refine (alive_any w).mono ?_
    rintro e w1 ⟨rfl, hb1⟩
    go_wp2
    go_ret
    exact ⟨rfl, hb1⟩
  by_cases h2 : (100 : Int) < (n : Int)
  · go_enter Try.func6, Try.ntmps6
    go_wp2_with fail
    refine (alive_any w).mono ?_
    rintro e w1 ⟨rfl, hb1⟩
    go_wp2
    go_ret
    exact ⟨rfl, hb1⟩
  by_cases h3 : (300 : Int) < (K.length : Int)
  · go_enter Try.func6, Try.ntmps6
    go_wp2_with fail
    refine (alive_any w).mono ?_
    rintro e w1 ⟨rfl, hb1⟩
    go_wp2
    go_ret
    exact ⟨rfl, hb1⟩
  have hmm := @run_makeMap Try.prog
  have hz := zc_zero
  have hs := zc_size
  have hne := zc_ne
  have hz3 : ∀ w, (zeroValue 3).run Try.prog w = .ok (.int .i64 0) w := fun w => by kernel_rfl
  go_enter Try.func6, Try.ntmps6
  go_wp2_with fail
  refine (alive_any w).mono ?_
  rintro e w1 ⟨rfl, hb1⟩
  go_wp2_with fail
  refine (new_m n 1 (by omega) (by omega) hb1 hb1.size).mono ?_
  rintro e w2 ⟨p, m, g, gc, rfl, M0, hb2, hd2⟩
  rw [← dS_start n X] at M0
  have M1 := Lib.hid M0
  clear hb2 hd2 hb1 M0
  go_wp2_with fail
  go_loopw [48] (fun i wr => ∃ (k : Nat), k ≤ X.length ∧ i = .int .i64 k ∧ Hid (Mine w.heap.size w wr p m g gc (dS n [] X 0 k))) (fun i _ => X.length - (Lib.intOf i).toNat)
  case atStart => exact ⟨0, Nat.zero_le _, rfl, M1⟩
  case round =>
    obtain ⟨k, hk, rfl, hI⟩ := hrel
    by_cases hlt : k < X.length
    · obtain ⟨⟨ad, hA, hS, hcell0⟩, hb0⟩ := HX.out k X[k] (List.getElem?_eq_getElem hlt)
      have hput := Lib.hid (dS_put (n := n) (X := []) (a := 0) (List.getElem?_eq_getElem hlt))
      subst hA
      have hcell : wr.cell? (ad.add k) = some (.slice X[k].a X[k].z.length X[k].c) := (hI.out.bel.cell (p := ad.add k) (by rw [addr_add_block]; exact hS)).trans hcell0
      have HB0 := Lib.hid hb0
      have hrm := Lib.hid (dS_room n [] X 0 k (by omega))
      have hkn : (k : Int) < (n : Int) := by omega
      have hk0 : (0 : Int) ≤ (k : Int) := by omega
      clear hcell0 hS hb0
      generalize X[k] = e0 at *
      obtain ⟨ea, ec, ez⟩ := e0
      go_wp2_with (first
        | (go_at_call 23; refine (cell_m HB0.out hI.out.bel).mono ?_; rintro e w4 ⟨rfl, hb4⟩; have M4 := Lib.hid (hI.out.below hb4); clear hb4)
        | (go_at_call 18; refine (write_m M4.out (k : Int) (cellOf ez) (Cel.of ez) ⟨hk0, hkn⟩ (off_of rfl rfl) hrm.out).mono ?_; rintro e w5 ⟨rfl, M5, _⟩; have HM5 := Lib.hid M5; clear M5)
        | fail)
      go_roundw
      case rel => exact ⟨k + 1, by omega, by go_num, by rw [← hput.out]; exact HM5⟩
      case measure => simp [Lib.intOf]; omega
    · obtain rfl : k = X.length := by omega
      have hkey : ∀ k, Dl p m g gc k → k < wr.heap.size := fun k hk => hI.out.disk.lt hk
      have hrm := Lib.hid (dS_room n [] X 0 X.length (by omega))
      have F : Calls Try.prog 19 #[.pointer (some ⟨p, 0, none⟩), .int .i64 0, .int .i64 n] wr (LeftF w.heap.size w wr p m g gc .nilIface (dS n X Y (X.length + 1) 0)) := by
        rw [← dS_flush (Y := Y) hXn]
        exact flush_m hI.out 0 n ⟨by omega, by omega⟩ ⟨by omega, by omega⟩ ⟨by omega, by omega, by show (n : Int) ≤ (n : Int) - 0; omega⟩ (off_of rfl rfl) hrm.out
      have HF := Lib.hid F
      clear F M1 hkey
      go_wp2_with (first
        | (go_at_call 19; refine HF.out.mono ?_; rintro e w5 ⟨rfl, M5, hf5⟩; have HM5 := Lib.hid M5; clear M5 hf5)
        | fail)
      have M6 := Lib.hid (HM5.out.below ((Below.refl _ _).alloc (Nat.le_refl _) (.map #[] 0)))
      have C6 : Hid (MapF Try.prog 3 (w5.alloc (.map #[] 0)) w5.heap.size (cntF [])) := by rw [cntF_nil]; exact MapF.made w5
      have hnm : ¬ Dl p m g gc w5.heap.size := fun h => Nat.lt_irrefl _ (HM5.out.disk.lt h)
      have hlo : w.heap.size ≤ w5.heap.size := HM5.out.siz
      clear HM5 HF hI
      generalize w5.alloc (.map #[] 0) = w6 at *
      obtain ⟨mw, hmw⟩ : ∃ mw, mw = w5.heap.size := ⟨_, rfl⟩
      rw [← hmw] at C6 hnm hlo ⊢
      clear hmw
      go_loopw [67] (fun i wr => ∃ (k : Nat), k ≤ K.length ∧ i = .int .i64 k ∧ Hid (Mine w.heap.size w wr p m g gc (dS n X Y (X.length + 1) 0)) ∧ Hid (MapF Try.prog 3 wr mw (cntF (K.take k)))) (fun i _ => K.length - (Lib.intOf i).toNat)
      case atStart => exact ⟨0, Nat.zero_le _, rfl, M6, C6⟩
      case round =>
        obtain ⟨k, hk2, rfl, hI, hC⟩ := hrel
        by_cases hlt2 : k < K.length
        · obtain ⟨ad, hA, hS, hcell0⟩ := HK.out k K[k] (List.getElem?_eq_getElem hlt2)
          have hsn : K.take (k + 1) = K.take k ++ [K[k]] := by rw [List.take_add_one, List.getElem?_eq_getElem hlt2]; rfl
          have HSN := Lib.hid hsn
          have hy := HKo.out K[k] (List.getElem_mem hlt2)
          subst hA
          have hcell : wr.cell? (ad.add k) = some (.int .i64 K[k]) := (hI.out.bel.cell (p := ad.add k) (by rw [addr_add_block]; exact hS)).trans hcell0
          have hcl : (K.take k).count K[k] ≤ (K.take k).length := List.count_le_length
          have hl : (K.take k).length ≤ k := List.length_take_le _ _
          have hlk := cnt_look hC.out K[k] hy
          obtain ⟨w7, hup, hm7, hf7⟩ := cnt_up hC.out K[k] hy
          have M7 := Lib.hid (hI.out.keep hf7 (fun k (hk : k = mw) => ⟨by rw [hk]; exact hnm, by rw [hk]; exact hlo⟩))
          have HM7 := Lib.hid hm7
          have hc0 : (0 : Int) ≤ ((K.take k).count K[k] : Nat) := by omega
          have hc1 : (((K.take k).count K[k] : Nat) : Int) ≤ 300 := by omega
          clear hcell0 hS hsn hy hm7 hf7 hC hI hcl
          generalize (K.take k).count K[k] = cy at *
          generalize K[k] = y at *
          go_wp2
          go_roundw
          case rel => exact ⟨k + 1, by omega, by go_num, M7, by rw [HSN.out]; exact HM7⟩
          case measure => simp [Lib.intOf]; omega
        · obtain rfl : k = K.length := by omega
          rw [List.take_length] at hC
          clear M6 C6
          go_wp2_with fail
          go_loopw [78] (fun i wr => ∃ (k : Nat), k ≤ Y.length ∧ i = .int .i64 k ∧ Hid (Mine w.heap.size w wr p m g gc (dS n X Y (X.length + 1) k)) ∧ Hid (MapF Try.prog 3 wr mw (cntF K))) (fun i _ => Y.length - (Lib.intOf i).toNat)
          case atStart => exact ⟨0, Nat.zero_le _, rfl, hI, hC⟩
          case round =>
            clear hI hC
            obtain ⟨k, hk3, rfl, hI, hC⟩ := hrel
            by_cases hlt3 : k < Y.length
            · obtain ⟨⟨ad, hA, hS, hcell0⟩, hb0⟩ := HY.out k Y[k] (List.getElem?_eq_getElem hlt3)
              have hput := Lib.hid (dS_put (n := n) (X := X) (a := X.length + 1) (List.getElem?_eq_getElem hlt3))
              subst hA
              have hcell : wr.cell? (ad.add k) = some (.slice Y[k].a Y[k].z.length Y[k].c) := (hI.out.bel.cell (p := ad.add k) (by rw [addr_add_block]; exact hS)).trans hcell0
              have HB0 := Lib.hid hb0
              have hrm := Lib.hid (dS_room n X Y (X.length + 1) k (by omega))
              have hkn : (k : Int) < (n : Int) := by omega
              have hk0 : (0 : Int) ≤ (k : Int) := by omega
              clear hcell0 hS hb0
              generalize Y[k] = e0 at *
              obtain ⟨ea, ec, ez⟩ := e0
              go_wp2_with (first
                | (go_at_call 23; refine (cell_m HB0.out hI.out.bel).mono ?_; rintro e w8 ⟨rfl, hb8⟩; have M8 := Lib.hid (hI.out.below hb8); have C8 := Lib.hid (hC.out.kept' (hb8.block mw hC.out.lt)); clear hb8)
                | (go_at_call 18; refine (write_m M8.out (k : Int) (cellOf ez) (Cel.of ez) ⟨hk0, hkn⟩ (off_of rfl rfl) hrm.out).mono ?_; rintro e w9 ⟨rfl, M9, hf9⟩; have HM9 := Lib.hid M9; have C9 := Lib.hid (hf9.map C8.out hnm); clear M9 hf9)
                | fail)
              go_roundw
              case rel => exact ⟨k + 1, by omega, by go_num, by rw [← hput.out]; exact HM9, C9⟩
              case measure => simp [Lib.intOf]; omega
            · obtain rfl : k = Y.length := by omega
              have CR := Lib.hid (crash_m hI.out A2 c2 K HKm.out w.heap.size hI.out.siz (HK.out.below hI.out.bel) (fun ad h hlt hd => absurd (hI.out.own _ hd) (Nat.not_le_of_lt hlt)))
              go_wp2_with (first
                | (go_at_call 15; refine CR.out.mono ?_; rintro e w8 ⟨rfl, M8, hf8⟩; have HM8 := Lib.hid M8; have C8 := Lib.hid (hf8.map hC.out hnm); clear M8 hf8)
                | fail)
              go_loopw [94] (fun i wr => ∃ (k : Nat), k ≤ n ∧ i = .int .i64 k ∧ Hid (Mine w.heap.size w wr p m g gc ((dS n X Y (X.length + 1) Y.length).crashed K)) ∧ Hid (MapF Try.prog 3 wr mw (cntF K))) (fun i _ => n - (Lib.intOf i).toNat)
              case atStart => exact ⟨0, Nat.zero_le _, rfl, HM8, C8⟩
              case round =>
                clear hI hC
                obtain ⟨k, hk4, rfl, hI, hC⟩ := hrel
                by_cases hlt4 : k < n
                · have hkn : (k : Int) < (n : Int) := by omega
                  have hk0 : (0 : Int) ≤ (k : Int) := by omega
                  have hok : ok64 (k : Int) := ⟨by omega, by omega⟩
                  have T0 := Lib.hid (Blk.new wr zc 45)
                  have R1 := new_row hI.out hC.out zc
                  have M1 := Lib.hid R1.1
                  have C1 := Lib.hid R1.2.1
                  have Y1 := Lib.hid R1.2.2.1
                  have hlk1 := cnt_look R1.2.1 (k : Int) hok
                  have hnb : ¬ Dl p m g gc wr.heap.size := fun h => Nat.lt_irrefl _ (hI.out.disk.lt h)
                  have hlb : w.heap.size ≤ wr.heap.size := hI.out.siz
                  clear R1 HM8 C8 hI hC CR
                  by_cases hXk : (k : Int) < (X.length : Int)
                  · have hXs : X[k]? = some X[k] := List.getElem?_eq_getElem (by omega)
                    obtain ⟨⟨adX, hAX, hSX, hcellX0⟩, hbX⟩ := HX.out k X[k] hXs
                    subst hAX
                    have hsx : sX X k = cellOf X[k].z := by unfold sX; rw [hXs]; rfl
                    have hcellX : ((wr.alloc (.cells zc 45)).setRow wr.heap.size zc).cell? (adX.add k) = some (.slice X[k].a X[k].z.length X[k].c) := (M1.out.bel.cell (p := adX.add k) (by rw [addr_add_block]; exact hSX)).trans hcellX0
                    have HBX := Lib.hid hbX
                    clear hcellX0 hbX hXs hSX
                    generalize X[k] = e0 at *
                    obtain ⟨xa, xc, xz⟩ := e0
                    change sX X k = cellOf xz at hsx
                    by_cases hY : (k : Int) < (Y.length : Int)
                    · have hYk : Y[k]? = some Y[k] := List.getElem?_eq_getElem (by omega)
                      by_cases hcp : 0 < K.count (k : Int)
                      · obtain ⟨⟨adY, hAY, hSY, hcellY0⟩, hbY⟩ := HY.out k Y[k] hYk
                        subst hAY
                        have HNOW := Lib.hid (show ((dS n X Y (X.length + 1) Y.length).crashed K).now (k : Int) = cellOf Y[k].z by rw [dS_now]; unfold wantC; rw [if_pos (List.count_pos_iff.1 hcp), hYk]; rfl)
                        have HCY := Lib.hid hcellY0
                        have HBY := Lib.hid hbY
                        have hcpi : (0 : Int) < ((K.count (k : Int) : Nat) : Int) := by omega
                        have HSY := Lib.hid hSY
                        clear hcellY0 hbY hYk hsx hSY
                        generalize Y[k] = e1 at *
                        obtain ⟨ya, yc, yz⟩ := e1
                        have hcellY : ∀ W, Below w.heap.size w W → W.cell? (adY.add k) = some (.slice ya yz.length yc) := fun W hb => (hb.cell (p := adY.add k) (by rw [addr_add_block]; exact HSY.out)).trans HCY.out
                        have HCELLY := Lib.hid hcellY
                        clear hcellY
                        have hcy1 := HCELLY.out _ M1.out.bel
                        go_wp2_with (first
                          | ((with_reducible refine at_st 45 _ _ rfl ?_); refine store_cW rfl _ _ rfl wr.heap.size zc rfl rfl zc T0.out zc_size zc_size (Cel.zero).all ?_; clear T0)
                          | (go_at_call 23; refine (cell_m HBX.out M1.out.bel).mono ?_; rintro e v2 ⟨rfl, hb2⟩; have TX := Lib.hid (Y1.out.below hb2 Y1.out.lt); have R3 := set_row (M1.out.below hb2) (C1.out.kept' (hb2.block mw C1.out.lt)) hnb hlb zc (cellOf xz) TX.out; have M3 := Lib.hid R3.1; have C3 := Lib.hid R3.2.1; have Y3 := Lib.hid R3.2.2; have hlk3 := cnt_look R3.2.1 (k : Int) hok; have hcy3 := HCELLY.out _ M3.out.bel; clear HBX R3 hb2)
                          | ((with_reducible refine at_st 45 _ _ rfl ?_); refine store_cW rfl _ _ rfl wr.heap.size (cellOf xz) rfl rfl zc TX.out zc_size (Cel.of xz).size (Cel.of xz).all ?_; clear TX)
                          | (go_at_call 23; refine (cell_m HBY.out M3.out.bel).mono ?_; rintro e v4 ⟨rfl, hb4⟩; have TY := Lib.hid (Y3.out.below hb4 Y3.out.lt); have R5 := set_row (M3.out.below hb4) (C3.out.kept' (hb4.block mw C3.out.lt)) hnb hlb (cellOf xz) (cellOf yz) TY.out; have M5 := Lib.hid R5.1; have C5 := Lib.hid R5.2.1; have Y5 := Lib.hid R5.2.2; clear HBY R5 hb4)
                          | ((with_reducible refine at_st 45 _ _ rfl ?_); refine store_cW rfl _ _ rfl wr.heap.size (cellOf yz) rfl rfl (cellOf xz) TY.out (Cel.of xz).size (Cel.of yz).size (Cel.of yz).all ?_; clear TY)
                          | (go_at_call 20; refine (read_v M5.out (k : Int) ⟨hk0, hkn⟩ rfl HNOW.out).mono ?_; rintro e v6 ⟨rfl, M6, hf6⟩; have TR := Lib.hid (Blk.new v6 zc 45); have R9 := new_row M6 (hf6.map C5.out hnm) (cellOf yz); have Y18 := Lib.hid ((hf6.blk Y5.out hnb).below R9.2.2.2 (hf6.blk Y5.out hnb).lt); have M9 := Lib.hid R9.1; have C9 := Lib.hid R9.2.1; have Y9 := Lib.hid R9.2.2.1; clear R9 M6 hf6)
                          | ((with_reducible refine at_st 45 _ _ rfl ?_); refine store_cW rfl _ _ rfl v6.heap.size (cellOf yz) rfl rfl zc TR.out zc_size (Cel.of yz).size (Cel.of yz).all ?_; clear TR)
                          | ((with_reducible refine at_ld 45 (.tmp 19) rfl ?_); refine loadG (by kernel_rfl) (.tmp 19) rfl v6.heap.size rfl (cellOf yz) (Cel.of yz).size Y9.out ?_)
                          | ((with_reducible refine at_ld 45 (.tmp 18) rfl ?_); refine loadG (by kernel_rfl) (.tmp 18) rfl wr.heap.size rfl (cellOf yz) (Cel.of yz).size Y18.out ?_)
                          | ((with_reducible refine at_neq (.tmp 131) (.tmp 132) rfl ?_); refine neqG (by kernel_rfl) (.tmp 131) (.tmp 132) rfl (cellOf yz) (cellOf yz) rfl rfl true (cel_same (Cel.of yz) _) ?_)
                          | fail)
                        go_roundw
                        case rel => exact ⟨k + 1, by omega, by go_num, M9, C9⟩
                        case measure => simp [Lib.intOf]; omega
                      · have hc0 : K.count (k : Int) = 0 := by omega
                        have HNOW := Lib.hid (show ((dS n X Y (X.length + 1) Y.length).crashed K).now (k : Int) = cellOf xz by rw [dS_now]; unfold wantC; rw [if_neg (List.count_eq_zero.1 hc0)]; exact hsx)
                        rw [hc0] at hlk1
                        have HC0 := Lib.hid hc0
                        clear hYk hsx hcp hc0
                        go_wp2_with (first
                          | ((with_reducible refine at_st 45 _ _ rfl ?_); refine store_cW rfl _ _ rfl wr.heap.size zc rfl rfl zc T0.out zc_size zc_size (Cel.zero).all ?_; clear T0)
                          | (go_at_call 23; refine (cell_m HBX.out M1.out.bel).mono ?_; rintro e v2 ⟨rfl, hb2⟩; have TX := Lib.hid (Y1.out.below hb2 Y1.out.lt); have R3 := set_row (M1.out.below hb2) (C1.out.kept' (hb2.block mw C1.out.lt)) hnb hlb zc (cellOf xz) TX.out; have M3 := Lib.hid R3.1; have C3 := Lib.hid R3.2.1; have Y3 := Lib.hid R3.2.2; have hlk3 := cnt_look R3.2.1 (k : Int) hok; rw [HC0.out] at hlk3; clear HBX R3 hb2)
                          | ((with_reducible refine at_st 45 _ _ rfl ?_); refine store_cW rfl _ _ rfl wr.heap.size (cellOf xz) rfl rfl zc TX.out zc_size (Cel.of xz).size (Cel.of xz).all ?_; clear TX)
                          | (go_at_call 20; refine (read_v M3.out (k : Int) ⟨hk0, hkn⟩ rfl HNOW.out).mono ?_; rintro e v6 ⟨rfl, M6, hf6⟩; have TR := Lib.hid (Blk.new v6 zc 45); have R9 := new_row M6 (hf6.map C3.out hnm) (cellOf xz); have Y18 := Lib.hid ((hf6.blk Y3.out hnb).below R9.2.2.2 (hf6.blk Y3.out hnb).lt); have M9 := Lib.hid R9.1; have C9 := Lib.hid R9.2.1; have Y9 := Lib.hid R9.2.2.1; clear R9 M6 hf6)
                          | ((with_reducible refine at_st 45 _ _ rfl ?_); refine store_cW rfl _ _ rfl v6.heap.size (cellOf xz) rfl rfl zc TR.out zc_size (Cel.of xz).size (Cel.of xz).all ?_; clear TR)
                          | ((with_reducible refine at_ld 45 (.tmp 19) rfl ?_); refine loadG (by kernel_rfl) (.tmp 19) rfl v6.heap.size rfl (cellOf xz) (Cel.of xz).size Y9.out ?_)
                          | ((with_reducible refine at_ld 45 (.tmp 18) rfl ?_); refine loadG (by kernel_rfl) (.tmp 18) rfl wr.heap.size rfl (cellOf xz) (Cel.of xz).size Y18.out ?_)
                          | ((with_reducible refine at_neq (.tmp 131) (.tmp 132) rfl ?_); refine neqG (by kernel_rfl) (.tmp 131) (.tmp 132) rfl (cellOf xz) (cellOf xz) rfl rfl true (cel_same (Cel.of xz) _) ?_)
                          | fail)
                        go_roundw
                        case rel => exact ⟨k + 1, by omega, by go_num, M9, C9⟩
                        case measure => simp [Lib.intOf]; omega
                    · have hYk : Y[k]? = none := List.getElem?_eq_none (by omega)
                      have HNOW := Lib.hid (show ((dS n X Y (X.length + 1) Y.length).crashed K).now (k : Int) = cellOf xz by rw [dS_now]; unfold wantC; rw [hYk]; split <;> exact hsx)
                      clear hYk hsx
                      go_wp2_with (first
                        | ((with_reducible refine at_st 45 _ _ rfl ?_); refine store_cW rfl _ _ rfl wr.heap.size zc rfl rfl zc T0.out zc_size zc_size (Cel.zero).all ?_; clear T0)
                        | (go_at_call 23; refine (cell_m HBX.out M1.out.bel).mono ?_; rintro e v2 ⟨rfl, hb2⟩; have TX := Lib.hid (Y1.out.below hb2 Y1.out.lt); have R3 := set_row (M1.out.below hb2) (C1.out.kept' (hb2.block mw C1.out.lt)) hnb hlb zc (cellOf xz) TX.out; have M3 := Lib.hid R3.1; have C3 := Lib.hid R3.2.1; have Y3 := Lib.hid R3.2.2; have hlk3 := cnt_look R3.2.1 (k : Int) hok; clear HBX R3 hb2)
                        | ((with_reducible refine at_st 45 _ _ rfl ?_); refine store_cW rfl _ _ rfl wr.heap.size (cellOf xz) rfl rfl zc TX.out zc_size (Cel.of xz).size (Cel.of xz).all ?_; clear TX)
                        | (go_at_call 20; refine (read_v M3.out (k : Int) ⟨hk0, hkn⟩ rfl HNOW.out).mono ?_; rintro e v6 ⟨rfl, M6, hf6⟩; have TR := Lib.hid (Blk.new v6 zc 45); have R9 := new_row M6 (hf6.map C3.out hnm) (cellOf xz); have Y18 := Lib.hid ((hf6.blk Y3.out hnb).below R9.2.2.2 (hf6.blk Y3.out hnb).lt); have M9 := Lib.hid R9.1; have C9 := Lib.hid R9.2.1; have Y9 := Lib.hid R9.2.2.1; clear R9 M6 hf6)
                        | ((with_reducible refine at_st 45 _ _ rfl ?_); refine store_cW rfl _ _ rfl v6.heap.size (cellOf xz) rfl rfl zc TR.out zc_size (Cel.of xz).size (Cel.of xz).all ?_; clear TR)
                        | ((with_reducible refine at_ld 45 (.tmp 19) rfl ?_); refine loadG (by kernel_rfl) (.tmp 19) rfl v6.heap.size rfl (cellOf xz) (Cel.of xz).size Y9.out ?_)
                        | ((with_reducible refine at_ld 45 (.tmp 18) rfl ?_); refine loadG (by kernel_rfl) (.tmp 18) rfl wr.heap.size rfl (cellOf xz) (Cel.of xz).size Y18.out ?_)
                        | ((with_reducible refine at_neq (.tmp 131) (.tmp 132) rfl ?_); refine neqG (by kernel_rfl) (.tmp 131) (.tmp 132) rfl (cellOf xz) (cellOf xz) rfl rfl true (cel_same (Cel.of xz) _) ?_)
                        | fail)
                      go_roundw
                      case rel => exact ⟨k + 1, by omega, by go_num, M9, C9⟩
                      case measure => simp [Lib.intOf]; omega
                  · have hsx : sX X k = zc := by unfold sX; rw [List.getElem?_eq_none (by omega)]; rfl
                    by_cases hY : (k : Int) < (Y.length : Int)
                    · have hYk : Y[k]? = some Y[k] := List.getElem?_eq_getElem (by omega)
                      by_cases hcp : 0 < K.count (k : Int)
                      · obtain ⟨⟨adY, hAY, hSY, hcellY0⟩, hbY⟩ := HY.out k Y[k] hYk
                        subst hAY
                        have HNOW := Lib.hid (show ((dS n X Y (X.length + 1) Y.length).crashed K).now (k : Int) = cellOf Y[k].z by rw [dS_now]; unfold wantC; rw [if_pos (List.count_pos_iff.1 hcp), hYk]; rfl)
                        have HCY := Lib.hid hcellY0
                        have HBY := Lib.hid hbY
                        have hcpi : (0 : Int) < ((K.count (k : Int) : Nat) : Int) := by omega
                        have HSY := Lib.hid hSY
                        clear hcellY0 hbY hYk hsx hSY
                        generalize Y[k] = e1 at *
                        obtain ⟨ya, yc, yz⟩ := e1
                        have hcellY : ∀ W, Below w.heap.size w W → W.cell? (adY.add k) = some (.slice ya yz.length yc) := fun W hb => (hb.cell (p := adY.add k) (by rw [addr_add_block]; exact HSY.out)).trans HCY.out
                        have HCELLY := Lib.hid hcellY
                        clear hcellY
                        have hcy1 := HCELLY.out _ M1.out.bel
                        go_wp2_with (first
                          | ((with_reducible refine at_st 45 _ _ rfl ?_); refine store_cW rfl _ _ rfl wr.heap.size zc rfl rfl zc T0.out zc_size zc_size (Cel.zero).all ?_; clear T0)
                          | (go_at_call 23; refine (cell_m HBY.out M1.out.bel).mono ?_; rintro e v4 ⟨rfl, hb4⟩; have TY := Lib.hid (Y1.out.below hb4 Y1.out.lt); have R5 := set_row (M1.out.below hb4) (C1.out.kept' (hb4.block mw C1.out.lt)) hnb hlb zc (cellOf yz) TY.out; have M5 := Lib.hid R5.1; have C5 := Lib.hid R5.2.1; have Y5 := Lib.hid R5.2.2; clear HBY R5 hb4)
                          | ((with_reducible refine at_st 45 _ _ rfl ?_); refine store_cW rfl _ _ rfl wr.heap.size (cellOf yz) rfl rfl zc TY.out Cel.zero.size (Cel.of yz).size (Cel.of yz).all ?_; clear TY)
                          | (go_at_call 20; refine (read_v M5.out (k : Int) ⟨hk0, hkn⟩ rfl HNOW.out).mono ?_; rintro e v6 ⟨rfl, M6, hf6⟩; have TR := Lib.hid (Blk.new v6 zc 45); have R9 := new_row M6 (hf6.map C5.out hnm) (cellOf yz); have Y18 := Lib.hid ((hf6.blk Y5.out hnb).below R9.2.2.2 (hf6.blk Y5.out hnb).lt); have M9 := Lib.hid R9.1; have C9 := Lib.hid R9.2.1; have Y9 := Lib.hid R9.2.2.1; clear R9 M6 hf6)
                          | ((with_reducible refine at_st 45 _ _ rfl ?_); refine store_cW rfl _ _ rfl v6.heap.size (cellOf yz) rfl rfl zc TR.out zc_size (Cel.of yz).size (Cel.of yz).all ?_; clear TR)
                          | ((with_reducible refine at_ld 45 (.tmp 19) rfl ?_); refine loadG (by kernel_rfl) (.tmp 19) rfl v6.heap.size rfl (cellOf yz) (Cel.of yz).size Y9.out ?_)
                          | ((with_reducible refine at_ld 45 (.tmp 18) rfl ?_); refine loadG (by kernel_rfl) (.tmp 18) rfl wr.heap.size rfl (cellOf yz) (Cel.of yz).size Y18.out ?_)
                          | ((with_reducible refine at_neq (.tmp 131) (.tmp 132) rfl ?_); refine neqG (by kernel_rfl) (.tmp 131) (.tmp 132) rfl (cellOf yz) (cellOf yz) rfl rfl true (cel_same (Cel.of yz) _) ?_)
                          | fail)
                        go_roundw
                        case rel => exact ⟨k + 1, by omega, by go_num, M9, C9⟩
                        case measure => simp [Lib.intOf]; omega
                      · have hc0 : K.count (k : Int) = 0 := by omega
                        have HNOW := Lib.hid (show ((dS n X Y (X.length + 1) Y.length).crashed K).now (k : Int) = zc by rw [dS_now]; unfold wantC; rw [if_neg (List.count_eq_zero.1 hc0)]; exact hsx)
                        rw [hc0] at hlk1
                        have HC0 := Lib.hid hc0
                        clear hYk hsx hcp hc0
                        go_wp2_with (first
                          | ((with_reducible refine at_st 45 _ _ rfl ?_); refine store_cW rfl _ _ rfl wr.heap.size zc rfl rfl zc T0.out zc_size zc_size (Cel.zero).all ?_; clear T0)
                          | (go_at_call 20; refine (read_v M1.out (k : Int) ⟨hk0, hkn⟩ rfl HNOW.out).mono ?_; rintro e v6 ⟨rfl, M6, hf6⟩; have TR := Lib.hid (Blk.new v6 zc 45); have R9 := new_row M6 (hf6.map C1.out hnm) zc; have Y18 := Lib.hid ((hf6.blk Y1.out hnb).below R9.2.2.2 (hf6.blk Y1.out hnb).lt); have M9 := Lib.hid R9.1; have C9 := Lib.hid R9.2.1; have Y9 := Lib.hid R9.2.2.1; clear R9 M6 hf6)
                          | ((with_reducible refine at_st 45 _ _ rfl ?_); refine store_cW rfl _ _ rfl v6.heap.size zc rfl rfl zc TR.out zc_size Cel.zero.size Cel.zero.all ?_; clear TR)
                          | ((with_reducible refine at_ld 45 (.tmp 19) rfl ?_); refine loadG (by kernel_rfl) (.tmp 19) rfl v6.heap.size rfl zc Cel.zero.size Y9.out ?_)
                          | ((with_reducible refine at_ld 45 (.tmp 18) rfl ?_); refine loadG (by kernel_rfl) (.tmp 18) rfl wr.heap.size rfl zc Cel.zero.size Y18.out ?_)
                          | ((with_reducible refine at_neq (.tmp 131) (.tmp 132) rfl ?_); refine neqG (by kernel_rfl) (.tmp 131) (.tmp 132) rfl zc zc rfl rfl true (cel_same Cel.zero _) ?_)
                          | fail)
                        go_roundw
                        case rel => exact ⟨k + 1, by omega, by go_num, M9, C9⟩
                        case measure => simp [Lib.intOf]; omega
                    · have hYk : Y[k]? = none := List.getElem?_eq_none (by omega)
                      have HNOW := Lib.hid (show ((dS n X Y (X.length + 1) Y.length).crashed K).now (k : Int) = zc by rw [dS_now]; unfold wantC; rw [hYk]; split <;> exact hsx)
                      clear hYk hsx
                      go_wp2_with (first
                        | ((with_reducible refine at_st 45 _ _ rfl ?_); refine store_cW rfl _ _ rfl wr.heap.size zc rfl rfl zc T0.out zc_size zc_size (Cel.zero).all ?_; clear T0)
                        | (go_at_call 20; refine (read_v M1.out (k : Int) ⟨hk0, hkn⟩ rfl HNOW.out).mono ?_; rintro e v6 ⟨rfl, M6, hf6⟩; have TR := Lib.hid (Blk.new v6 zc 45); have R9 := new_row M6 (hf6.map C1.out hnm) zc; have Y18 := Lib.hid ((hf6.blk Y1.out hnb).below R9.2.2.2 (hf6.blk Y1.out hnb).lt); have M9 := Lib.hid R9.1; have C9 := Lib.hid R9.2.1; have Y9 := Lib.hid R9.2.2.1; clear R9 M6 hf6)
                        | ((with_reducible refine at_st 45 _ _ rfl ?_); refine store_cW rfl _ _ rfl v6.heap.size zc rfl rfl zc TR.out zc_size Cel.zero.size Cel.zero.all ?_; clear TR)
                        | ((with_reducible refine at_ld 45 (.tmp 19) rfl ?_); refine loadG (by kernel_rfl) (.tmp 19) rfl v6.heap.size rfl zc Cel.zero.size Y9.out ?_)
                        | ((with_reducible refine at_ld 45 (.tmp 18) rfl ?_); refine loadG (by kernel_rfl) (.tmp 18) rfl wr.heap.size rfl zc Cel.zero.size Y18.out ?_)
                        | ((with_reducible refine at_neq (.tmp 131) (.tmp 132) rfl ?_); refine neqG (by kernel_rfl) (.tmp 131) (.tmp 132) rfl zc zc rfl rfl true (cel_same Cel.zero _) ?_)
                        | fail)
                      go_roundw
                      case rel => exact ⟨k + 1, by omega, by go_num, M9, C9⟩
                      case measure => simp [Lib.intOf]; omega
                · obtain rfl : k = n := by omega
                  have CO : Calls Try.prog 24 #[.pointer (some ⟨p, 0, none⟩), .int .i64 9] wr (OpenOut wr []) := by
                    have := opened_m hI.out.disk 9 (by omega)
                    rw [keys_crashed, List.take_nil] at this
                    exact this
                  have HCO := Lib.hid CO
                  have HB := Lib.hid hI.out.bel
                  clear CO HM8 C8 CR
                  go_wp2_with fail
                  refine HCO.out.mono ?_
                  rintro e w9 ⟨A9, c9, rfl, _, hb9⟩
                  rw [List.length_nil]
                  have HB9 := Lib.hid (HB.out.trans (hb9.mono HB.out.size))
                  clear hb9 HCO HB
                  go_wp2
                  go_ret
                  exact ⟨rfl, HB9.out⟩
theorem platterSure_walk (A : Option Addr) (n c : Nat) (X : List BD) (hX : X.length = n) (w : World) (hrX : RBB w w.heap.size A X) (A1 : Option Addr) (n1 c1 : Nat) (Y : List BD) (hY : Y.length = n1) (hrY : RBB w w.heap.size A1 Y) (A2 : Option Addr) (n2 c2 : Nat) (K : List Int) (hK : K.length = n2) (hn2 : n2 ≤ c2) (hm2 : c2 ≤ maxLen) (hrK : RI w w.heap.size A2 K) (hKo : ∀ z ∈ K, ok64 z) :
    Calls Try.prog 6 #[.slice A n c, .slice A1 n1 c1, .slice A2 n2 c2] w fun e w' => e = .returned (.bool true) ∧ Below w.heap.size w w' := by
  subst hX
  subst hY
  subst hK
  exact sure_walk A c X A1 c1 Y A2 c2 K (Nat.le_trans hn2 hm2) w hrX hrY hrK hKo
/-! ### the row's frame -/
theorem platterSure_own : ownKnob Try.prog.godebug = none := by kernel_rfl
theorem platterSure_laid : laidOutB Try.prog = true := by kernel_rfl
set_option maxRecDepth 100000 in
theorem platterSure_lifted (os : Os) (started : os.Started) (H : Type) (enc : TypeId × Value → H) :
    ReturnsInHanded {} Try.checked os 6 .any (Rows.platterSureSpec.pre6 enc Try.prog Try.f6 Rows.platterSureRow.domain false) (Rows.platterSureSpec.post enc Try.prog Try.f6 false true false false) := by
  refine returnsInHanded_of_change (C := Try.checked) platterSure_own started (by kernel_rfl) Try.func6
    (ChangeSpec.witness6 (enc := enc) (C := Try.checked) false ⟨#[], #[.slice none 0 0, .slice none 0 0, .slice none 0 0], []⟩ 8 (by kernel_rfl) (by kernel_rfl) (by kernel_rfl) (by kernel_rfl)) ?_
  intro W base args ds gs before hval0 hW hcnd _
  have hval : ∀ (j : Nat) t v, Try.f6.params[j]? = some t → args[j]? = some v → Value.okWide Try.prog W .any base t v := hval0
  have hW' := hW
  obtain ⟨p, q, hA0, hV, rfl, hfz, hnd⟩ := hW
  have hlt0 : ∀ x ∈ p, x.block < W.heap.size := fun x hx => hW'.lt x (List.mem_append.2 (.inl hx))
  have hA : DataW.TrodAll enc Try.prog W 0 (fun _ => true) true Try.f6.params.toList args.toList ds p := hA0
  rw [Try.params6] at hA hval
  obtain ⟨v0, vs0, d0, ds0, p0, q0, hargs, rfl, rfl, h0, r0⟩ := trodAll_cons hA
  obtain ⟨v1, vs1, d1, ds1, p1, q1, rfl, rfl, rfl, h1, r1⟩ := trodAll_cons r0
  obtain ⟨v2, vs2, d2, ds2, p2, q2, rfl, rfl, rfl, h2, r2⟩ := trodAll_cons r1
  obtain ⟨rfl, rfl, rfl⟩ := trodAll_nil r2
  obtain rfl : args = #[v0, v1, v2] := by cases args; simp_all
  obtain ⟨rfl, rfl⟩ := trodVars_none hV
  have k0 := h0
  have lt0 : ∀ x ∈ p0, x.block < W.heap.size := fun x hx => hlt0 x (by simp [hx])
  have k1 := h1
  have lt1 : ∀ x ∈ p1, x.block < W.heap.size := fun x hx => hlt0 x (by simp [hx])
  have k2 := h2
  have lt2 : ∀ x ∈ p2, x.block < W.heap.size := fun x hx => hlt0 x (by simp [hx])
  obtain ⟨A0, n0, c0, zs0, rfl, hl0, hn0, hm0, hr0, hk0⟩ := byteses_of (hval 0 50 v0 rfl rfl) h0
  obtain ⟨A1, n1, c1, zs1, rfl, hl1, hn1, hm1, hr1, hk1⟩ := byteses_of (hval 1 50 v1 rfl rfl) h1
  obtain ⟨A2, n2, c2, zs2, rfl, hl2, hn2, hm2, hr2, hk2⟩ := ints_of (hval 2 27 v2 rfl rfl) h2
  clear hA0 hval0
  refine (platterSure_walk A0 n0 c0 zs0 hl0 W hr0 A1 n1 c1 zs1 hl1 hr1 A2 n2 c2 zs2 hl2 hn2 hm2 hr2 hk2).mono fun e W' ⟨he, bel⟩ => ?_
  subst he
  exact ⟨_, rfl, _, _, _, [], _, [], hW', trodAll_mk1 (shut_bool Try.underlying4 _), (trodAll_cons_mk (Below.trod platterSure_laid (by kernel_rfl) (of_decide_eq_true (by kernel_rfl)) k0 bel lt0) (trodAll_cons_mk (Below.trod platterSure_laid (by kernel_rfl) (of_decide_eq_true (by kernel_rfl)) k1 bel lt1) (trodAll_cons_mk (Below.trod platterSure_laid (by kernel_rfl) (of_decide_eq_true (by kernel_rfl)) k2 bel lt2) trodAll_mk0))), rfl, bel.frame _, fun h => by cases h⟩

theorem platterSure_proved : Rows.PlatterSureSaid :=
  OpenClaim.holds_of_wide 6 Try.f6 rfl rfl rfl rfl rfl rfl rfl ⟨rfl, rfl, rfl, rfl, rfl⟩ rfl rfl rfl rfl rfl (by kernel_rfl) Try.func6 (by kernel_rfl)
    (of_decide_eq_true (by kernel_rfl)) (by unfold Func.isWrapper; rw [if_neg (of_decide_eq_false (by kernel_rfl))]; exact ⟨rfl, rfl⟩)
    (fun os started H enc _ => platterSure_lifted os started H enc)
#print axioms platterSure_proved

end Go.Proofs.Ythfhilinajemhaa
