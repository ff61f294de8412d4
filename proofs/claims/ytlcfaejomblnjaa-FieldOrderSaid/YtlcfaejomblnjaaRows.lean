/-
  No cell of these rows narrows 'for every input' (looked for: loops, veiled, ifaces, maps, wideKeys, modest, calm, conditions, laid).
  DERIVED. THE GIVEN ROWS OF THIS SEAT. 10 by the template 'for every input the law returns true; each argument reads behind the call as it read before'; 0 by the template 'total and deterministic' (their statements: YtlcfaejomblnjaaTotals.lean).
  GIVEN WITH THE SEED: the statements are not yours to turn. If you find one false, say at which input.
  Laid BY PROGRAM, IN A SANDBOX (cutbox-rows.mjs): the forced cells as the released guide's own fill.sh prints them over the translation 0e7f823725a22f41… (all of the seat's roots in one cut). By AI agents, Wed Nov 11 2026. No macro, syntax, notation, axiom, sorry.
-/
import Derived.Test.YtlcfaejomblnjaaChecked
import GoSem.Claim
import GoSem.ClaimJoined
import GoSem.ClaimMapViews
import Derived.JoinedTies
import Derived.KernelRfl
namespace Go.Proofs.Ytlcfaejomblnjaa
/- THE CELL 'sum', in the pinned program and in every row, IS THE sha256 OF THE DUMP (.gsa) THAT YtlcfaejomblnjaaProg.lean LOADS. Nothing in Lean hashes anything: it is a label: what it is worth is what the hold of that sum in a sandbox is worth. -/
noncomputable def Try.pinned : Pinned := { name := "ytlcfaejomblnjaa", sum := "0e7f823725a22f41b534e89949e09020a4b49e0373223ff8f8b347da321be9f1", checked := Try.checked }
namespace Rows
def none {H : Type} : Left H := { results := [], args := [] }

/-- 'citadellaw01.FieldTwice': WHATEVER THE INPUT: true; the input reads as it did. -/
def fieldTwiceSpec : ChangeSpec := { name := "fieldTwice", fn := fun _ => fun
  | [d] => { results := [.lit (.bool true)], args := [d] }
  | _ => none }
def fieldTwiceRow : OpenClaim := { program := "ytlcfaejomblnjaa", sum := "0e7f823725a22f41b534e89949e09020a4b49e0373223ff8f8b347da321be9f1", func := "citadel/citadellaw01.FieldTwice", spec := "fieldTwice", apart := false }
def FieldTwiceSaid : Prop := fieldTwiceRow.holds Try.pinned (OpenSpec.ofChange fieldTwiceSpec)

/-- ITS FALSE NEIGHBOUR: 'it returns false'. Refute it at one input. -/
def fieldTwiceWrong : ChangeSpec := { name := "fieldTwice", fn := fun _ => fun
  | [d] => { results := [.lit (.bool false)], args := [d] }
  | _ => none }
def FieldTwiceWrongFalsely : Prop := fieldTwiceRow.holds Try.pinned (OpenSpec.ofChange fieldTwiceWrong)

/-- 'citadellaw01.FieldXor': WHATEVER THE INPUT: true; the input reads as it did. -/
def fieldXorSpec : ChangeSpec := { name := "fieldXor", fn := fun _ => fun
  | [d1, d2] => { results := [.lit (.bool true)], args := [d1, d2] }
  | _ => none }
def fieldXorRow : OpenClaim := { program := "ytlcfaejomblnjaa", sum := "0e7f823725a22f41b534e89949e09020a4b49e0373223ff8f8b347da321be9f1", func := "citadel/citadellaw01.FieldXor", spec := "fieldXor", apart := false }
def FieldXorSaid : Prop := fieldXorRow.holds Try.pinned (OpenSpec.ofChange fieldXorSpec)

/-- ITS FALSE NEIGHBOUR: 'it returns false'. Refute it at one input. -/
def fieldXorWrong : ChangeSpec := { name := "fieldXor", fn := fun _ => fun
  | [d1, d2] => { results := [.lit (.bool false)], args := [d1, d2] }
  | _ => none }
def FieldXorWrongFalsely : Prop := fieldXorRow.holds Try.pinned (OpenSpec.ofChange fieldXorWrong)

/-- 'citadellaw01.FieldMul': WHATEVER THE INPUT: true; the input reads as it did. -/
def fieldMulSpec : ChangeSpec := { name := "fieldMul", fn := fun _ => fun
  | [d1, d2] => { results := [.lit (.bool true)], args := [d1, d2] }
  | _ => none }
def fieldMulRow : OpenClaim := { program := "ytlcfaejomblnjaa", sum := "0e7f823725a22f41b534e89949e09020a4b49e0373223ff8f8b347da321be9f1", func := "citadel/citadellaw01.FieldMul", spec := "fieldMul", apart := false }
def FieldMulSaid : Prop := fieldMulRow.holds Try.pinned (OpenSpec.ofChange fieldMulSpec)

/-- ITS FALSE NEIGHBOUR: 'it returns false'. Refute it at one input. -/
def fieldMulWrong : ChangeSpec := { name := "fieldMul", fn := fun _ => fun
  | [d1, d2] => { results := [.lit (.bool false)], args := [d1, d2] }
  | _ => none }
def FieldMulWrongFalsely : Prop := fieldMulRow.holds Try.pinned (OpenSpec.ofChange fieldMulWrong)

/-- 'citadellaw01.FieldRing': WHATEVER THE INPUT: true; the input reads as it did. -/
def fieldRingSpec : ChangeSpec := { name := "fieldRing", fn := fun _ => fun
  | [d1, d2, d3] => { results := [.lit (.bool true)], args := [d1, d2, d3] }
  | _ => none }
def fieldRingRow : OpenClaim := { program := "ytlcfaejomblnjaa", sum := "0e7f823725a22f41b534e89949e09020a4b49e0373223ff8f8b347da321be9f1", func := "citadel/citadellaw01.FieldRing", spec := "fieldRing", unfollowed := true, recurses := true, apart := false }
def FieldRingSaid : Prop := fieldRingRow.holds Try.pinned (OpenSpec.ofChange fieldRingSpec)

/-- ITS FALSE NEIGHBOUR: 'it returns false'. Refute it at one input. -/
def fieldRingWrong : ChangeSpec := { name := "fieldRing", fn := fun _ => fun
  | [d1, d2, d3] => { results := [.lit (.bool false)], args := [d1, d2, d3] }
  | _ => none }
def FieldRingWrongFalsely : Prop := fieldRingRow.holds Try.pinned (OpenSpec.ofChange fieldRingWrong)

/-- 'citadellaw01.FieldInv': WHATEVER THE INPUT: true; the input reads as it did. -/
def fieldInvSpec : ChangeSpec := { name := "fieldInv", fn := fun _ => fun
  | [d] => { results := [.lit (.bool true)], args := [d] }
  | _ => none }
def fieldInvRow : OpenClaim := { program := "ytlcfaejomblnjaa", sum := "0e7f823725a22f41b534e89949e09020a4b49e0373223ff8f8b347da321be9f1", func := "citadel/citadellaw01.FieldInv", spec := "fieldInv", apart := false }
def FieldInvSaid : Prop := fieldInvRow.holds Try.pinned (OpenSpec.ofChange fieldInvSpec)

/-- ITS FALSE NEIGHBOUR: 'it returns false'. Refute it at one input. -/
def fieldInvWrong : ChangeSpec := { name := "fieldInv", fn := fun _ => fun
  | [d] => { results := [.lit (.bool false)], args := [d] }
  | _ => none }
def FieldInvWrongFalsely : Prop := fieldInvRow.holds Try.pinned (OpenSpec.ofChange fieldInvWrong)

/-- 'citadellaw01.FieldDouble': WHATEVER THE INPUT: true; the input reads as it did. -/
def fieldDoubleSpec : ChangeSpec := { name := "fieldDouble", fn := fun _ => fun
  | [d] => { results := [.lit (.bool true)], args := [d] }
  | _ => none }
def fieldDoubleRow : OpenClaim := { program := "ytlcfaejomblnjaa", sum := "0e7f823725a22f41b534e89949e09020a4b49e0373223ff8f8b347da321be9f1", func := "citadel/citadellaw01.FieldDouble", spec := "fieldDouble", apart := false }
def FieldDoubleSaid : Prop := fieldDoubleRow.holds Try.pinned (OpenSpec.ofChange fieldDoubleSpec)

/-- ITS FALSE NEIGHBOUR: 'it returns false'. Refute it at one input. -/
def fieldDoubleWrong : ChangeSpec := { name := "fieldDouble", fn := fun _ => fun
  | [d] => { results := [.lit (.bool false)], args := [d] }
  | _ => none }
def FieldDoubleWrongFalsely : Prop := fieldDoubleRow.holds Try.pinned (OpenSpec.ofChange fieldDoubleWrong)

/-- 'citadellaw01.FieldHalve': WHATEVER THE INPUT: true; the input reads as it did. -/
def fieldHalveSpec : ChangeSpec := { name := "fieldHalve", fn := fun _ => fun
  | [d1, d2] => { results := [.lit (.bool true)], args := [d1, d2] }
  | _ => none }
def fieldHalveRow : OpenClaim := { program := "ytlcfaejomblnjaa", sum := "0e7f823725a22f41b534e89949e09020a4b49e0373223ff8f8b347da321be9f1", func := "citadel/citadellaw01.FieldHalve", spec := "fieldHalve", unfollowed := true, recurses := true, apart := false }
def FieldHalveSaid : Prop := fieldHalveRow.holds Try.pinned (OpenSpec.ofChange fieldHalveSpec)

/-- ITS FALSE NEIGHBOUR: 'it returns false'. Refute it at one input. -/
def fieldHalveWrong : ChangeSpec := { name := "fieldHalve", fn := fun _ => fun
  | [d1, d2] => { results := [.lit (.bool false)], args := [d1, d2] }
  | _ => none }
def FieldHalveWrongFalsely : Prop := fieldHalveRow.holds Try.pinned (OpenSpec.ofChange fieldHalveWrong)

/-- 'citadellaw01.FieldPowers': WHATEVER THE INPUT: true; the input reads as it did. -/
def fieldPowersSpec : ChangeSpec := { name := "fieldPowers", fn := fun _ => fun
  | [d1, d2] => { results := [.lit (.bool true)], args := [d1, d2] }
  | _ => none }
def fieldPowersRow : OpenClaim := { program := "ytlcfaejomblnjaa", sum := "0e7f823725a22f41b534e89949e09020a4b49e0373223ff8f8b347da321be9f1", func := "citadel/citadellaw01.FieldPowers", spec := "fieldPowers", unfollowed := true, recurses := true, apart := false }
def FieldPowersSaid : Prop := fieldPowersRow.holds Try.pinned (OpenSpec.ofChange fieldPowersSpec)

/-- ITS FALSE NEIGHBOUR: 'it returns false'. Refute it at one input. -/
def fieldPowersWrong : ChangeSpec := { name := "fieldPowers", fn := fun _ => fun
  | [d1, d2] => { results := [.lit (.bool false)], args := [d1, d2] }
  | _ => none }
def FieldPowersWrongFalsely : Prop := fieldPowersRow.holds Try.pinned (OpenSpec.ofChange fieldPowersWrong)

/-- 'citadellaw01.FieldTimes': WHATEVER THE INPUT: true; the input reads as it did. -/
def fieldTimesSpec : ChangeSpec := { name := "fieldTimes", fn := fun _ => fun
  | [d1, d2] => { results := [.lit (.bool true)], args := [d1, d2] }
  | _ => none }
def fieldTimesRow : OpenClaim := { program := "ytlcfaejomblnjaa", sum := "0e7f823725a22f41b534e89949e09020a4b49e0373223ff8f8b347da321be9f1", func := "citadel/citadellaw01.FieldTimes", spec := "fieldTimes", apart := false }
def FieldTimesSaid : Prop := fieldTimesRow.holds Try.pinned (OpenSpec.ofChange fieldTimesSpec)

/-- ITS FALSE NEIGHBOUR: 'it returns false'. Refute it at one input. -/
def fieldTimesWrong : ChangeSpec := { name := "fieldTimes", fn := fun _ => fun
  | [d1, d2] => { results := [.lit (.bool false)], args := [d1, d2] }
  | _ => none }
def FieldTimesWrongFalsely : Prop := fieldTimesRow.holds Try.pinned (OpenSpec.ofChange fieldTimesWrong)

/-- 'citadellaw01.FieldOrder': WHATEVER THE INPUT: true; the input reads as it did. -/
def fieldOrderSpec : ChangeSpec := { name := "fieldOrder", fn := fun _ => fun
  | [d] => { results := [.lit (.bool true)], args := [d] }
  | _ => none }
def fieldOrderRow : OpenClaim := { program := "ytlcfaejomblnjaa", sum := "0e7f823725a22f41b534e89949e09020a4b49e0373223ff8f8b347da321be9f1", func := "citadel/citadellaw01.FieldOrder", spec := "fieldOrder", unfollowed := true, recurses := true, apart := false }
def FieldOrderSaid : Prop := fieldOrderRow.holds Try.pinned (OpenSpec.ofChange fieldOrderSpec)

/-- ITS FALSE NEIGHBOUR: 'it returns false'. Refute it at one input. -/
def fieldOrderWrong : ChangeSpec := { name := "fieldOrder", fn := fun _ => fun
  | [d] => { results := [.lit (.bool false)], args := [d] }
  | _ => none }
def FieldOrderWrongFalsely : Prop := fieldOrderRow.holds Try.pinned (OpenSpec.ofChange fieldOrderWrong)

/- THE SECOND FORM. 'bulk': how many values and letters a reading holds, each counted each time it is reached (what is shared counts as often as it is met; a slice's spare places count too). A statement '..UptoSaid' is the law's where the arguments, and the package variables that the reading takes, are together of bulk at most 1048576: NARROWER than '..Said'. Prove '..Said' where nothing that the law and all that it calls make is longer than what came in: it says more and counts as full. Else prove '..UptoSaid'. A law counts once. -/
mutual
def uptoBulk {H : Type} : DataW H → Nat
  | .lit (.string bytes) => bytes.length + 1
  | .lit _ => 1
  | .nil => 1
  | .ptr d => uptoBulk d + 1
  | .slice elems spare => uptoBulkAll elems + uptoBulkAll spare + 1
  | .agg parts => uptoBulkAll parts + 1
  | .iface _ d => uptoBulk d + 1
  | .map entries => uptoBulkEntries entries + 1
  | .held _ => 1
def uptoBulkAll {H : Type} : List (DataW H) → Nat
  | [] => 0
  | d :: r => uptoBulk d + uptoBulkAll r
def uptoBulkEntries {H : Type} : List (Lit × DataW H) → Nat
  | [] => 0
  | x :: r => uptoBulkEntry x + uptoBulkEntries r
def uptoBulkEntry {H : Type} : Lit × DataW H → Nat
  | (.string bytes, d) => bytes.length + uptoBulk d + 1
  | (_, d) => uptoBulk d + 1
 end
def uptoSmall : (H : Type) → List (DataW H) → Bool := fun _ ds => decide (uptoBulkAll ds ≤ 1048576)
def OpenSpec.upto (s : _root_.Go.ChangeSpec) : _root_.Go.OpenSpec := { _root_.Go.OpenSpec.ofChange s with cond := some uptoSmall }

/-- 'citadellaw01.FieldTwice', WHERE WHAT IT READS IS OF BULK AT MOST 1048576: true; the input reads as it did. -/
def fieldTwiceUptoRow : OpenClaim := { program := "ytlcfaejomblnjaa", sum := "0e7f823725a22f41b534e89949e09020a4b49e0373223ff8f8b347da321be9f1", func := "citadel/citadellaw01.FieldTwice", spec := "fieldTwice", apart := false, narrowed := true }
def FieldTwiceUptoSaid : Prop := fieldTwiceUptoRow.holds Try.pinned (OpenSpec.upto fieldTwiceSpec)

/-- 'citadellaw01.FieldXor', WHERE WHAT IT READS IS OF BULK AT MOST 1048576: true; the input reads as it did. -/
def fieldXorUptoRow : OpenClaim := { program := "ytlcfaejomblnjaa", sum := "0e7f823725a22f41b534e89949e09020a4b49e0373223ff8f8b347da321be9f1", func := "citadel/citadellaw01.FieldXor", spec := "fieldXor", apart := false, narrowed := true }
def FieldXorUptoSaid : Prop := fieldXorUptoRow.holds Try.pinned (OpenSpec.upto fieldXorSpec)

/-- 'citadellaw01.FieldMul', WHERE WHAT IT READS IS OF BULK AT MOST 1048576: true; the input reads as it did. -/
def fieldMulUptoRow : OpenClaim := { program := "ytlcfaejomblnjaa", sum := "0e7f823725a22f41b534e89949e09020a4b49e0373223ff8f8b347da321be9f1", func := "citadel/citadellaw01.FieldMul", spec := "fieldMul", apart := false, narrowed := true }
def FieldMulUptoSaid : Prop := fieldMulUptoRow.holds Try.pinned (OpenSpec.upto fieldMulSpec)

/-- 'citadellaw01.FieldRing', WHERE WHAT IT READS IS OF BULK AT MOST 1048576: true; the input reads as it did. -/
def fieldRingUptoRow : OpenClaim := { program := "ytlcfaejomblnjaa", sum := "0e7f823725a22f41b534e89949e09020a4b49e0373223ff8f8b347da321be9f1", func := "citadel/citadellaw01.FieldRing", spec := "fieldRing", unfollowed := true, recurses := true, apart := false, narrowed := true }
def FieldRingUptoSaid : Prop := fieldRingUptoRow.holds Try.pinned (OpenSpec.upto fieldRingSpec)

/-- 'citadellaw01.FieldInv', WHERE WHAT IT READS IS OF BULK AT MOST 1048576: true; the input reads as it did. -/
def fieldInvUptoRow : OpenClaim := { program := "ytlcfaejomblnjaa", sum := "0e7f823725a22f41b534e89949e09020a4b49e0373223ff8f8b347da321be9f1", func := "citadel/citadellaw01.FieldInv", spec := "fieldInv", apart := false, narrowed := true }
def FieldInvUptoSaid : Prop := fieldInvUptoRow.holds Try.pinned (OpenSpec.upto fieldInvSpec)

/-- 'citadellaw01.FieldDouble', WHERE WHAT IT READS IS OF BULK AT MOST 1048576: true; the input reads as it did. -/
def fieldDoubleUptoRow : OpenClaim := { program := "ytlcfaejomblnjaa", sum := "0e7f823725a22f41b534e89949e09020a4b49e0373223ff8f8b347da321be9f1", func := "citadel/citadellaw01.FieldDouble", spec := "fieldDouble", apart := false, narrowed := true }
def FieldDoubleUptoSaid : Prop := fieldDoubleUptoRow.holds Try.pinned (OpenSpec.upto fieldDoubleSpec)

/-- 'citadellaw01.FieldHalve', WHERE WHAT IT READS IS OF BULK AT MOST 1048576: true; the input reads as it did. -/
def fieldHalveUptoRow : OpenClaim := { program := "ytlcfaejomblnjaa", sum := "0e7f823725a22f41b534e89949e09020a4b49e0373223ff8f8b347da321be9f1", func := "citadel/citadellaw01.FieldHalve", spec := "fieldHalve", unfollowed := true, recurses := true, apart := false, narrowed := true }
def FieldHalveUptoSaid : Prop := fieldHalveUptoRow.holds Try.pinned (OpenSpec.upto fieldHalveSpec)

/-- 'citadellaw01.FieldPowers', WHERE WHAT IT READS IS OF BULK AT MOST 1048576: true; the input reads as it did. -/
def fieldPowersUptoRow : OpenClaim := { program := "ytlcfaejomblnjaa", sum := "0e7f823725a22f41b534e89949e09020a4b49e0373223ff8f8b347da321be9f1", func := "citadel/citadellaw01.FieldPowers", spec := "fieldPowers", unfollowed := true, recurses := true, apart := false, narrowed := true }
def FieldPowersUptoSaid : Prop := fieldPowersUptoRow.holds Try.pinned (OpenSpec.upto fieldPowersSpec)

/-- 'citadellaw01.FieldTimes', WHERE WHAT IT READS IS OF BULK AT MOST 1048576: true; the input reads as it did. -/
def fieldTimesUptoRow : OpenClaim := { program := "ytlcfaejomblnjaa", sum := "0e7f823725a22f41b534e89949e09020a4b49e0373223ff8f8b347da321be9f1", func := "citadel/citadellaw01.FieldTimes", spec := "fieldTimes", apart := false, narrowed := true }
def FieldTimesUptoSaid : Prop := fieldTimesUptoRow.holds Try.pinned (OpenSpec.upto fieldTimesSpec)

/-- 'citadellaw01.FieldOrder', WHERE WHAT IT READS IS OF BULK AT MOST 1048576: true; the input reads as it did. -/
def fieldOrderUptoRow : OpenClaim := { program := "ytlcfaejomblnjaa", sum := "0e7f823725a22f41b534e89949e09020a4b49e0373223ff8f8b347da321be9f1", func := "citadel/citadellaw01.FieldOrder", spec := "fieldOrder", unfollowed := true, recurses := true, apart := false, narrowed := true }
def FieldOrderUptoSaid : Prop := fieldOrderUptoRow.holds Try.pinned (OpenSpec.upto fieldOrderSpec)

end Rows
end Go.Proofs.Ytlcfaejomblnjaa
