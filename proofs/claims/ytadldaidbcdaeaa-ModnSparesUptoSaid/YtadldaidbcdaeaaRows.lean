/-
  No cell of these rows narrows 'for every input' (looked for: loops, veiled, ifaces, maps, wideKeys, modest, calm, conditions, laid).
  DERIVED. THE GIVEN ROWS OF THIS SEAT. 14 by the template 'for every input the law returns true; each argument reads behind the call as it read before'; 0 by the template 'total and deterministic' (their statements: YtadldaidbcdaeaaTotals.lean).
  GIVEN WITH THE SEED: the statements are not yours to turn. If you find one false, say at which input.
  Laid BY PROGRAM, IN A SANDBOX (cutbox-rows.mjs): the forced cells as the released guide's own fill.sh prints them over the translation dcfe6a3b505b3f03… (all of the seat's roots in one cut). By AI agents, Wed Nov 11 2026. No macro, syntax, notation, axiom, sorry.
-/
import Derived.Test.YtadldaidbcdaeaaChecked
import GoSem.Claim
import GoSem.ClaimJoined
import GoSem.ClaimMapViews
import Derived.JoinedTies
import Derived.KernelRfl
namespace Go.Proofs.Ytadldaidbcdaeaa
/- THE CELL 'sum', in the pinned program and in every row, IS THE sha256 OF THE DUMP (.gsa) THAT YtadldaidbcdaeaaProg.lean LOADS. Nothing in Lean hashes anything: it is a label: what it is worth is what the hold of that sum in a sandbox is worth. -/
noncomputable def Try.pinned : Pinned := { name := "ytadldaidbcdaeaa", sum := "dcfe6a3b505b3f032161662fb6e9fc961f44983ad9e3149aff3435ded5bc2ac2", checked := Try.checked }
namespace Rows
def none {H : Type} : Left H := { results := [], args := [] }

/-- 'signetlaw9.RsaKeys': WHATEVER THE INPUT: true; the input reads as it did. -/
def rsaKeysSpec : ChangeSpec := { name := "rsaKeys", fn := fun _ => fun
  | [d1, d2] => { results := [.lit (.bool true)], args := [d1, d2] }
  | _ => none }
def rsaKeysRow : OpenClaim := { program := "ytadldaidbcdaeaa", sum := "dcfe6a3b505b3f032161662fb6e9fc961f44983ad9e3149aff3435ded5bc2ac2", func := "signet/signetlaw9.RsaKeys", spec := "rsaKeys", apart := false }
def RsaKeysSaid : Prop := rsaKeysRow.holds Try.pinned (OpenSpec.ofChange rsaKeysSpec)

/-- ITS FALSE NEIGHBOUR: 'it returns false'. Refute it at one input. -/
def rsaKeysWrong : ChangeSpec := { name := "rsaKeys", fn := fun _ => fun
  | [d1, d2] => { results := [.lit (.bool false)], args := [d1, d2] }
  | _ => none }
def RsaKeysWrongFalsely : Prop := rsaKeysRow.holds Try.pinned (OpenSpec.ofChange rsaKeysWrong)

/-- 'signetlaw6.NatReckons': WHATEVER THE INPUT: true; the input reads as it did. -/
def natReckonsSpec : ChangeSpec := { name := "natReckons", fn := fun _ => fun
  | [d1, d2] => { results := [.lit (.bool true)], args := [d1, d2] }
  | _ => none }
def natReckonsRow : OpenClaim := { program := "ytadldaidbcdaeaa", sum := "dcfe6a3b505b3f032161662fb6e9fc961f44983ad9e3149aff3435ded5bc2ac2", func := "signet/signetlaw6.NatReckons", spec := "natReckons", apart := false }
def NatReckonsSaid : Prop := natReckonsRow.holds Try.pinned (OpenSpec.ofChange natReckonsSpec)

/-- ITS FALSE NEIGHBOUR: 'it returns false'. Refute it at one input. -/
def natReckonsWrong : ChangeSpec := { name := "natReckons", fn := fun _ => fun
  | [d1, d2] => { results := [.lit (.bool false)], args := [d1, d2] }
  | _ => none }
def NatReckonsWrongFalsely : Prop := natReckonsRow.holds Try.pinned (OpenSpec.ofChange natReckonsWrong)

/-- 'signetlaw6.NatWrites': WHATEVER THE INPUT: true; the input reads as it did. -/
def natWritesSpec : ChangeSpec := { name := "natWrites", fn := fun _ => fun
  | [d1, d2, d3, d4, d5, d6] => { results := [.lit (.bool true)], args := [d1, d2, d3, d4, d5, d6] }
  | _ => none }
def natWritesRow : OpenClaim := { program := "ytadldaidbcdaeaa", sum := "dcfe6a3b505b3f032161662fb6e9fc961f44983ad9e3149aff3435ded5bc2ac2", func := "signet/signetlaw6.NatWrites", spec := "natWrites", apart := false }
def NatWritesSaid : Prop := natWritesRow.holds Try.pinned (OpenSpec.ofChange natWritesSpec)

/-- ITS FALSE NEIGHBOUR: 'it returns false'. Refute it at one input. -/
def natWritesWrong : ChangeSpec := { name := "natWrites", fn := fun _ => fun
  | [d1, d2, d3, d4, d5, d6] => { results := [.lit (.bool false)], args := [d1, d2, d3, d4, d5, d6] }
  | _ => none }
def NatWritesWrongFalsely : Prop := natWritesRow.holds Try.pinned (OpenSpec.ofChange natWritesWrong)

/-- 'signetlaw6.NatDivides': WHATEVER THE INPUT: true; the input reads as it did. -/
def natDividesSpec : ChangeSpec := { name := "natDivides", fn := fun _ => fun
  | [d1, d2] => { results := [.lit (.bool true)], args := [d1, d2] }
  | _ => none }
def natDividesRow : OpenClaim := { program := "ytadldaidbcdaeaa", sum := "dcfe6a3b505b3f032161662fb6e9fc961f44983ad9e3149aff3435ded5bc2ac2", func := "signet/signetlaw6.NatDivides", spec := "natDivides", named := ["math/bits.overflowError"], apart := false }
def NatDividesSaid : Prop := natDividesRow.holds Try.pinned (OpenSpec.ofChange natDividesSpec)

/-- ITS FALSE NEIGHBOUR: 'it returns false'. Refute it at one input. -/
def natDividesWrong : ChangeSpec := { name := "natDivides", fn := fun _ => fun
  | [d1, d2] => { results := [.lit (.bool false)], args := [d1, d2] }
  | _ => none }
def NatDividesWrongFalsely : Prop := natDividesRow.holds Try.pinned (OpenSpec.ofChange natDividesWrong)

/-- 'signetlaw6.NatDivision': WHATEVER THE INPUT: true; the input reads as it did. -/
def natDivisionSpec : ChangeSpec := { name := "natDivision", fn := fun _ => fun
  | [d1, d2, d3, d4] => { results := [.lit (.bool true)], args := [d1, d2, d3, d4] }
  | _ => none }
def natDivisionRow : OpenClaim := { program := "ytadldaidbcdaeaa", sum := "dcfe6a3b505b3f032161662fb6e9fc961f44983ad9e3149aff3435ded5bc2ac2", func := "signet/signetlaw6.NatDivision", spec := "natDivision", named := ["math/bits.overflowError"], apart := false }
def NatDivisionSaid : Prop := natDivisionRow.holds Try.pinned (OpenSpec.ofChange natDivisionSpec)

/-- ITS FALSE NEIGHBOUR: 'it returns false'. Refute it at one input. -/
def natDivisionWrong : ChangeSpec := { name := "natDivision", fn := fun _ => fun
  | [d1, d2, d3, d4] => { results := [.lit (.bool false)], args := [d1, d2, d3, d4] }
  | _ => none }
def NatDivisionWrongFalsely : Prop := natDivisionRow.holds Try.pinned (OpenSpec.ofChange natDivisionWrong)

/-- 'signetlaw6.NatRing': WHATEVER THE INPUT: true; the input reads as it did. -/
def natRingSpec : ChangeSpec := { name := "natRing", fn := fun _ => fun
  | [d1, d2, d3] => { results := [.lit (.bool true)], args := [d1, d2, d3] }
  | _ => none }
def natRingRow : OpenClaim := { program := "ytadldaidbcdaeaa", sum := "dcfe6a3b505b3f032161662fb6e9fc961f44983ad9e3149aff3435ded5bc2ac2", func := "signet/signetlaw6.NatRing", spec := "natRing", named := ["math/bits.overflowError"], apart := false }
def NatRingSaid : Prop := natRingRow.holds Try.pinned (OpenSpec.ofChange natRingSpec)

/-- ITS FALSE NEIGHBOUR: 'it returns false'. Refute it at one input. -/
def natRingWrong : ChangeSpec := { name := "natRing", fn := fun _ => fun
  | [d1, d2, d3] => { results := [.lit (.bool false)], args := [d1, d2, d3] }
  | _ => none }
def NatRingWrongFalsely : Prop := natRingRow.holds Try.pinned (OpenSpec.ofChange natRingWrong)

/-- 'signetlaw6.NatOrder': WHATEVER THE INPUT: true; the input reads as it did. -/
def natOrderSpec : ChangeSpec := { name := "natOrder", fn := fun _ => fun
  | [d1, d2, d3] => { results := [.lit (.bool true)], args := [d1, d2, d3] }
  | _ => none }
def natOrderRow : OpenClaim := { program := "ytadldaidbcdaeaa", sum := "dcfe6a3b505b3f032161662fb6e9fc961f44983ad9e3149aff3435ded5bc2ac2", func := "signet/signetlaw6.NatOrder", spec := "natOrder", named := ["math/bits.overflowError"], apart := false }
def NatOrderSaid : Prop := natOrderRow.holds Try.pinned (OpenSpec.ofChange natOrderSpec)

/-- ITS FALSE NEIGHBOUR: 'it returns false'. Refute it at one input. -/
def natOrderWrong : ChangeSpec := { name := "natOrder", fn := fun _ => fun
  | [d1, d2, d3] => { results := [.lit (.bool false)], args := [d1, d2, d3] }
  | _ => none }
def NatOrderWrongFalsely : Prop := natOrderRow.holds Try.pinned (OpenSpec.ofChange natOrderWrong)

/-- 'signetlaw6.NatDigits': WHATEVER THE INPUT: true; the input reads as it did. -/
def natDigitsSpec : ChangeSpec := { name := "natDigits", fn := fun _ => fun
  | [d1, d2, d3, d4, d5] => { results := [.lit (.bool true)], args := [d1, d2, d3, d4, d5] }
  | _ => none }
def natDigitsRow : OpenClaim := { program := "ytadldaidbcdaeaa", sum := "dcfe6a3b505b3f032161662fb6e9fc961f44983ad9e3149aff3435ded5bc2ac2", func := "signet/signetlaw6.NatDigits", spec := "natDigits", named := ["math/bits.overflowError"], apart := false }
def NatDigitsSaid : Prop := natDigitsRow.holds Try.pinned (OpenSpec.ofChange natDigitsSpec)

/-- ITS FALSE NEIGHBOUR: 'it returns false'. Refute it at one input. -/
def natDigitsWrong : ChangeSpec := { name := "natDigits", fn := fun _ => fun
  | [d1, d2, d3, d4, d5] => { results := [.lit (.bool false)], args := [d1, d2, d3, d4, d5] }
  | _ => none }
def NatDigitsWrongFalsely : Prop := natDigitsRow.holds Try.pinned (OpenSpec.ofChange natDigitsWrong)

/-- 'signetlaw6.NatShares': WHATEVER THE INPUT: true; the input reads as it did. -/
def natSharesSpec : ChangeSpec := { name := "natShares", fn := fun _ => fun
  | [d1, d2, d3] => { results := [.lit (.bool true)], args := [d1, d2, d3] }
  | _ => none }
def natSharesRow : OpenClaim := { program := "ytadldaidbcdaeaa", sum := "dcfe6a3b505b3f032161662fb6e9fc961f44983ad9e3149aff3435ded5bc2ac2", func := "signet/signetlaw6.NatShares", spec := "natShares", named := ["math/bits.overflowError"], apart := false }
def NatSharesSaid : Prop := natSharesRow.holds Try.pinned (OpenSpec.ofChange natSharesSpec)

/-- ITS FALSE NEIGHBOUR: 'it returns false'. Refute it at one input. -/
def natSharesWrong : ChangeSpec := { name := "natShares", fn := fun _ => fun
  | [d1, d2, d3] => { results := [.lit (.bool false)], args := [d1, d2, d3] }
  | _ => none }
def NatSharesWrongFalsely : Prop := natSharesRow.holds Try.pinned (OpenSpec.ofChange natSharesWrong)

/-- 'signetlaw7.ModnInverse': WHATEVER THE INPUT: true; the input reads as it did. -/
def modnInverseSpec : ChangeSpec := { name := "modnInverse", fn := fun _ => fun
  | [d1, d2, d3] => { results := [.lit (.bool true)], args := [d1, d2, d3] }
  | _ => none }
def modnInverseRow : OpenClaim := { program := "ytadldaidbcdaeaa", sum := "dcfe6a3b505b3f032161662fb6e9fc961f44983ad9e3149aff3435ded5bc2ac2", func := "signet/signetlaw7.ModnInverse", spec := "modnInverse", named := ["math/bits.overflowError"], apart := false }
def ModnInverseSaid : Prop := modnInverseRow.holds Try.pinned (OpenSpec.ofChange modnInverseSpec)

/-- ITS FALSE NEIGHBOUR: 'it returns false'. Refute it at one input. -/
def modnInverseWrong : ChangeSpec := { name := "modnInverse", fn := fun _ => fun
  | [d1, d2, d3] => { results := [.lit (.bool false)], args := [d1, d2, d3] }
  | _ => none }
def ModnInverseWrongFalsely : Prop := modnInverseRow.holds Try.pinned (OpenSpec.ofChange modnInverseWrong)

/-- 'signetlaw7.ModnExp': WHATEVER THE INPUT: true; the input reads as it did. -/
def modnExpSpec : ChangeSpec := { name := "modnExp", fn := fun _ => fun
  | [d1, d2, d3, d4, d5] => { results := [.lit (.bool true)], args := [d1, d2, d3, d4, d5] }
  | _ => none }
def modnExpRow : OpenClaim := { program := "ytadldaidbcdaeaa", sum := "dcfe6a3b505b3f032161662fb6e9fc961f44983ad9e3149aff3435ded5bc2ac2", func := "signet/signetlaw7.ModnExp", spec := "modnExp", named := ["math/bits.overflowError"], apart := false }
def ModnExpSaid : Prop := modnExpRow.holds Try.pinned (OpenSpec.ofChange modnExpSpec)

/-- ITS FALSE NEIGHBOUR: 'it returns false'. Refute it at one input. -/
def modnExpWrong : ChangeSpec := { name := "modnExp", fn := fun _ => fun
  | [d1, d2, d3, d4, d5] => { results := [.lit (.bool false)], args := [d1, d2, d3, d4, d5] }
  | _ => none }
def ModnExpWrongFalsely : Prop := modnExpRow.holds Try.pinned (OpenSpec.ofChange modnExpWrong)

/-- 'signetlaw7.ModnDefined': WHATEVER THE INPUT: true; the input reads as it did. -/
def modnDefinedSpec : ChangeSpec := { name := "modnDefined", fn := fun _ => fun
  | [d1, d2, d3] => { results := [.lit (.bool true)], args := [d1, d2, d3] }
  | _ => none }
def modnDefinedRow : OpenClaim := { program := "ytadldaidbcdaeaa", sum := "dcfe6a3b505b3f032161662fb6e9fc961f44983ad9e3149aff3435ded5bc2ac2", func := "signet/signetlaw7.ModnDefined", spec := "modnDefined", named := ["math/bits.overflowError"], apart := false }
def ModnDefinedSaid : Prop := modnDefinedRow.holds Try.pinned (OpenSpec.ofChange modnDefinedSpec)

/-- ITS FALSE NEIGHBOUR: 'it returns false'. Refute it at one input. -/
def modnDefinedWrong : ChangeSpec := { name := "modnDefined", fn := fun _ => fun
  | [d1, d2, d3] => { results := [.lit (.bool false)], args := [d1, d2, d3] }
  | _ => none }
def ModnDefinedWrongFalsely : Prop := modnDefinedRow.holds Try.pinned (OpenSpec.ofChange modnDefinedWrong)

/-- 'signetlaw7.ModnRing': WHATEVER THE INPUT: true; the input reads as it did. -/
def modnRingSpec : ChangeSpec := { name := "modnRing", fn := fun _ => fun
  | [d1, d2, d3, d4] => { results := [.lit (.bool true)], args := [d1, d2, d3, d4] }
  | _ => none }
def modnRingRow : OpenClaim := { program := "ytadldaidbcdaeaa", sum := "dcfe6a3b505b3f032161662fb6e9fc961f44983ad9e3149aff3435ded5bc2ac2", func := "signet/signetlaw7.ModnRing", spec := "modnRing", named := ["math/bits.overflowError"], apart := false }
def ModnRingSaid : Prop := modnRingRow.holds Try.pinned (OpenSpec.ofChange modnRingSpec)

/-- ITS FALSE NEIGHBOUR: 'it returns false'. Refute it at one input. -/
def modnRingWrong : ChangeSpec := { name := "modnRing", fn := fun _ => fun
  | [d1, d2, d3, d4] => { results := [.lit (.bool false)], args := [d1, d2, d3, d4] }
  | _ => none }
def ModnRingWrongFalsely : Prop := modnRingRow.holds Try.pinned (OpenSpec.ofChange modnRingWrong)

/-- 'signetlaw7.ModnSpares': WHATEVER THE INPUT: true; the input reads as it did. -/
def modnSparesSpec : ChangeSpec := { name := "modnSpares", fn := fun _ => fun
  | [d1, d2, d3] => { results := [.lit (.bool true)], args := [d1, d2, d3] }
  | _ => none }
def modnSparesRow : OpenClaim := { program := "ytadldaidbcdaeaa", sum := "dcfe6a3b505b3f032161662fb6e9fc961f44983ad9e3149aff3435ded5bc2ac2", func := "signet/signetlaw7.ModnSpares", spec := "modnSpares", named := ["math/bits.overflowError"], apart := false }
def ModnSparesSaid : Prop := modnSparesRow.holds Try.pinned (OpenSpec.ofChange modnSparesSpec)

/-- ITS FALSE NEIGHBOUR: 'it returns false'. Refute it at one input. -/
def modnSparesWrong : ChangeSpec := { name := "modnSpares", fn := fun _ => fun
  | [d1, d2, d3] => { results := [.lit (.bool false)], args := [d1, d2, d3] }
  | _ => none }
def ModnSparesWrongFalsely : Prop := modnSparesRow.holds Try.pinned (OpenSpec.ofChange modnSparesWrong)

/- THE SECOND FORM. 'bulk': how many values and letters a reading holds, each counted each time it is reached (what is shared counts as often as it is met; a slice's spare places count too). A statement '..UptoSaid' is the law's where the arguments, and the package variables that the reading takes, are together of bulk at most 1048576: NARROWER than '..Said'. Prove '..Said' where nothing that the law and all that it calls make is longer than what came in: it says more and counts as full. Else prove '..UptoSaid'. A law counts once. -/
mutual
def uptoBulk {H : Type} : DataW H → Nat
  | .lit (.string bytes) => bytes.length + 1
  | .lit _ => 1
  | .nil => 1
  | .ptr d => uptoBulk d + 1
  | .slice elems spare => uptoBulkAll elems + uptoBulkAll spare + 1
  | .agg parts => uptoBulkAll parts + 1
  | .iface _ d => uptoBulk d + 1
  | .map entries => uptoBulkEntries entries + 1
  | .held _ => 1
def uptoBulkAll {H : Type} : List (DataW H) → Nat
  | [] => 0
  | d :: r => uptoBulk d + uptoBulkAll r
def uptoBulkEntries {H : Type} : List (Lit × DataW H) → Nat
  | [] => 0
  | x :: r => uptoBulkEntry x + uptoBulkEntries r
def uptoBulkEntry {H : Type} : Lit × DataW H → Nat
  | (.string bytes, d) => bytes.length + uptoBulk d + 1
  | (_, d) => uptoBulk d + 1
 end
def uptoSmall : (H : Type) → List (DataW H) → Bool := fun _ ds => decide (uptoBulkAll ds ≤ 1048576)
def OpenSpec.upto (s : _root_.Go.ChangeSpec) : _root_.Go.OpenSpec := { _root_.Go.OpenSpec.ofChange s with cond := some uptoSmall }

/-- 'signetlaw9.RsaKeys', WHERE WHAT IT READS IS OF BULK AT MOST 1048576: true; the input reads as it did. -/
def rsaKeysUptoRow : OpenClaim := { program := "ytadldaidbcdaeaa", sum := "dcfe6a3b505b3f032161662fb6e9fc961f44983ad9e3149aff3435ded5bc2ac2", func := "signet/signetlaw9.RsaKeys", spec := "rsaKeys", apart := false, narrowed := true }
def RsaKeysUptoSaid : Prop := rsaKeysUptoRow.holds Try.pinned (OpenSpec.upto rsaKeysSpec)

/-- 'signetlaw6.NatReckons', WHERE WHAT IT READS IS OF BULK AT MOST 1048576: true; the input reads as it did. -/
def natReckonsUptoRow : OpenClaim := { program := "ytadldaidbcdaeaa", sum := "dcfe6a3b505b3f032161662fb6e9fc961f44983ad9e3149aff3435ded5bc2ac2", func := "signet/signetlaw6.NatReckons", spec := "natReckons", apart := false, narrowed := true }
def NatReckonsUptoSaid : Prop := natReckonsUptoRow.holds Try.pinned (OpenSpec.upto natReckonsSpec)

/-- 'signetlaw6.NatWrites', WHERE WHAT IT READS IS OF BULK AT MOST 1048576: true; the input reads as it did. -/
def natWritesUptoRow : OpenClaim := { program := "ytadldaidbcdaeaa", sum := "dcfe6a3b505b3f032161662fb6e9fc961f44983ad9e3149aff3435ded5bc2ac2", func := "signet/signetlaw6.NatWrites", spec := "natWrites", apart := false, narrowed := true }
def NatWritesUptoSaid : Prop := natWritesUptoRow.holds Try.pinned (OpenSpec.upto natWritesSpec)

/-- 'signetlaw6.NatDivides', WHERE WHAT IT READS IS OF BULK AT MOST 1048576: true; the input reads as it did. -/
def natDividesUptoRow : OpenClaim := { program := "ytadldaidbcdaeaa", sum := "dcfe6a3b505b3f032161662fb6e9fc961f44983ad9e3149aff3435ded5bc2ac2", func := "signet/signetlaw6.NatDivides", spec := "natDivides", named := ["math/bits.overflowError"], apart := false, narrowed := true }
def NatDividesUptoSaid : Prop := natDividesUptoRow.holds Try.pinned (OpenSpec.upto natDividesSpec)

/-- 'signetlaw6.NatDivision', WHERE WHAT IT READS IS OF BULK AT MOST 1048576: true; the input reads as it did. -/
def natDivisionUptoRow : OpenClaim := { program := "ytadldaidbcdaeaa", sum := "dcfe6a3b505b3f032161662fb6e9fc961f44983ad9e3149aff3435ded5bc2ac2", func := "signet/signetlaw6.NatDivision", spec := "natDivision", named := ["math/bits.overflowError"], apart := false, narrowed := true }
def NatDivisionUptoSaid : Prop := natDivisionUptoRow.holds Try.pinned (OpenSpec.upto natDivisionSpec)

/-- 'signetlaw6.NatRing', WHERE WHAT IT READS IS OF BULK AT MOST 1048576: true; the input reads as it did. -/
def natRingUptoRow : OpenClaim := { program := "ytadldaidbcdaeaa", sum := "dcfe6a3b505b3f032161662fb6e9fc961f44983ad9e3149aff3435ded5bc2ac2", func := "signet/signetlaw6.NatRing", spec := "natRing", named := ["math/bits.overflowError"], apart := false, narrowed := true }
def NatRingUptoSaid : Prop := natRingUptoRow.holds Try.pinned (OpenSpec.upto natRingSpec)

/-- 'signetlaw6.NatOrder', WHERE WHAT IT READS IS OF BULK AT MOST 1048576: true; the input reads as it did. -/
def natOrderUptoRow : OpenClaim := { program := "ytadldaidbcdaeaa", sum := "dcfe6a3b505b3f032161662fb6e9fc961f44983ad9e3149aff3435ded5bc2ac2", func := "signet/signetlaw6.NatOrder", spec := "natOrder", named := ["math/bits.overflowError"], apart := false, narrowed := true }
def NatOrderUptoSaid : Prop := natOrderUptoRow.holds Try.pinned (OpenSpec.upto natOrderSpec)

/-- 'signetlaw6.NatDigits', WHERE WHAT IT READS IS OF BULK AT MOST 1048576: true; the input reads as it did. -/
def natDigitsUptoRow : OpenClaim := { program := "ytadldaidbcdaeaa", sum := "dcfe6a3b505b3f032161662fb6e9fc961f44983ad9e3149aff3435ded5bc2ac2", func := "signet/signetlaw6.NatDigits", spec := "natDigits", named := ["math/bits.overflowError"], apart := false, narrowed := true }
def NatDigitsUptoSaid : Prop := natDigitsUptoRow.holds Try.pinned (OpenSpec.upto natDigitsSpec)

/-- 'signetlaw6.NatShares', WHERE WHAT IT READS IS OF BULK AT MOST 1048576: true; the input reads as it did. -/
def natSharesUptoRow : OpenClaim := { program := "ytadldaidbcdaeaa", sum := "dcfe6a3b505b3f032161662fb6e9fc961f44983ad9e3149aff3435ded5bc2ac2", func := "signet/signetlaw6.NatShares", spec := "natShares", named := ["math/bits.overflowError"], apart := false, narrowed := true }
def NatSharesUptoSaid : Prop := natSharesUptoRow.holds Try.pinned (OpenSpec.upto natSharesSpec)

/-- 'signetlaw7.ModnInverse', WHERE WHAT IT READS IS OF BULK AT MOST 1048576: true; the input reads as it did. -/
def modnInverseUptoRow : OpenClaim := { program := "ytadldaidbcdaeaa", sum := "dcfe6a3b505b3f032161662fb6e9fc961f44983ad9e3149aff3435ded5bc2ac2", func := "signet/signetlaw7.ModnInverse", spec := "modnInverse", named := ["math/bits.overflowError"], apart := false, narrowed := true }
def ModnInverseUptoSaid : Prop := modnInverseUptoRow.holds Try.pinned (OpenSpec.upto modnInverseSpec)

/-- 'signetlaw7.ModnExp', WHERE WHAT IT READS IS OF BULK AT MOST 1048576: true; the input reads as it did. -/
def modnExpUptoRow : OpenClaim := { program := "ytadldaidbcdaeaa", sum := "dcfe6a3b505b3f032161662fb6e9fc961f44983ad9e3149aff3435ded5bc2ac2", func := "signet/signetlaw7.ModnExp", spec := "modnExp", named := ["math/bits.overflowError"], apart := false, narrowed := true }
def ModnExpUptoSaid : Prop := modnExpUptoRow.holds Try.pinned (OpenSpec.upto modnExpSpec)

/-- 'signetlaw7.ModnDefined', WHERE WHAT IT READS IS OF BULK AT MOST 1048576: true; the input reads as it did. -/
def modnDefinedUptoRow : OpenClaim := { program := "ytadldaidbcdaeaa", sum := "dcfe6a3b505b3f032161662fb6e9fc961f44983ad9e3149aff3435ded5bc2ac2", func := "signet/signetlaw7.ModnDefined", spec := "modnDefined", named := ["math/bits.overflowError"], apart := false, narrowed := true }
def ModnDefinedUptoSaid : Prop := modnDefinedUptoRow.holds Try.pinned (OpenSpec.upto modnDefinedSpec)

/-- 'signetlaw7.ModnRing', WHERE WHAT IT READS IS OF BULK AT MOST 1048576: true; the input reads as it did. -/
def modnRingUptoRow : OpenClaim := { program := "ytadldaidbcdaeaa", sum := "dcfe6a3b505b3f032161662fb6e9fc961f44983ad9e3149aff3435ded5bc2ac2", func := "signet/signetlaw7.ModnRing", spec := "modnRing", named := ["math/bits.overflowError"], apart := false, narrowed := true }
def ModnRingUptoSaid : Prop := modnRingUptoRow.holds Try.pinned (OpenSpec.upto modnRingSpec)

/-- 'signetlaw7.ModnSpares', WHERE WHAT IT READS IS OF BULK AT MOST 1048576: true; the input reads as it did. -/
def modnSparesUptoRow : OpenClaim := { program := "ytadldaidbcdaeaa", sum := "dcfe6a3b505b3f032161662fb6e9fc961f44983ad9e3149aff3435ded5bc2ac2", func := "signet/signetlaw7.ModnSpares", spec := "modnSpares", named := ["math/bits.overflowError"], apart := false, narrowed := true }
def ModnSparesUptoSaid : Prop := modnSparesUptoRow.holds Try.pinned (OpenSpec.upto modnSparesSpec)

end Rows
end Go.Proofs.Ytadldaidbcdaeaa
