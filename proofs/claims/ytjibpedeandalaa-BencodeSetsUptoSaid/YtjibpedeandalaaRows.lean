/-
  NARROWER THAN 'FOR EVERY INPUT', by the rows' own cells (each row's printed sentence says how): BencodeEquals: loops · BencodeValids: loops · BencodeGets: loops · BencodeSets: loops.
  DERIVED. THE GIVEN ROWS OF THIS SEAT. 4 by the template 'for every input the law returns true; each argument reads behind the call as it read before'; 0 by the template 'total and deterministic' (their statements: YtjibpedeandalaaTotals.lean).
  GIVEN WITH THE SEED: the statements are not yours to turn. If you find one false, say at which input.
  Laid BY PROGRAM, IN A SANDBOX (cutbox-rows.mjs): the forced cells as the released guide's own fill.sh prints them over the translation da94ec707788dbe1… (all of the seat's roots in one cut). By AI agents, Wed Nov 11 2026. No macro, syntax, notation, axiom, sorry.
-/
import Derived.Test.YtjibpedeandalaaChecked
import GoSem.Claim
import GoSem.ClaimJoined
import GoSem.ClaimMapViews
import Derived.JoinedTies
import Derived.KernelRfl
namespace Go.Proofs.Ytjibpedeandalaa
/- THE CELL 'sum', in the pinned program and in every row, IS THE sha256 OF THE DUMP (.gsa) THAT YtjibpedeandalaaProg.lean LOADS. Nothing in Lean hashes anything: it is a label: what it is worth is what the hold of that sum in a sandbox is worth. -/
noncomputable def Try.pinned : Pinned := { name := "ytjibpedeandalaa", sum := "da94ec707788dbe167dceb9a3261869b1c1c2f1814d7ed71aafbc73740acf8d7", checked := Try.checked }
namespace Rows
def none {H : Type} : Left H := { results := [], args := [] }

/-- 'torrentlaw2.BencodeEquals': WHATEVER THE INPUT: true; the input reads as it did. -/
def bencodeEqualsSpec : ChangeSpec := { name := "bencodeEquals", fn := fun _ => fun
  | [d1, d2] => { results := [.lit (.bool true)], args := [d1, d2] }
  | _ => none }
def bencodeEqualsRow : OpenClaim := { program := "ytjibpedeandalaa", sum := "da94ec707788dbe167dceb9a3261869b1c1c2f1814d7ed71aafbc73740acf8d7", func := "torrent/torrentlaw2.BencodeEquals", spec := "bencodeEquals", recurses := true, loops := true, apart := false }
def BencodeEqualsSaid : Prop := bencodeEqualsRow.holds Try.pinned (OpenSpec.ofChange bencodeEqualsSpec)

/-- ITS FALSE NEIGHBOUR: 'it returns false'. Refute it at one input. -/
def bencodeEqualsWrong : ChangeSpec := { name := "bencodeEquals", fn := fun _ => fun
  | [d1, d2] => { results := [.lit (.bool false)], args := [d1, d2] }
  | _ => none }
def BencodeEqualsWrongFalsely : Prop := bencodeEqualsRow.holds Try.pinned (OpenSpec.ofChange bencodeEqualsWrong)

/-- 'torrentlaw2.BencodeValids': WHATEVER THE INPUT: true; the input reads as it did. -/
def bencodeValidsSpec : ChangeSpec := { name := "bencodeValids", fn := fun _ => fun
  | [d] => { results := [.lit (.bool true)], args := [d] }
  | _ => none }
def bencodeValidsRow : OpenClaim := { program := "ytjibpedeandalaa", sum := "da94ec707788dbe167dceb9a3261869b1c1c2f1814d7ed71aafbc73740acf8d7", func := "torrent/torrentlaw2.BencodeValids", spec := "bencodeValids", recurses := true, loops := true, apart := false }
def BencodeValidsSaid : Prop := bencodeValidsRow.holds Try.pinned (OpenSpec.ofChange bencodeValidsSpec)

/-- ITS FALSE NEIGHBOUR: 'it returns false'. Refute it at one input. -/
def bencodeValidsWrong : ChangeSpec := { name := "bencodeValids", fn := fun _ => fun
  | [d] => { results := [.lit (.bool false)], args := [d] }
  | _ => none }
def BencodeValidsWrongFalsely : Prop := bencodeValidsRow.holds Try.pinned (OpenSpec.ofChange bencodeValidsWrong)

/-- 'torrentlaw2.BencodeGets': WHATEVER THE INPUT: true; the input reads as it did. -/
def bencodeGetsSpec : ChangeSpec := { name := "bencodeGets", fn := fun _ => fun
  | [d1, d2] => { results := [.lit (.bool true)], args := [d1, d2] }
  | _ => none }
def bencodeGetsRow : OpenClaim := { program := "ytjibpedeandalaa", sum := "da94ec707788dbe167dceb9a3261869b1c1c2f1814d7ed71aafbc73740acf8d7", func := "torrent/torrentlaw2.BencodeGets", spec := "bencodeGets", recurses := true, loops := true, apart := false }
def BencodeGetsSaid : Prop := bencodeGetsRow.holds Try.pinned (OpenSpec.ofChange bencodeGetsSpec)

/-- ITS FALSE NEIGHBOUR: 'it returns false'. Refute it at one input. -/
def bencodeGetsWrong : ChangeSpec := { name := "bencodeGets", fn := fun _ => fun
  | [d1, d2] => { results := [.lit (.bool false)], args := [d1, d2] }
  | _ => none }
def BencodeGetsWrongFalsely : Prop := bencodeGetsRow.holds Try.pinned (OpenSpec.ofChange bencodeGetsWrong)

/-- 'torrentlaw2.BencodeSets': WHATEVER THE INPUT: true; the input reads as it did. -/
def bencodeSetsSpec : ChangeSpec := { name := "bencodeSets", fn := fun _ => fun
  | [d1, d2, d3] => { results := [.lit (.bool true)], args := [d1, d2, d3] }
  | _ => none }
def bencodeSetsRow : OpenClaim := { program := "ytjibpedeandalaa", sum := "da94ec707788dbe167dceb9a3261869b1c1c2f1814d7ed71aafbc73740acf8d7", func := "torrent/torrentlaw2.BencodeSets", spec := "bencodeSets", recurses := true, loops := true, apart := false }
def BencodeSetsSaid : Prop := bencodeSetsRow.holds Try.pinned (OpenSpec.ofChange bencodeSetsSpec)

/-- ITS FALSE NEIGHBOUR: 'it returns false'. Refute it at one input. -/
def bencodeSetsWrong : ChangeSpec := { name := "bencodeSets", fn := fun _ => fun
  | [d1, d2, d3] => { results := [.lit (.bool false)], args := [d1, d2, d3] }
  | _ => none }
def BencodeSetsWrongFalsely : Prop := bencodeSetsRow.holds Try.pinned (OpenSpec.ofChange bencodeSetsWrong)

/- THE SECOND FORM. 'bulk': how many values and letters a reading holds, each counted each time it is reached (what is shared counts as often as it is met; a slice's spare places count too). A statement '..UptoSaid' is the law's where the arguments, and the package variables that the reading takes, are together of bulk at most 1048576: NARROWER than '..Said'. Prove '..Said' where nothing that the law and all that it calls make is longer than what came in: it says more and counts as full. Else prove '..UptoSaid'. A law counts once. -/
mutual
def uptoBulk {H : Type} : DataW H → Nat
  | .lit (.string bytes) => bytes.length + 1
  | .lit _ => 1
  | .nil => 1
  | .ptr d => uptoBulk d + 1
  | .slice elems spare => uptoBulkAll elems + uptoBulkAll spare + 1
  | .agg parts => uptoBulkAll parts + 1
  | .iface _ d => uptoBulk d + 1
  | .map entries => uptoBulkEntries entries + 1
  | .held _ => 1
def uptoBulkAll {H : Type} : List (DataW H) → Nat
  | [] => 0
  | d :: r => uptoBulk d + uptoBulkAll r
def uptoBulkEntries {H : Type} : List (Lit × DataW H) → Nat
  | [] => 0
  | x :: r => uptoBulkEntry x + uptoBulkEntries r
def uptoBulkEntry {H : Type} : Lit × DataW H → Nat
  | (.string bytes, d) => bytes.length + uptoBulk d + 1
  | (_, d) => uptoBulk d + 1
 end
def uptoSmall : (H : Type) → List (DataW H) → Bool := fun _ ds => decide (uptoBulkAll ds ≤ 1048576)
def OpenSpec.upto (s : _root_.Go.ChangeSpec) : _root_.Go.OpenSpec := { _root_.Go.OpenSpec.ofChange s with cond := some uptoSmall }

/-- 'torrentlaw2.BencodeEquals', WHERE WHAT IT READS IS OF BULK AT MOST 1048576: true; the input reads as it did. -/
def bencodeEqualsUptoRow : OpenClaim := { program := "ytjibpedeandalaa", sum := "da94ec707788dbe167dceb9a3261869b1c1c2f1814d7ed71aafbc73740acf8d7", func := "torrent/torrentlaw2.BencodeEquals", spec := "bencodeEquals", recurses := true, loops := true, apart := false, narrowed := true }
def BencodeEqualsUptoSaid : Prop := bencodeEqualsUptoRow.holds Try.pinned (OpenSpec.upto bencodeEqualsSpec)

/-- 'torrentlaw2.BencodeValids', WHERE WHAT IT READS IS OF BULK AT MOST 1048576: true; the input reads as it did. -/
def bencodeValidsUptoRow : OpenClaim := { program := "ytjibpedeandalaa", sum := "da94ec707788dbe167dceb9a3261869b1c1c2f1814d7ed71aafbc73740acf8d7", func := "torrent/torrentlaw2.BencodeValids", spec := "bencodeValids", recurses := true, loops := true, apart := false, narrowed := true }
def BencodeValidsUptoSaid : Prop := bencodeValidsUptoRow.holds Try.pinned (OpenSpec.upto bencodeValidsSpec)

/-- 'torrentlaw2.BencodeGets', WHERE WHAT IT READS IS OF BULK AT MOST 1048576: true; the input reads as it did. -/
def bencodeGetsUptoRow : OpenClaim := { program := "ytjibpedeandalaa", sum := "da94ec707788dbe167dceb9a3261869b1c1c2f1814d7ed71aafbc73740acf8d7", func := "torrent/torrentlaw2.BencodeGets", spec := "bencodeGets", recurses := true, loops := true, apart := false, narrowed := true }
def BencodeGetsUptoSaid : Prop := bencodeGetsUptoRow.holds Try.pinned (OpenSpec.upto bencodeGetsSpec)

/-- 'torrentlaw2.BencodeSets', WHERE WHAT IT READS IS OF BULK AT MOST 1048576: true; the input reads as it did. -/
def bencodeSetsUptoRow : OpenClaim := { program := "ytjibpedeandalaa", sum := "da94ec707788dbe167dceb9a3261869b1c1c2f1814d7ed71aafbc73740acf8d7", func := "torrent/torrentlaw2.BencodeSets", spec := "bencodeSets", recurses := true, loops := true, apart := false, narrowed := true }
def BencodeSetsUptoSaid : Prop := bencodeSetsUptoRow.holds Try.pinned (OpenSpec.upto bencodeSetsSpec)

end Rows
end Go.Proofs.Ytjibpedeandalaa
