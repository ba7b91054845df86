/-
  NARROWER THAN 'FOR EVERY INPUT', by the rows' own cells (each row's printed sentence says how): ExtendNames: loops.
  DERIVED. THE GIVEN ROWS OF THIS SEAT. 3 by the template 'for every input the law returns true; each argument reads behind the call as it read before'; 0 by the template 'total and deterministic' (their statements: YtpnocgonjgcmmaaTotals.lean).
  GIVEN WITH THE SEED: the statements are not yours to turn. If you find one false, say at which input.
  Laid BY PROGRAM, IN A SANDBOX (cutbox-rows.mjs): the forced cells as the released guide's own fill.sh prints them over the translation f95e335977c66178… (all of the seat's roots in one cut). By AI agents, Wed Nov 11 2026. No macro, syntax, notation, axiom, sorry.
-/
import Derived.Test.YtpnocgonjgcmmaaChecked
import GoSem.Claim
import GoSem.ClaimJoined
import GoSem.ClaimMapViews
import Derived.JoinedTies
import Derived.KernelRfl
namespace Go.Proofs.Ytpnocgonjgcmmaa
/- THE CELL 'sum', in the pinned program and in every row, IS THE sha256 OF THE DUMP (.gsa) THAT YtpnocgonjgcmmaaProg.lean LOADS. Nothing in Lean hashes anything: it is a label: what it is worth is what the hold of that sum in a sandbox is worth. -/
noncomputable def Try.pinned : Pinned := { name := "ytpnocgonjgcmmaa", sum := "f95e335977c6617850686327c4165f531767699ae3333aa5f1aba27cb9c8bddb", checked := Try.checked }
namespace Rows
def none {H : Type} : Left H := { results := [], args := [] }

/-- 'torrentlaw21.ExtendOpens': WHATEVER THE INPUT: true; the input reads as it did. -/
def extendOpensSpec : ChangeSpec := { name := "extendOpens", fn := fun _ => fun
  | [d] => { results := [.lit (.bool true)], args := [d] }
  | _ => none }
def extendOpensRow : OpenClaim := { program := "ytpnocgonjgcmmaa", sum := "f95e335977c6617850686327c4165f531767699ae3333aa5f1aba27cb9c8bddb", func := "torrent/torrentlaw21.ExtendOpens", spec := "extendOpens", apart := false }
def ExtendOpensSaid : Prop := extendOpensRow.holds Try.pinned (OpenSpec.ofChange extendOpensSpec)

/-- ITS FALSE NEIGHBOUR: 'it returns false'. Refute it at one input. -/
def extendOpensWrong : ChangeSpec := { name := "extendOpens", fn := fun _ => fun
  | [d] => { results := [.lit (.bool false)], args := [d] }
  | _ => none }
def ExtendOpensWrongFalsely : Prop := extendOpensRow.holds Try.pinned (OpenSpec.ofChange extendOpensWrong)

/-- 'torrentlaw21.ExtendBodies': WHATEVER THE INPUT: true; the input reads as it did. -/
def extendBodiesSpec : ChangeSpec := { name := "extendBodies", fn := fun _ => fun
  | [d1, d2] => { results := [.lit (.bool true)], args := [d1, d2] }
  | _ => none }
def extendBodiesRow : OpenClaim := { program := "ytpnocgonjgcmmaa", sum := "f95e335977c6617850686327c4165f531767699ae3333aa5f1aba27cb9c8bddb", func := "torrent/torrentlaw21.ExtendBodies", spec := "extendBodies", apart := false }
def ExtendBodiesSaid : Prop := extendBodiesRow.holds Try.pinned (OpenSpec.ofChange extendBodiesSpec)

/-- ITS FALSE NEIGHBOUR: 'it returns false'. Refute it at one input. -/
def extendBodiesWrong : ChangeSpec := { name := "extendBodies", fn := fun _ => fun
  | [d1, d2] => { results := [.lit (.bool false)], args := [d1, d2] }
  | _ => none }
def ExtendBodiesWrongFalsely : Prop := extendBodiesRow.holds Try.pinned (OpenSpec.ofChange extendBodiesWrong)

/-- 'torrentlaw21.ExtendNames': WHATEVER THE INPUT: true; the input reads as it did. -/
def extendNamesSpec : ChangeSpec := { name := "extendNames", fn := fun _ => fun
  | [d1, d2, d3] => { results := [.lit (.bool true)], args := [d1, d2, d3] }
  | _ => none }
def extendNamesRow : OpenClaim := { program := "ytpnocgonjgcmmaa", sum := "f95e335977c6617850686327c4165f531767699ae3333aa5f1aba27cb9c8bddb", func := "torrent/torrentlaw21.ExtendNames", spec := "extendNames", recurses := true, loops := true, apart := false }
def ExtendNamesSaid : Prop := extendNamesRow.holds Try.pinned (OpenSpec.ofChange extendNamesSpec)

/-- ITS FALSE NEIGHBOUR: 'it returns false'. Refute it at one input. -/
def extendNamesWrong : ChangeSpec := { name := "extendNames", fn := fun _ => fun
  | [d1, d2, d3] => { results := [.lit (.bool false)], args := [d1, d2, d3] }
  | _ => none }
def ExtendNamesWrongFalsely : Prop := extendNamesRow.holds Try.pinned (OpenSpec.ofChange extendNamesWrong)

/- THE SECOND FORM. 'bulk': how many values and letters a reading holds, each counted each time it is reached (what is shared counts as often as it is met; a slice's spare places count too). A statement '..UptoSaid' is the law's where the arguments, and the package variables that the reading takes, are together of bulk at most 1048576: NARROWER than '..Said'. Prove '..Said' where nothing that the law and all that it calls make is longer than what came in: it says more and counts as full. Else prove '..UptoSaid'. A law counts once. -/
mutual
def uptoBulk {H : Type} : DataW H → Nat
  | .lit (.string bytes) => bytes.length + 1
  | .lit _ => 1
  | .nil => 1
  | .ptr d => uptoBulk d + 1
  | .slice elems spare => uptoBulkAll elems + uptoBulkAll spare + 1
  | .agg parts => uptoBulkAll parts + 1
  | .iface _ d => uptoBulk d + 1
  | .map entries => uptoBulkEntries entries + 1
  | .held _ => 1
def uptoBulkAll {H : Type} : List (DataW H) → Nat
  | [] => 0
  | d :: r => uptoBulk d + uptoBulkAll r
def uptoBulkEntries {H : Type} : List (Lit × DataW H) → Nat
  | [] => 0
  | x :: r => uptoBulkEntry x + uptoBulkEntries r
def uptoBulkEntry {H : Type} : Lit × DataW H → Nat
  | (.string bytes, d) => bytes.length + uptoBulk d + 1
  | (_, d) => uptoBulk d + 1
 end
def uptoSmall : (H : Type) → List (DataW H) → Bool := fun _ ds => decide (uptoBulkAll ds ≤ 1048576)
def OpenSpec.upto (s : _root_.Go.ChangeSpec) : _root_.Go.OpenSpec := { _root_.Go.OpenSpec.ofChange s with cond := some uptoSmall }

/-- 'torrentlaw21.ExtendOpens', WHERE WHAT IT READS IS OF BULK AT MOST 1048576: true; the input reads as it did. -/
def extendOpensUptoRow : OpenClaim := { program := "ytpnocgonjgcmmaa", sum := "f95e335977c6617850686327c4165f531767699ae3333aa5f1aba27cb9c8bddb", func := "torrent/torrentlaw21.ExtendOpens", spec := "extendOpens", apart := false, narrowed := true }
def ExtendOpensUptoSaid : Prop := extendOpensUptoRow.holds Try.pinned (OpenSpec.upto extendOpensSpec)

/-- 'torrentlaw21.ExtendBodies', WHERE WHAT IT READS IS OF BULK AT MOST 1048576: true; the input reads as it did. -/
def extendBodiesUptoRow : OpenClaim := { program := "ytpnocgonjgcmmaa", sum := "f95e335977c6617850686327c4165f531767699ae3333aa5f1aba27cb9c8bddb", func := "torrent/torrentlaw21.ExtendBodies", spec := "extendBodies", apart := false, narrowed := true }
def ExtendBodiesUptoSaid : Prop := extendBodiesUptoRow.holds Try.pinned (OpenSpec.upto extendBodiesSpec)

/-- 'torrentlaw21.ExtendNames', WHERE WHAT IT READS IS OF BULK AT MOST 1048576: true; the input reads as it did. -/
def extendNamesUptoRow : OpenClaim := { program := "ytpnocgonjgcmmaa", sum := "f95e335977c6617850686327c4165f531767699ae3333aa5f1aba27cb9c8bddb", func := "torrent/torrentlaw21.ExtendNames", spec := "extendNames", recurses := true, loops := true, apart := false, narrowed := true }
def ExtendNamesUptoSaid : Prop := extendNamesUptoRow.holds Try.pinned (OpenSpec.upto extendNamesSpec)

end Rows
end Go.Proofs.Ytpnocgonjgcmmaa
