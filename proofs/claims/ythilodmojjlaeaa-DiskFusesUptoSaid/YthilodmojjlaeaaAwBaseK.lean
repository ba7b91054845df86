/- What the claims of this seat have in common: the measure of readings, the types that its laws take. -/
import Derived.Test.YthilodmojjlaeaaRows
import Derived.WalkKit
import Derived.ProofKit
import Derived.OpenShut
import Derived.JoinedCond
import Derived.Test.YthilodmojjlaeaaAwPack3
set_option linter.unusedVariables false
namespace Go.Proofs.Ythilodmojjlaeaa
open Go.ChangeShapes Go.WideShapes Go.ChangeAt Go.RowKit Go.Aw

theorem bulkAll_sum {H : Type} : ∀ l : List (DataW H), (l.map Rows.uptoBulk).sum = Rows.uptoBulkAll l
  | [] => rfl
  | d :: r => by simp only [List.map_cons, List.sum_cons, Rows.uptoBulkAll, bulkAll_sum r]
theorem meas {H : Type} : Meas (H := H) Rows.uptoBulk where
  one := fun d => by
    cases d with
    | lit l => cases l <;> simp only [Rows.uptoBulk] <;> omega
    | _ => simp only [Rows.uptoBulk]; omega
  str := fun bs => by simp only [Rows.uptoBulk]; omega
  slice := fun es rest => by rw [bulkAll_sum]; simp only [Rows.uptoBulk]; omega
  agg := fun ps => by rw [bulkAll_sum]; simp only [Rows.uptoBulk]; omega
theorem bulk_each {H : Type} {N : Nat} : ∀ {l : List (DataW H)}, Rows.uptoBulkAll l ≤ N → ∀ d ∈ l, Rows.uptoBulk d ≤ N
  | d :: r, h, x, hx => by
    simp only [Rows.uptoBulkAll] at h
    rcases List.mem_cons.1 hx with rfl | hx
    · omega
    · exact bulk_each (by omega) x hx

theorem own : ownKnob Try.prog.godebug = none := by kernel_rfl
theorem laid : laidOutB Try.prog = true := by kernel_rfl

end Go.Proofs.Ythilodmojjlaeaa
