/- DiskFusesUptoSaid: a fuse is not seen by who works on a disk; a crash then leaves what it leaves where only the acts ahead of the end of the fuse were done, at arguments of the bounded bulk. -/
import Derived.Test.YthilodmojjlaeaaAwBaseK
import Derived.Test.YthilodmojjlaeaaAwDiskFtK
set_option linter.unusedVariables false
namespace Go.Proofs.Ythilodmojjlaeaa
open Go.ChangeShapes Go.WideShapes Go.ChangeAt Go.RowKit Go.Aw
namespace diskFusesC
theorem closed : closedT Try.prog [22, 5, 3, 4, 49, 45, 58, 56] = true := by kernel_rfl
theorem law (ps : List PV) (h : ArgsT Try.prog 1048576 Try.f8.params.toList ps) : CallsA Try.prog 8 ps [] YesR := by
  obtain ⟨p, r, rfl, h1, h2⟩ := argsT_cons h
  obtain ⟨q, r, rfl, g2, h3⟩ := argsT_cons h2
  obtain ⟨q', r, rfl, g3, h4⟩ := argsT_cons h3
  obtain ⟨q2, r, rfl, g4, h5⟩ := argsT_cons h4
  obtain ⟨q3, r, rfl, g5, h6⟩ := argsT_cons h5
  obtain ⟨q4, r, rfl, g6, h7⟩ := argsT_cons h6
  obtain rfl := argsT_nil h7
  obtain ⟨image, rfl, hi⟩ := argT_bytes Try.underlying22 Try.underlying5 h1
  obtain ⟨acts, rfl, hn, hb⟩ := argT_acs g2
  obtain ⟨fuse, rfl, hf⟩ := argT_int Try.underlying3 g3
  obtain ⟨keep, rfl, hk⟩ := argT_bools g4
  obtain ⟨torn, rfl, _⟩ := argT_int Try.underlying3 g5
  obtain ⟨cut, rfl, _⟩ := argT_int Try.underlying3 g6
  exact fuses_calls image hi acts hn hb fuse (wf_int64 hf).2 keep hk torn cut

set_option maxRecDepth 100000 in
theorem lifted (os : Os) (started : os.Started) (H : Type) (enc : TypeId × Value → H) (F : Stop.Interp) :
    ReturnsInHanded {} Try.checked os 8 .any ((Rows.OpenSpec.upto Rows.diskFusesSpec).pre6 enc Try.prog Try.f8 Rows.diskFusesUptoRow.domain false) (((Rows.OpenSpec.upto Rows.diskFusesSpec).at F).post enc Try.prog Try.f8 false true false false) := by
  refine returnsInHanded_of_cond (C := Try.checked) (s := Rows.OpenSpec.upto Rows.diskFusesSpec) (k := Rows.uptoSmall) rfl own started (by kernel_rfl) Try.func8
    (OpenSpec.witness (enc := enc) (C := Try.checked) (s := Rows.OpenSpec.upto Rows.diskFusesSpec) (k := Rows.uptoSmall) rfl false ⟨#[], #[.slice none 0 0, .slice none 0 0, .int .i64 0, .slice none 0 0, .int .i64 0, .int .i64 0], []⟩ 8 (by kernel_rfl) (by kernel_rfl) (by kernel_rfl)
      (x := ([.nil, .nil, .lit (.int .i64 0), .nil, .lit (.int .i64 0), .lit (.int .i64 0)], [], [])) (by kernel_rfl) rfl (by kernel_rfl)) ?_
  intro W base args ds gs before hval hW _ hk _
  refine law_step (N := 1048576) meas closed laid (by kernel_rfl) (by kernel_rfl) rfl (tb := 4) rfl Try.underlying4 (fun ds hl => ?_) law hval hW (bulk_each ?_)
  · match ds, hl with
    | [d0, d1, d2, d3, d4, d5], _ => rfl
  · have := of_decide_eq_true hk
    have e : ∀ a b : List (DataW H), Rows.uptoBulkAll (a ++ b) = Rows.uptoBulkAll a + Rows.uptoBulkAll b := fun a b => by rw [← bulkAll_sum, ← bulkAll_sum, ← bulkAll_sum]; simp
    rw [e] at this
    omega

theorem proved : Rows.DiskFusesUptoSaid :=
  OpenClaim.holds_of_cond 8 Try.f8 rfl rfl rfl rfl rfl rfl rfl ⟨rfl, rfl, rfl, rfl, rfl⟩ rfl rfl rfl rfl rfl (by kernel_rfl) Try.func8 (by kernel_rfl)
    (of_decide_eq_true (by kernel_rfl)) (by unfold Func.isWrapper; first | (rw [if_pos (by decide +kernel)]; kernel_rfl) | (rw [if_neg (by decide +kernel)]; exact ⟨rfl, rfl⟩))
    (fun os started H enc _ F => lifted os started H enc F)
end diskFusesC
end Go.Proofs.Ythilodmojjlaeaa
