/- ExtendOpensUptoSaid: extend.Open answers what the reference's Open answers, at every list of bytes of the bounded bulk. -/
import Derived.Test.YtpnocgonjgcmmaaAwB21
import Derived.Test.YtpnocgonjgcmmaaAwX21
set_option linter.unusedVariables false
namespace Go.Proofs.Ytpnocgonjgcmmaa
open Go.ChangeShapes Go.WideShapes Go.ChangeAt Go.RowKit Go.Aw
namespace opens
theorem law (ps : List PV) (h : ArgsT Try.prog 1048576 Try.f3.params.toList ps) : CallsA Try.prog 3 ps [] YesR := by
  obtain ⟨p, r, rfl, h1, h2⟩ := argsT_cons h
  obtain rfl := argsT_nil h2
  obtain ⟨l, rfl, hl⟩ := argT_bytes Try.underlying22 Try.underlying5 h1
  exact law_opens l (by omega)

set_option maxRecDepth 100000 in
theorem lifted (os : Os) (started : os.Started) (H : Type) (enc : TypeId × Value → H) (F : Stop.Interp) :
    ReturnsInHanded {} Try.checked os 3 .any ((Rows.OpenSpec.upto Rows.extendOpensSpec).pre6 enc Try.prog Try.f3 Rows.extendOpensUptoRow.domain false) (((Rows.OpenSpec.upto Rows.extendOpensSpec).at F).post enc Try.prog Try.f3 false true false false) := by
  refine returnsInHanded_of_cond (C := Try.checked) (s := Rows.OpenSpec.upto Rows.extendOpensSpec) (k := Rows.uptoSmall) rfl own started (by kernel_rfl) Try.func3
    (OpenSpec.witness (enc := enc) (C := Try.checked) (s := Rows.OpenSpec.upto Rows.extendOpensSpec) (k := Rows.uptoSmall) rfl false ⟨#[], #[.slice none 0 0], []⟩ 8 (by kernel_rfl) (by kernel_rfl) (by kernel_rfl)
      (x := ([.nil], [], [])) (by kernel_rfl) rfl (by kernel_rfl)) ?_
  intro W base args ds gs before hval hW _ hk _
  refine law_step (N := 1048576) meas closed laid (by kernel_rfl) (by kernel_rfl) rfl (tb := 4) rfl Try.underlying4 (fun ds hl => ?_) law hval hW (bulk_each ?_)
  · match ds, hl with
    | [d], _ => rfl
  · have := of_decide_eq_true hk
    have e : ∀ a b : List (DataW H), Rows.uptoBulkAll (a ++ b) = Rows.uptoBulkAll a + Rows.uptoBulkAll b := fun a b => by rw [← bulkAll_sum, ← bulkAll_sum, ← bulkAll_sum]; simp
    rw [e] at this
    omega

theorem proved : Rows.ExtendOpensUptoSaid :=
  OpenClaim.holds_of_cond 3 Try.f3 rfl rfl rfl rfl rfl rfl rfl ⟨rfl, rfl, rfl, rfl, rfl⟩ rfl rfl rfl rfl rfl (by kernel_rfl) Try.func3 (by kernel_rfl)
    (of_decide_eq_true (by kernel_rfl)) (by unfold Func.isWrapper; first | (rw [if_pos (by decide +kernel)]; kernel_rfl) | (rw [if_neg (by decide +kernel)]; exact ⟨rfl, rfl⟩))
    (fun os started H enc _ F => lifted os started H enc F)
end opens
end Go.Proofs.Ytpnocgonjgcmmaa
