/- ExtendNamesUptoSaid: Number and Name answer as the reference's do, at wishes, names and numbers of the bounded bulk. -/
import Derived.Test.YtpnocgonjgcmmaaAwBaseE
import Derived.Test.YtpnocgonjgcmmaaAwExt21E
set_option linter.unusedVariables false
namespace Go.Proofs.Ytpnocgonjgcmmaa
open Go.ChangeShapes Go.WideShapes Go.ChangeAt Go.RowKit Go.Aw
namespace extendNamesC
theorem closed : closedT Try.prog [35, 55, 32, 50, 48, 53, 33, 3, 9] = true := by kernel_rfl
theorem valTys : ValTys Try.prog 50 48 53 33 3 9 :=
  ⟨⟨_, Try.underlying50, rfl⟩, Try.underlying48, ⟨_, Try.underlying53, rfl⟩, Try.underlying33, Try.underlying3, Try.underlying9⟩
theorem wishTys : WishTys Try.prog 35 55 32 33 3 9 :=
  ⟨⟨_, Try.underlying35, rfl⟩, ⟨_, Try.underlying55, rfl⟩, Try.underlying32⟩
theorem law (ps : List PV) (h : ArgsT Try.prog 1048576 Try.f5.params.toList ps) : CallsA Try.prog 5 ps [] YesR := by
  obtain ⟨p, r, rfl, h1, h2⟩ := argsT_cons h
  obtain ⟨q, r, rfl, g2, h3⟩ := argsT_cons h2
  obtain ⟨q', r, rfl, g3, h4⟩ := argsT_cons h3
  obtain rfl := argsT_nil h4
  obtain ⟨w, rfl, hw, hm⟩ := argT_wish valTys wishTys h1
  obtain ⟨x, rfl⟩ := argT_str Try.underlying9 g2
  obtain ⟨n, rfl, _⟩ := argT_int Try.underlying3 g3
  exact law_names w x n hw hm

set_option maxRecDepth 100000 in
theorem lifted (os : Os) (started : os.Started) (H : Type) (enc : TypeId × Value → H) (F : Stop.Interp) :
    ReturnsInHanded {} Try.checked os 5 .any ((Rows.OpenSpec.upto Rows.extendNamesSpec).pre6 enc Try.prog Try.f5 Rows.extendNamesUptoRow.domain false) (((Rows.OpenSpec.upto Rows.extendNamesSpec).at F).post enc Try.prog Try.f5 false true false false) := by
  refine returnsInHanded_of_cond (C := Try.checked) (s := Rows.OpenSpec.upto Rows.extendNamesSpec) (k := Rows.uptoSmall) rfl own started (by kernel_rfl) Try.func5
    (OpenSpec.witness (enc := enc) (C := Try.checked) (s := Rows.OpenSpec.upto Rows.extendNamesSpec) (k := Rows.uptoSmall) rfl false ⟨#[], #[.agg #[.slice none 0 0, .int .i64 0, .int .i64 0, .string ⟨#[]⟩, .slice none 0 0], .string ⟨#[]⟩, .int .i64 0], []⟩ 8 (by kernel_rfl) (by kernel_rfl) (by kernel_rfl)
      (x := ([.agg [.nil, .lit (.int .i64 0), .lit (.int .i64 0), .lit (.string []), .nil], .lit (.string []), .lit (.int .i64 0)], [], [])) (by kernel_rfl) rfl (by kernel_rfl)) ?_
  intro W base args ds gs before hval hW _ hk _
  refine law_step (N := 1048576) meas closed laid (by kernel_rfl) (by kernel_rfl) rfl (tb := 4) rfl Try.underlying4 (fun ds hl => ?_) law hval hW (bulk_each ?_)
  · match ds, hl with
    | [d0, d1, d2], _ => rfl
  · have := of_decide_eq_true hk
    have e : ∀ a b : List (DataW H), Rows.uptoBulkAll (a ++ b) = Rows.uptoBulkAll a + Rows.uptoBulkAll b := fun a b => by rw [← bulkAll_sum, ← bulkAll_sum, ← bulkAll_sum]; simp
    rw [e] at this
    omega

theorem proved : Rows.ExtendNamesUptoSaid :=
  OpenClaim.holds_of_cond 5 Try.f5 rfl rfl rfl rfl rfl rfl rfl ⟨rfl, rfl, rfl, rfl, rfl⟩ rfl rfl rfl rfl rfl (by kernel_rfl) Try.func5 (by kernel_rfl)
    (of_decide_eq_true (by kernel_rfl)) (by unfold Func.isWrapper; first | (rw [if_pos (by decide +kernel)]; kernel_rfl) | (rw [if_neg (by decide +kernel)]; exact ⟨rfl, rfl⟩))
    (fun os started H enc _ F => lifted os started H enc F)
end extendNamesC
end Go.Proofs.Ytpnocgonjgcmmaa
