/- BencodeSetsUptoSaid: the program's With answers as the reference's With does, at values and keys of the bounded bulk. -/
import Derived.Test.YtjibpedeandalaaAwBaseB
import Derived.Test.YtjibpedeandalaaAwSetB
set_option linter.unusedVariables false
namespace Go.Proofs.Ytjibpedeandalaa
open Go.ChangeShapes Go.WideShapes Go.ChangeAt Go.RowKit Go.Aw
namespace bencodeSetsC
theorem closed : closedT Try.prog [25, 22, 42, 23, 3, 9] = true := by kernel_rfl
theorem valTys : ValTys Try.prog 25 22 42 23 3 9 :=
  ⟨⟨_, Try.underlying25, rfl⟩, Try.underlying22, ⟨_, Try.underlying42, rfl⟩, Try.underlying23, Try.underlying3, Try.underlying9⟩
theorem law (ps : List PV) (h : ArgsT Try.prog 1048576 Try.f6.params.toList ps) : CallsA Try.prog 6 ps [] YesR := by
  obtain ⟨p, r, rfl, h1, h2⟩ := argsT_cons h
  obtain ⟨q, r, rfl, g2, h3⟩ := argsT_cons h2
  obtain ⟨q', r, rfl, g3, h4⟩ := argsT_cons h3
  obtain rfl := argsT_nil h4
  obtain ⟨a, rfl, _, ha⟩ := argT_val valTys h1
  obtain ⟨k, rfl, hk⟩ := argT_strB Try.underlying9 g2
  obtain ⟨b, rfl, _, hb⟩ := argT_val valTys g3
  have := law_sets a b k ha hk hb
  rwa [← valP_eq, ← valP_eq] at this

set_option maxRecDepth 100000 in
theorem lifted (os : Os) (started : os.Started) (H : Type) (enc : TypeId × Value → H) (F : Stop.Interp) :
    ReturnsInHanded {} Try.checked os 6 .any ((Rows.OpenSpec.upto Rows.bencodeSetsSpec).pre6 enc Try.prog Try.f6 Rows.bencodeSetsUptoRow.domain false) (((Rows.OpenSpec.upto Rows.bencodeSetsSpec).at F).post enc Try.prog Try.f6 false true false false) := by
  refine returnsInHanded_of_cond (C := Try.checked) (s := Rows.OpenSpec.upto Rows.bencodeSetsSpec) (k := Rows.uptoSmall) rfl own started (by kernel_rfl) Try.func6
    (OpenSpec.witness (enc := enc) (C := Try.checked) (s := Rows.OpenSpec.upto Rows.bencodeSetsSpec) (k := Rows.uptoSmall) rfl false ⟨#[], #[.agg #[.int .i64 0, .int .i64 0, .string ⟨#[]⟩, .slice none 0 0, .slice none 0 0], .string ⟨#[]⟩, .agg #[.int .i64 0, .int .i64 0, .string ⟨#[]⟩, .slice none 0 0, .slice none 0 0]], []⟩ 8 (by kernel_rfl) (by kernel_rfl) (by kernel_rfl)
      (x := ([.agg [.lit (.int .i64 0), .lit (.int .i64 0), .lit (.string []), .nil, .nil], .lit (.string []), .agg [.lit (.int .i64 0), .lit (.int .i64 0), .lit (.string []), .nil, .nil]], [], [])) (by kernel_rfl) rfl (by kernel_rfl)) ?_
  intro W base args ds gs before hval hW _ hk _
  refine law_step (N := 1048576) meas closed laid (by kernel_rfl) (by kernel_rfl) rfl (tb := 4) rfl Try.underlying4 (fun ds hl => ?_) law hval hW (bulk_each ?_)
  · match ds, hl with
    | [d0, d1, d2], _ => rfl
  · have := of_decide_eq_true hk
    have e : ∀ a b : List (DataW H), Rows.uptoBulkAll (a ++ b) = Rows.uptoBulkAll a + Rows.uptoBulkAll b := fun a b => by rw [← bulkAll_sum, ← bulkAll_sum, ← bulkAll_sum]; simp
    rw [e] at this
    omega

theorem proved : Rows.BencodeSetsUptoSaid :=
  OpenClaim.holds_of_cond 6 Try.f6 rfl rfl rfl rfl rfl rfl rfl ⟨rfl, rfl, rfl, rfl, rfl⟩ rfl rfl rfl rfl rfl (by kernel_rfl) Try.func6 (by kernel_rfl)
    (of_decide_eq_true (by kernel_rfl)) (by unfold Func.isWrapper; first | (rw [if_pos (by decide +kernel)]; kernel_rfl) | (rw [if_neg (by decide +kernel)]; exact ⟨rfl, rfl⟩))
    (fun os started H enc _ F => lifted os started H enc F)
end bencodeSetsC
end Go.Proofs.Ytjibpedeandalaa
