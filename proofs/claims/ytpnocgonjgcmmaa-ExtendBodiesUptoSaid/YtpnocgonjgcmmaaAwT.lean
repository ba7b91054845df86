/- Small laws for walks. -/
import Derived.Test.YtpnocgonjgcmmaaAwS
set_option linter.unusedVariables false
set_option linter.unusedSimpArgs false
namespace Go.Aw

theorem wrap_i64 {n : Int} (h : -9223372036854775808 ≤ n) (h' : n ≤ 9223372036854775807) : IntKind.wrap .i64 n = n := by
  simp only [IntKind.wrap, IntKind.signed, IntKind.bits]
  simp
  omega


theorem wrap_u8 {n : Int} (h : 0 ≤ n) (h' : n ≤ 255) : IntKind.wrap .u8 n = n := by
  simp only [IntKind.wrap, IntKind.signed, IntKind.bits]
  simp
  omega

section
variable {P : Program}
/-- A function that answers one value and leaves the objects alone. -/
def PureA (P : Program) (f : FuncId) (args : List PV) (v : PV) : Prop := CallsA P f args [] (fun r S' => r = .ret v ∧ S' = [])

theorem after_nil (S : Heap) : after [] S [] = S := by simp [after, merge]

theorem PureA.frame {f : FuncId} {args : List PV} {v : PV} (h : PureA P f args v) (ha : scBs 0 args = true) (hv : scB 0 v = true) (S : Heap) : CallsA P f args S (fun r S' => r = .ret v ∧ S' = S) := by
  have := CallsA.frame h S [] (by simp) rfl (by simp) (fun j x hx => by simp at hx) rfl ha (fun r S' hr => by obtain ⟨rfl, rfl⟩ := hr; exact ⟨rfl, hv⟩)
  rw [renVs_nop _ _ ha] at this
  refine ⟨this.1, fun w0 F0 mods F ρ w cargs hs hc => (this.2 w0 F0 mods F ρ w cargs hs hc).mono fun e w' he => ?_⟩
  obtain ⟨r, S', F', ρ', ⟨r0, S0', ⟨rfl, rfl⟩, rfl, rfl⟩, h2, h3, h4⟩ := he
  rw [after_nil] at h2 h3 h4
  exact ⟨_, S, F', ρ', ⟨by simp only [renR, renV_nop _ _ hv], rfl⟩, h2, h3, h4⟩

theorem callP {f : FuncId} {args : List PV} {v : PV} {S : Heap} {K QP : PV → Heap → Prop} (h : PureA P f args v) (ha : scBs 0 args = true) (hv : scB 0 v = true) (k : sizedP v → K v S) : CallW P f args S K QP :=
  ⟨CallX.intro (h.frame ha hv S) (fun p S' hr hz => by obtain ⟨e, rfl⟩ := hr; cases e; exact k hz) (fun p S' hr => by obtain ⟨e, rfl⟩ := hr; cases e)⟩
theorem callF {f : FuncId} {args : List PV} {v : PV} {S : Heap} {K : PV → Heap → Prop} (h : PureA P f args v) (ha : scBs 0 args = true) (hv : scB 0 v = true) (k : K v S) : CallF P f args S K :=
  ⟨v, S, h.frame ha hv S, k⟩
end
end Go.Aw
