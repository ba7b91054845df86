/- The operations beside those of opW, carried out by reduction. -/
import Derived.Test.YthilodmojjlaeaaAwPx
import Derived.Test.YthilodmojjlaeaaAwConv
set_option linter.unusedVariables false
set_option linter.unusedSimpArgs false
namespace Go.Aw

/-- Operations carried out beside those of opW; where they are none of these, Z. -/
def ptW (Z : Prop) (P : Program) (vs : List PV) (S : Heap) (o : Oper) (K : PV → Heap → Prop) : Prop := match o.op with
  | .typeAssert _ _ at_ true => match plainA P at_, z0 P at_ with
    | true, some z => match vs with
      | [.d (.ifc t d)] => match Nat.decEq t at_ with
        | isTrue _ => K (.tup [.d d, .d (.b true)]) S
        | isFalse _ => K (.tup [z, .d (.b false)]) S
      | [.d .nili] => K (.tup [z, .d (.b false)]) S
      | _ => Z
    | _, _ => Z
  | .indexAddr t _ _ => match elO P t with
    | some el => match szO P el with
      | some sz => match vs with
        | [.own o _ n, .d (.i _ i)] => match S[o]? with
          | some (.fro ds) => Cd (ds.length = n ∧ AllLen sz ds ∧ 0 ≤ i ∧ i < n) (K (.dp (ds.getD i.toNat [])) S)
          | _ => Z
        | _ => Z
      | none => Z
    | none => Z
  | .call { callee := .builtin .min, args, argTypes } => match args.toList, vs with
    | [_, _], [.d (.i k a), .d (.i _ b)] => K (.d (.i k (if b < a then b else a))) S
    | _, _ => Z
  | .call { callee := .builtin .max, args, argTypes } => match args.toList, vs with
    | [_, _], [.d (.i k a), .d (.i _ b)] => K (.d (.i k (if b > a then b else a))) S
    | _, _ => Z
  | _ => Z
/-- The same, of operations that change what objects there are. -/
def ptX (Z : Prop) (P : Program) (vs : List PV) (S : Heap) (o : Oper) (K : PV → Heap → Prop) : Prop := match o.op with
  | .makeInterface t _ => match plainA P t, vs with
    | true, [.own o _ n] => match S[o]? with
      | some (.buf rows) => PubRows rows n fun ds => forceH (S.set o (.fro ds)) fun S' => K (.d (.ifc t (.sl ds))) S'
      | some (.fro ds) => Cd (ds.length = n) (K (.d (.ifc t (.sl ds))) S)
      | _ => Z
    | _, _ => Z
  | .convert s t _ => match u8O P t, Nat.decEq s t with
    | true, isTrue _ => match vs with
      | [.own o _ n] => match S[o]? with
        | some (.buf rows) => Cd (0 < n) (PubRows rows n fun ds => forceH (S.set o .gone) fun S' => K (.d (.sl ds)) S')
        | _ => Z
      | _ => Z
    | _, _ => pxW (ptW Z P vs S o K) P vs S o K
  | _ => pxW (ptW Z P vs S o K) P vs S o K

theorem ptW_pt {P : Program} {vs : List PV} {S : Heap} {o : Oper} {K : PV → Heap → Prop} (h : ptW False P vs S o K) : ∃ p, OpPt P vs S o p S ∧ (isRd o.op = false → ∀ S2, OpPt P vs S2 o p S2) ∧ K p S := by
  obtain ⟨dst, op, ty, pos, after, g⟩ := o
  unfold ptW at h
  split at h
  · rename_i hop
    simp only at hop
    subst hop
    split at h
    · rename_i z hp hz
      split at h
      · rename_i t d
        split at h
        · rename_i he _; exact ⟨_, pt_assert hp (.inl ⟨he, rfl⟩), fun _ S2 => pt_assert hp (.inl ⟨he, rfl⟩), h⟩
        · rename_i he _; exact ⟨_, pt_assert hp (.inr ⟨he, z, hz, rfl⟩), fun _ S2 => pt_assert hp (.inr ⟨he, z, hz, rfl⟩), h⟩
      · exact ⟨_, pt_assertNil hp hz, fun _ S2 => pt_assertNil hp hz, h⟩
      · exact h.elim
    · exact h.elim
  · rename_i hop
    simp only at hop
    subst hop
    split at h
    · rename_i el he
      split at h
      · rename_i sz hs
        split at h
        · split at h
          · rename_i ds hx
            obtain ⟨⟨h1, h2, h3, h4⟩, hk⟩ := h
            exact ⟨_, pt_indexFro he hs hx h1 h2 h3 h4, by simp [isRd], hk⟩
          · exact h.elim
        · exact h.elim
      · exact h.elim
    · exact h.elim
  · rename_i hop
    simp only at hop
    subst hop
    split at h
    · rename_i ha; exact ⟨_, pt_min ha, fun _ S2 => pt_min ha, h⟩
    · exact h.elim
  · rename_i hop
    simp only at hop
    subst hop
    split at h
    · rename_i ha; exact ⟨_, pt_max ha, fun _ S2 => pt_max ha, h⟩
    · exact h.elim
  · exact h.elim
theorem ptX_pt {P : Program} {vs : List PV} {S : Heap} {o : Oper} {K : PV → Heap → Prop} (h : ptX False P vs S o K) : SemV P vs S o K := by
  unfold ptX at h
  split at h
  · rename_i t x hop
    obtain ⟨dst, op, ty, pos, after, g⟩ := o
    simp only at hop
    subst hop
    split at h
    · rename_i oo sz n hp
      split at h
      · rename_i rows hx
        obtain ⟨ds, h1, h2, h3⟩ := h
        exact (pt_ifcOwn hp hx h1 h2).to ((forceH_iff _ _).1 h3)
      · rename_i ds hx
        obtain ⟨h1, h3⟩ := h
        exact (pt_ifcFro hp hx h1).to h3
      · exact h.elim
    · exact h.elim
  · rename_i s t x hop
    split at h
    · rename_i he hu _
      obtain ⟨dst, op, ty, pos, after, g⟩ := o
      simp only at hop
      subst hop
      subst he
      split at h
      · rename_i oo sz n
        split at h
        · rename_i rows hx
          obtain ⟨h0, ds, h1, h2, h3⟩ := h
          exact (pt_convOwn hu hx h1 h0 h2).to ((forceH_iff _ _).1 h3)
        · exact h.elim
      · exact h.elim
    · rcases pxW_Z h with h | h
      · exact h
      · obtain ⟨p, h1, _, h2⟩ := ptW_pt h; exact h1.to h2
  · rcases pxW_Z h with h | h
    · exact h
    · obtain ⟨p, h1, _, h2⟩ := ptW_pt h; exact h1.to h2
theorem ptW_Z {Z : Prop} {P : Program} {vs : List PV} {S : Heap} {o : Oper} {K : PV → Heap → Prop} (h : ptW Z P vs S o K) : (∃ p, OpPt P vs S o p S ∧ (isRd o.op = false → ∀ S2, OpPt P vs S2 o p S2) ∧ K p S) ∨ Z := by
  by_cases hz : Z
  · exact .inr hz
  · have : Z = False := propext ⟨hz, False.elim⟩
    subst this
    exact .inl (ptW_pt h)
theorem ptX_Z {Z : Prop} {P : Program} {vs : List PV} {S : Heap} {o : Oper} {K : PV → Heap → Prop} (h : ptX Z P vs S o K) : SemV P vs S o K ∨ Z := by
  by_cases hz : Z
  · exact .inr hz
  · have : Z = False := propext ⟨hz, False.elim⟩
    subst this
    exact .inl (ptX_pt h)
end Go.Aw
