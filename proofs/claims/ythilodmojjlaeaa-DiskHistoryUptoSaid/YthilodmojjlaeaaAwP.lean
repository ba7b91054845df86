/- Every order of a region comes to what the text's order comes to. -/
import Derived.Test.YthilodmojjlaeaaAwO
set_option linter.unusedVariables false
set_option linter.unusedSimpArgs false
namespace Go.Aw
section
variable {P : Program}

theorem ev_congr {e e' : Env} {x : Operand} (h : ∀ t, x = .tmp t → look e t = look e' t) : ev e x = ev e' x := by
  cases x with
  | tmp t => exact h t rfl
  | const v => rfl
  | global g => rfl
  | func f => rfl

/-- An operation looks at its operands alone. -/
theorem opA_congr {e e' : Env} {S : Heap} {op : Op} {K : PV → Heap → Prop} (h : ∀ x ∈ op.operands, ev e x = ev e' x) (hl : opA P e S op K) : opA P e' S op K := by
  have pairs : ∀ l : List (Nat × Operand), (∀ x ∈ l.map (·.2), ev e x = ev e' x) → (l.map fun x => (x.1, ev e x.2)) = (l.map fun x => (x.1, ev e' x.2)) := fun l hl =>
    List.map_congr_left fun x hx => by rw [hl x.2 (List.mem_map.2 ⟨x, hx, rfl⟩)]
  have opt : ∀ o : Option Operand, (∀ x ∈ o.toArray, ev e x = ev e' x) → o.map (ev e) = o.map (ev e') := fun o ho => by
    cases o with
    | none => rfl
    | some x => simp [ho x (by simp)]
  cases op <;> try (simp only [opA] at hl; done)
  case call c =>
    obtain ⟨callee, args, argTypes⟩ := c
    cases callee with
    | value f => simp only [opA] at hl
    | invoke r m => simp only [opA] at hl
    | builtin b =>
      have ha : ∀ x ∈ args.toList, ev e x = ev e' x := fun x hx => h x (by simp [Op.operands, Call.operands]; simpa using hx)
      cases b <;> simp only [opA] at hl
      case len =>
        split at hl
        · rename_i x t hx ht
          simp only [opA, hx, ht]
          rw [← ha x (by simp [hx])]; exact hl
        · exact hl.elim
      case append =>
        split at hl
        · rename_i p x t t' hx ht
          simp only [opA, hx, ht]
          rw [← ha p (by simp [hx]), ← ha x (by simp [hx])]; exact hl
        · exact hl.elim
  all_goals simp only [Op.operands] at h
  case move x => simp only [opA] at hl ⊢; rw [← h x (by simp)]; exact hl
  case assign x => simp only [opA] at hl ⊢; rw [← h x (by simp)]; exact hl
  case pick c a b => simp only [opA] at hl ⊢; rw [← h c (by simp), ← h a (by simp), ← h b (by simp)]; exact hl
  case alloc T => exact hl
  case box T v => simp only [opA] at hl ⊢; rw [← h v (by simp)]; exact hl
  case build T parts => simp only [opA] at hl ⊢; rw [← pairs parts.toList (fun x hx => h x (by simpa using hx))]; exact hl
  case buildSlice T len parts => simp only [opA] at hl ⊢; rw [← pairs parts.toList (fun x hx => h x (by simpa using hx))]; exact hl
  case load T x => simp only [opA] at hl ⊢; rw [← h x (by simp)]; exact hl
  case store T x y => simp only [opA] at hl ⊢; rw [← h x (by simp), ← h y (by simp)]; exact hl
  case fieldAddr T x f => simp only [opA] at hl ⊢; rw [← h x (by simp)]; exact hl
  case indexAddr T x i => simp only [opA] at hl ⊢; rw [← h x (by simp), ← h i (by simp)]; exact hl
  case binOp op t x y yt => simp only [opA] at hl ⊢; rw [← h x (by simp), ← h y (by simp)]; exact hl
  case nilCheck x => simp only [opA] at hl ⊢; rw [← h x (by simp)]; exact hl
  case unOp op t x => cases op <;> simp only [opA] at hl ⊢ <;> (rw [← h x (by simp)]; exact hl)
  case convert s t x => simp only [opA] at hl ⊢; rw [← h x (by simp)]; exact hl
  case extract x i => simp only [opA] at hl ⊢; rw [← h x (by simp)]; exact hl
  case index t x i => simp only [opA] at hl ⊢; rw [← h x (by simp), ← h i (by simp)]; exact hl
  case slice t x lo hi mx =>
    cases mx with
    | none =>
      simp only [opA] at hl ⊢
      rw [← h x (by simp), ← opt lo (fun y hy => h y (by simp at hy ⊢; simp [hy])), ← opt hi (fun y hy => h y (by simp at hy ⊢; simp [hy]))]; exact hl
    | some m => simp only [opA] at hl
  case makeSlice t l c => simp only [opA] at hl ⊢; rw [← h l (by simp), ← h c (by simp)]; exact hl
  case makeInterface t x => simp only [opA] at hl ⊢; rw [← h x (by simp)]; exact hl

theorem mem_tmpsOf {o : Oper} {t : Nat} : t ∈ tmpsOf o ↔ Operand.tmp t ∈ o.op.operands := by
  unfold tmpsOf
  rw [List.mem_filterMap]
  constructor
  · rintro ⟨x, hx, he⟩
    cases x <;> simp at he
    subst he
    simpa using hx
  · intro h
    exact ⟨.tmp t, by simpa using h, rfl⟩

theorem SemOp.congr {e e' : Env} {S : Heap} {o : Oper} {K : PV → Heap → Prop} (h' : ∀ x ∈ o.op.operands, ev e x = ev e' x) (hl : SemOp P e S o K) : SemOp P e' S o K :=
  fun w0 F0 mods F ρ w a hs he => hl w0 F0 mods F ρ w a hs fun x hx => by rw [h' x hx]; exact he x hx
theorem OpOk.mono {s : Sem Next} {w0 : World} {F0 mods F : Nat → Prop} {ρ : Nat → Option Nat} {S : Heap} {w : World} {K K' : PV → Heap → Prop} (h : OpOk P s w0 F0 mods F ρ S w K) (hk : ∀ v s, K v s → K' v s) : OpOk P s w0 F0 mods F ρ S w K' := by
  obtain ⟨nx, v, w', pv, S', F', ρ', h1, h2, h3, h4⟩ := h
  exact ⟨nx, v, w', pv, S', F', ρ', h1, h2, hk _ _ h3, h4⟩
theorem SemOp.mono {e : Env} {S : Heap} {o : Oper} {K K' : PV → Heap → Prop} (h : SemOp P e S o K) (hk : ∀ v s, K v s → K' v s) : SemOp P e S o K' :=
  fun w0 F0 mods F ρ w a hs he => (h w0 F0 mods F ρ w a hs he).mono hk

theorem execF_congr {e e' : Env} {S : Heap} {o : Oper} {K : PV → Heap → Prop} (h : ∀ t ∈ tmpsOf o, look e t = look e' t) (hl : execF P e S o K) : execF P e' S o K := by
  have h' : ∀ x ∈ o.op.operands, ev e x = ev e' x := fun x hx => ev_congr fun t ht => h t (mem_tmpsOf.2 (ht ▸ hx))
  rcases hl with hl | hl
  · refine Or.inl ?_
    unfold execF0 at hl ⊢
    split at hl
    · rename_i f args argTypes hop
      have : args.toList.map (ev e) = args.toList.map (ev e') := List.map_congr_left fun x hx => h' x (by rw [hop]; simp [Op.operands, Call.operands]; right; simpa using hx)
      rwa [← this]
    · exact hl.elim
    · exact opA_congr h' hl
  · obtain ⟨p, S', h1, h2, h3, h4⟩ := hl
    exact Or.inr ⟨p, S', h1.congr h', h2, fun a b S2 => (h3 a b S2).congr h', h4⟩

theorem execF_point {e : Env} {S : Heap} {o : Oper} {K : PV → Heap → Prop} (h : execF P e S o K) : ∃ v S', (∀ K' : PV → Heap → Prop, K' v S' → execF P e S o K') ∧ K v S' ∧ (isWr o.op = false → S' = S) ∧
    (isWr o.op = false → isRd o.op = false → ∀ S2 (K' : PV → Heap → Prop), K' v S2 → execF P e S2 o K') := by
  rcases h with h | h
  · unfold execF0 at h
    split at h
    · rename_i f args argTypes hop
      obtain ⟨p, S', h1, h2⟩ := h
      exact ⟨p, S', fun K' hK => Or.inl (by simp only [execF0, hop]; exact ⟨p, S', h1, hK⟩), h2, by simp [hop, isWr], by simp [hop, isWr]⟩
    · exact h.elim
    · rename_i hne1 hne2
      obtain ⟨v, S', h1, h2, h3, h4⟩ := opA_point h
      have key : ∀ (S2 : Heap) (K' : PV → Heap → Prop), opA P e S2 o.op K' → execF P e S2 o K' := fun S2 K' hK => by
        refine Or.inl ?_
        unfold execF0
        split
        · rename_i f args argTypes hop; exact absurd hop (hne1 f args argTypes)
        · rename_i x hop; exact absurd hop (hne2 x)
        · exact hK
      exact ⟨v, S', fun K' hK => key _ _ (h1 K' hK), h2, h3, fun a b S2 K' hK => key _ _ (h4 a b S2 K' hK)⟩
  · obtain ⟨p, S', h1, h2, h3, h4⟩ := h
    exact ⟨p, S', fun K' hK => Or.inr ⟨p, S', h1, h2, h3, hK⟩, h4, h2, fun a b S2 K' hK => Or.inr ⟨p, S2, h3 a b S2, fun _ => rfl, h3, hK⟩⟩

theorem opA_mono {e : Env} {S : Heap} {op : Op} {K K' : PV → Heap → Prop} (h : opA P e S op K) (hk : ∀ v s, K v s → K' v s) : opA P e S op K' := by
  obtain ⟨v, S', h1, h2, _, _⟩ := opA_point h
  exact h1 K' (hk _ _ h2)

theorem execA_of_opA {e : Env} {S : Heap} {o : Oper} {K : PV → Heap → Prop} {QP : PV → Heap → Prop} (h : opA P e S o.op K) : execA P e S o K QP := by
  refine Or.inl ?_
  unfold execA0
  split
  · rename_i f args argTypes hop; rw [hop] at h; simp only [opA] at h
  · rename_i x hop; rw [hop] at h; simp only [opA] at h
  · exact h

/-- From a point to what the walk in the world asks. -/
theorem execA_of_F {e : Env} {S : Heap} {o : Oper} {K : PV → Heap → Prop} {QP : PV → Heap → Prop} (h : execF P e S o K) : execA P e S o K QP := by
  rcases h with h | h
  case inr =>
    obtain ⟨p, S', h1, h2, h3, h4⟩ := h
    exact Or.inr (Or.inr (Or.inr (Or.inl (h1.mono fun v s hv => by obtain ⟨rfl, rfl⟩ := hv; exact h4))))
  by_cases hc : ∃ f args argTypes, o.op = .call { callee := .value (.func f), args := args, argTypes := argTypes }
  · obtain ⟨f, args, argTypes, hop⟩ := hc
    simp only [execF0, hop] at h
    refine Or.inl ?_
    simp only [execA0, hop]
    obtain ⟨p, S', h1, h2⟩ := h
    exact ⟨_, h1, fun r s hr => by obtain ⟨rfl, rfl⟩ := hr; exact fun _ => h2⟩
  · unfold execF0 at h
    split at h
    · rename_i f args argTypes hop; exact absurd ⟨f, args, argTypes, hop⟩ hc
    · exact h.elim
    · exact execA_of_opA h
end
end Go.Aw
