/- Objects under other numbers, in the midst of a walk and at a function's end. -/
import Derived.Test.YthilodmojjlaeaaAwAdopt
set_option linter.unusedVariables false
set_option linter.unusedSimpArgs false
namespace Go.Aw

theorem St.gone {w0 w : World} {F0 mods F : Nat → Prop} {ρ : Nat → Option Nat} {S : Heap} (h : St w0 F0 mods F ρ S w) : St w0 F0 mods F ρ (S ++ [.gone]) w ∧ Keeps w w F F ρ ρ (info S) (info (S ++ [.gone])) := by
  have hk : Keeps w w F F ρ ρ (info S) (info (S ++ [.gone])) :=
    ⟨fun _ _ => rfl, fun _ h => h, fun _ => Nat.le_refl _, fun o ho => by rw [info_append ho]; exact ho,
      fun o ho hx => by rw [info_append ho] at hx; exact ⟨hx, rfl⟩,
      fun o m ho hx => by rw [info_append ho] at hx; exact ⟨m, hx, Nat.le_refl _, fun _ => rfl⟩⟩
  have live : ∀ o b, Lives (S ++ [.gone]) ρ o b → Lives S ρ o b := by
    rintro o b ⟨h1, y, h2, h3⟩
    by_cases e : o = S.length
    · subst e
      simp at h2
      subst h2
      exact h3.elim
    · have hl : o < S.length := by have := (List.getElem?_eq_some_iff.1 h2).1; simp at this; omega
      rw [List.getElem?_append_left hl] at h2
      exact ⟨h1, y, h2, h3⟩
  refine ⟨⟨?_, fun o o' b h1 h2 => h.inj o o' b (live o b h1) (live o' b h2), fun o b h1 => h.notF o b (live o b h1), h.bound, fun o b h1 => h.mine o b (live o b h1), h.grow, h.os, h.tape, h.output, h.keep, h.bsize, h.f0, h.fnew⟩, hk⟩
  intro o y hy
  by_cases e : o = S.length
  · subst e
    simp at hy
    subst hy
    trivial
  · have hl : o < S.length := by have := (List.getElem?_eq_some_iff.1 hy).1; simp at this; omega
    rw [List.getElem?_append_left hl] at hy
    exact (h.objs o y hy).keeps hk rfl fun b _ _ => rfl

/-- The state may be taken for another one. -/
def Turn (k : Nat) (e : Env) (S : Heap) (e' : Env) (S' : Heap) : Prop := ∀ (G : Ghost) (a : Act) (w : World), G.S0.length = k → Inv G e S a w → Inv G e' S' a w

theorem Turn.trans {k : Nat} {e e1 e2 : Env} {S S1 S2 : Heap} (h : Turn k e S e1 S1) (g : Turn k e1 S1 e2 S2) : Turn k e S e2 S2 := fun G a w hk hi => g G a w hk (h G a w hk hi)
theorem Turn.weak {k : Nat} {e e' : Env} {S S' : Heap} (h : WeakH k e S e' S') : Turn k e S e' S' := fun G a w hk hi => h.inv hk hi
theorem Turn.adopts {k : Nat} {e e' : Env} {S S' : Heap} (h : Adopts e S e' S') : Turn k e S e' S' := fun G a w hk hi => h.inv hi
theorem Turn.gone {k : Nat} {e : Env} {S : Heap} : Turn k e S e (S ++ [.gone]) := fun G a w hk ⟨F, ρ, hi⟩ => by
  obtain ⟨h1, h2⟩ := hi.st.gone
  exact ⟨F, ρ, h1, fun t => (hi.env t).keeps h2, hi.keeps.trans h2, hi.nt, hi.defers⟩
/-- Slots under other numbers. -/
def EnvR (τ : Nat → Nat) (n : Nat) (e : Env) : Env → Prop
  | [] => True
  | (t, p) :: r => renV τ p = look e t ∧ scB n p = true ∧ EnvR τ n e r
theorem EnvR.look {τ : Nat → Nat} {n : Nat} {e : Env} : ∀ {e' : Env}, EnvR τ n e e' → ∀ t, Go.Aw.look e' t = .any ∨ (renV τ (Go.Aw.look e' t) = Go.Aw.look e t ∧ scB n (Go.Aw.look e' t) = true)
  | [], _, t => .inl rfl
  | (s, p) :: r, h, t => by
    simp only [Go.Aw.look]
    by_cases e : t = s
    · subst e; rw [if_pos rfl]; exact .inr ⟨h.1, h.2.1⟩
    · rw [if_neg e]; exact EnvR.look h.2.2 t

/-- The caller's objects stay where they are, or are given up. -/
def pinned (sel : List Nat) (S' : Heap) : Nat → Bool
  | 0 => true
  | j + 1 => (match S'[j]? with
    | some .gone => true
    | _ => match sel[j]? with
      | some s => Nat.beq s j
      | none => false) && pinned sel S' j
theorem pinned_spec {sel : List Nat} {S' : Heap} : ∀ {k : Nat}, pinned sel S' k = true → ∀ j, j < k → S'[j]? = some .gone ∨ sel[j]? = some j
  | 0, h, j, hj => by omega
  | k + 1, h, j, hj => by
    simp only [pinned, Bool.and_eq_true] at h
    rcases Nat.lt_or_ge j k with hlt | hge
    · exact pinned_spec h.2 j hlt
    · obtain rfl : j = k := by omega
      have h1 := h.1
      split at h1
      · exact .inl (by assumption)
      · split at h1
        · rename_i s hs
          exact .inr (by rw [hs, Nat.eq_of_beq_eq_true h1])
        · cases h1

theorem Keeps.pick {w0 w : World} {F0 F : Nat → Prop} {ρ0 ρ : Nat → Option Nat} {S0 S S' : Heap} (q : Keeps w0 w F0 F ρ0 ρ (info S0) (info S)) {sel : List Nat} (hl : sel.length = S'.length) (hk : S0.length ≤ S'.length)
    (hinf : ∀ o, o < S'.length → info S (num sel S.length o) = info S' o) (hp : pinned sel S' S0.length = true) : Keeps w0 w F0 F ρ0 (fun j => ρ (num sel S.length j)) (info S0) (info S') := by
  have hc : ∀ o, info S0 o ≠ .fresh → info S' o = .gone ∨ (info S' o = info S o ∧ num sel S.length o = o) := fun o ho => by
    have hlt := info_lt ho
    rcases pinned_spec hp o hlt with h | h
    · left; rw [info_of h]; rfl
    · right
      have e : num sel S.length o = o := by
        rw [num_lt (by omega)]
        rw [List.getElem?_eq_getElem (by omega)] at h
        simpa using h
      have := hinf o (by omega)
      rw [e] at this
      exact ⟨this.symm, e⟩
  refine ⟨q.same, q.sub, q.size, fun o ho => ?_, fun o ho hx => ?_, fun o m ho hx => ?_⟩
  · rcases hc o ho with h | h
    · rw [h]; simp
    · rw [h.1]; exact q.old o ho
  · rcases hc o ho with h | ⟨h, h'⟩
    · rw [h] at hx; cases hx
    · rw [h] at hx
      obtain ⟨g1, g2⟩ := q.box o ho hx
      exact ⟨g1, by show ρ (num sel S.length o) = _; rw [h', g2]⟩
  · rcases hc o ho with h | ⟨h, h'⟩
    · rw [h] at hx; cases hx
    · rw [h] at hx
      obtain ⟨m', g1, g2, g3⟩ := q.buf o m ho hx
      exact ⟨m', g1, g2, fun e => by show ρ (num sel S.length o) = _; rw [h']; exact g3 e⟩

theorem sel_some {sel : List Nat} {S S' : Heap} (hsel : SelOk (num sel S.length) S sel S') : ∀ j x, S'[j]? = some x → S[num sel S.length j]? = some (renO (num sel S.length) x) := fun j x hx => by
  have hj : j < sel.length := by rw [hsel.len]; exact (List.getElem?_eq_some_iff.1 hx).1
  rw [num_lt hj]
  exact hsel.get (List.getElem?_eq_getElem hj) hx

theorem Turn.pick {k : Nat} {e e' : Env} {S S' : Heap} (sel : List Nat) (hsel : SelOk (num sel S.length) S sel S')
    (hn : (decide sel.Nodup && sel.all (fun s => Nat.blt s S.length) && Nat.ble k S'.length && pinned sel S' k) = true) (hsc : S'.all (Ob.sc S'.length) = true)
    (he : EnvR (num sel S.length) S'.length e e') : Turn k e S e' S' := fun G a w hk ⟨F, ρ, hi⟩ => by
  simp only [Bool.and_eq_true, decide_eq_true_eq] at hn
  obtain ⟨⟨⟨n1, n2⟩, n3⟩, n4⟩ := hn
  have n2 := List.all_eq_true.1 n2
  have n3 := Nat.le_of_ble_eq_true n3
  have hs := sel_some hsel
  have hst := hi.st.pick (τ := num sel S.length) (S' := S') (fun i j hi hj he => num_inj n1 (fun s hs => blt_lt (n2 s hs)) he) hs hsc
  have hinf : ∀ o, o < S'.length → info S (num sel S.length o) = info S' o ∧ ρ (num sel S.length o) = (fun j => ρ (num sel S.length j)) o := fun o ho => by
    have hx := List.getElem?_eq_getElem ho
    refine ⟨?_, rfl⟩
    rw [info_of (hs o _ hx), info_of hx, renO_info]
  subst hk
  refine ⟨F, _, hst, fun t => ?_, hi.keeps.pick hsel.len n3 (fun o ho => (hinf o ho).1) n4, hi.nt, hi.defers⟩
  rcases he.look t with h | ⟨h, h'⟩
  · rw [h]; simp [RepPV]
  · refine (rep_ren hinf _ _ h').1 ?_
    rw [h]; exact hi.env t

/-- A loop, ahead of which the state is taken for another one. -/
theorem loopTurn {P : Program} {k nt : Nat} {c : Code} {Q : Post} {e e1 : Env} {S S1 : Heap} (t : Turn k e S e1 S1) (h : LoopW P k nt c Q e1 S1) : LoopW P k nt c Q e S := by
  obtain ⟨h⟩ := h
  exact ⟨fun G a w hk hn hi => h G a w hk hn (t G a w hk hi)⟩

/-- A round's end, where the state may be taken for another one. -/
inductive NextT {γ : Type} (k : Nat) (J : γ → Prop) (ch : γ → Env) (H : γ → Heap) (μ : γ → Nat) (g : γ) (kp : Env) (e' : Env) (S' : Heap) : Prop
  | mk (g' : γ) (hj : J g') (hm : μ g' < μ g) (t : Turn k e' S' (ch g' ++ kp) (H g'))

section
variable {P : Program} {k nt : Nat} {Q : Post} {e : Env} {S : Heap}
theorem loopA' {c : Code} (hd : codeOk nt c = true) {γ : Type} (J : γ → Prop) (E : γ → Env) (H : γ → Heap) (μ : γ → Nat) (g0 : γ) (j0 : J g0) (h0 : Turn k e S (E g0) (H g0))
    (round : ∀ g, J g → AWs P k nt c (fun
      | .normal => fun e' S' => ∃ g', J g' ∧ Turn k e' S' (E g') (H g') ∧ μ g' < μ g
      | x => Q x) (E g) (H g)) : LoopA P k nt c Q e S := by
  intro G a w hk hn hi b kk cs
  have key : ∀ (n : Nat) (g : γ), μ g = n → J g → ∀ (a : Act) (w : World), Inv G (E g) (H g) a w →
      ∃ en a' w', liftQ G Q en a' w' ∧ Arrives P (lone (b.at a (.code c :: .inLoop c :: kk)) cs w) b kk cs en a' w' := by
    intro n
    induction n using Nat.strongRecOn with
    | _ n ih =>
      intro g hg hj a w hi
      obtain ⟨en, a₁, w₁, hq, harr⟩ := AWs_sound k nt c _ _ _ hd (round g hj) G a w hk hn hi b (.inLoop c :: kk) cs
      cases en with
      | normal =>
        obtain ⟨e', S', ⟨g', hj', hw, hlt⟩, hi'⟩ := hq
        obtain ⟨e₂, a₂, w₂, hq₂, harr₂⟩ := ih (μ g') (hg ▸ hlt) g' rfl hj' a₁ w₁ (hw G a₁ w₁ hk hi')
        exact ⟨e₂, a₂, w₂, hq₂, .of_steps (Steps.trans harr (.one step_inLoop)) harr₂⟩
      | exit id => exact ⟨.exit id, a₁, w₁, hq, .pass (x := .inLoop c) rfl (fun _ _ => .inl (by simp)) harr⟩
      | goto l => exact hq.elim
      | ret => exact ⟨.ret, a₁, w₁, hq, .pass (x := .inLoop c) rfl (fun _ _ => .inl (by simp)) harr⟩
      | panic ch => exact ⟨.panic ch, a₁, w₁, hq, .pass (x := .inLoop c) rfl (fun _ _ => .inl (by simp)) harr⟩
      | outgrown => exact hq.elim
  obtain ⟨en, a', w', hq, harr⟩ := key (μ g0) g0 rfl j0 a w (h0 G a w hk hi)
  exact ⟨en, a', w', hq, .of_steps (.one step_loop) harr⟩

/-- A loop whose rounds may put the objects under other numbers. kp: the slots that are kept. -/
theorem loopT {c : Code} (hd : codeOk nt c = true) {γ : Type} (kp : Env) (J : γ → Prop) (ch : γ → Env) (H : γ → Heap) (μ : γ → Nat)
    (g0 : γ) (j0 : J g0) (t0 : Turn k e S (ch g0 ++ kp) (H g0))
    (round : ∀ g, J g → forceE (ch g ++ kp) fun e1 => forceH (H g) fun S1 => AWw P k nt c (fun
      | .normal => fun e' S' => forceE e' fun e' => forceH S' fun S' => NextT k J ch H μ g kp e' S'
      | x => Q x) e1 S1) : LoopW P k nt c Q e S := by
  refine ⟨loopA' hd J (fun g => ch g ++ kp) H μ g0 j0 t0 fun g hg => ?_⟩
  have hr := round g hg
  rw [forceE_iff, forceH_iff] at hr
  refine AWw_A c _ _ (fun x e S h => ?_) _ _ hr
  cases x with
  | normal =>
    obtain ⟨g', hj, hm, t⟩ := (forceH_iff _ _).1 ((forceE_iff _ _).1 h)
    exact ⟨g', hj, t, hm⟩
  | exit i => exact h
  | ret => exact h
  | panic p => exact h

theorem DetA.gone {f : FuncId} {args : List PV} {S0 H : Heap} {v : PV} (h : DetA P f args S0 v H) : DetA P f args S0 v (H ++ [.gone]) := by
  refine ⟨h.1, fun w0 F0 mods F ρ w cargs hst hca => (h.2 w0 F0 mods F ρ w cargs hst hca).mono fun e w' he => ?_⟩
  obtain ⟨r, S1, F', ρ', ⟨rfl, rfl⟩, q1, q2, q3⟩ := he
  obtain ⟨h', hk⟩ := q2.gone
  refine ⟨_, _, F', _, ⟨rfl, rfl⟩, ?_, h', q3.trans hk⟩
  cases e with
  | returned u => exact RepPV.keeps hk v u q1
  | panicked c => exact q1.elim
  | outgrown => exact q1.elim
/-- The answered objects under other numbers; some of the caller's may be given up. -/
theorem DetA.turn {f : FuncId} {args : List PV} {S0 H H' : Heap} {v v' : PV} (h : DetA P f args S0 v H) (sel : List Nat) (hsel : SelOk (num sel H.length) H sel H')
    (hn : (decide sel.Nodup && sel.all (fun s => Nat.blt s H.length) && scB H'.length v' && Nat.ble S0.length H'.length && pinned sel H' S0.length) = true) (n3 : H'.all (Ob.sc H'.length) = true)
    (hv : renV (num sel H.length) v' = v) : DetA P f args S0 v' H' := by
  simp only [Bool.and_eq_true, decide_eq_true_eq] at hn
  obtain ⟨⟨⟨⟨n1, n2⟩, n4⟩, n5⟩, n6⟩ := hn
  have n2 := List.all_eq_true.1 n2
  have n5 := Nat.le_of_ble_eq_true n5
  subst hv
  have hs := sel_some hsel
  refine ⟨h.1, fun w0 F0 mods F ρ w cargs hst hc => (h.2 w0 F0 mods F ρ w cargs hst hc).mono fun e w' he => ?_⟩
  obtain ⟨r, S1, F', ρ', ⟨rfl, rfl⟩, q1, q2, q3⟩ := he
  have hst' := q2.pick (τ := num sel S1.length) (S' := H') (fun i j hi hj he => num_inj n1 (fun s hs => blt_lt (n2 s hs)) he) hs n3
  have hinf : ∀ o, o < H'.length → info S1 (num sel S1.length o) = info H' o ∧ ρ' (num sel S1.length o) = (fun j => ρ' (num sel S1.length j)) o := fun o ho => by
    have hx := List.getElem?_eq_getElem ho
    refine ⟨?_, rfl⟩
    rw [info_of (hs o _ hx), info_of hx, renO_info]
  refine ⟨.ret v', H', F', _, ⟨rfl, rfl⟩, ?_, hst', q3.pick hsel.len n5 (fun o ho => (hinf o ho).1) n6⟩
  cases e with
  | returned u => exact (rep_ren (n := H'.length) (σ := num sel S1.length) hinf v' u n4).1 q1
  | panicked c => exact q1.elim
  | outgrown => exact q1.elim
end
end Go.Aw
