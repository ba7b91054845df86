/- Control: sequence, branches, blocks, loops; weakening; what a function answers. -/
import Derived.Test.YthilodmojjlaeaaAwK
set_option linter.unusedVariables false
set_option linter.unusedSimpArgs false
namespace Go.Aw

mutual
def scB (n : Nat) : PV → Bool
  | .ptr o _ => decide (o < n)
  | .own o _ _ => decide (o < n)
  | .eptr o _ _ _ _ => decide (o < n)
  | .agg cs => scBs n cs
  | .tup vs => scBs n vs
  | .wag pre _ _ post => scBs n pre && scBs n post
  | .asl o _ _ _ => decide (o < n)
  | .rptr o _ _ => decide (o < n)
  | .sub o _ _ _ _ => decide (o < n)
  | .mp o => decide (o < n)
  | _ => true
def scBs (n : Nat) : List PV → Bool
  | [] => true
  | p :: r => scB n p && scBs n r
end

theorem scBs_mem {n : Nat} : ∀ {ps : List PV}, scBs n ps = true → ∀ p ∈ ps, scB n p = true
  | [], _, p, hp => by simp at hp
  | q :: r, h, p, hp => by
    simp only [scBs, Bool.and_eq_true] at h
    rcases List.mem_cons.1 hp with rfl | hp
    · exact h.1
    · exact scBs_mem h.2 p hp

@[simp] theorem scBs_map_d (n : Nat) : ∀ l : List D, scBs n (l.map PV.d) = true
  | [] => rfl
  | d :: r => by simp [scBs, scB, scBs_map_d n r]

mutual
theorem RepPV.agree {w : World} {F : Nat → Prop} {ρ : Nat → Option Nat} {C C' : Nat → OI} {n : Nat} (hc : ∀ o, o < n → C' o = C o) : ∀ (p : PV) (v : Value), scB n p = true → RepPV w F ρ C p v → RepPV w F ρ C' p v
  | .any, v, _, h => by simp [RepPV]
  | .d x, v, _, h => by simpa [RepPV] using h
  | .nils, v, _, h => by simpa [RepPV] using h
  | .ptr o c, v, hs, h => by
    have := hc o (by simpa [scB] using hs)
    simp only [RepPV] at h ⊢
    rw [this]; exact h
  | .dp cells, v, _, h => by simpa [RepPV] using h
  | .own o sz m, v, hs, h => by
    have := hc o (by simpa [scB] using hs)
    simp only [RepPV] at h ⊢
    rw [this]; exact h
  | .eptr o m r sz c, v, hs, h => by
    have := hc o (by simpa [scB] using hs)
    simp only [RepPV] at h ⊢
    rw [this]; exact h
  | .agg cs, v, hs, h => by
    simp only [RepPV] at h ⊢
    obtain ⟨arr, h1, h2⟩ := h
    exact ⟨arr, h1, RepPVs.agree hc _ _ (by simpa [scB] using hs) h2⟩
  | .tup cs, v, hs, h => by
    simp only [RepPV] at h ⊢
    obtain ⟨arr, h1, h2⟩ := h
    exact ⟨arr, h1, RepTs.agree hc _ _ (by simpa [scB] using hs) h2⟩
  | .wag pre m run post, v, hs, h => by
    simp only [scB, Bool.and_eq_true] at hs
    simp only [RepPV] at h ⊢
    obtain ⟨h0, arr, h1, a, b, c, h2, h3, h4, h5⟩ := h
    exact ⟨h0, arr, h1, a, b, c, h2, RepPVs.agree hc _ _ hs.1 h3, h4, RepPVs.agree hc _ _ hs.2 h5⟩
  | .asl o c lo len, v, hs, h => by
    have := hc o (by simpa [scB] using hs)
    simp only [RepPV] at h ⊢
    rw [this]; exact h
  | .rptr o c i, v, hs, h => by
    have := hc o (by simpa [scB] using hs)
    simp only [RepPV] at h ⊢
    rw [this]; exact h
  | .sub o sz off m k, v, hs, h => by
    have := hc o (by simpa [scB] using hs)
    simp only [RepPV] at h ⊢
    rw [this]; exact h
  | .mp o, v, hs, h => by
    have := hc o (by simpa [scB] using hs)
    simp only [RepPV] at h ⊢
    rw [this]; exact h
theorem RepPVs.agree {w : World} {F : Nat → Prop} {ρ : Nat → Option Nat} {C C' : Nat → OI} {n : Nat} (hc : ∀ o, o < n → C' o = C o) : ∀ (p : List PV) (v : List Value), scBs n p = true → RepPVs w F ρ C p v → RepPVs w F ρ C' p v
  | [], vs, _, h => by simpa [RepPVs] using h
  | d :: r, vs, hs, h => by
    simp only [scBs, Bool.and_eq_true] at hs
    simp only [RepPVs] at h ⊢
    obtain ⟨v, us, h1, h2, h3, h4⟩ := h
    exact ⟨v, us, h1, h2, RepPV.agree hc _ _ hs.1 h3, RepPVs.agree hc _ _ hs.2 h4⟩
theorem RepTs.agree {w : World} {F : Nat → Prop} {ρ : Nat → Option Nat} {C C' : Nat → OI} {n : Nat} (hc : ∀ o, o < n → C' o = C o) : ∀ (p : List PV) (v : List Value), scBs n p = true → RepTs w F ρ C p v → RepTs w F ρ C' p v
  | [], vs, _, h => by simpa [RepTs] using h
  | d :: r, vs, hs, h => by
    simp only [scBs, Bool.and_eq_true] at hs
    simp only [RepTs] at h ⊢
    obtain ⟨v, us, h1, h3, h4⟩ := h
    exact ⟨v, us, h1, RepPV.agree hc _ _ hs.1 h3, RepTs.agree hc _ _ hs.2 h4⟩
end

def Ob.sc (n : Nat) (x : Ob) : Bool := scBs n x.cells

theorem RepEs.move {w : World} {F F' : Nat → Prop} {ρ ρ' : Nat → Option Nat} {C C' : Nat → OI} (hF : ∀ b, F b → F' b) : ∀ {es : List (D × Nat × PV)} {l : List MapEntry}, (∀ p ∈ es.map (fun e => e.2.2), ∀ v, RepPV w F ρ C p v → RepPV w F' ρ' C' p v) → RepEs w F ρ C es l → RepEs w F' ρ' C' es l
  | [], l, hp, h => h
  | (kk, bn, p) :: r, l, hp, h => by
    simp only [RepEs] at h ⊢
    obtain ⟨e, l, rfl, h1, h2, h3, h4⟩ := h
    exact ⟨e, l, rfl, h1.mono (fun _ _ => rfl) hF, h2, hp p (by simp) _ h3, RepEs.move hF (fun q hq => hp q (List.mem_cons_of_mem _ hq)) h4⟩
/-- What is known of the cells is known elsewhere. -/
theorem RepOb.move {w : World} {F F' : Nat → Prop} {ρ ρ' : Nat → Option Nat} {C C' : Nat → OI} {o o' : Nat} (hρ : ρ' o' = ρ o) (hF : ∀ b, F b → F' b) {x : Ob} (hp : ∀ p ∈ x.cells, ∀ v, RepPV w F ρ C p v → RepPV w F' ρ' C' p v)
    (h : RepOb w F ρ C o x) : RepOb w F' ρ' C' o' x := by
  have pre : ∀ arr, RepPre w F ρ C x.cells arr → RepPre w F' ρ' C' x.cells arr := fun arr hq j p hj => by
    obtain ⟨v, h1, h2, h3⟩ := hq j p hj
    exact ⟨v, h1, h2, hp p (List.mem_of_getElem? hj) v h3⟩
  cases x with
  | gone => trivial
  | fro rows =>
    rcases h with ⟨h1, h2⟩ | ⟨b, arr, T, h1, h2, hb, h3⟩
    · exact .inl ⟨hρ.trans h1, h2⟩
    · exact .inr ⟨b, arr, T, hρ.trans h1, h2, hF b hb, pre arr h3⟩
  | box cs => obtain ⟨b, arr, T, h1, h2, h3⟩ := h; exact ⟨b, arr, T, hρ.trans h1, h2, pre arr h3⟩
  | buf rows =>
    rcases h with ⟨h1, h2⟩ | ⟨b, arr, T, h1, h2, h3⟩
    · exact .inl ⟨hρ.trans h1, h2⟩
    · exact .inr ⟨b, arr, T, hρ.trans h1, h2, pre arr h3⟩
  | arr p n run q => obtain ⟨h0, b, arr, T, h1, h2, h3⟩ := h; exact ⟨h0, b, arr, T, hρ.trans h1, h2, pre arr h3⟩
  | mapo es c => obtain ⟨b, ents, h1, h2, h3⟩ := h; exact ⟨b, ents, hρ.trans h1, h2, h3.move hF hp⟩
  | itr mo a l c => obtain ⟨b, m, h1, h2, h3⟩ := h; exact ⟨b, m, hρ.trans h1, h2, hp _ (by simp [Ob.cells]) _ h3⟩

/-- Less is known of a value. -/
inductive PVLe : PV → PV → Prop
  | refl (p : PV) : PVLe p p
  | any (p : PV) : PVLe p .any
  | nils : PVLe .nils (.d (.sl []))
theorem PVLe.rep {w : World} {F : Nat → Prop} {ρ : Nat → Option Nat} {C : Nat → OI} {p q : PV} (h : PVLe p q) {v : Value} (hv : RepPV w F ρ C p v) : RepPV w F ρ C q v := by
  cases h with
  | refl => exact hv
  | any => simp [RepPV]
  | nils =>
    simp only [RepPV] at hv ⊢
    subst hv
    simp only [RepD]
    exact ⟨none, 0, 0, rfl, rfl, Nat.le_refl _, by unfold maxLen; omega, fun _ => rfl, fun ad h => by cases h⟩
/-- Less is known: some slots are let go, and the last objects. -/
def Weak (k : Nat) (e : Env) (S : Heap) (e' : Env) (S' : Heap) : Prop :=
  k ≤ S'.length ∧ (∃ extra, S = S' ++ extra) ∧ S'.all (Ob.sc S'.length) = true ∧ ∀ x ∈ e', PVLe (look e x.1) x.2 ∧ scB S'.length x.2 = true

theorem look_mem {e : Env} {t : Nat} : look e t = .any ∨ (t, look e t) ∈ e := by
  induction e with
  | nil => exact .inl rfl
  | cons x r ih =>
    obtain ⟨s, v⟩ := x
    simp only [look]
    by_cases h : t = s
    · subst h; right; simp
    · rw [if_neg h]
      rcases ih with h1 | h1
      · exact .inl h1
      · exact .inr (List.mem_cons_of_mem _ h1)

theorem info_prefix {S' extra : Heap} {o : Nat} (h : o < S'.length) : info (S' ++ extra) o = info S' o := by
  unfold info
  rw [List.getElem?_append_left h]

theorem Weak.inv {k : Nat} {e e' : Env} {S S' : Heap} (h : Weak k e S e' S') {G : Ghost} {a : Act} {w : World} (hG : G.S0.length = k) (hi : Inv G e S a w) : Inv G e' S' a w := by
  obtain ⟨hk, ⟨extra, rfl⟩, hS, he⟩ := h
  obtain ⟨F, ρ, hi⟩ := hi
  have hc : ∀ o, o < S'.length → info S' o = info (S' ++ extra) o := fun o ho => (info_prefix ho).symm
  have lv : ∀ o b, Lives S' ρ o b → Lives (S' ++ extra) ρ o b := by
    rintro o b ⟨h1, x, h2, h3⟩
    exact ⟨h1, x, by rw [List.getElem?_append_left (List.getElem?_eq_some_iff.1 h2).1]; exact h2, h3⟩
  refine ⟨F, ρ, ⟨⟨?_, fun o o' b h1 h2 => hi.st.inj o o' b (lv o b h1) (lv o' b h2), fun o b h1 => hi.st.notF o b (lv o b h1), hi.st.bound, fun o b h1 => hi.st.mine o b (lv o b h1), hi.st.grow, hi.st.os, hi.st.tape, hi.st.output,
    hi.st.keep, hi.st.bsize, hi.st.f0, hi.st.fnew⟩, ?_, ?_, hi.nt, hi.defers⟩⟩
  · intro o x hx
    have hlt := (List.getElem?_eq_some_iff.1 hx).1
    have hsc : scBs S'.length x.cells = true := List.all_eq_true.1 hS x (List.mem_of_getElem? hx)
    have := hi.st.objs o x (by rw [List.getElem?_append_left hlt]; exact hx)
    exact this.move rfl (fun _ h => h) fun p hp v hv => hv.agree hc _ _ (scBs_mem hsc p hp)
  · intro t
    rcases look_mem (e := e') (t := t) with h1 | h1
    · rw [h1]; simp [RepPV]
    · obtain ⟨h2, h3⟩ := he _ h1
      exact (h2.rep (hi.env t)).agree hc _ _ h3
  · have hk' := hi.keeps
    have lt : ∀ o, info G.S0 o ≠ .fresh → o < S'.length := fun o ho => by have := info_lt ho; omega
    refine ⟨hk'.same, hk'.sub, hk'.size, fun o ho => ?_, fun o ho hx => ?_, fun o m ho hx => ?_⟩
    · rw [hc o (lt o ho)]; exact hk'.old o ho
    · rw [hc o (lt o ho)] at hx; exact hk'.box o ho hx
    · rw [hc o (lt o ho)] at hx; exact hk'.buf o m ho hx

inductive CellsLe : List PV → List PV → Prop
  | refl (l : List PV) : CellsLe l l
  | nil : CellsLe [] []
  | cons {p q : PV} {r s : List PV} (h : PVLe p q) (t : CellsLe r s) : CellsLe (p :: r) (q :: s)
inductive ObLe : Ob → Ob → Prop
  | refl (x : Ob) : ObLe x x
  | gone (x : Ob) : ObLe x .gone
  | box {cs ds : List PV} (h : CellsLe cs ds) : ObLe (.box cs) (.box ds)
/-- Less is known of the objects, and nothing of the last ones. -/
def HLe : Heap → Heap → Prop
  | _, [] => True
  | [], _ :: _ => False
  | x :: S, y :: S' => ObLe x y ∧ HLe S S'

theorem HLe.refl_append : ∀ {S extra : Heap}, HLe (S ++ extra) S
  | [], extra => by cases extra <;> trivial
  | x :: S, extra => ⟨.refl x, HLe.refl_append⟩
theorem HLe.get : ∀ {S S' : Heap} {o : Nat} {y : Ob}, HLe S S' → S'[o]? = some y → ∃ x, S[o]? = some x ∧ ObLe x y
  | S, [], o, y, _, h => by simp at h
  | [], _ :: _, o, y, h, _ => h.elim
  | x :: S, z :: S', 0, y, h, hy => by
    simp only [List.getElem?_cons_zero, Option.some.injEq] at hy
    subst hy
    exact ⟨x, rfl, h.1⟩
  | x :: S, z :: S', o + 1, y, h, hy => by
    simp only [List.getElem?_cons_succ] at hy
    simpa using HLe.get h.2 hy
theorem HLe.length : ∀ {S S' : Heap}, HLe S S' → S'.length ≤ S.length
  | S, [], _ => Nat.zero_le _
  | [], _ :: _, h => h.elim
  | x :: S, z :: S', h => by have := HLe.length h.2; simp; omega

theorem CellsLe.get {r s : List PV} (h : CellsLe r s) : ∀ {j : Nat} {q : PV}, s[j]? = some q → ∃ p, r[j]? = some p ∧ PVLe p q := by
  induction h with
  | refl l => exact fun hq => ⟨_, hq, .refl _⟩
  | nil => intro j q hq; simp at hq
  | cons h t ih =>
    intro j q hq
    cases j with
    | zero => simp at hq; subst hq; exact ⟨_, rfl, h⟩
    | succ j => simpa using ih (by simpa using hq)
theorem ObLe.info {x y : Ob} (h : ObLe x y) : y.info = x.info ∨ y = .gone := by
  cases h with
  | refl => exact .inl rfl
  | gone => exact .inr rfl
  | box => exact .inl rfl

theorem HLe.keeps {S S' : Heap} (h : HLe S S') (w : World) (F : Nat → Prop) (ρ : Nat → Option Nat) : Keeps w w F F ρ ρ (info (S' ++ S.drop S'.length)) (info (S' ++ S.drop S'.length)) := Keeps.refl ..

theorem info_le {S S' : Heap} (h : HLe S S') (o : Nat) : info (S' ++ S.drop S'.length) o = info S o ∨ (info (S' ++ S.drop S'.length) o = .gone ∧ o < S'.length) := by
  have hl := h.length
  rcases Nat.lt_or_ge o S'.length with hlt | hge
  · obtain ⟨x, hx, hle⟩ := h.get (List.getElem?_eq_getElem hlt)
    have e1 : info (S' ++ S.drop S'.length) o = S'[o].info := by rw [info_prefix hlt]; exact info_of (List.getElem?_eq_getElem hlt)
    rcases hle.info with hi | hi
    · left; rw [e1, hi, info_of hx]
    · right; rw [e1, hi]; exact ⟨rfl, hlt⟩
  · left
    unfold info
    rw [List.getElem?_append_right hge, List.getElem?_drop]
    congr 2
    omega

theorem HLe.inv {S S' : Heap} (h : HLe S S') {e : Env} {G : Ghost} {a : Act} {w : World} (hi : Inv G e S a w) (hk : ∀ o, o < G.S0.length → info (S' ++ S.drop S'.length) o = info S o ∨ info (S' ++ S.drop S'.length) o = .gone) :
    Inv G e (S' ++ S.drop S'.length) a w := by
  obtain ⟨F, ρ, hi⟩ := hi
  have hl := h.length
  have hinf := info_le h
  have kk : Keeps w w F F ρ ρ (info S) (info (S' ++ S.drop S'.length)) := by
    refine ⟨fun _ _ => rfl, fun _ h => h, fun _ => Nat.le_refl _, fun o ho => ?_, fun o ho hx => ?_, fun o m ho hx => ?_⟩
    · rcases hinf o with e1 | ⟨e1, _⟩
      · rw [e1]; exact ho
      · rw [e1]; simp
    · rcases hinf o with e1 | ⟨e1, _⟩
      · rw [e1] at hx; exact ⟨hx, rfl⟩
      · rw [e1] at hx; cases hx
    · rcases hinf o with e1 | ⟨e1, _⟩
      · rw [e1] at hx; exact ⟨m, hx, Nat.le_refl _, fun _ => rfl⟩
      · rw [e1] at hx; cases hx
  have obj : ∀ (o : Nat) (y : Ob), (S' ++ S.drop S'.length)[o]? = some y → ∃ x, S[o]? = some x ∧ ObLe x y := by
    intro o y hy
    rcases Nat.lt_or_ge o S'.length with hlt | hge
    · rw [List.getElem?_append_left hlt] at hy
      exact h.get hy
    · rw [List.getElem?_append_right hge, List.getElem?_drop] at hy
      rw [show S'.length + (o - S'.length) = o by omega] at hy
      exact ⟨y, hy, .refl y⟩
  have lv : ∀ o b, Lives (S' ++ S.drop S'.length) ρ o b → Lives S ρ o b := by
    rintro o b ⟨h1, y, h2, h3⟩
    obtain ⟨x, hx, hle⟩ := obj o y h2
    refine ⟨h1, x, hx, ?_⟩
    cases hle with
    | refl => exact h3
    | gone => exact h3.elim
    | box => trivial
  refine ⟨F, ρ, ⟨⟨?_, fun o o' b h1 h2 => hi.st.inj o o' b (lv o b h1) (lv o' b h2), fun o b h1 => hi.st.notF o b (lv o b h1), hi.st.bound, fun o b h1 => hi.st.mine o b (lv o b h1), hi.st.grow, hi.st.os, hi.st.tape, hi.st.output,
    hi.st.keep, hi.st.bsize, hi.st.f0, hi.st.fnew⟩, fun t => (hi.env t).keeps kk, hi.keeps.trans kk, hi.nt, hi.defers⟩⟩
  intro o y hy
  obtain ⟨x, hx, hle⟩ := obj o y hy
  have hx' := (hi.st.objs o x hx).keeps kk rfl fun b _ _ => rfl
  cases hle with
  | refl => exact hx'
  | gone => trivial
  | box hc =>
    obtain ⟨b, arr, T, h1, h2, h3⟩ := hx'
    refine ⟨b, arr, T, h1, h2, fun j q hj => ?_⟩
    obtain ⟨p, hp, hle⟩ := hc.get hj
    obtain ⟨v, g1, g2, g3⟩ := h3 j p hp
    exact ⟨v, g1, g2, hle.rep g3⟩

def WeakH (k : Nat) (e : Env) (S : Heap) (e' : Env) (S' : Heap) : Prop :=
  k ≤ S'.length ∧ HLe S S' ∧ S'.all (Ob.sc S'.length) = true ∧ ∀ x ∈ e', PVLe (look e x.1) x.2 ∧ scB S'.length x.2 = true
theorem Weak.toH {k : Nat} {e e' : Env} {S S' : Heap} (h : Weak k e S e' S') : WeakH k e S e' S' := by
  obtain ⟨h1, ⟨extra, rfl⟩, h3, h4⟩ := h
  exact ⟨h1, HLe.refl_append, h3, h4⟩
theorem WeakH.inv {k : Nat} {e e' : Env} {S S' : Heap} (h : WeakH k e S e' S') {G : Ghost} {a : Act} {w : World} (hG : G.S0.length = k) (hi : Inv G e S a w) : Inv G e' S' a w := by
  obtain ⟨h1, h2, h3, h4⟩ := h
  have hi1 := h2.inv hi fun o _ => by rcases info_le h2 o with e1 | ⟨e1, _⟩ <;> simp [e1]
  exact Weak.inv (S := S' ++ S.drop S'.length) ⟨h1, ⟨_, rfl⟩, h3, h4⟩ hG hi1

/-- A loop, in every world that bears the state. -/
def LoopA (P : Program) (k nt : Nat) (c : Code) (Q : Post) (e : Env) (S : Heap) : Prop := Sem' P k nt (.loop c) Q e S

/-- A region whose order is drawn. -/
def DrawA (P : Program) (k nt : Nat) (id : Nat) (ops : Array Oper) (Q : Post) (e : Env) (S : Heap) : Prop := Sem' P k nt (.region id ops true) Q e S

/-- Ahead of a branch: the slot's value is known from now on. -/
def condE (c : Operand) (b : Bool) (e : Env) : Env := match c with
  | .tmp t => (t, .d (.b b)) :: e
  | _ => e

def codeOk (nt : Nat) : Code → Bool
  | .region _ ops _ => ops.all (dstOk nt)
  | .seq a b => codeOk nt a && codeOk nt b
  | .cond _ a b => codeOk nt a && codeOk nt b
  | .block _ c => codeOk nt c
  | .loop c => codeOk nt c
  | _ => true

def AWs (P : Program) (k nt : Nat) : Code → Post → Env → Heap → Prop
  | .skip, Q => Q .normal
  | .region id ops draw, Q => fun e S => (match draw with
    | false => opsA P ops Q (List.range ops.size) e S
    | true => DrawA P k nt id ops Q e S) ∨ (codeOk nt (.region id ops draw) = true → Sem' P k nt (.region id ops draw) Q e S)
  | .seq a b, Q => AWs P k nt a fun
    | .normal => AWs P k nt b Q
    | x => Q x
  | .cond c x y, Q => fun e S => (∃ b, ev e c = .d (.b b) ∧ (b = true → AWs P k nt x Q (condE c true e) S) ∧ (b = false → AWs P k nt y Q (condE c false e) S)) ∨ (codeOk nt (.cond c x y) = true → Sem' P k nt (.cond c x y) Q e S)
  | .block id c, Q => fun e S => AWs P k nt c (fun
    | .exit i => if i = id then Q .normal else Q (.exit i)
    | x => Q x) e S ∨ (codeOk nt (.block id c) = true → Sem' P k nt (.block id c) Q e S)
  | .loop c, Q => LoopA P k nt c Q
  | .exit id, Q => Q (.exit id)
  | .ret, Q => Q .ret
  | _, _ => fun _ _ => False

section
variable {P : Program}

theorem liftQ_mono {G : Ghost} {Q Q' : Post} (h : ∀ x e S, Q x e S → Q' x e S) : ∀ (x : Exit) (a : Act) (w : World), liftQ G Q x a w → liftQ G Q' x a w
  | .normal, a, w, ⟨e, S, h1, h2⟩ => ⟨e, S, h _ _ _ h1, h2⟩
  | .exit id, a, w, ⟨e, S, h1, h2⟩ => ⟨e, S, h _ _ _ h1, h2⟩
  | .ret, a, w, ⟨e, S, h1, h2⟩ => ⟨e, S, h _ _ _ h1, h2⟩
  | .panic c, a, w, ⟨e, S, v, p, F, ρ, h0, h1, h2, h3⟩ => ⟨e, S, v, p, F, ρ, h0, h _ _ _ h1, h2, h3⟩
  | .goto l, a, w, h1 => h1.elim
  | .outgrown, a, w, h1 => h1.elim

theorem known_operand {G : Ghost} {e : Env} {S : Heap} {a : Act} {w : World} {F : Nat → Prop} {ρ : Nat → Option Nat} (h : InvAt G e S a w F ρ) {c : Operand} {b : Bool} (hc : ev e c = .d (.b b)) : InvAt G (condE c b e) S a w F ρ := by
  cases c with
  | tmp t =>
    refine h.known ?_
    have := h.env t
    simp only [ev] at hc
    rwa [hc] at this
  | const v => exact h
  | global g => exact h
  | func f => exact h

theorem stepA_sound {G : Ghost} {e : Env} {S : Heap} {a : Act} {w : World} (h : Inv G e S a w) {ops : Array Oper} {i : Nat} {o : Oper} (ho : ops[i]? = some o) (hd : dstOk G.nt o = true) {K : Env → Heap → Prop} {Q : Post}
    {next : Act → World → Prop} (hl : stepA P ops o K Q e S) (hn : ∀ (e' : Env) (S' : Heap) (a' : Act) (w' : World), K e' S' → Inv G e' S' a' w' → next a' w') : wpOp P ops (liftQ G Q) i next a w := by
  obtain ⟨F, ρ, hi⟩ := h
  unfold wpOp
  simp only [ho]
  unfold stepA at hl
  split at hl
  · rename_i hg
    have hw : Region.wanted o (yielded ops a.tmps) = true := by simp [Region.wanted, hg]
    rw [if_pos hw]
    exact .inl (execA_sound hi hd hl (fun pv S' a' w' hk hi' => hn _ _ a' w' hk hi') fun p S' v w' F' ρ' hq hi' hr => ⟨e, S', v, p, F', ρ', rfl, hq, hi', hr⟩)
  · rename_i j want hg
    split at hl
    · rename_i t ht
      rcases hl with ⟨hu, hK⟩ | ⟨b, hb, h1, h2⟩
      · have hval : a.tmps.getD t undef = .tuple #[] := by
          have := hi.env t
          rw [hu] at this
          simp only [RepPV, RepTs] at this
          obtain ⟨arr, h1, h2⟩ := this
          rw [h1]
          congr 1
          exact Array.toList_inj.1 h2
        have hy : yielded ops a.tmps j = none := by
          simp only [yielded, ht, Option.bind_some]
          rcases Nat.lt_or_ge t a.tmps.size with h' | h'
          · have : a.tmps[t]? = some (.tuple #[]) := by simp [h'] at hval ⊢; exact hval
            simp [this]
          · simp [h']
        have hw : ¬ Region.wanted o (yielded ops a.tmps) = true := by simp [Region.wanted, hg, hy]
        rw [if_neg hw]
        exact hn _ _ _ _ hK ⟨F, ρ, hi.put (Keeps.refl ..) hi.st hd (by simp [RepPV, RepTs, undef])⟩
      have hval : a.tmps.getD t undef = .bool b := by
        have := hi.env t
        rw [hb] at this
        simpa [RepPV, RepD] using this
      have hget : a.tmps[t]? = some (.bool b) := by
        have hlt : t < a.tmps.size := by
          rcases Nat.lt_or_ge t a.tmps.size with h' | h'
          · exact h'
          · simp [h', undef] at hval
        simp [hlt] at hval ⊢
        exact hval
      have hy : yielded ops a.tmps j = some b := by simp [yielded, ht, hget]
      have hknown : ∀ c, b = c → InvAt G ((t, .d (.b c)) :: e) S a w F ρ := fun c hc => hi.known (by rw [hval]; simp [RepPV, RepD, hc])
      by_cases hbw : b = want
      · have hw : Region.wanted o (yielded ops a.tmps) = true := by simp [Region.wanted, hg, hy, hbw]
        rw [if_pos hw]
        exact .inl (execA_sound (hknown want hbw) hd (h1 hbw) (fun pv S' a' w' hk hi' => hn _ _ a' w' hk hi') fun p S' v w' F' ρ' hq hi' hr => ⟨e, S', v, p, F', ρ', rfl, hq,
          ⟨hi'.st, fun s => by
            have := hi'.env s
            simp only [look] at this
            by_cases hs : s = t
            · subst hs
              rw [hb]
              simp only [if_true] at this
              rw [hbw]; exact this
            · rwa [if_neg hs] at this, hi'.keeps, hi'.nt, hi'.defers⟩, hr⟩)
      · have hw : ¬ Region.wanted o (yielded ops a.tmps) = true := by simp [Region.wanted, hg, hy, hbw]
        rw [if_neg hw]
        have hb' : b = !want := by cases b <;> cases want <;> simp_all
        exact hn _ _ _ _ (h2 hb') ⟨F, ρ, (hknown _ hb').put (Keeps.refl ..) hi.st hd (by simp [RepPV, RepTs, undef])⟩
    · exact hl.elim

theorem opsA_sound {G : Ghost} {ops : Array Oper} {Q : Post} (hd : ops.all (dstOk G.nt) = true) : ∀ (l : List Nat) (e : Env) (S : Heap) (a : Act) (w : World), opsA P ops Q l e S → Inv G e S a w → wpOps P ops (liftQ G Q) l a w
  | [], e, S, a, w, h, hi => by
    simp only [wpOps]
    exact ⟨e, S, h, hi⟩
  | i :: r, e, S, a, w, h, hi => by
    rw [wpOps_cons]
    simp only [opsA] at h
    cases ho : ops[i]? with
    | none =>
      rw [ho] at h
      unfold wpOp
      simp only [ho]
      exact opsA_sound hd r e S a w h hi
    | some o =>
      rw [ho] at h
      exact stepA_sound hi ho (by
        have := Array.all_eq_true_iff_forall_mem.1 hd o (Array.mem_of_getElem? ho)
        exact this) h fun e' S' a' w' hk hi' => opsA_sound hd r e' S' a' w' hk hi'

theorem AWs_sound (k nt : Nat) : ∀ (c : Code) (Q : Post) (e : Env) (S : Heap), codeOk nt c = true → AWs P k nt c Q e S → Sem' P k nt c Q e S
  | .skip, Q, e, S, _, h => fun G a w _ _ hi => wp_skip ⟨e, S, h, hi⟩
  | .region id ops false, Q, e, S, hd, .inr h => h hd
  | .region id ops true, Q, e, S, hd, .inr h => h hd
  | .region id ops false, Q, e, S, hd, .inl h => fun G a w _ hn hi => wp_region (opsA_sound (by rw [hn]; exact hd) _ e S a w h hi)
  | .region id ops true, Q, e, S, hd, .inl h => h
  | .seq x y, Q, e, S, hd, h => fun G a w hk hn hi => by
    simp only [codeOk, Bool.and_eq_true] at hd
    refine wp_seq (wp_mono (AWs_sound k nt x _ e S hd.1 h G a w hk hn hi) fun en a' w' hq => ?_)
    cases en with
    | normal => obtain ⟨e', S', h1, h2⟩ := hq; exact AWs_sound k nt y Q e' S' hd.2 h1 G a' w' hk hn h2
    | exit id => exact hq
    | ret => exact hq
    | panic c => exact hq
    | goto l => exact hq.elim
    | outgrown => exact hq.elim
  | .cond c x y, Q, e, S, hd, .inr h => h hd
  | .cond c x y, Q, e, S, hd, .inl h => fun G a w hk hn hi => by
    simp only [codeOk, Bool.and_eq_true] at hd
    obtain ⟨b, h1, h2, h3⟩ := h
    obtain ⟨F, ρ, hi⟩ := hi
    have hc : a.eval c = .bool b := by
      have := rep_ev hi.env c
      rw [h1] at this
      simpa [RepPV, RepD] using this
    cases b with
    | true => exact wp_cond_true hc (AWs_sound k nt x Q _ S hd.1 (h2 rfl) G a w hk hn ⟨F, ρ, known_operand hi h1⟩)
    | false => exact wp_cond_false hc (AWs_sound k nt y Q _ S hd.2 (h3 rfl) G a w hk hn ⟨F, ρ, known_operand hi h1⟩)
  | .block id c, Q, e, S, hd, .inr h => h hd
  | .block id c, Q, e, S, hd, .inl h => fun G a w hk hn hi => by
    refine wp_block (wp_mono (AWs_sound k nt c _ e S hd h G a w hk hn hi) fun en a' w' hq => ?_)
    cases en with
    | normal => exact hq
    | exit i =>
      obtain ⟨e', S', h1, h2⟩ := hq
      simp only [Exit.inBlock]
      by_cases hi : i = id
      · rw [if_pos hi]; simp only [hi, if_true] at h1; exact ⟨e', S', h1, h2⟩
      · rw [if_neg hi]; simp only [hi, if_false] at h1; exact ⟨e', S', h1, h2⟩
    | ret => exact hq
    | panic c => exact hq
    | goto l => exact hq.elim
    | outgrown => exact hq.elim
  | .loop c, Q, e, S, hd, h => h
  | .exit id, Q, e, S, _, h => fun G a w _ _ hi => wp_exit ⟨e, S, h, hi⟩
  | .ret, Q, e, S, _, h => fun G a w _ _ hi => wp_ret ⟨e, S, h, hi⟩
  | .rangeFunc .., Q, e, S, _, h => h.elim
  | .scope _, Q, e, S, _, h => h.elim
  | .label _, Q, e, S, _, h => h.elim
  | .goto _, Q, e, S, _, h => h.elim
  | .refuse _, Q, e, S, _, h => h.elim

/-- A loop: what holds at every round's head. -/
theorem loopA {k nt : Nat} {c : Code} {Q : Post} {e : Env} {S : Heap} (hd : codeOk nt c = true) {γ : Type} (J : γ → Prop) (E : γ → Env) (H : γ → Heap) (μ : γ → Nat) (g0 : γ) (j0 : J g0) (h0 : WeakH k e S (E g0) (H g0))
    (round : ∀ g, J g → AWs P k nt c (fun
      | .normal => fun e' S' => ∃ g', J g' ∧ WeakH k e' S' (E g') (H g') ∧ μ g' < μ g
      | x => Q x) (E g) (H g)) : LoopA P k nt c Q e S := by
  intro G a w hk hn hi b kk cs
  have key : ∀ (n : Nat) (g : γ), μ g = n → J g → ∀ (a : Act) (w : World), Inv G (E g) (H g) a w →
      ∃ en a' w', liftQ G Q en a' w' ∧ Arrives P (lone (b.at a (.code c :: .inLoop c :: kk)) cs w) b kk cs en a' w' := by
    intro n
    induction n using Nat.strongRecOn with
    | _ n ih =>
      intro g hg hj a w hi
      obtain ⟨en, a₁, w₁, hq, harr⟩ := AWs_sound k nt c _ _ _ hd (round g hj) G a w hk hn hi b (.inLoop c :: kk) cs
      cases en with
      | normal =>
        obtain ⟨e', S', ⟨g', hj', hw, hlt⟩, hi'⟩ := hq
        obtain ⟨e₂, a₂, w₂, hq₂, harr₂⟩ := ih (μ g') (hg ▸ hlt) g' rfl hj' a₁ w₁ (hw.inv hk hi')
        exact ⟨e₂, a₂, w₂, hq₂, .of_steps (Steps.trans harr (.one step_inLoop)) harr₂⟩
      | exit id => exact ⟨.exit id, a₁, w₁, hq, .pass (x := .inLoop c) rfl (fun _ _ => .inl (by simp)) harr⟩
      | goto l => exact hq.elim
      | ret => exact ⟨.ret, a₁, w₁, hq, .pass (x := .inLoop c) rfl (fun _ _ => .inl (by simp)) harr⟩
      | panic ch => exact ⟨.panic ch, a₁, w₁, hq, .pass (x := .inLoop c) rfl (fun _ _ => .inl (by simp)) harr⟩
      | outgrown => exact hq.elim
  obtain ⟨en, a', w', hq, harr⟩ := key (μ g0) g0 rfl j0 a w (h0.inv hk hi)
  exact ⟨en, a', w', hq, .of_steps (.one step_loop) harr⟩
end
end Go.Aw
