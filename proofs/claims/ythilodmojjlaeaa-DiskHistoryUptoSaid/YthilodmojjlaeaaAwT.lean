/- Small laws for walks. -/
import Derived.Test.YthilodmojjlaeaaAwS
set_option linter.unusedVariables false
set_option linter.unusedSimpArgs false
namespace Go.Aw

theorem wrap_i64 {n : Int} (h : -9223372036854775808 ≤ n) (h' : n ≤ 9223372036854775807) : IntKind.wrap .i64 n = n := by
  simp only [IntKind.wrap, IntKind.signed, IntKind.bits]
  simp
  omega


theorem wrap_u8 {n : Int} (h : 0 ≤ n) (h' : n ≤ 255) : IntKind.wrap .u8 n = n := by
  simp only [IntKind.wrap, IntKind.signed, IntKind.bits]
  simp
  omega

/-! ### A nil slice taken for a row of the call's own -/
section
variable {w0 : World} {F0 mods F : Nat → Prop} {ρ : Nat → Option Nat} {S : Heap} {w : World}

theorem info_swap {o : Nat} {cs cs' : List PV} (hx : S[o]? = some (.box cs)) : info (S.set o (.box cs')) = info S := by
  funext i
  unfold info
  by_cases e : o = i
  · subst e
    have hl := (List.getElem?_eq_some_iff.1 hx).1
    rw [List.getElem?_set_self hl, hx]; rfl
  · rw [List.getElem?_set_ne e]

theorem St.swap (h : St w0 F0 mods F ρ S w) {o : Nat} {cs cs' : List PV} (hx : S[o]? = some (.box cs)) (hr : ∀ arr, RepPre w F ρ (info S) cs arr → RepPre w F ρ (info S) cs' arr) : St w0 F0 mods F ρ (S.set o (.box cs')) w := by
  have hl := (List.getElem?_eq_some_iff.1 hx).1
  have lv : ∀ i b, Lives (S.set o (.box cs')) ρ i b → Lives S ρ i b := by
    rintro i b ⟨h1, x, h2, h3⟩
    by_cases e : o = i
    · subst e; exact ⟨h1, _, hx, by simp⟩
    · rw [List.getElem?_set_ne e] at h2; exact ⟨h1, x, h2, h3⟩
  refine ⟨fun i x hi => ?_, fun i j b h1 h2 => h.inj i j b (lv i b h1) (lv j b h2), fun i b h1 => h.notF i b (lv i b h1), h.bound, fun i b h1 => h.mine i b (lv i b h1), h.grow, h.os, h.tape, h.output, h.keep, h.bsize, h.f0, h.fnew⟩
  rw [info_swap hx]
  by_cases e : o = i
  · subst e
    rw [List.getElem?_set_self hl] at hi
    cases hi
    obtain ⟨b, arr, T, h1, h2, h3⟩ := h.objs o _ hx
    exact ⟨b, arr, T, h1, h2, hr arr h3⟩
  · rw [List.getElem?_set_ne e] at hi
    exact h.objs i x hi
end

/-- Nil slices in slots and boxes, taken for rows of the call's own that are empty. -/
inductive Adopts : Env → Heap → Env → Heap → Prop
  | done {e : Env} {S : Heap} : Adopts e S e S
  | slot {e e' : Env} {S S' : Heap} (t sz : Nat) (h : look e t = .nils) (r : Adopts ((t, .own S.length sz 0) :: e) (S ++ [.buf []]) e' S') : Adopts e S e' S'
  | cell {e e' : Env} {S S' : Heap} (o c sz : Nat) {cs : List PV} (h : S[o]? = some (.box cs)) (hc : cs[c]? = some .nils) (r : Adopts e ((S ++ [Ob.buf []]).set o (.box (cs.set c (.own S.length sz 0)))) e' S') : Adopts e S e' S'

theorem Adopts.inv {e e' : Env} {S S' : Heap} (h : Adopts e S e' S') {G : Ghost} {a : Act} {w : World} (hi : Inv G e S a w) : Inv G e' S' a w := by
  induction h with
  | done => exact hi
  | @slot e e' S S' t sz h _ ih =>
    refine ih ?_
    obtain ⟨F, ρ, hi⟩ := hi
    obtain ⟨h', hk, hr⟩ := hi.st.adopt
    refine ⟨F, _, h', fun s => ?_, hi.keeps.trans hk, hi.nt, hi.defers⟩
    simp only [look]
    by_cases hs : s = t
    · subst hs
      rw [if_pos rfl]
      have := hi.env s
      rw [h] at this
      simp only [RepPV] at this
      rw [this]
      exact hr sz
    · rw [if_neg hs]; exact (hi.env s).keeps hk
  | @cell e e' S S' o c sz cs h hc _ ih =>
    refine ih ?_
    obtain ⟨F, ρ, hi⟩ := hi
    obtain ⟨h', hk, hr⟩ := hi.st.adopt
    have hl := (List.getElem?_eq_some_iff.1 h).1
    have hx : (S ++ [.buf []])[o]? = some (.box cs) := by rw [List.getElem?_append_left hl]; exact h
    have hsw := h'.swap hx (cs' := cs.set c (.own S.length sz 0)) fun arr hp j p hj => by
      by_cases e : c = j
      · subst e
        rw [List.getElem?_set_self (List.getElem?_eq_some_iff.1 hc).1] at hj
        cases hj
        obtain ⟨v, h1, h2, h3⟩ := hp c _ hc
        simp only [RepPV] at h3
        subst h3
        exact ⟨_, h1, h2, hr sz⟩
      · rw [List.getElem?_set_ne e] at hj
        exact hp j p hj
    refine ⟨F, _, hsw, fun s => ?_, ?_, hi.nt, hi.defers⟩
    · rw [info_swap hx]; exact (hi.env s).keeps hk
    · rw [info_swap hx]; exact hi.keeps.trans hk

/-- A loop, ahead of which nil slices are taken for rows of the call's own. -/
theorem loopN {P : Program} {k nt : Nat} {c : Code} {Q : Post} {e e1 : Env} {S S1 : Heap} (ha : Adopts e S e1 S1) (h : LoopW P k nt c Q e1 S1) : LoopW P k nt c Q e S := by
  obtain ⟨h⟩ := h
  exact ⟨fun G a w hk hn hi => h G a w hk hn (ha.inv hi)⟩

mutual
theorem scB_up {n m : Nat} (h : n ≤ m) : ∀ p : PV, scB n p = true → scB m p = true
  | .any, _ => rfl
  | .d _, _ => rfl
  | .nils, _ => rfl
  | .ptr o c, hp => by simp only [scB, decide_eq_true_eq] at hp ⊢; omega
  | .dp _, _ => rfl
  | .own o sz k, hp => by simp only [scB, decide_eq_true_eq] at hp ⊢; omega
  | .eptr o k r sz c, hp => by simp only [scB, decide_eq_true_eq] at hp ⊢; omega
  | .agg cs, hp => by simp only [scB] at hp ⊢; exact scBs_up h cs hp
  | .tup cs, hp => by simp only [scB] at hp ⊢; exact scBs_up h cs hp
  | .wag pre n run post, hp => by simp only [scB, Bool.and_eq_true] at hp ⊢; exact ⟨scBs_up h pre hp.1, scBs_up h post hp.2⟩
  | .asl o c lo len, hp => by simp only [scB, decide_eq_true_eq] at hp ⊢; omega
  | .rptr o c i, hp => by simp only [scB, decide_eq_true_eq] at hp ⊢; omega
  | .sub o sz off k k2, hp => by simp only [scB, decide_eq_true_eq] at hp ⊢; omega
  | .mp o, hp => by simp only [scB, decide_eq_true_eq] at hp ⊢; omega
theorem scBs_up {n m : Nat} (h : n ≤ m) : ∀ l : List PV, scBs n l = true → scBs m l = true
  | [], _ => rfl
  | p :: r, hp => by
    simp only [scBs, Bool.and_eq_true] at hp ⊢
    exact ⟨scB_up h p hp.1, scBs_up h r hp.2⟩
end

section
variable {P : Program}
/-- A function that answers one value and leaves the objects alone. -/
def PureA (P : Program) (f : FuncId) (args : List PV) (v : PV) : Prop := CallsA P f args [] (fun r S' => r = .ret v ∧ S' = [])

theorem after_nil (S : Heap) : after [] S [] = S := by simp [after, merge]

theorem PureA.frame {f : FuncId} {args : List PV} {v : PV} (h : PureA P f args v) (ha : scBs 0 args = true) (hv : scB 0 v = true) (S : Heap) : CallsA P f args S (fun r S' => r = .ret v ∧ S' = S) := by
  have := CallsA.frame h S [] (by simp) rfl (by simp) (fun j x hx => by simp at hx) rfl ha (fun r S' hr => by obtain ⟨rfl, rfl⟩ := hr; exact ⟨rfl, hv⟩)
  rw [renVs_nop _ _ ha] at this
  refine ⟨this.1, fun w0 F0 mods F ρ w cargs hs hc => (this.2 w0 F0 mods F ρ w cargs hs hc).mono fun e w' he => ?_⟩
  obtain ⟨r, S', F', ρ', ⟨r0, S0', ⟨rfl, rfl⟩, rfl, rfl⟩, h2, h3, h4⟩ := he
  rw [after_nil] at h2 h3 h4
  exact ⟨_, S, F', ρ', ⟨by simp only [renR, renV_nop _ _ hv], rfl⟩, h2, h3, h4⟩

theorem callP {f : FuncId} {args : List PV} {v : PV} {S : Heap} {K QP : PV → Heap → Prop} (h : PureA P f args v) (ha : scBs 0 args = true) (hv : scB 0 v = true) (k : sizedP v → K v S) : CallW P f args S K QP :=
  ⟨CallX.intro (h.frame ha hv S) (fun p S' hr hz => by obtain ⟨e, rfl⟩ := hr; cases e; exact k hz) (fun p S' hr => by obtain ⟨e, rfl⟩ := hr; cases e)⟩
theorem CallsA.frz {P : Program} {f : FuncId} {as bs : List PV} {S S' : Heap} {R : ARes → Heap → Prop} (h : CallsA P f bs S' R) (fz : FrzL S as bs S') : CallsA P f as S R :=
  ⟨h.1, fun w0 F0 mods F ρ w cargs hs ha => by
    obtain ⟨F', g1, g2, g3⟩ := fz.rep hs ha
    refine (h.2 w0 F0 mods F' ρ w cargs g1 g3).mono fun e w' hen => ?_
    obtain ⟨r, S1, F1, ρ1, h1, h2, h3, h4⟩ := hen
    exact ⟨r, S1, F1, ρ1, h1, h2, h3, g2.trans h4⟩⟩

theorem callZ {f : FuncId} {as bs : List PV} {v : PV} {S S' : Heap} {K QP : PV → Heap → Prop} (h : PureA P f bs v) (fz : FrzL S as bs S') (ha : scBs 0 bs = true) (hv : scB 0 v = true) (k : sizedP v → K v S') : CallW P f as S K QP :=
  ⟨CallX.intro ((h.frame ha hv S').frz fz) (fun p S' hr hz => by obtain ⟨hr, rfl⟩ := hr; cases hr; exact k hz) fun p S' hr => by obtain ⟨hr, _⟩ := hr; cases hr⟩

theorem callQ {f : FuncId} {args : List PV} {v : PV} {S : Heap} {K : PV → Heap → Prop} (h : PureA P f args v) (ha : scBs 0 args = true) (hv : scB 0 v = true) (k : K v S) : CallP P f args S K :=
  ⟨v, fun S2 => h.frame ha hv S2, k⟩
theorem callF {f : FuncId} {args : List PV} {v : PV} {S : Heap} {K : PV → Heap → Prop} (h : PureA P f args v) (ha : scBs 0 args = true) (hv : scB 0 v = true) (k : K v S) : CallF P f args S K :=
  ⟨v, S, h.frame ha hv S, k⟩

/-- Some answer, nothing more. -/
def SomeB : ARes → Heap → Prop := fun r S' => (∃ b, r = .ret (.d (.b b))) ∧ S' = []

theorem someB_frame {f : FuncId} {args : List PV} (h : CallsA P f args [] SomeB) (ha : scBs 0 args = true) (S : Heap) : CallsA P f args S (fun r S' => (∃ b, r = .ret (.d (.b b))) ∧ S' = S) := by
  have := CallsA.frame h S [] (by simp) rfl (by simp) (fun j x hx => by simp at hx) rfl ha (fun r S' hr => by obtain ⟨⟨b, rfl⟩, rfl⟩ := hr; exact ⟨rfl, rfl⟩)
  rw [renVs_nop _ _ ha] at this
  refine ⟨this.1, fun w0 F0 mods F ρ w cargs hs hc => (this.2 w0 F0 mods F ρ w cargs hs hc).mono fun e w' he => ?_⟩
  obtain ⟨r, S', F', ρ', ⟨r0, S0', ⟨⟨b, rfl⟩, rfl⟩, rfl, rfl⟩, h2, h3, h4⟩ := he
  rw [after_nil] at h2 h3 h4
  exact ⟨_, S, F', ρ', ⟨⟨b, rfl⟩, rfl⟩, h2, h3, h4⟩

theorem callSome {f : FuncId} {args : List PV} {S : Heap} {K QP : PV → Heap → Prop} (h : CallsA P f args [] SomeB) (ha : scBs 0 args = true) (k : ∀ b, K (.d (.b b)) S) : CallW P f args S K QP :=
  ⟨CallX.intro (someB_frame h ha S) (fun p S' hr hz => by obtain ⟨⟨b, e⟩, rfl⟩ := hr; cases e; exact k b) (fun p S' hr => by obtain ⟨⟨b, e⟩, rfl⟩ := hr; cases e)⟩

/-- A function that is handed one object of its caller's, a box of plain data. -/
def RefC (P : Program) (f : FuncId) (args : Nat → List PV) (cs : List PV) (R : PV → List PV → Prop) : Prop :=
  CallsA P f (args 0) [.box cs] (fun r S' => ∃ v cs', r = .ret v ∧ S' = [.box cs'] ∧ R v cs')

theorem num_one (o n : Nat) : num [o] n 0 = o := by simp [num]
theorem after_one (S : Heap) (o : Nat) (cs' : List PV) (h : scBs 0 cs' = true) : after [o] S [.box cs'] = S.set o (.box cs') := by
  simp [after, merge, renO, renVs_nop _ _ h]

theorem RefC.frame {f : FuncId} {args : Nat → List PV} {cs : List PV} {R : PV → List PV → Prop} (h : RefC P f args cs R) {S : Heap} {o : Nat} (hx : S[o]? = some (.box cs)) (hren : renVs (num [o] S.length) (args 0) = args o)
    (hsc : scBs 1 (args 0) = true) (hcs : scBs 0 cs = true) (hR : ∀ v cs', R v cs' → scB 0 v = true ∧ scBs 0 cs' = true) :
    CallsA P f (args o) S (fun r S' => ∃ v cs', r = .ret v ∧ S' = S.set o (.box cs') ∧ R v cs') := by
  have up : ∀ l : List PV, scBs 0 l = true → scBs 1 l = true := fun l hl => scBs_up (by omega) l hl
  have := CallsA.frame h S [o] (by simp) rfl (fun s hs => by simp at hs; subst hs; exact (List.getElem?_eq_some_iff.1 hx).1)
    (fun j x hj => by
      match j, hj with
      | 0, hj => simp at hj; subst hj; rw [num_one]; simp only [renO, renVs_nop _ _ hcs]; exact hx
      | j + 1, hj => simp at hj)
    (by simp only [List.all_cons, List.all_nil, Bool.and_true]; exact up _ hcs) hsc
    (fun r S' hr => by
      obtain ⟨v, cs', rfl, rfl, h3⟩ := hr
      obtain ⟨h4, h5⟩ := hR v cs' h3
      exact ⟨by simp only [List.all_cons, List.all_nil, Bool.and_true]; exact up _ h5, scB_up (by simp) v h4⟩)
  rw [hren] at this
  refine ⟨this.1, fun w0 F0 mods F ρ w cargs hs hc => (this.2 w0 F0 mods F ρ w cargs hs hc).mono fun e w' he => ?_⟩
  obtain ⟨r, S', F', ρ', ⟨r0, S0', ⟨v, cs', rfl, rfl, h3⟩, rfl, rfl⟩, h2, h4, h5⟩ := he
  obtain ⟨g1, g2⟩ := hR v cs' h3
  rw [after_one _ _ _ g2] at h2 h4 h5
  exact ⟨_, _, F', ρ', ⟨v, cs', by simp only [renR, renV_nop _ _ g1], rfl, h3⟩, h2, h4, h5⟩

theorem callRef {f : FuncId} {args : Nat → List PV} {cs : List PV} {R : PV → List PV → Prop} {S : Heap} {o : Nat} {K QP : PV → Heap → Prop} (h : RefC P f args cs R) (hx : S[o]? = some (.box cs)) (hren : renVs (num [o] S.length) (args 0) = args o)
    (hsc : scBs 1 (args 0) = true) (hcs : scBs 0 cs = true) (hR : ∀ v cs', R v cs' → scB 0 v = true ∧ scBs 0 cs' = true) (k : ∀ v cs', R v cs' → K v (S.set o (.box cs'))) : CallW P f (args o) S K QP :=
  ⟨CallX.intro (h.frame hx hren hsc hcs hR) (fun p S' hr hz => by obtain ⟨v, cs', e, rfl, h3⟩ := hr; cases e; exact k _ _ h3) (fun p S' hr => by obtain ⟨v, cs', e, _⟩ := hr; cases e)⟩
end
end Go.Aw
