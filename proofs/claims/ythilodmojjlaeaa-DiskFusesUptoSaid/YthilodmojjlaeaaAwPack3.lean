/- The abstract walk, part 3 of 3. -/
import Derived.Test.YthilodmojjlaeaaAwPack2
import Derived.WalkKit
import Derived.ProofKit
import Derived.OpenShut
import Derived.WideShapes
import Derived.Below
import Derived.WideKeyArgs
import Derived.RowKit
import Derived.JoinedCond
/- Small laws for walks. -/
set_option linter.unusedVariables false
set_option linter.unusedSimpArgs false
namespace Go.Aw

theorem wrap_i64 {n : Int} (h : -9223372036854775808 ≤ n) (h' : n ≤ 9223372036854775807) : IntKind.wrap .i64 n = n := by
  simp only [IntKind.wrap, IntKind.signed, IntKind.bits]
  simp
  omega


theorem wrap_u8 {n : Int} (h : 0 ≤ n) (h' : n ≤ 255) : IntKind.wrap .u8 n = n := by
  simp only [IntKind.wrap, IntKind.signed, IntKind.bits]
  simp
  omega

/-! ### A nil slice taken for a row of the call's own -/
section
variable {w0 : World} {F0 mods F : Nat → Prop} {ρ : Nat → Option Nat} {S : Heap} {w : World}

theorem info_swap {o : Nat} {cs cs' : List PV} (hx : S[o]? = some (.box cs)) : info (S.set o (.box cs')) = info S := by
  funext i
  unfold info
  by_cases e : o = i
  · subst e
    have hl := (List.getElem?_eq_some_iff.1 hx).1
    rw [List.getElem?_set_self hl, hx]; rfl
  · rw [List.getElem?_set_ne e]

theorem St.swap (h : St w0 F0 mods F ρ S w) {o : Nat} {cs cs' : List PV} (hx : S[o]? = some (.box cs)) (hr : ∀ arr, RepPre w F ρ (info S) cs arr → RepPre w F ρ (info S) cs' arr) : St w0 F0 mods F ρ (S.set o (.box cs')) w := by
  have hl := (List.getElem?_eq_some_iff.1 hx).1
  have lv : ∀ i b, Lives (S.set o (.box cs')) ρ i b → Lives S ρ i b := by
    rintro i b ⟨h1, x, h2, h3⟩
    by_cases e : o = i
    · subst e; exact ⟨h1, _, hx, by simp⟩
    · rw [List.getElem?_set_ne e] at h2; exact ⟨h1, x, h2, h3⟩
  refine ⟨fun i x hi => ?_, fun i j b h1 h2 => h.inj i j b (lv i b h1) (lv j b h2), fun i b h1 => h.notF i b (lv i b h1), h.bound, fun i b h1 => h.mine i b (lv i b h1), h.grow, h.os, h.tape, h.output, h.keep, h.bsize, h.f0, h.fnew⟩
  rw [info_swap hx]
  by_cases e : o = i
  · subst e
    rw [List.getElem?_set_self hl] at hi
    cases hi
    obtain ⟨b, arr, T, h1, h2, h3⟩ := h.objs o _ hx
    exact ⟨b, arr, T, h1, h2, hr arr h3⟩
  · rw [List.getElem?_set_ne e] at hi
    exact h.objs i x hi
end

/-- Nil slices in slots and boxes, taken for rows of the call's own that are empty. -/
inductive Adopts : Env → Heap → Env → Heap → Prop
  | done {e : Env} {S : Heap} : Adopts e S e S
  | slot {e e' : Env} {S S' : Heap} (t sz : Nat) (h : look e t = .nils) (r : Adopts ((t, .own S.length sz 0) :: e) (S ++ [.buf []]) e' S') : Adopts e S e' S'
  | cell {e e' : Env} {S S' : Heap} (o c sz : Nat) {cs : List PV} (h : S[o]? = some (.box cs)) (hc : cs[c]? = some .nils) (r : Adopts e ((S ++ [Ob.buf []]).set o (.box (cs.set c (.own S.length sz 0)))) e' S') : Adopts e S e' S'

theorem Adopts.inv {e e' : Env} {S S' : Heap} (h : Adopts e S e' S') {G : Ghost} {a : Act} {w : World} (hi : Inv G e S a w) : Inv G e' S' a w := by
  induction h with
  | done => exact hi
  | @slot e e' S S' t sz h _ ih =>
    refine ih ?_
    obtain ⟨F, ρ, hi⟩ := hi
    obtain ⟨h', hk, hr⟩ := hi.st.adopt
    refine ⟨F, _, h', fun s => ?_, hi.keeps.trans hk, hi.nt, hi.defers⟩
    simp only [look]
    by_cases hs : s = t
    · subst hs
      rw [if_pos rfl]
      have := hi.env s
      rw [h] at this
      simp only [RepPV] at this
      rw [this]
      exact hr sz
    · rw [if_neg hs]; exact (hi.env s).keeps hk
  | @cell e e' S S' o c sz cs h hc _ ih =>
    refine ih ?_
    obtain ⟨F, ρ, hi⟩ := hi
    obtain ⟨h', hk, hr⟩ := hi.st.adopt
    have hl := (List.getElem?_eq_some_iff.1 h).1
    have hx : (S ++ [.buf []])[o]? = some (.box cs) := by rw [List.getElem?_append_left hl]; exact h
    have hsw := h'.swap hx (cs' := cs.set c (.own S.length sz 0)) fun arr hp j p hj => by
      by_cases e : c = j
      · subst e
        rw [List.getElem?_set_self (List.getElem?_eq_some_iff.1 hc).1] at hj
        cases hj
        obtain ⟨v, h1, h2, h3⟩ := hp c _ hc
        simp only [RepPV] at h3
        subst h3
        exact ⟨_, h1, h2, hr sz⟩
      · rw [List.getElem?_set_ne e] at hj
        exact hp j p hj
    refine ⟨F, _, hsw, fun s => ?_, ?_, hi.nt, hi.defers⟩
    · rw [info_swap hx]; exact (hi.env s).keeps hk
    · rw [info_swap hx]; exact hi.keeps.trans hk

/-- A loop, ahead of which nil slices are taken for rows of the call's own. -/
theorem loopN {P : Program} {k nt : Nat} {c : Code} {Q : Post} {e e1 : Env} {S S1 : Heap} (ha : Adopts e S e1 S1) (h : LoopW P k nt c Q e1 S1) : LoopW P k nt c Q e S := by
  obtain ⟨h⟩ := h
  exact ⟨fun G a w hk hn hi => h G a w hk hn (ha.inv hi)⟩

mutual
theorem scB_up {n m : Nat} (h : n ≤ m) : ∀ p : PV, scB n p = true → scB m p = true
  | .any, _ => rfl
  | .d _, _ => rfl
  | .nils, _ => rfl
  | .ptr o c, hp => by simp only [scB, decide_eq_true_eq] at hp ⊢; omega
  | .dp _, _ => rfl
  | .own o sz k, hp => by simp only [scB, decide_eq_true_eq] at hp ⊢; omega
  | .eptr o k r sz c, hp => by simp only [scB, decide_eq_true_eq] at hp ⊢; omega
  | .agg cs, hp => by simp only [scB] at hp ⊢; exact scBs_up h cs hp
  | .tup cs, hp => by simp only [scB] at hp ⊢; exact scBs_up h cs hp
  | .wag pre n run post, hp => by simp only [scB, Bool.and_eq_true] at hp ⊢; exact ⟨scBs_up h pre hp.1, scBs_up h post hp.2⟩
  | .asl o c lo len, hp => by simp only [scB, decide_eq_true_eq] at hp ⊢; omega
  | .rptr o c i, hp => by simp only [scB, decide_eq_true_eq] at hp ⊢; omega
  | .sub o sz off k k2, hp => by simp only [scB, decide_eq_true_eq] at hp ⊢; omega
  | .mp o, hp => by simp only [scB, decide_eq_true_eq] at hp ⊢; omega
theorem scBs_up {n m : Nat} (h : n ≤ m) : ∀ l : List PV, scBs n l = true → scBs m l = true
  | [], _ => rfl
  | p :: r, hp => by
    simp only [scBs, Bool.and_eq_true] at hp ⊢
    exact ⟨scB_up h p hp.1, scBs_up h r hp.2⟩
end

section
variable {P : Program}
/-- A function that answers one value and leaves the objects alone. -/
def PureA (P : Program) (f : FuncId) (args : List PV) (v : PV) : Prop := CallsA P f args [] (fun r S' => r = .ret v ∧ S' = [])

theorem after_nil (S : Heap) : after [] S [] = S := by simp [after, merge]

theorem PureA.frame {f : FuncId} {args : List PV} {v : PV} (h : PureA P f args v) (ha : scBs 0 args = true) (hv : scB 0 v = true) (S : Heap) : CallsA P f args S (fun r S' => r = .ret v ∧ S' = S) := by
  have := CallsA.frame h S [] (by simp) rfl (by simp) (fun j x hx => by simp at hx) rfl ha (fun r S' hr => by obtain ⟨rfl, rfl⟩ := hr; exact ⟨rfl, hv⟩)
  rw [renVs_nop _ _ ha] at this
  refine ⟨this.1, fun w0 F0 mods F ρ w cargs hs hc => (this.2 w0 F0 mods F ρ w cargs hs hc).mono fun e w' he => ?_⟩
  obtain ⟨r, S', F', ρ', ⟨r0, S0', ⟨rfl, rfl⟩, rfl, rfl⟩, h2, h3, h4⟩ := he
  rw [after_nil] at h2 h3 h4
  exact ⟨_, S, F', ρ', ⟨by simp only [renR, renV_nop _ _ hv], rfl⟩, h2, h3, h4⟩

theorem callP {f : FuncId} {args : List PV} {v : PV} {S : Heap} {K QP : PV → Heap → Prop} (h : PureA P f args v) (ha : scBs 0 args = true) (hv : scB 0 v = true) (k : sizedP v → K v S) : CallW P f args S K QP :=
  ⟨CallX.intro (h.frame ha hv S) (fun p S' hr hz => by obtain ⟨e, rfl⟩ := hr; cases e; exact k hz) (fun p S' hr => by obtain ⟨e, rfl⟩ := hr; cases e)⟩
theorem CallsA.frz {P : Program} {f : FuncId} {as bs : List PV} {S S' : Heap} {R : ARes → Heap → Prop} (h : CallsA P f bs S' R) (fz : FrzL S as bs S') : CallsA P f as S R :=
  ⟨h.1, fun w0 F0 mods F ρ w cargs hs ha => by
    obtain ⟨F', g1, g2, g3⟩ := fz.rep hs ha
    refine (h.2 w0 F0 mods F' ρ w cargs g1 g3).mono fun e w' hen => ?_
    obtain ⟨r, S1, F1, ρ1, h1, h2, h3, h4⟩ := hen
    exact ⟨r, S1, F1, ρ1, h1, h2, h3, g2.trans h4⟩⟩

theorem callZ {f : FuncId} {as bs : List PV} {v : PV} {S S' : Heap} {K QP : PV → Heap → Prop} (h : PureA P f bs v) (fz : FrzL S as bs S') (ha : scBs 0 bs = true) (hv : scB 0 v = true) (k : sizedP v → K v S') : CallW P f as S K QP :=
  ⟨CallX.intro ((h.frame ha hv S').frz fz) (fun p S' hr hz => by obtain ⟨hr, rfl⟩ := hr; cases hr; exact k hz) fun p S' hr => by obtain ⟨hr, _⟩ := hr; cases hr⟩

theorem callQ {f : FuncId} {args : List PV} {v : PV} {S : Heap} {K : PV → Heap → Prop} (h : PureA P f args v) (ha : scBs 0 args = true) (hv : scB 0 v = true) (k : K v S) : CallP P f args S K :=
  ⟨v, fun S2 => h.frame ha hv S2, k⟩
theorem callF {f : FuncId} {args : List PV} {v : PV} {S : Heap} {K : PV → Heap → Prop} (h : PureA P f args v) (ha : scBs 0 args = true) (hv : scB 0 v = true) (k : K v S) : CallF P f args S K :=
  ⟨v, S, h.frame ha hv S, k⟩

/-- Some answer, nothing more. -/
def SomeB : ARes → Heap → Prop := fun r S' => (∃ b, r = .ret (.d (.b b))) ∧ S' = []

theorem someB_frame {f : FuncId} {args : List PV} (h : CallsA P f args [] SomeB) (ha : scBs 0 args = true) (S : Heap) : CallsA P f args S (fun r S' => (∃ b, r = .ret (.d (.b b))) ∧ S' = S) := by
  have := CallsA.frame h S [] (by simp) rfl (by simp) (fun j x hx => by simp at hx) rfl ha (fun r S' hr => by obtain ⟨⟨b, rfl⟩, rfl⟩ := hr; exact ⟨rfl, rfl⟩)
  rw [renVs_nop _ _ ha] at this
  refine ⟨this.1, fun w0 F0 mods F ρ w cargs hs hc => (this.2 w0 F0 mods F ρ w cargs hs hc).mono fun e w' he => ?_⟩
  obtain ⟨r, S', F', ρ', ⟨r0, S0', ⟨⟨b, rfl⟩, rfl⟩, rfl, rfl⟩, h2, h3, h4⟩ := he
  rw [after_nil] at h2 h3 h4
  exact ⟨_, S, F', ρ', ⟨⟨b, rfl⟩, rfl⟩, h2, h3, h4⟩

theorem callSome {f : FuncId} {args : List PV} {S : Heap} {K QP : PV → Heap → Prop} (h : CallsA P f args [] SomeB) (ha : scBs 0 args = true) (k : ∀ b, K (.d (.b b)) S) : CallW P f args S K QP :=
  ⟨CallX.intro (someB_frame h ha S) (fun p S' hr hz => by obtain ⟨⟨b, e⟩, rfl⟩ := hr; cases e; exact k b) (fun p S' hr => by obtain ⟨⟨b, e⟩, rfl⟩ := hr; cases e)⟩

/-- A function that is handed one object of its caller's, a box of plain data. -/
def RefC (P : Program) (f : FuncId) (args : Nat → List PV) (cs : List PV) (R : PV → List PV → Prop) : Prop :=
  CallsA P f (args 0) [.box cs] (fun r S' => ∃ v cs', r = .ret v ∧ S' = [.box cs'] ∧ R v cs')

theorem num_one (o n : Nat) : num [o] n 0 = o := by simp [num]
theorem after_one (S : Heap) (o : Nat) (cs' : List PV) (h : scBs 0 cs' = true) : after [o] S [.box cs'] = S.set o (.box cs') := by
  simp [after, merge, renO, renVs_nop _ _ h]

theorem RefC.frame {f : FuncId} {args : Nat → List PV} {cs : List PV} {R : PV → List PV → Prop} (h : RefC P f args cs R) {S : Heap} {o : Nat} (hx : S[o]? = some (.box cs)) (hren : renVs (num [o] S.length) (args 0) = args o)
    (hsc : scBs 1 (args 0) = true) (hcs : scBs 0 cs = true) (hR : ∀ v cs', R v cs' → scB 0 v = true ∧ scBs 0 cs' = true) :
    CallsA P f (args o) S (fun r S' => ∃ v cs', r = .ret v ∧ S' = S.set o (.box cs') ∧ R v cs') := by
  have up : ∀ l : List PV, scBs 0 l = true → scBs 1 l = true := fun l hl => scBs_up (by omega) l hl
  have := CallsA.frame h S [o] (by simp) rfl (fun s hs => by simp at hs; subst hs; exact (List.getElem?_eq_some_iff.1 hx).1)
    (fun j x hj => by
      match j, hj with
      | 0, hj => simp at hj; subst hj; rw [num_one]; simp only [renO, renVs_nop _ _ hcs]; exact hx
      | j + 1, hj => simp at hj)
    (by simp only [List.all_cons, List.all_nil, Bool.and_true]; exact up _ hcs) hsc
    (fun r S' hr => by
      obtain ⟨v, cs', rfl, rfl, h3⟩ := hr
      obtain ⟨h4, h5⟩ := hR v cs' h3
      exact ⟨by simp only [List.all_cons, List.all_nil, Bool.and_true]; exact up _ h5, scB_up (by simp) v h4⟩)
  rw [hren] at this
  refine ⟨this.1, fun w0 F0 mods F ρ w cargs hs hc => (this.2 w0 F0 mods F ρ w cargs hs hc).mono fun e w' he => ?_⟩
  obtain ⟨r, S', F', ρ', ⟨r0, S0', ⟨v, cs', rfl, rfl, h3⟩, rfl, rfl⟩, h2, h4, h5⟩ := he
  obtain ⟨g1, g2⟩ := hR v cs' h3
  rw [after_one _ _ _ g2] at h2 h4 h5
  exact ⟨_, _, F', ρ', ⟨v, cs', by simp only [renR, renV_nop _ _ g1], rfl, h3⟩, h2, h4, h5⟩

theorem callRef {f : FuncId} {args : Nat → List PV} {cs : List PV} {R : PV → List PV → Prop} {S : Heap} {o : Nat} {K QP : PV → Heap → Prop} (h : RefC P f args cs R) (hx : S[o]? = some (.box cs)) (hren : renVs (num [o] S.length) (args 0) = args o)
    (hsc : scBs 1 (args 0) = true) (hcs : scBs 0 cs = true) (hR : ∀ v cs', R v cs' → scB 0 v = true ∧ scBs 0 cs' = true) (k : ∀ v cs', R v cs' → K v (S.set o (.box cs'))) : CallW P f (args o) S K QP :=
  ⟨CallX.intro (h.frame hx hren hsc hcs hR) (fun p S' hr hz => by obtain ⟨v, cs', e, rfl, h3⟩ := hr; cases e; exact k _ _ h3) (fun p S' hr => by obtain ⟨v, cs', e, _⟩ := hr; cases e)⟩
end
end Go.Aw

/- A loop whose slots and objects that a round leaves alone are kept without being named. -/
set_option linter.unusedVariables false
set_option linter.unusedSimpArgs false
namespace Go.Aw

theorem sc_fro (n : Nat) (rows : List (List D)) : Ob.sc n (.fro rows) = true := by
  unfold Ob.sc Ob.cells
  simp only [← List.map_flatten, scBs_map_d]
theorem scBs_append (n : Nat) : ∀ a b : List PV, scBs n (a ++ b) = (scBs n a && scBs n b)
  | [], b => by simp [scBs]
  | p :: a, b => by simp [scBs, scBs_append n a b, Bool.and_assoc]
theorem sc_app (n : Nat) (a b : List (List PV)) : Ob.sc n (.buf (a ++ b)) = (Ob.sc n (.buf a) && Ob.sc n (.buf b)) := by
  simp only [Ob.sc, Ob.cells, List.flatten_append, scBs_append]
theorem sc_cons (n : Nat) (r : List PV) (b : List (List PV)) : Ob.sc n (.buf (r :: b)) = (scBs n r && Ob.sc n (.buf b)) := by
  simp only [Ob.sc, Ob.cells, List.flatten_cons, scBs_append]
theorem liftR_append (a b : List (List D)) : liftR (a ++ b) = liftR a ++ liftR b := by simp [liftR]
/-! Branches by what is tested. -/
theorem Br.dec {p : Prop} [Decidable p] {X Y : Prop} (h1 : p → X) (h2 : ¬ p → Y) : Br (decide p) X Y := ⟨fun h => h1 (of_decide_eq_true h), fun h => h2 (of_decide_eq_false h)⟩
theorem Br.beq {α : Type} [BEq α] [LawfulBEq α] {a b : α} {X Y : Prop} (h1 : a = b → X) (h2 : ¬ a = b → Y) : Br (a == b) X Y := ⟨fun h => h1 (by simpa using h), fun h => h2 (by simpa using h)⟩
theorem Br.bne {α : Type} [BEq α] [LawfulBEq α] {a b : α} {X Y : Prop} (h1 : ¬ a = b → X) (h2 : a = b → Y) : Br (a != b) X Y := ⟨fun h => h1 (by simpa using h), fun h => h2 (by simpa using h)⟩
theorem Br.nbeq {α : Type} [BEq α] [LawfulBEq α] {a b : α} {X Y : Prop} (h1 : ¬ a = b → X) (h2 : a = b → Y) : Br (!(a == b)) X Y := ⟨fun h => h1 (by simpa using h), fun h => h2 (by simpa using h)⟩
theorem Br.not {b : Bool} {X Y : Prop} (h1 : b = false → X) (h2 : b = true → Y) : Br (!b) X Y := ⟨fun h => h1 (by simpa using h), fun h => h2 (by simpa using h)⟩

/-- On with the code, but for the piece n. -/
theorem SeqW.goN {P : Program} {k nt id : Nat} {c : Code} {Q : Post} {e : Env} {S : Heap} (n : Nat) (hn : Nat.beq id n = false) (h : AWg P k nt c Q e S) : SeqW P k nt id c Q e S := SeqW.go h

/-- A counter goes on. -/
theorem wrap_next {i : Nat} (h : i < 9223372036854775807) : PV.d (.i .i64 (IntKind.wrap .i64 ((i : Int) + 1))) = PV.d (.i .i64 ((i + 1 : Nat) : Int)) := by
  rw [wrap_i64 (by omega) (by omega)]; rfl

/-- The slots that a piece of code writes. -/
def wrC : Code → List Nat
  | .region _ ops _ => ops.toList.filterMap (·.dst)
  | .seq a b => wrC a ++ wrC b
  | .cond c a b => (match c with | .tmp t => [t] | _ => []) ++ (wrC a ++ wrC b)
  | .block _ c => wrC c
  | .loop c => wrC c
  | _ => []
def hasN (t : Nat) : List Nat → Bool
  | [] => false
  | x :: r => match Nat.beq x t with
    | true => true
    | false => hasN t r
/-- What is known of the other slots. -/
def keepE (n : Nat) : List Nat → Env → Env
  | _, [] => []
  | ws, (t, p) :: r => match hasN t ws with
    | true => keepE n ws r
    | false => match scB n p with
      | true => (t, p) :: keepE n (t :: ws) r
      | false => keepE n (t :: ws) r

theorem hasN_cons {t s : Nat} {ws : List Nat} (h : hasN t (s :: ws) = false) : t ≠ s ∧ hasN t ws = false := by
  simp only [hasN] at h
  split at h
  · cases h
  · rename_i hb
    exact ⟨(fun e => by subst e; rw [Nat.beq_refl] at hb; cases hb), h⟩

theorem keepE_mem {n : Nat} : ∀ {e : Env} {ws : List Nat} {x : Nat × PV}, x ∈ keepE n ws e → hasN x.1 ws = false ∧ look e x.1 = x.2 ∧ scB n x.2 = true
  | [], ws, x, h => by simp [keepE] at h
  | (t, p) :: r, ws, x, h => by
    simp only [keepE] at h
    split at h
    · rename_i hm
      obtain ⟨h1, h2, h3⟩ := keepE_mem h
      refine ⟨h1, ?_, h3⟩
      simp only [look]
      rw [if_neg]
      · exact h2
      · intro e
        rw [e] at h1
        rw [h1] at hm
        cases hm
    · rename_i hm
      split at h
      · rename_i hs
        rcases List.mem_cons.1 h with rfl | h
        · exact ⟨hm, by simp [look], hs⟩
        · obtain ⟨h1, h2, h3⟩ := keepE_mem h
          obtain ⟨h4, h5⟩ := hasN_cons h1
          exact ⟨h5, by simp only [look]; rw [if_neg h4]; exact h2, h3⟩
      · obtain ⟨h1, h2, h3⟩ := keepE_mem h
        obtain ⟨h4, h5⟩ := hasN_cons h1
        exact ⟨h5, by simp only [look]; rw [if_neg h4]; exact h2, h3⟩

/-- These slots are as they were. -/
def SameE (e : Env) : Env → Prop
  | [] => True
  | (t, p) :: r => look e t = p ∧ SameE e r
theorem sameE_mem {e : Env} : ∀ {l : Env}, SameE e l → ∀ x ∈ l, look e x.1 = x.2
  | [], _, x, hx => by simp at hx
  | (t, p) :: r, h, x, hx => by
    rcases List.mem_cons.1 hx with rfl | hx
    · exact h.1
    · exact sameE_mem h.2 x hx

/-- Some objects are others now. -/
def ovl : Heap → List (Nat × Ob) → Heap
  | S, [] => S
  | S, (o, x) :: r => ovl (S.set o x) r
theorem ovl_length : ∀ {l : List (Nat × Ob)} {S : Heap}, (ovl S l).length = S.length
  | [], S => rfl
  | (o, x) :: r, S => by simp only [ovl]; rw [ovl_length]; simp

/-- A round's end. -/
inductive NextK {γ : Type} (J : γ → Prop) (ch : γ → Env) (H : γ → Heap) (μ : γ → Nat) (n : Nat) (g : γ) (kp : Env) (e' : Env) (S' : Heap) : Prop
  | mk (g' : γ) (hj : J g') (hm : μ g' < μ g) (hs : HLe S' (H g')) (he : WeakE n e' (ch g')) (hk : SameE e' kp)
/-- The end of a piece of code behind which ways meet. -/
inductive CutK {γ : Type} (J : γ → Prop) (ch : γ → Env) (H : γ → Heap) (n : Nat) (kp : Env) (e' : Env) (S' : Heap) : Prop
  | mk (g' : γ) (hj : J g') (hs : HLe S' (H g')) (he : WeakE n e' (ch g')) (hk : SameE e' kp)

section
variable {P : Program} {k nt : Nat} {Q : Post} {e : Env} {S : Heap}

theorem ovl_take {n : Nat} (h : Nat.ble n S.length = true) (l : List (Nat × Ob)) : (ovl (S.take n) l).length = n := by
  rw [ovl_length, List.length_take]
  have := Nat.le_of_ble_eq_true h
  omega

theorem loopK {c : Code} (hd : codeOk nt c = true) {γ : Type} (n : Nat) (J : γ → Prop) (ch : γ → Env) (cH : γ → List (Nat × Ob)) (μ : γ → Nat)
    (hn : Nat.ble k n = true ∧ Nat.ble n S.length = true) (hH : ∀ g, J g → (ovl (S.take n) (cH g)).all (Ob.sc n) = true)
    (g0 : γ) (j0 : J g0) (h0 : HLe S (ovl (S.take n) (cH g0))) (e0 : WeakE n e (ch g0))
    (round : ∀ g, J g → forceE (keepE n (wrC c) e) fun kp => forceE (ch g ++ kp) fun e1 => forceH (ovl (S.take n) (cH g)) fun S1 => AWw P k nt c (fun
      | .normal => fun e' S' => forceE e' fun e' => NextK J ch (fun g => ovl (S.take n) (cH g)) μ n g kp e' S'
      | x => Q x) e1 S1) : LoopW P k nt c Q e S := by
  have hlen : ∀ g, (ovl (S.take n) (cH g)).length = n := fun g => ovl_take hn.2 _
  have hk := Nat.le_of_ble_eq_true hn.1
  have kept : ∀ x ∈ keepE n (wrC c) e, PVLe (look e x.1) x.2 ∧ scB n x.2 = true := fun x hx => by
    obtain ⟨h1, h2, h3⟩ := keepE_mem hx
    exact ⟨by rw [h2]; exact .refl _, h3⟩
  refine ⟨loopA hd J (fun g => ch g ++ keepE n (wrC c) e) (fun g => ovl (S.take n) (cH g)) μ g0 j0 ⟨by rw [hlen]; exact hk, h0, by rw [hlen]; exact hH g0 j0, ?_⟩ fun g hg => ?_⟩
  · intro x hx
    rw [hlen]
    rcases List.mem_append.1 hx with hx | hx
    · exact weakE_mem e0 x hx
    · exact kept x hx
  · have hr := round g hg
    rw [forceE_iff, forceE_iff, forceH_iff] at hr
    refine AWw_A c _ _ (fun x e S h => ?_) _ _ hr
    cases x with
    | normal =>
      obtain ⟨g', hj, hm, hs, he, hk'⟩ := (forceE_iff _ _).1 h
      refine ⟨g', hj, ⟨by rw [hlen]; exact hk, hs, by rw [hlen]; exact hH g' hj, fun x hx => ?_⟩, hm⟩
      rw [hlen]
      rcases List.mem_append.1 hx with hx | hx
      · exact weakE_mem he x hx
      · exact ⟨by rw [sameE_mem hk' x hx]; exact .refl _, (kept x hx).2⟩
    | exit i => exact h
    | ret => exact h
    | panic p => exact h

theorem opsF_mono {ops : Array Oper} {pl : List Nat} {Q Q' : Env → Heap → Prop} (hq : ∀ e S, Q e S → Q' e S) : ∀ (l : List Nat) (e : Env) (S : Heap), opsFW P ops pl Q l e S → opsF P ops pl Q' l e S
  | [], e, S, h => hq _ _ h
  | i :: r, e, S, h => by
    simp only [opsFW, opsF] at h ⊢
    rw [forceE1_iff] at h
    split at h
    · rename_i ho; try simp only [ho]
      exact opsF_mono hq r e S h
    · rename_i o ho; try simp only [ho]
      exact stepFW_A (fun e S => opsF_mono hq r e S) h
theorem cutSem {c : Code} {γ : Type} (n : Nat) (J : γ → Prop) (ch : γ → Env) (cH : γ → List (Nat × Ob)) {kp : Env} (hkp : kp = keepE n (wrC c) e)
    (hn : Nat.ble k n = true ∧ Nat.ble n S.length = true) (hH : ∀ g, J g → (ovl (S.take n) (cH g)).all (Ob.sc n) = true)
    (fst : Sem' P k nt c (fun
      | .normal => fun e' S' => CutK J ch (fun g => ovl (S.take n) (cH g)) n kp e' S'
      | x => Q x) e S)
    (snd : ∀ g, J g → Q .normal (ch g ++ kp) (ovl (S.take n) (cH g))) : Sem' P k nt c Q e S := by
  have hlen : ∀ g, (ovl (S.take n) (cH g)).length = n := fun g => ovl_take hn.2 _
  have hk := Nat.le_of_ble_eq_true hn.1
  have kept : ∀ x ∈ kp, PVLe (look e x.1) x.2 ∧ scB n x.2 = true := fun x hx => by
    rw [hkp] at hx
    obtain ⟨h1, h2, h3⟩ := keepE_mem hx
    exact ⟨by rw [h2]; exact .refl _, h3⟩
  intro G a w hG hN hi
  refine wp_mono (fst G a w hG hN hi) fun en a' w' hq => ?_
  cases en with
  | normal =>
    obtain ⟨e', S', ⟨g, hj, hs, he, hk'⟩, hi'⟩ := hq
    refine ⟨_, _, snd g hj, WeakH.inv ⟨by rw [hlen]; exact hk, hs, by rw [hlen]; exact hH g hj, fun x hx => ?_⟩ hG hi'⟩
    rw [hlen]
    rcases List.mem_append.1 hx with hx | hx
    · exact weakE_mem he x hx
    · exact ⟨by rw [sameE_mem hk' x hx]; exact .refl _, (kept x hx).2⟩
  | exit id => exact hq
  | ret => exact hq
  | panic c => exact hq
  | goto l => exact hq.elim
  | outgrown => exact hq.elim

/-- Ways meet: behind the piece, the slots ch and the objects are as told. -/
theorem cutK {id : Nat} {c : Code} {γ : Type} (n : Nat) (J : γ → Prop) (ch : γ → Env) (cH : γ → List (Nat × Ob))
    (hn : Nat.ble k n = true ∧ Nat.ble n S.length = true) (hH : ∀ g, J g → (ovl (S.take n) (cH g)).all (Ob.sc n) = true)
    (fst : forceE (keepE n (wrC c) e) fun kp => AWg P k nt c (fun
      | .normal => fun e' S' => forceE e' fun e' => CutK J ch (fun g => ovl (S.take n) (cH g)) n kp e' S'
      | x => Q x) e S)
    (snd : ∀ g, J g → forceE (keepE n (wrC c) e) fun kp => forceE (ch g ++ kp) fun e1 => forceH (ovl (S.take n) (cH g)) fun S1 => Q .normal e1 S1) : SeqW P k nt id c Q e S := by
  rw [forceE_iff] at fst
  refine ⟨fun hd => cutSem n J ch cH rfl hn hH (Sem'.mono (fun x e' S' h => ?_) (AWs_sound k nt c _ e S hd (AWg_A c _ _ _ fst))) fun g hg => ?_⟩
  · cases x with
    | normal => exact (forceE_iff _ _).1 h
    | exit i => exact h
    | ret => exact h
    | panic p => exact h
  · have h2 := snd g hg
    rw [forceE_iff, forceE_iff, forceH_iff] at h2
    exact h2

/-- The same at a region whose order is drawn. -/
theorem cutD {id : Nat} {ops : Array Oper} {γ : Type} (pl : List Nat) (hm : P.follows .mixedOrders = true) (hc : drawChk ops pl = true) (hd : ops.all (dstOk nt) = true)
    (n : Nat) (J : γ → Prop) (ch : γ → Env) (cH : γ → List (Nat × Ob))
    (hn : Nat.ble k n = true ∧ Nat.ble n S.length = true) (hH : ∀ g, J g → (ovl (S.take n) (cH g)).all (Ob.sc n) = true)
    (fst : forceE (keepE n (wrC (.region id ops true)) e) fun kp => opsFW P ops pl (fun e' S' => forceE e' fun e' => CutK J ch (fun g => ovl (S.take n) (cH g)) n kp e' S') (List.range ops.size) e S)
    (snd : ∀ g, J g → forceE (keepE n (wrC (.region id ops true)) e) fun kp => forceE (ch g ++ kp) fun e1 => forceH (ovl (S.take n) (cH g)) fun S1 => Q .normal e1 S1) : DrawW P k nt id ops Q e S := by
  rw [forceE_iff] at fst
  refine ⟨cutSem n J ch cH rfl hn hH (draw_sound pl hm hc hd (opsF_mono (fun e' S' h => (forceE_iff _ _).1 h) _ _ _ fst)) fun g hg => ?_⟩
  have h2 := snd g hg
  rw [forceE_iff, forceE_iff, forceH_iff] at h2
  exact h2
end
end Go.Aw

/- Contracts over several objects, and answers that are new objects. -/
set_option linter.unusedVariables false
set_option linter.unusedSimpArgs false
namespace Go.Aw
section
variable {P : Program}

/-- An operation of pxW in a region whose order is drawn: one that writes, one that reads, one that does neither. -/
theorem OpF.wr {vs : List PV} {S S' : Heap} {o : Oper} {p : PV} {K : PV → Heap → Prop} (hw : isWr o.op = true) (h : pxW False P vs S o (fun v s => v = p ∧ s = S')) (k : forceH S' fun S' => K p S') : OpF P vs S o K :=
  .mk p S' (pxW_pt h) (fun e => by rw [hw] at e; cases e) (fun e => by rw [hw] at e; cases e) ((forceH_iff _ _).1 k)
theorem OpF.rd {vs : List PV} {S : Heap} {o : Oper} {p : PV} {K : PV → Heap → Prop} (hr : isRd o.op = true) (h : pxW False P vs S o (fun v s => v = p ∧ s = S)) (k : forceP p fun p => K p S) : OpF P vs S o K :=
  .mk p S (pxW_pt h) (fun _ => rfl) (fun _ e => by rw [hr] at e; cases e) ((forceP_iff _ _).1 k)
theorem OpF.pure {vs : List PV} {S : Heap} {o : Oper} {p : PV} {K : PV → Heap → Prop} (h : ∀ S2, pxW False P vs S2 o (fun v s => v = p ∧ s = S2)) (k : forceP p fun p => K p S) : OpF P vs S o K :=
  .mk p S (pxW_pt (h S)) (fun _ => rfl) (fun _ _ S2 => pxW_pt (h S2)) ((forceP_iff _ _).1 k)
theorem OpF.conv {t ty : TypeId} {x : Operand} {dst : Option Tmp} {pos : String} {after : Array Edge} {g : Option (Nat × Bool)} {o sz n : Nat} {rows : List (List PV)} {ds : List (List D)} {S : Heap} {K : PV → Heap → Prop} (hu : u8O P t = true) (hx : S[o]? = some (.buf rows)) (hn : rows.length = n) (h0 : 0 < n) (hd : toRows rows = some ds)
    (k : forceH (S.set o .gone) fun S' => K (.d (.sl ds)) S') : OpF P [.own o sz n] S ⟨dst, .convert t t x, ty, pos, after, g⟩ K :=
  .mk _ _ (pt_convOwn hu hx hn h0 hd) (fun e => by simp [isWr] at e) (fun e => by simp [isWr] at e) ((forceH_iff _ _).1 k)
theorem Br.ne_self {a : Int} {X Y : Prop} (h : Y) : Br (a != a) X Y := ⟨fun e => absurd e (by simp), fun _ => h⟩
theorem Br.eq_self {a : Int} {X Y : Prop} (h : X) : Br (a == a) X Y := ⟨fun _ => h, fun e => absurd e (by simp)⟩
/-- A function that answers one value and leaves the objects as told. -/
def DetA (P : Program) (f : FuncId) (args : List PV) (S0 : Heap) (v : PV) (H : Heap) : Prop := CallsA P f args S0 (fun r S' => r = .ret v ∧ S' = H)

theorem PureA.det {f : FuncId} {args : List PV} {v : PV} (h : PureA P f args v) : DetA P f args [] v [] := h

/-- The objects sel of S are as the contract has them. -/
def SelOk (σ : Nat → Nat) (S : Heap) : List Nat → Heap → Prop
  | [], [] => True
  | s :: sel, x :: S0 => S[s]? = some (renO σ x) ∧ SelOk σ S sel S0
  | _, _ => False
theorem SelOk.len {σ : Nat → Nat} {S : Heap} : ∀ {sel : List Nat} {S0 : Heap}, SelOk σ S sel S0 → sel.length = S0.length
  | [], [], _ => rfl
  | s :: sel, x :: S0, h => by simp [SelOk.len h.2]
  | [], _ :: _, h => h.elim
  | _ :: _, [], h => h.elim
theorem SelOk.get {σ : Nat → Nat} {S : Heap} : ∀ {sel : List Nat} {S0 : Heap}, SelOk σ S sel S0 → ∀ {j s : Nat} {x : Ob}, sel[j]? = some s → S0[j]? = some x → S[s]? = some (renO σ x)
  | [], S0, h, j, s, x, hs, hx => by simp at hs
  | s :: sel, [], h, j, _, _, hs, hx => h.elim
  | s :: sel, y :: S0, h, 0, _, _, hs, hx => by simp at hs hx; subst hs hx; exact h.1
  | s :: sel, y :: S0, h, j + 1, _, _, hs, hx => SelOk.get h.2 (by simpa using hs) (by simpa using hx)

theorem DetA.frame {f : FuncId} {args0 args : List PV} {S0 H S S' : Heap} {v v' : PV} (h : DetA P f args0 S0 v H) (sel : List Nat)
    (hsel : SelOk (num sel S.length) S sel S0) (hn : (decide sel.Nodup && sel.all fun s => Nat.blt s S.length) = true) (hsc : (S0.all (Ob.sc S0.length) && scBs S0.length args0 && H.all (Ob.sc H.length) && scB H.length v) = true)
    (ha : renVs (num sel S.length) args0 = args) (hv : renV (num sel S.length) v = v') (hS : after sel S H = S') : DetA P f args S v' S' := by
  simp only [Bool.and_eq_true, decide_eq_true_eq, List.all_eq_true] at hn hsc
  obtain ⟨h1, h2⟩ := hn
  obtain ⟨⟨⟨g1, g2⟩, g3⟩, g4⟩ := hsc
  subst ha hv hS
  have := CallsA.frame h S sel h1 hsel.len (fun s hs => blt_lt (h2 s hs)) (fun j x hx => by
    have hj : j < sel.length := by rw [hsel.len]; exact (List.getElem?_eq_some_iff.1 hx).1
    rw [num_lt hj]
    exact hsel.get (List.getElem?_eq_getElem hj) hx) (List.all_eq_true.2 g1) g2 (fun r S' hr => by obtain ⟨rfl, rfl⟩ := hr; exact ⟨List.all_eq_true.2 g3, g4⟩)
  refine ⟨this.1, fun w0 F0 mods F ρ w cargs hs hc => (this.2 w0 F0 mods F ρ w cargs hs hc).mono fun e w' he => ?_⟩
  obtain ⟨r, S', F', ρ', ⟨r0, S0', ⟨rfl, rfl⟩, rfl, rfl⟩, q1, q2, q3⟩ := he
  exact ⟨_, _, F', ρ', ⟨rfl, rfl⟩, q1, q2, q3⟩

theorem DetA.call {f : FuncId} {args : List PV} {v : PV} {S S' : Heap} {K QP : PV → Heap → Prop} (h : DetA P f args S v S') (k : sizedP v → K v S') : CallW P f args S K QP :=
  ⟨CallX.intro h (fun p S' hr hz => by obtain ⟨e, rfl⟩ := hr; cases e; exact k hz) (fun p S' hr => by obtain ⟨e, rfl⟩ := hr; cases e)⟩
theorem DetA.callF {f : FuncId} {args : List PV} {v : PV} {S S' : Heap} {K : PV → Heap → Prop} (h : DetA P f args S v S') (k : K v S') : CallF P f args S K := ⟨v, S', h, k⟩

@[simp] theorem ren_lift (σ : Nat → Nat) (rows : List (List D)) : (liftR rows).map (renVs σ) = liftR rows := by
  simp only [liftR, List.map_map]
  apply List.map_congr_left
  intro r _
  exact renVs_map_d σ r
/-- The entries of a map from numbers to bytes. -/
abbrev wes (l : List (Int × Nat × List D)) : List (D × Nat × PV) := l.map fun e => (.i .i64 e.1, e.2.1, .wag [] 64 e.2.2 [])
@[simp] theorem ren_wes (σ : Nat → Nat) (l : List (Int × Nat × List D)) : (wes l).map (fun e => (e.1, e.2.1, renV σ e.2.2)) = wes l := by
  simp [wes, renV, renVs]
theorem sc_wes (n : Nat) (l : List (Int × Nat × List D)) (c : Nat) : Ob.sc n (.mapo (wes l) c) = true := by
  simp only [Ob.sc, Ob.cells, wes, List.map_map]
  induction l with
  | nil => rfl
  | cons e r ih => simp only [List.map_cons, scBs, Bool.and_eq_true]; exact ⟨rfl, ih⟩
theorem wes_int (l : List (Int × Nat × List D)) : intKeys .i64 (wes l) := by
  intro e he
  obtain ⟨x, _, rfl⟩ := List.mem_map.1 he
  exact ⟨x.1, rfl⟩

theorem scBs_app (n : Nat) : ∀ a b : List PV, scBs n (a ++ b) = (scBs n a && scBs n b)
  | [], b => by simp [scBs]
  | p :: a, b => by simp [scBs, scBs_app n a b, Bool.and_assoc]
theorem sc_arr {n m : Nat} {pre post : List PV} {run : List D} (h : (scBs n pre && scBs n post) = true) : Ob.sc n (.arr pre m run post) = true := by
  simp only [Ob.sc, Ob.cells, scBs_app, scBs_map_d, Bool.true_and]; exact h
theorem allC {p : Ob → Bool} {x : Ob} {S : Heap} (h : p x = true) (t : S.all p = true) : (x :: S).all p = true := by simp [h, t]
theorem allN {p : Ob → Bool} : ([] : Heap).all p = true := rfl

/-- A number of an object, written out. -/
def forceI (n : Nat) (k : Nat → Prop) : Prop := match Nat.beq n 0 with
  | true => k 0
  | false => match Nat.beq n 1 with
    | true => k 1
    | false => match Nat.beq n 2 with
      | true => k 2
      | false => match Nat.beq n 3 with
        | true => k 3
        | false => match Nat.beq n 4 with
          | true => k 4
          | false => match Nat.beq n 5 with
            | true => k 5
            | false => match Nat.beq n 6 with
              | true => k 6
              | false => match Nat.beq n 7 with
                | true => k 7
                | false => match Nat.beq n 8 with
                  | true => k 8
                  | false => match Nat.beq n 9 with
                    | true => k 9
                    | false => match Nat.beq n 10 with
                      | true => k 10
                      | false => match Nat.beq n 11 with
                        | true => k 11
                        | false => match Nat.beq n 12 with
                          | true => k 12
                          | false => match Nat.beq n 13 with
                            | true => k 13
                            | false => match Nat.beq n 14 with
                              | true => k 14
                              | false => match Nat.beq n 15 with
                                | true => k 15
                                | false => match Nat.beq n 16 with
                                  | true => k 16
                                  | false => match Nat.beq n 17 with
                                    | true => k 17
                                    | false => match Nat.beq n 18 with
                                      | true => k 18
                                      | false => match Nat.beq n 19 with
                                        | true => k 19
                                        | false => match Nat.beq n 20 with
                                          | true => k 20
                                          | false => match Nat.beq n 21 with
                                            | true => k 21
                                            | false => match Nat.beq n 22 with
                                              | true => k 22
                                              | false => match Nat.beq n 23 with
                                                | true => k 23
                                                | false => match Nat.beq n 24 with
                                                  | true => k 24
                                                  | false => match Nat.beq n 25 with
                                                    | true => k 25
                                                    | false => match Nat.beq n 26 with
                                                      | true => k 26
                                                      | false => match Nat.beq n 27 with
                                                        | true => k 27
                                                        | false => match Nat.beq n 28 with
                                                          | true => k 28
                                                          | false => match Nat.beq n 29 with
                                                            | true => k 29
                                                            | false => match Nat.beq n 30 with
                                                              | true => k 30
                                                              | false => match Nat.beq n 31 with
                                                                | true => k 31
                                                                | false => match Nat.beq n 32 with
                                                                  | true => k 32
                                                                  | false => match Nat.beq n 33 with
                                                                    | true => k 33
                                                                    | false => match Nat.beq n 34 with
                                                                      | true => k 34
                                                                      | false => match Nat.beq n 35 with
                                                                        | true => k 35
                                                                        | false => match Nat.beq n 36 with
                                                                          | true => k 36
                                                                          | false => match Nat.beq n 37 with
                                                                            | true => k 37
                                                                            | false => match Nat.beq n 38 with
                                                                              | true => k 38
                                                                              | false => match Nat.beq n 39 with
                                                                                | true => k 39
                                                                                | false => match Nat.beq n 40 with
                                                                                  | true => k 40
                                                                                  | false => k n
theorem forceI_iff (n : Nat) (k : Nat → Prop) : forceI n k ↔ k n := by
  have b : ∀ m, Nat.beq n m = true → n = m := fun m h => Nat.eq_of_beq_eq_true h
  unfold forceI
  repeat' split
  all_goals first | (rename_i h; rw [b _ h]) | rfl
/-! ### The objects that are answered -/
/-- How many objects are handed back is said at the end. -/
inductive RetM (k : Nat) (v : PV) (S : Heap) (R : ARes → Heap → Prop) : Prop
  | mk (m : Nat) (hm : k ≤ m) (x : pubW m S v fun r => keepW m S fun S' => R (.ret r) S')
/-- All but the last ones. -/
theorem RetM.drop {k : Nat} {v : PV} {S : Heap} {R : ARes → Heap → Prop} (n : Nat) (hm : Nat.ble k (S.length - n) = true) (x : forceI (S.length - n) fun m => pubW m S v fun r => keepW m S fun S' => R (.ret r) S') : RetM k v S R :=
  ⟨S.length - n, Nat.le_of_ble_eq_true hm, (forceI_iff _ _).1 x⟩
def retK (P : Program) (k : Nat) (rs : List ResultVar) (R : ARes → Heap → Prop) : Post := fun
  | .normal => fun e S => ressW P e S rs fun vs => forceP (tupP vs) fun v => RetM k v S R
  | .ret => fun e S => ressW P e S rs fun vs => forceP (tupP vs) fun v => RetM k v S R
  | .panic p => fun e S => pubW k S p fun r => keepW k S fun S' => R (.pan r) S'
  | .exit _ => fun _ _ => False
def retE (P : Program) (k : Nat) (rs : List ResultVar) (R : ARes → Heap → Prop) : Post := fun x e S => ∃ m, k ≤ m ∧ retQ P m rs R x e S
theorem retK_E {k : Nat} {rs : List ResultVar} {R : ARes → Heap → Prop} : ∀ x e S, retK P k rs R x e S → retE P k rs R x e S := fun x e S h => by
  cases x with
  | normal =>
    obtain ⟨vs, h1, h2⟩ := ressW_A rs h
    obtain ⟨m, hm, h3⟩ := (forceP_iff _ _).1 h2
    have : retW P m rs R .normal e S ∨ True := .inr trivial
    obtain ⟨r, g1, g2⟩ := pubW_A _ h3
    exact ⟨m, hm, vs, r, h1, g1, keepW_A g2⟩
  | ret =>
    obtain ⟨vs, h1, h2⟩ := ressW_A rs h
    obtain ⟨m, hm, h3⟩ := (forceP_iff _ _).1 h2
    obtain ⟨r, g1, g2⟩ := pubW_A _ h3
    exact ⟨m, hm, vs, r, h1, g1, keepW_A g2⟩
  | panic p => exact ⟨k, Nat.le_refl _, retW_A (.panic p) e S h⟩
  | exit i => exact h.elim

theorem callsA_ofE {f : FuncId} {fn : Func} {c : Code} {args : List PV} {S0 : Heap} {R : ARes → Heap → Prop} (hcall : ∀ args w, (callFunc f args).run P w = .ok (.enter f args) w) (hf : P.funcs[f]? = some fn) (hb : fn.body = some c)
    (hd : codeOk fn.ntmps c = true) (ha : args.length ≤ fn.ntmps) (h : AWs P S0.length fn.ntmps c (retE P S0.length fn.results.toList R) (env0 0 args) S0) : CallsA P f args S0 R := by
  refine ⟨hcall, fun w0 F0 mods F ρ w cargs hs hargs => ?_⟩
  have hlen : cargs.size = args.length := by
    have : ∀ (ps : List PV) (vs : List Value), RepTs w F ρ (info S0) ps vs → vs.length = ps.length := by
      intro ps
      induction ps with
      | nil => intro vs h; simp only [RepTs] at h; simp [h]
      | cons p r ih => intro vs h; simp only [RepTs] at h; obtain ⟨v, us, rfl, _, h3⟩ := h; simp [ih us h3]
    have := this _ _ hargs
    simpa using this
  let G : Ghost := { w0 := w, F0 := F, ρ0 := ρ, S0 := S0, nt := fn.ntmps }
  have hinit : Inv G (env0 0 args) S0 { tmps := cargs ++ Array.replicate (fn.ntmps - cargs.size) undef, defers := [] } w := by
    refine ⟨F, ρ, hs.start, fun t => ?_, Keeps.refl .., by simp [G]; omega, rfl⟩
    rcases look_env0 (i := 0) hargs t with h1 | ⟨h1, v, h2, h3⟩
    · rw [h1]; simp [RepPV]
    · have hlt : t < cargs.size := by have := (List.getElem?_eq_some_iff.1 h2).1; simpa using this
      have : (cargs ++ Array.replicate (fn.ntmps - cargs.size) undef).getD t undef = v := by
        have h2' : cargs[t]? = some v := by simpa using h2
        simp [Array.getElem?_append_left hlt, h2']
      simp only at this ⊢
      rw [this]
      exact h3
  have fin : ∀ (m : Nat) (a : Act) (w' : World) (F' : Nat → Prop) (ρ' : Nat → Option Nat) (e : Env) (S : Heap), S0.length ≤ m → InvAt G e S a w' F' ρ' → (S.take m).all (Ob.sc m) = true →
      St w0 F0 mods (Frozen F' ρ' S m) ρ' (S.take m) w' ∧ Keeps w w' F (Frozen F' ρ' S m) ρ ρ' (info S0) (info (S.take m)) := by
    intro m a w' F' ρ' e S hm hi hsc
    have h1 : St w F (fun b => ∃ o, Lives S0 ρ o b) F' ρ' S w' := hi.st
    exact ⟨hs.trans (h1.cut hsc), keeps_cut hi.keeps hm⟩
  have ret : ∀ (a : Act) (w' : World), (∃ e S, retE P S0.length fn.results.toList R .ret e S ∧ Inv G e S a w') → a.defers = [] ∧ ∃ v, (results fn a.tmps).run P w' = .ok v w' ∧
      ∃ r S' F' ρ', R r S' ∧ EndRep w' F' ρ' (info S') r (.returned v) ∧ St w0 F0 mods F' ρ' S' w' ∧ Keeps w w' F F' ρ ρ' (info S0) (info S') := by
    rintro a w' ⟨e, S, ⟨m, hm, vs, r, h1, h2, h3, h4, h5⟩, F', ρ', hi⟩
    obtain ⟨v, g1, g2⟩ := run_results hi h1
    obtain ⟨g3, g4⟩ := fin m a w' F' ρ' e S hm hi h4
    exact ⟨hi.defers, v, g1, .ret r, S.take m, _, ρ', h5, rep_pubV hi.st _ _ _ h2 g2, g3, g4⟩
  refine calls_of_wp hf hb (wp_mono (AWs_sound S0.length fn.ntmps c _ _ _ hd h G _ w rfl rfl hinit) fun en a w' hq => ?_)
  cases en with
  | normal => obtain ⟨e, S, h1, h2⟩ := hq; exact ret a w' ⟨e, S, h1, h2⟩
  | ret => exact ret a w' hq
  | exit id => obtain ⟨e, S, ⟨m, hm, h1⟩, h2⟩ := hq; exact h1.elim
  | goto l => exact hq.elim
  | outgrown => exact hq.elim
  | panic chain =>
    obtain ⟨e, S, v, p, F', ρ', rfl, ⟨m, hm, r, h1, h2, h3, h4⟩, hi, hv⟩ := hq
    obtain ⟨g3, g4⟩ := fin m a w' F' ρ' e S hm hi h3
    exact ⟨hi.defers, .pan r, S.take m, _, ρ', h4, ⟨v, rfl, rep_pubV hi.st _ _ _ h1 hv⟩, g3, g4⟩

/-- A function's contract, from its body, by reduction; the objects that are answered are told of at the end. -/
theorem callsK_of {f : FuncId} {fn : Func} {c : Code} {args : List PV} {S0 : Heap} {R : ARes → Heap → Prop} (hcall : ∀ args w, (callFunc f args).run P w = .ok (.enter f args) w) (hf : P.funcs[f]? = some fn) (hb : fn.body = some c)
    (hd : codeOk fn.ntmps c = true) (ha : args.length ≤ fn.ntmps) (h : AWw P S0.length fn.ntmps c (retK P S0.length fn.results.toList R) (env0 0 args) S0) : CallsA P f args S0 R :=
  callsA_ofE hcall hf hb hd ha (AWw_A c _ _ retK_E _ _ h)
mutual
theorem renV_id {σ : Nat → Nat} {n : Nat} (h : ∀ o, o < n → σ o = o) : ∀ (p : PV), scB n p = true → renV σ p = p
  | .any, _ => rfl
  | .d _, _ => rfl
  | .nils, _ => rfl
  | .ptr o c, hp => by simp only [scB, decide_eq_true_eq] at hp; simp only [renV, h o hp]
  | .dp _, _ => rfl
  | .own o sz k, hp => by simp only [scB, decide_eq_true_eq] at hp; simp only [renV, h o hp]
  | .eptr o k r sz c, hp => by simp only [scB, decide_eq_true_eq] at hp; simp only [renV, h o hp]
  | .agg cs, hp => by simp only [scB] at hp; simp only [renV, renVs_id h cs hp]
  | .tup cs, hp => by simp only [scB] at hp; simp only [renV, renVs_id h cs hp]
  | .wag pre n run post, hp => by simp only [scB, Bool.and_eq_true] at hp; simp only [renV, renVs_id h pre hp.1, renVs_id h post hp.2]
  | .asl o c lo len, hp => by simp only [scB, decide_eq_true_eq] at hp; simp only [renV, h o hp]
  | .rptr o c i, hp => by simp only [scB, decide_eq_true_eq] at hp; simp only [renV, h o hp]
  | .sub o sz off k k2, hp => by simp only [scB, decide_eq_true_eq] at hp; simp only [renV, h o hp]
  | .mp o, hp => by simp only [scB, decide_eq_true_eq] at hp; simp only [renV, h o hp]
theorem renVs_id {σ : Nat → Nat} {n : Nat} (h : ∀ o, o < n → σ o = o) : ∀ (l : List PV), scBs n l = true → renVs σ l = l
  | [], _ => rfl
  | p :: r, hp => by
    simp only [scBs, Bool.and_eq_true] at hp
    simp only [renVs, renV_id h p hp.1, renVs_id h r hp.2]
end
theorem renO_id {σ : Nat → Nat} {n : Nat} (h : ∀ o, o < n → σ o = o) {x : Ob} (hx : Ob.sc n x = true) : renO σ x = x := by
  cases x with
  | box cs => simp only [renO]; rw [renVs_id h cs hx]
  | buf rows =>
    simp only [renO]
    congr 1
    have : ∀ r ∈ rows, renVs σ r = r := fun r hr => by
      rw [renVs_eq]
      apply (List.map_congr_left fun p hp => ?_).trans (List.map_id _)
      exact renV_id h p (scBs_mem hx p (List.mem_flatten.2 ⟨r, hr, hp⟩))
    exact (List.map_congr_left this).trans (List.map_id _)
  | gone => rfl
  | fro rows => rfl
  | arr pre m run post =>
    have hm := scBs_mem hx
    simp only [Ob.cells] at hm
    simp only [renO, renVs_eq]
    rw [(List.map_congr_left fun p hp => renV_id h p (hm p (by simp [hp]))).trans (List.map_id pre), (List.map_congr_left fun p hp => renV_id h p (hm p (by simp [hp]))).trans (List.map_id post)]
  | mapo es c =>
    have hm := scBs_mem hx
    simp only [Ob.cells] at hm
    simp only [renO]
    congr 1
    refine (List.map_congr_left fun e he => ?_).trans (List.map_id _)
    rw [renV_id h e.2.2 (hm _ (List.mem_map.2 ⟨e, he, rfl⟩))]
    rfl
  | itr mo a l b =>
    have hm := scBs_mem hx (.mp mo) (by simp [Ob.cells])
    simp only [scB, decide_eq_true_eq] at hm
    simp only [renO, h mo hm]

theorem merge_range {σ : Nat → Nat} : ∀ (A S0 H X : Heap), H.length = S0.length → (∀ x ∈ H, renO σ x = x) → merge σ (A ++ (S0 ++ X)) (List.range' A.length S0.length) H = A ++ (H ++ X)
  | A, [], [], X, _, _ => by simp [merge]
  | A, [], y :: H, X, hl, _ => by simp at hl
  | A, x :: S0, [], X, hl, _ => by simp at hl
  | A, x :: S0, y :: H, X, hl, hr => by
    simp only [List.length_cons, List.range'_succ, merge, hr y (by simp)]
    have := merge_range (σ := σ) (A ++ [y]) S0 H X (by simpa using hl) (fun z hz => hr z (by simp [hz]))
    simp only [List.length_append, List.length_singleton, List.append_assoc, List.singleton_append] at this
    have e1 : List.set (A ++ (x :: S0 ++ X)) A.length y = A ++ y :: (S0 ++ X) := by rw [List.set_append_right _ _ (Nat.le_refl _)]; simp
    rw [e1, this]
    rfl

/-- A contract, where more objects lie behind those that it speaks of. -/
theorem DetA.more {f : FuncId} {args : List PV} {S0 H : Heap} {v : PV} (h : DetA P f args S0 v H) (X : Heap) (hl : H.length = S0.length) (hsc : (scBs S0.length args && scB H.length v) = true) (hs : S0.all (Ob.sc S0.length) = true) (hh : H.all (Ob.sc H.length) = true) :
    DetA P f args (S0 ++ X) v (H ++ X) := by
  simp only [Bool.and_eq_true] at hsc
  have hσ : ∀ o, o < S0.length → num (List.range S0.length) (S0 ++ X).length o = o := fun o ho => by rw [num_lt (by simpa using ho)]; simp
  have hS := List.all_eq_true.1 hs
  have hH := List.all_eq_true.1 hh
  have hσH : ∀ x ∈ H, renO (num (List.range S0.length) (S0 ++ X).length) x = x := fun x hx => renO_id hσ (by have := hH x hx; rwa [hl] at this)
  have := CallsA.frame h (S0 ++ X) (List.range S0.length) List.nodup_range (by simp) (fun s hs => by simp at hs; simp; omega) (fun j x hx => by
    have hj := (List.getElem?_eq_some_iff.1 hx).1
    rw [hσ j hj, List.getElem?_append_left hj, hx, renO_id hσ (hS x (List.mem_of_getElem? hx))]) hs hsc.1 (fun r S' hr => by obtain ⟨rfl, rfl⟩ := hr; exact ⟨hh, hsc.2⟩)
  rw [renVs_id hσ _ hsc.1] at this
  refine ⟨this.1, fun w0 F0 mods F ρ w cargs hs hc => (this.2 w0 F0 mods F ρ w cargs hs hc).mono fun e w' he => ?_⟩
  obtain ⟨r, S', F', ρ', ⟨r0, S0', ⟨rfl, rfl⟩, rfl, rfl⟩, q1, q2, q3⟩ := he
  have e1 : renR (num (List.range S0.length) (S0 ++ X).length) (.ret v) = .ret v := by simp only [renR]; rw [renV_id hσ _ (by rw [← hl]; exact hsc.2)]
  have e2 : after (List.range S0.length) (S0 ++ X) S0' = S0' ++ X := by
    unfold after
    rw [List.take_of_length_le (by simp [hl]), List.drop_eq_nil_of_le (by simp [hl]), List.map_nil, List.append_nil]
    have := merge_range (σ := num (List.range S0.length) (S0 ++ X).length) [] S0 S0' X hl hσH
    simpa [List.range_eq_range'] using this
  rw [e1] at q1
  rw [e2] at q1 q2 q3
  exact ⟨_, _, F', ρ', ⟨rfl, rfl⟩, q1, q2, q3⟩

theorem renLift (σ : Nat → Nat) (rows : List (List D)) : renO σ (.buf (liftR rows)) = .buf (liftR rows) := by simp only [renO, ren_lift]
theorem renWes (σ : Nat → Nat) (l : List (Int × Nat × List D)) (c : Nat) : renO σ (.mapo (wes l) c) = .mapo (wes l) c := by simp only [renO, ren_wes]
/-- The objects under the caller's numbers. -/
inductive RenL (σ : Nat → Nat) : Heap → Heap → Prop
  | nil : RenL σ [] []
  | cons {x y : Ob} {H H' : Heap} (h : renO σ x = y) (t : RenL σ H H') : RenL σ (x :: H) (y :: H')
theorem RenL.eq {σ : Nat → Nat} {H H' : Heap} (h : RenL σ H H') : H' = H.map (renO σ) := by
  induction h with
  | nil => rfl
  | cons h t ih => simp [h, ih]
def setAll : Heap → List Nat → Heap → Heap
  | S, s :: sel, x :: xs => setAll (S.set s x) sel xs
  | S, [], xs => S ++ xs
  | S, _ :: _, [] => S
theorem setAll_after {σ : Nat → Nat} : ∀ {S : Heap} {sel : List Nat} {H : Heap}, sel.length ≤ H.length → setAll S sel (H.map (renO σ)) = merge σ S sel (H.take sel.length) ++ (H.drop sel.length).map (renO σ)
  | S, [], H, _ => by simp [setAll, merge]
  | S, s :: sel, [], h => by simp at h
  | S, s :: sel, x :: H, h => by
    simp only [List.map_cons, setAll, List.length_cons, List.take_succ_cons, List.drop_succ_cons, merge]
    exact setAll_after (by simpa using h)

def normP (p : PV) (k : PV → Prop) : Prop := match p with
  | .ptr o c => forceI o fun o => k (.ptr o c)
  | .own o sz n => forceI o fun o => k (.own o sz n)
  | .mp o => forceI o fun o => k (.mp o)
  | .sub o sz off n m => forceI o fun o => k (.sub o sz off n m)
  | .asl o c lo len => forceI o fun o => k (.asl o c lo len)
  | p => forceP p k
theorem normP_iff (p : PV) (k : PV → Prop) : normP p k ↔ k p := by
  unfold normP
  split
  · rename_i o c; exact forceI_iff o fun o => k (.ptr o c)
  · rename_i o sz n; exact forceI_iff o fun o => k (.own o sz n)
  · rename_i o; exact forceI_iff o fun o => k (.mp o)
  · rename_i o sz off n m; exact forceI_iff o fun o => k (.sub o sz off n m)
  · rename_i o c lo len; exact forceI_iff o fun o => k (.asl o c lo len)
  · exact forceP_iff _ _
def normPs (l : List PV) (k : List PV → Prop) : Prop := match l with
  | [] => k []
  | p :: r => normP p fun p' => normPs r fun r' => k (p' :: r')
theorem normPs_iff (l : List PV) (k : List PV → Prop) : normPs l k ↔ k l := by
  induction l generalizing k with
  | nil => rfl
  | cons x r ih => exact (normP_iff x _).trans (ih _)
/-- A value that a call answers: one, or a few. -/
def normV (p : PV) (k : PV → Prop) : Prop := match p with
  | .tup vs => normPs vs fun vs => k (.tup vs)
  | p => normP p k
theorem normV_iff (p : PV) (k : PV → Prop) : normV p k ↔ k p := by
  unfold normV
  split
  · rename_i vs; exact normPs_iff vs fun vs => k (.tup vs)
  · exact normP_iff _ _
def normH (l : Heap) (k : Heap → Prop) : Prop := match l with
  | [] => k []
  | .box cs :: r => normPs cs fun cs => normH r fun r => k (.box cs :: r)
  | x :: r => forceOb x fun x => normH r fun r => k (x :: r)
theorem normH_iff (l : Heap) (k : Heap → Prop) : normH l k ↔ k l := by
  induction l generalizing k with
  | nil => rfl
  | cons x r ih =>
    unfold normH
    split
    · rename_i e; cases e
    · rename_i cs r' e; cases e; exact (normPs_iff cs _).trans (ih _)
    · rename_i x' r' _ e; cases e; exact (forceOb_iff _ _).trans (ih _)

/-- A call of a function that is handed the objects sel. -/
theorem callD {f : FuncId} {args0 args : List PV} {S0 H S H' : Heap} {v v' : PV} {K QP : PV → Heap → Prop} (h : DetA P f args0 S0 v H) (sel : List Nat)
    (hsel : SelOk (num sel S.length) S sel S0) (hn : (decide sel.Nodup && sel.all (fun s => Nat.blt s S.length) && Nat.ble sel.length H.length) = true) (hs0 : S0.all (Ob.sc S0.length) = true) (hh : H.all (Ob.sc H.length) = true) (hsc : (scBs S0.length args0 && scB H.length v) = true)
    (ha : renVs (num sel S.length) args0 = args) (hv : renV (num sel S.length) v = v') (hr : RenL (num sel S.length) H H') (k : sizedP v' → normV v' fun v' => normH (setAll S sel H') fun S' => K v' S') : CallW P f args S K QP := by
  simp only [Bool.and_eq_true] at hn hsc
  have := h.frame (S := S) sel hsel (by simp only [Bool.and_eq_true]; exact hn.1) (by simp only [Bool.and_eq_true]; exact ⟨⟨⟨hs0, hsc.1⟩, hh⟩, hsc.2⟩) ha hv rfl
  refine this.call fun hz => ?_
  have k := (normH_iff _ _).1 ((normV_iff _ _).1 (k hz))
  rwa [hr.eq, setAll_after (Nat.le_of_ble_eq_true hn.2)] at k
theorem callDF {f : FuncId} {args0 args : List PV} {S0 H S H' : Heap} {v v' : PV} {K : PV → Heap → Prop} (h : DetA P f args0 S0 v H) (sel : List Nat)
    (hsel : SelOk (num sel S.length) S sel S0) (hn : (decide sel.Nodup && sel.all (fun s => Nat.blt s S.length) && Nat.ble sel.length H.length) = true) (hs0 : S0.all (Ob.sc S0.length) = true) (hh : H.all (Ob.sc H.length) = true) (hsc : (scBs S0.length args0 && scB H.length v) = true)
    (ha : renVs (num sel S.length) args0 = args) (hv : renV (num sel S.length) v = v') (hr : RenL (num sel S.length) H H') (k : normV v' fun v' => normH (setAll S sel H') fun S' => K v' S') : CallF P f args S K := by
  simp only [Bool.and_eq_true] at hn hsc
  have := h.frame (S := S) sel hsel (by simp only [Bool.and_eq_true]; exact hn.1) (by simp only [Bool.and_eq_true]; exact ⟨⟨⟨hs0, hsc.1⟩, hh⟩, hsc.2⟩) ha hv rfl
  refine this.callF ?_
  have k := (normH_iff _ _).1 ((normV_iff _ _).1 k)
  rwa [hr.eq, setAll_after (Nat.le_of_ble_eq_true hn.2)] at k

/-- Some of the objects, under other numbers. -/
theorem St.pick {w0 w : World} {F0 mods F : Nat → Prop} {ρ : Nat → Option Nat} {S S' : Heap} (h : St w0 F0 mods F ρ S w) {τ : Nat → Nat} (hi : ∀ i j, i < S'.length → j < S'.length → τ i = τ j → i = j)
    (hs : ∀ j x, S'[j]? = some x → S[τ j]? = some (renO τ x)) (hsc : S'.all (Ob.sc S'.length) = true) : St w0 F0 mods F (fun j => ρ (τ j)) S' w := by
  have hinf : ∀ o, o < S'.length → info S (τ o) = info S' o ∧ ρ (τ o) = (fun j => ρ (τ j)) o := fun o ho => by
    have hx := List.getElem?_eq_getElem ho
    refine ⟨?_, rfl⟩
    rw [info_of (hs o _ hx), info_of hx, renO_info]
  have lv : ∀ o b, Lives S' (fun j => ρ (τ j)) o b → o < S'.length ∧ Lives S ρ (τ o) b := by
    rintro o b ⟨h1, x, h2, h3⟩
    exact ⟨(List.getElem?_eq_some_iff.1 h2).1, h1, _, hs o x h2, by cases x <;> simp_all [renO]⟩
  refine ⟨fun o x hx => ?_, fun o o' b h1 h2 => ?_, fun o b h1 => h.notF _ b (lv o b h1).2, h.bound, fun o b h1 => h.mine _ b (lv o b h1).2, h.grow, h.os, h.tape, h.output, h.keep, h.bsize, h.f0, h.fnew⟩
  · have hsx : scBs S'.length x.cells = true := List.all_eq_true.1 hsc x (List.mem_of_getElem? hx)
    exact (RepOb.ren (n := S'.length) (σ := τ) hinf rfl hsx).1 (h.objs _ _ (hs o x hx))
  · exact hi o o' (lv o b h1).1 (lv o' b h2).1 (h.inj _ _ b (lv o b h1).2 (lv o' b h2).2)

theorem DetA.pick {f : FuncId} {args : List PV} {S0 H H' : Heap} {v v' : PV} (h : DetA P f args S0 v H) (sel : List Nat) (hsel : SelOk (num sel H.length) H sel H')
    (hn : (decide sel.Nodup && sel.all (fun s => Nat.blt s H.length) && scB H'.length v' && Nat.ble S0.length H'.length && decide (sel.take S0.length = List.range S0.length)) = true) (n3 : H'.all (Ob.sc H'.length) = true)
    (hv : renV (num sel H.length) v' = v) : DetA P f args S0 v' H' := by
  simp only [Bool.and_eq_true, decide_eq_true_eq] at hn
  obtain ⟨⟨⟨⟨n1, n2⟩, n4⟩, n5⟩, n6⟩ := hn
  have n2 := List.all_eq_true.1 n2
  have n5 := Nat.le_of_ble_eq_true n5
  have hl := hsel.len
  subst hv
  let τ := num sel H.length
  have hτ : ∀ j, j < S0.length → τ j = j := fun j hj => by
    have e := num_lt (sel := sel) (n := H.length) (j := j) (by omega)
    have : (sel.take S0.length)[j]? = (List.range S0.length)[j]? := by rw [n6]
    rw [List.getElem?_take_of_lt hj, List.getElem?_range hj, List.getElem?_eq_getElem (by omega)] at this
    simp only [Option.some.injEq] at this
    exact e.trans this
  have hs : ∀ j x, H'[j]? = some x → H[τ j]? = some (renO τ x) := fun j x hx => by
    have hj : j < sel.length := by rw [hl]; exact (List.getElem?_eq_some_iff.1 hx).1
    show H[num sel H.length j]? = _
    rw [num_lt hj]
    exact hsel.get (List.getElem?_eq_getElem hj) hx
  refine ⟨h.1, fun w0 F0 mods F ρ w cargs hst hc => (h.2 w0 F0 mods F ρ w cargs hst hc).mono fun e w' he => ?_⟩
  obtain ⟨r, S1, F', ρ', ⟨rfl, rfl⟩, q1, q2, q3⟩ := he
  have hst' := q2.pick (τ := τ) (S' := H') (fun i j hi hj he => num_inj n1 (fun s hs => blt_lt (n2 s hs)) he) hs n3
  have hinf : ∀ o, o < H'.length → info S1 (τ o) = info H' o ∧ ρ' (τ o) = (fun j => ρ' (τ j)) o := fun o ho => by
    have hx := List.getElem?_eq_getElem ho
    refine ⟨?_, rfl⟩
    rw [info_of (hs o _ hx), info_of hx, renO_info]
  have hk : ∀ o, info S0 o ≠ .fresh → info H' o = info S1 o ∧ ρ' (τ o) = ρ' o := fun o ho => by
    have hlt := info_lt ho
    rw [← (hinf o (by omega)).1, hτ o hlt]
    exact ⟨rfl, rfl⟩
  refine ⟨.ret v', H', F', fun j => ρ' (τ j), ⟨rfl, rfl⟩, ?_, hst', ⟨q3.same, q3.sub, q3.size, fun o ho => ?_, fun o ho hx => ?_, fun o m ho hx => ?_⟩⟩
  · cases e with
    | returned u => exact (rep_ren (n := H'.length) (σ := τ) hinf v' u n4).1 q1
    | panicked c => exact q1.elim
    | outgrown => exact q1.elim
  · rw [(hk o ho).1]; exact q3.old o ho
  · rw [(hk o ho).1] at hx
    obtain ⟨g1, g2⟩ := q3.box o ho hx
    exact ⟨g1, (hk o ho).2.trans g2⟩
  · rw [(hk o ho).1] at hx
    obtain ⟨m', g1, g2, g3⟩ := q3.buf o m ho hx
    exact ⟨m', g1, g2, fun e => (hk o ho).2.trans (g3 e)⟩
end
end Go.Aw

/- From a reading of the arguments to data: what a law is handed is borne by the world as well-typed data. -/
set_option linter.unusedVariables false
set_option linter.unusedSimpArgs false
namespace Go.Aw

mutual
/-- The cells of a value of a type. -/
inductive TyD (P : Program) : TypeId → List D → Prop
  | bool {t : TypeId} {x : Bool} : P.underlying t = some .bool → TyD P t [.b x]
  | int {t : TypeId} {k : IntKind} {n : Int} : P.underlying t = some (.int k) → (Lit.int k n).wf = true → TyD P t [.i k n]
  | str {t : TypeId} {x : ByteArray} : P.underlying t = some .string → x.size ≤ maxLen → TyD P t [.s x]
  | sl {t e : TypeId} {rows : List (List D)} : P.underlying t = some (.slice e) → rows.length ≤ maxLen → TyR P e rows → TyD P t [.sl rows]
  | struct {t : TypeId} {fs : Array Field} {cs : List D} : P.underlying t = some (.struct fs) → TyFs P (fs.toList.map (·.type)) cs → TyD P t cs
  | array {t e : TypeId} {n : Nat} {cs : List D} : P.underlying t = some (.array n e) → TyFs P (List.replicate n e) cs → TyD P t cs
inductive TyR (P : Program) : TypeId → List (List D) → Prop
  | nil {e : TypeId} : TyR P e []
  | cons {e : TypeId} {r : List D} {rs : List (List D)} : TyD P e r → TyR P e rs → TyR P e (r :: rs)
inductive TyFs (P : Program) : List TypeId → List D → Prop
  | nil : TyFs P [] []
  | cons {t : TypeId} {ts : List TypeId} {c cs : List D} : TyD P t c → TyFs P ts cs → TyFs P (t :: ts) (c ++ cs)
end

mutual
/-- How much data there is. -/
def bulkD : D → Nat
  | .s x => x.size + 1
  | .sl rows => bulkR rows + 1
  | .agg cs => bulkL cs
  | .ifc _ x => bulkD x + 1
  | _ => 1
def bulkL : List D → Nat
  | [] => 0
  | d :: r => bulkD d + bulkL r
def bulkR : List (List D) → Nat
  | [] => 0
  | d :: r => bulkL d + bulkR r
end

theorem bulkL_append : ∀ (a b : List D), bulkL (a ++ b) = bulkL a + bulkL b
  | [], b => by simp [bulkL]
  | x :: a, b => by simp [bulkL, bulkL_append a b]; omega

/-- A measure of readings that counts what there is. -/
structure Meas {H : Type} (μ : DataW H → Nat) : Prop where
  one : ∀ d, 1 ≤ μ d
  str : ∀ bs, bs.length + 1 ≤ μ (.lit (.string bs))
  slice : ∀ es rest, (es.map μ).sum + 1 ≤ μ (.slice es rest)
  agg : ∀ ps, (ps.map μ).sum ≤ μ (.agg ps)

def consec (P : Program) : List (TypeId × Nat) → Nat → Option Nat
  | [], off => some off
  | f :: r, off => if f.2 = off then consec P r (off + P.cellsOf f.1) else none

def fieldParts (fs : Array Field) : List (TypeId × Nat) := fs.toList.map fun f => (f.type, f.offset)
def arrayParts (P : Program) (n : Nat) (e : TypeId) : List (TypeId × Nat) := (List.range n).map fun i => (e, i * P.cellsOf e)

def goodT (P : Program) (l : List TypeId) (t : TypeId) : Bool := match P.underlying t with
  | some .bool => true
  | some (.int _) => true
  | some .string => true
  | some (.slice e) => l.contains e && decide (0 < P.cellsOf e)
  | some (.struct fs) => fs.toList.all (fun f => l.contains f.type) && consec P (fieldParts fs) 0 == some (P.cellsOf t)
  | some (.array n e) => l.contains e && consec P (arrayParts P n e) 0 == some (P.cellsOf t)
  | _ => false
def closedT (P : Program) (l : List TypeId) : Bool := l.all (goodT P l)

section
variable {H : Type} {enc : TypeId × Value → H} {P : Program} {w : World}

theorem mapM_cons_out {α β : Type} {f : α → Option β} {x : α} {l : List α} {r : List β} (h : (x :: l).mapM f = some r) : ∃ y ys, f x = some y ∧ l.mapM f = some ys ∧ r = y :: ys := by
  rw [List.mapM_cons] at h
  cases hx : f x with
  | none => simp [hx] at h
  | some y =>
    cases hl : l.mapM f with
    | none => simp [hx, hl] at h
    | some ys => simp [hx, hl] at h; exact ⟨y, ys, rfl, rfl, h.symm⟩

theorem RepL.append {F : Nat → Prop} : ∀ {a b : List D} {vs us : List Value}, RepL w F a vs → RepL w F b us → RepL w F (a ++ b) (vs ++ us)
  | [], b, vs, us, h, h' => by simp only [RepL] at h; subst h; simpa using h'
  | d :: r, b, vs, us, h, h' => by
    simp only [RepL] at h
    obtain ⟨v, us', rfl, h2, h3, h4⟩ := h
    simp only [List.cons_append, RepL]
    exact ⟨v, us' ++ us, rfl, h2, h3, RepL.append h4 h'⟩

theorem mapM_range_get {β : Type} {f : Nat → Option β} : ∀ {n : Nat} {r : List β}, (List.range n).mapM f = some r → r.length = n ∧ ∀ i, i < n → ∃ v, f i = some v ∧ r[i]? = some v := by
  have gen : ∀ (l : List Nat) (r : List β), l.mapM f = some r → r.length = l.length ∧ ∀ (j i : Nat), l[j]? = some i → ∃ v, f i = some v ∧ r[j]? = some v := by
    intro l
    induction l with
    | nil => intro r h; simp at h; subst h; simp
    | cons x l ih =>
      intro r h
      obtain ⟨y, ys, h1, h2, rfl⟩ := mapM_cons_out h
      obtain ⟨h3, h4⟩ := ih _ h2
      refine ⟨by simp [h3], fun j i hj => ?_⟩
      cases j with
      | zero => simp at hj; subst hj; exact ⟨y, h1, rfl⟩
      | succ j => simp only [List.getElem?_cons_succ] at hj ⊢; exact h4 j i hj
  intro n r h
  obtain ⟨h1, h2⟩ := gen _ _ h
  exact ⟨by simpa using h1, fun i hi => h2 i i (by simp [hi])⟩

/-- The cells that lie at an address bear what the reading of them says. -/
theorem repAt_cells {a : Addr} {n : Nat} {vs : List Value} {ds : List D} (hc : w.cells? 0 a n = some vs) (hr : RepL w (fun b => b < w.heap.size) ds vs) :
    ds.length = n ∧ (0 < n → a.spot = none) ∧ RepAt w (fun b => b < w.heap.size) a.block a.off ds := by
  unfold World.cells? at hc
  rw [if_pos (Nat.zero_le _)] at hc
  obtain ⟨h1, h2⟩ := mapM_range_get hc
  have hl : ds.length = n := by rw [← RepL.length hr]; exact h1
  have hsp : 0 < n → a.spot = none := fun hn => by
    obtain ⟨v, e1, _⟩ := h2 0 hn
    have e0 : a.add 0 = a := by simp [Addr.add]
    rw [e0] at e1
    unfold World.cell? at e1
    split at e1
    · split at e1
      · cases e1
      · rename_i hs; simpa using hs
    · cases e1
  refine ⟨hl, hsp, RepAt.mk fun j d hj => ?_⟩
  have hlt : j < n := by have := (List.getElem?_eq_some_iff.1 hj).1; omega
  obtain ⟨v, e1, e2⟩ := h2 j hlt
  have ea : a.add j = ⟨a.block, a.off + j, none⟩ := by
    have := hsp (by omega)
    obtain ⟨b, o, s⟩ := a
    simp only at this
    subst this
    exact add_mid b o j
  rw [ea] at e1
  obtain ⟨v', e3, e4, e5⟩ := RepL.get hr hj
  rw [e2] at e3
  cases e3
  refine ⟨?_, v, e1, e4, e5⟩
  unfold World.cell? at e1
  split at e1
  · rename_i hb; exact (Array.getElem?_eq_some_iff.1 hb).1
  · cases e1

theorem exists_list {α : Type} {p : Nat → α → Prop} : ∀ {n : Nat}, (∀ i, i < n → ∃ x, p i x) → ∃ l : List α, l.length = n ∧ ∀ (i : Nat) (x : α), l[i]? = some x → p i x
  | 0, _ => ⟨[], rfl, fun i x h => by simp at h⟩
  | n + 1, h => by
    obtain ⟨l, h1, h2⟩ := exists_list (n := n) fun i hi => h i (by omega)
    obtain ⟨x, hx⟩ := h n (by omega)
    refine ⟨l ++ [x], by simp [h1], fun i y hy => ?_⟩
    by_cases hlt : i < l.length
    · rw [List.getElem?_append_left hlt] at hy; exact h2 i y hy
    · rw [List.getElem?_append_right (by omega)] at hy
      have : i - l.length = 0 := by
        have := (List.getElem?_eq_some_iff.1 hy).1
        simp at this; omega
      rw [this] at hy
      simp at hy
      subst hy
      rwa [show i = n by omega]

theorem tyR_of {e : TypeId} : ∀ {rows : List (List D)}, (∀ r ∈ rows, TyD P e r) → TyR P e rows
  | [], _ => .nil
  | r :: rs, h => .cons (h r (by simp)) (tyR_of fun x hx => h x (by simp [hx]))

theorem bulkR_le {μ : DataW H → Nat} : ∀ {rows : List (List D)} {ys : List (DataW H)}, rows.length = ys.length → (∀ (i : Nat) (r : List D) (y : DataW H), rows[i]? = some r → ys[i]? = some y → bulkL r ≤ μ y) → bulkR rows ≤ (ys.map μ).sum
  | [], ys, _, _ => by simp [bulkR]
  | r :: rs, [], h, _ => by simp at h
  | r :: rs, y :: ys, h, hh => by
    have h1 := hh 0 r y rfl rfl
    have h2 := bulkR_le (rows := rs) (ys := ys) (by simpa using h) fun i r' y' hr hy => hh (i + 1) r' y' (by simpa using hr) (by simpa using hy)
    simp only [bulkR, List.map_cons, List.sum_cons]
    omega

theorem parts_rep {μ : DataW H → Nat} {F : Nat → Prop} {cs : List Value} : ∀ (parts : List (TypeId × Nat)) (off total : Nat) (ys : List (DataW H)), consec P parts off = some total → cs.length = total → parts.length = ys.length →
    (∀ (i : Nat) (f : TypeId × Nat) (y : DataW H), parts[i]? = some f → ys[i]? = some y → ∃ ds, TyD P f.1 ds ∧ RepL w F ds ((cs.drop f.2).take (P.cellsOf f.1)) ∧ bulkL ds ≤ μ y) →
    ∃ ds, TyFs P (parts.map (·.1)) ds ∧ RepL w F ds (cs.drop off) ∧ bulkL ds ≤ (ys.map μ).sum
  | [], off, total, ys, hc, hl, hn, h => by
    simp only [consec, Option.some.injEq] at hc
    refine ⟨[], .nil, ?_, by simp [bulkL]⟩
    rw [List.drop_eq_nil_of_le (by omega)]
    simp [RepL]
  | f :: r, off, total, [], hc, hl, hn, h => by simp at hn
  | f :: r, off, total, y :: ys, hc, hl, hn, h => by
    simp only [consec] at hc
    split at hc
    · rename_i ho
      obtain ⟨d1, h1, h2, h3⟩ := h 0 f y rfl rfl
      obtain ⟨d2, g1, g2, g3⟩ := parts_rep r (off + P.cellsOf f.1) total ys hc hl (by simpa using hn) fun i f' y' hf hy => h (i + 1) f' y' (by simpa using hf) (by simpa using hy)
      refine ⟨d1 ++ d2, by simp only [List.map_cons]; exact .cons h1 g1, ?_, by rw [bulkL_append]; simp only [List.map_cons, List.sum_cons]; omega⟩
      have := RepL.append h2 g2
      rw [ho] at this
      rwa [← List.drop_drop, List.take_append_drop] at this
    · cases hc

theorem trod_rep {μ : DataW H → Nat} (hμ : Meas μ) {sp : Nat → Bool} {l : List TypeId} (hl : closedT P l = true) : ∀ (fuel : Nat) (t : TypeId) (cs : List Value) (x : DataW H × List MemPlace), l.contains t = true → DataW.trod enc P w 0 sp true fuel t cs = some x →
    ∃ ds, TyD P t ds ∧ RepL w (fun b => b < w.heap.size) ds cs ∧ bulkL ds ≤ μ x.1 := by
  intro fuel
  induction fuel using Nat.strongRecOn with
  | _ fuel ih =>
    intro t cs x ht h
    have hg : goodT P l t = true := List.all_eq_true.1 hl t (by simpa using ht)
    unfold goodT at hg
    cases hu : P.underlying t with
    | none => simp [hu] at hg
    | some ds =>
      rw [hu] at hg
      cases ds <;> simp only at hg <;> try (cases hg; done)
      case bool =>
        obtain ⟨b, rfl, rfl⟩ := DataW.trod_bool hu h
        refine ⟨[.b b], .bool hu, ?_, by simp [bulkL, bulkD]; exact hμ.one _⟩
        simp only [RepL]; exact ⟨_, [], rfl, rfl, by simp [RepD], rfl⟩
      case int k =>
        obtain ⟨n, rfl, rfl, hw⟩ := DataW.trod_int hu h
        refine ⟨[.i k n], .int hu hw, ?_, by simp [bulkL, bulkD]; exact hμ.one _⟩
        simp only [RepL]; exact ⟨_, [], rfl, rfl, by simp [RepD], rfl⟩
      case string =>
        obtain ⟨s, rfl, rfl, hs⟩ := DataW.trod_string hu h
        refine ⟨[.s s], .str hu hs, ?_, ?_⟩
        · simp only [RepL]; exact ⟨_, [], rfl, rfl, by simp [RepD], rfl⟩
        · have := hμ.str s.data.toList
          have e : s.data.toList.length = s.size := by rw [Array.length_toList]; rfl
          simp only [bulkL, bulkD]
          omega
      case slice e =>
        simp only [Bool.and_eq_true, decide_eq_true_eq] at hg
        rcases DataW.trod_slice hu h with ⟨rfl, rfl⟩ | ⟨a, len, cap, elems, rest, n, rfl, rfl, rfl, hb, h1, h2, h3, h4, _, _⟩
        · refine ⟨[.sl []], .sl hu (Nat.zero_le _) .nil, ?_, by have := hμ.one (DataW.nil (H := H)); simp only [bulkL, bulkD, bulkR]; exact this⟩
          simp only [RepL]
          exact ⟨_, [], rfl, rfl, by simp only [RepD]; exact ⟨none, 0, 0, rfl, rfl, Nat.le_refl _, by unfold maxLen; omega, fun _ => rfl, fun ad had => by cases had⟩, rfl⟩
        · have each : ∀ i, i < len → ∃ row, TyD P e row ∧ (row.length = P.cellsOf e ∧ (i = 0 → a.spot = none) ∧ (a.spot = none → RepAt w (fun b => b < w.heap.size) a.block (a.off + i * P.cellsOf e) row)) ∧ ∀ y, elems[i]? = some y → bulkL row ≤ μ y.1 := by
            intro i hi
            have hy := h4 i hi
            rw [List.getElem?_eq_getElem (by omega)] at hy
            rw [Option.bind_eq_some_iff] at hy
            obtain ⟨vs, hc, hd⟩ := hy
            obtain ⟨row, r1, r2, r3⟩ := ih n (by omega) e vs _ hg.1 hd
            obtain ⟨c1, c2, c3⟩ := repAt_cells hc r2
            refine ⟨row, r1, ⟨c1, fun hi0 => ?_, fun hs => ?_⟩, fun y hy => ?_⟩
            · have := c2 hg.2
              subst hi0
              simpa [Addr.add] using this
            · obtain ⟨b, o, s⟩ := a
              simp only at hs
              subst hs
              rw [add_mid] at c3
              exact c3
            · rw [List.getElem?_eq_getElem (by omega)] at hy
              cases hy
              exact r3
          obtain ⟨rows, q1, q2⟩ := exists_list each
          have hal : AllLen (P.cellsOf e) rows := fun r hr => by
            obtain ⟨j, hj⟩ := List.getElem?_of_mem hr
            exact (q2 j r hj).2.1.1
          have hsp : rows ≠ [] → a.spot = none := fun hne => by
            cases rows with
            | nil => exact absurd rfl hne
            | cons r rs => exact (q2 0 r rfl).2.1.2.1 rfl
          refine ⟨[.sl rows], .sl hu (by omega) (tyR_of fun r hr => by obtain ⟨j, hj⟩ := List.getElem?_of_mem hr; exact (q2 j r hj).1), ?_, ?_⟩
          · simp only [RepL]
            refine ⟨_, [], rfl, rfl, ?_, rfl⟩
            simp only [RepD]
            refine ⟨some a, len, cap, rfl, q1.symm, h1, h2, (fun e => by cases e), fun ad had => ?_⟩
            cases had
            exact ⟨hsp, RepRows.mk hal fun j r hj => (q2 j r hj).2.1.2.2 (hsp fun e => by rw [e] at hj; simp at hj)⟩
          · have := hμ.slice (elems.map (·.1)) (rest.map (·.1))
            have h5 := bulkR_le (μ := μ) (rows := rows) (ys := elems.map (·.1)) (by simp [q1, h3]) fun i r y hr hy => by
              rw [List.getElem?_map, Option.map_eq_some_iff] at hy
              obtain ⟨z, hz, rfl⟩ := hy
              exact (q2 i r hr).2.2 z hz
            simp only [bulkL, bulkD]
            omega
      case struct fs =>
        simp only [Bool.and_eq_true, List.all_eq_true, beq_iff_eq] at hg
        obtain ⟨xs, n, rfl, rfl, h1, h2, h3⟩ := DataW.trod_struct hu h
        obtain ⟨ds, e1, e2, e3⟩ := parts_rep (w := w) (F := fun b => b < w.heap.size) (cs := cs) (μ := μ) (fieldParts fs) 0 _ (xs.map (·.1)) hg.2 h1 (by simp [fieldParts, h2]) fun i f y hf hy => by
          unfold fieldParts at hf
          rw [List.getElem?_map, Option.map_eq_some_iff] at hf hy
          obtain ⟨f0, hf, rfl⟩ := hf
          obtain ⟨x0, hx, rfl⟩ := hy
          have := h3 i f0 (by simpa using hf)
          rw [hx] at this
          exact ih n (by omega) _ _ _ (hg.1 f0 (List.mem_of_getElem? hf)) this
        refine ⟨ds, .struct hu (by rw [fieldParts, List.map_map] at e1; exact e1), by simpa using e2, ?_⟩
        have := hμ.agg (xs.map (·.1))
        simp only
        omega
      case array n e =>
        simp only [Bool.and_eq_true, beq_iff_eq] at hg
        obtain ⟨xs, m, rfl, rfl, h1, h2, h3⟩ := DataW.trod_array hu h
        obtain ⟨ds, e1, e2, e3⟩ := parts_rep (w := w) (F := fun b => b < w.heap.size) (cs := cs) (μ := μ) (arrayParts P n e) 0 _ (xs.map (·.1)) hg.2 h1 (by simp [arrayParts, h2]) fun i f y hf hy => by
          unfold arrayParts at hf
          rw [List.getElem?_map, Option.map_eq_some_iff] at hf hy
          obtain ⟨f0, hf, rfl⟩ := hf
          obtain ⟨x0, hx, rfl⟩ := hy
          have hi : i < n := by have := (List.getElem?_eq_some_iff.1 hf).1; simpa using this
          have hf0 : f0 = i := by rw [List.getElem?_range hi] at hf; cases hf; rfl
          subst hf0
          have := h3 _ hi
          rw [hx] at this
          exact ih m (by omega) _ _ _ hg.1 this
        refine ⟨ds, .array hu (by rw [arrayParts, List.map_map, show ((fun x : TypeId × Nat => x.1) ∘ fun i => (e, i * P.cellsOf e)) = fun _ => e from rfl, List.map_const', List.length_range] at e1; exact e1), by simpa using e2, ?_⟩
        have := hμ.agg (xs.map (·.1))
        simp only
        omega

/-- What a law is handed, one by one. -/
theorem trod_arg {μ : DataW H → Nat} (hμ : Meas μ) {sp : Nat → Bool} {l : List TypeId} (hl : closedT P l = true) {t : TypeId} {v : Value} {d : DataW H} {ps : List MemPlace} {r : Reach} {b0 : Nat} (ht : l.contains t = true) (hval : Value.okWide P w r b0 t v)
    (h : DataW.Trod enc P w 0 sp true t v d ps) : ∃ ds, TyD P t ds ∧ bulkL ds ≤ μ d ∧ RepL w (fun b => b < w.heap.size) ds v.cells.toList ∧
      ((∃ fs, P.underlying t = some (.struct fs)) ∨ (∃ n e, P.underlying t = some (.array n e)) → RepD w (fun b => b < w.heap.size) (.agg ds) v) ∧
      ((∀ fs, P.underlying t ≠ some (.struct fs)) → (∀ n e, P.underlying t ≠ some (.array n e)) → ∃ d, ds = [d] ∧ RepD w (fun b => b < w.heap.size) d v) := by
  obtain ⟨fuel, hf⟩ := h
  obtain ⟨ds, h1, h2, h3⟩ := trod_rep hμ hl fuel t _ _ ht hf
  refine ⟨ds, h1, h3, h2, fun hs => ?_, fun hs ha => ?_⟩
  · obtain ⟨cs, rfl, _⟩ : ∃ cs, v = .agg cs ∧ cs.size = P.cellsOf t := by
      unfold Value.okWide at hval
      rcases hs with ⟨fs, hu⟩ | ⟨n, e, hu⟩ <;> rw [hu] at hval <;> obtain ⟨cs, e1, e2, _⟩ := hval <;> exact ⟨cs, e1, e2⟩
    simp only [RepD]
    exact ⟨cs, rfl, h2⟩
  · have hv : v.cells = #[v] := by
      have hg : goodT P l t = true := List.all_eq_true.1 hl t (by simpa using ht)
      unfold goodT at hg
      cases hu : P.underlying t with
      | none => simp [hu] at hg
      | some k =>
        rw [hu] at hg
        cases k <;> simp only at hg <;> try (cases hg; done)
        case bool => obtain ⟨b, rfl⟩ := WideShapes.okWide_bool hu hval; rfl
        case int k => obtain ⟨b, rfl⟩ := WideShapes.okWide_int hu hval; rfl
        case string => obtain ⟨b, rfl⟩ := WideShapes.okWide_string hu hval; rfl
        case slice e => obtain ⟨a, len, cap, rfl⟩ := WideShapes.okWide_slice hu hval; rfl
        case struct fs => exact absurd hu (hs fs)
        case array n e => exact absurd hu (ha n e)
    rw [hv] at h2
    cases ds with
    | nil => simp [RepL] at h2
    | cons d r =>
      simp only [RepL] at h2
      obtain ⟨u, us, e1, e2, e3, e4⟩ := h2
      simp at e1
      obtain ⟨rfl, rfl⟩ := e1
      cases r with
      | nil => exact ⟨d, rfl, e3⟩
      | cons d' r' => simp [RepL] at e4
end
end Go.Aw

/- From a law's contract to what its row asks. -/
set_option linter.unusedVariables false
set_option linter.unusedSimpArgs false
namespace Go.Aw
open Go.RowKit Go.ChangeShapes
section
variable {P : Program}

/-- A law says yes, and nothing that was there has turned. -/
def YesR : ARes → Heap → Prop := fun r S' => r = .ret (.d (.b true)) ∧ S' = []

theorem law_top {f : FuncId} {ps : List PV} {args : Array Value} {W : World} (h : CallsA P f ps [] YesR) (ha : RepTs W (fun b => b < W.heap.size) (fun _ => none) (info []) ps args.toList) :
    Calls P f args W fun e W' => e = .returned (.bool true) ∧ Below W.heap.size W W' := by
  have no : ∀ o b, ¬ Lives [] (fun _ => none) o b := by rintro o b ⟨h1, _⟩; cases h1
  have hs : St W (fun b => b < W.heap.size) (fun _ => False) (fun b => b < W.heap.size) (fun _ => none) [] W :=
    ⟨fun o x hx => by simp at hx, fun o o' b h => (no o b h).elim, fun o b h => (no o b h).elim, fun _ h => h, fun o b h => (no o b h).elim, Nat.le_refl _, rfl, rfl, rfl, fun _ _ _ => rfl, fun _ => Nat.le_refl _, fun _ h => h, fun _ h => .inl h⟩
  refine (h.2 W _ _ _ _ W args hs ha).mono fun e w' he => ?_
  obtain ⟨r, S', F', ρ', ⟨rfl, rfl⟩, h2, h3, h4⟩ := he
  refine ⟨?_, h3.os, h3.tape, h3.output, h3.grow, fun k hk => h3.keep k hk fun h => h⟩
  cases e <;> simp only [EndRep] at h2
  simp only [RepPV, RepD] at h2
  rw [h2]

/-- What an argument of a law is borne as. -/
def ArgT (P : Program) (N : Nat) (t : TypeId) (p : PV) : Prop := ∃ ds, TyD P t ds ∧ bulkL ds ≤ N ∧
  (p = .agg (ds.map .d) ∧ ((∃ fs, P.underlying t = some (.struct fs)) ∨ ∃ n e, P.underlying t = some (.array n e)) ∨
    ∃ d, ds = [d] ∧ p = .d d ∧ (∀ fs, P.underlying t ≠ some (.struct fs)) ∧ ∀ n e, P.underlying t ≠ some (.array n e))
inductive ArgsT (P : Program) (N : Nat) : List TypeId → List PV → Prop
  | nil : ArgsT P N [] []
  | cons {t : TypeId} {ts : List TypeId} {p : PV} {ps : List PV} : ArgT P N t p → ArgsT P N ts ps → ArgsT P N (t :: ts) (p :: ps)

section
variable {H : Type} {enc : TypeId × Value → H} {W : World}

theorem trod_args {μ : DataW H → Nat} (hμ : Meas μ) {l : List TypeId} (hl : closedT P l = true) {N : Nat} {r : Reach} {b0 : Nat} : ∀ {ts : List TypeId} {vs : List Value} {ds : List (DataW H)} {q : List MemPlace}, ts.all (fun t => l.contains t) = true →
    (∀ (j : Nat) t v, ts[j]? = some t → vs[j]? = some v → Value.okWide P W r b0 t v) → (∀ d ∈ ds, μ d ≤ N) → DataW.TrodAll enc P W 0 (fun _ => true) true ts vs ds q →
    ∃ ps, ArgsT P N ts ps ∧ RepTs W (fun b => b < W.heap.size) (fun _ => none) (info []) ps vs
  | [], [], [], q, _, _, _, _ => ⟨[], .nil, by simp [RepTs]⟩
  | t :: ts, v :: vs, d :: ds, q, hts, hval, hN, h => by
    obtain ⟨p1, q1, h1, h2, rfl⟩ := h
    simp only [List.all_cons, Bool.and_eq_true] at hts
    obtain ⟨ps, g1, g2⟩ := trod_args hμ hl hts.2 (fun j t v ht hv => hval (j + 1) t v (by simpa using ht) (by simpa using hv)) (fun d hd => hN d (by simp [hd])) h2
    obtain ⟨cs, c1, c2, c3, c4, c5⟩ := trod_arg hμ hl hts.1 (hval 0 t v rfl rfl) h1
    have hb : bulkL cs ≤ N := Nat.le_trans c2 (hN d (by simp))
    by_cases hs : (∃ fs, P.underlying t = some (.struct fs)) ∨ ∃ n e, P.underlying t = some (.array n e)
    · exact ⟨_ :: ps, .cons ⟨cs, c1, hb, .inl ⟨rfl, hs⟩⟩ g1, by simp only [RepTs]; exact ⟨v, vs, rfl, by have := c4 hs; simp only [RepD] at this; obtain ⟨arr, e1, e2⟩ := this; simp only [RepPV]; exact ⟨arr, e1, e2.pv⟩, g2⟩⟩
    · have n1 : ∀ fs, P.underlying t ≠ some (.struct fs) := fun fs e => hs (.inl ⟨fs, e⟩)
      have n2 : ∀ n e, P.underlying t ≠ some (.array n e) := fun n e h => hs (.inr ⟨n, e, h⟩)
      obtain ⟨d1, e1, e2⟩ := c5 n1 n2
      exact ⟨_ :: ps, .cons ⟨cs, c1, hb, .inr ⟨d1, e1, rfl, n1, n2⟩⟩ g1, by simp only [RepTs]; exact ⟨v, vs, rfl, by simp only [RepPV]; exact e2, g2⟩⟩
  | [], _ :: _, _, q, _, _, _, h => by simp [DataW.TrodAll] at h
  | [], [], _ :: _, q, _, _, _, h => by simp [DataW.TrodAll] at h
  | _ :: _, [], _, q, _, _, _, h => by simp [DataW.TrodAll] at h
  | _ :: _, _ :: _, [], q, _, _, _, h => by simp [DataW.TrodAll] at h

theorem below_all (hl : laidOutB P = true) {W' : World} (hb : Below W.heap.size W W') : ∀ {ts : List TypeId} {vs : List Value} {ds : List (DataW H)} {q : List MemPlace}, ts.all (fun t => P.readableRec t && decide (t < P.types.size)) = true →
    (∀ x ∈ q, x.block < W.heap.size) → DataW.TrodAll enc P W 0 (fun _ => true) true ts vs ds q → DataW.TrodAll enc P W' 0 (fun b => decide (b < W.heap.size)) true ts vs ds q
  | [], [], [], q, _, _, h => h
  | t :: ts, v :: vs, d :: ds, q, hts, hq, h => by
    obtain ⟨p1, q1, h1, h2, rfl⟩ := h
    simp only [List.all_cons, Bool.and_eq_true, decide_eq_true_eq] at hts
    exact ⟨p1, q1, WideElems.Trod_stays hl hts.1.1 hts.1.2 h1 (fun x hx => hb.same (hq x (by simp [hx]))) (fun x hx => by simpa using hq x (by simp [hx])), below_all hl hb hts.2 (fun x hx => hq x (by simp [hx])) h2, rfl⟩
  | [], _ :: _, _, q, _, _, h => by simp [DataW.TrodAll] at h
  | [], [], _ :: _, q, _, _, h => by simp [DataW.TrodAll] at h
  | _ :: _, [], _, q, _, _, h => by simp [DataW.TrodAll] at h
  | _ :: _, _ :: _, [], q, _, _, h => by simp [DataW.TrodAll] at h

/-- The row's step, from the law's contract. -/
theorem law_step {μ : DataW H → Nat} (hμ : Meas μ) {fid : FuncId} {f : Func} {s : ChangeSpec} {l : List TypeId} {tb : TypeId} (hl : closedT P l = true) (hlay : laidOutB P = true)
    (hts : f.params.toList.all (fun t => l.contains t) = true) (hrd : f.params.toList.all (fun t => P.readableRec t && decide (t < P.types.size)) = true) (hv : s.vars = []) (hres : f.resultTypes = #[tb]) (htb : P.underlying tb = some .bool)
    (hfn : ∀ ds : List (DataW H), ds.length = f.params.toList.length → s.fn H ds = { results := [.lit (.bool true)], args := ds }) {N : Nat}
    (hlaw : ∀ ps, ArgsT P N f.params.toList ps → CallsA P fid ps [] YesR) {W : World} {base : Nat} {args : Array Value} {ds gs : List (DataW H)} {before : List MemPlace}
    (hval : ∀ (j : Nat) t v, f.params[j]? = some t → args[j]? = some v → Value.okWide P W .any base t v) (hW : DataW.Whole enc P f.params.toList s.vars false W args.toList ds gs before) (hN : ∀ d ∈ ds, μ d ≤ N) :
    Calls P fid args W fun e W' => ∃ v, e = .returned v ∧ s.post enc P f false true false false W args v W' := by
  have hlt := hW.lt
  have hW' := hW
  obtain ⟨p, q, hA, hV, rfl, hfz, hnd⟩ := hW
  rw [hv] at hV
  obtain ⟨rfl, rfl⟩ := trodVars_none hV
  have hlen : ds.length = f.params.toList.length := by
    have : ∀ {ts : List TypeId} {vs : List Value} {ds : List (DataW H)} {q : List MemPlace}, DataW.TrodAll enc P W 0 (fun _ => true) true ts vs ds q → ds.length = ts.length := by
      intro ts
      induction ts with
      | nil => intro vs ds q h; cases vs <;> cases ds <;> simp_all [DataW.TrodAll]
      | cons t ts ih =>
        intro vs ds q h
        cases vs with
        | nil => simp [DataW.TrodAll] at h
        | cons v vs => cases ds with
          | nil => simp [DataW.TrodAll] at h
          | cons d ds => obtain ⟨p1, q1, _, h2, _⟩ := h; simp [ih h2]
    exact this hA
  obtain ⟨ps, g1, g2⟩ := trod_args hμ hl hts (r := .any) (b0 := base) (fun j t v ht hv => hval j t v (by simpa using ht) (by simpa using hv)) hN hA
  refine (law_top (hlaw ps g1) g2).mono fun e W' he => ?_
  obtain ⟨rfl, hb⟩ := he
  refine ⟨_, rfl, ds, [], p ++ [], [], p, [], hW', ?_, ?_, ?_, hb.frame _, fun h => by cases h⟩
  · rw [List.append_nil, hfn ds hlen, hres]
    exact ⟨[], [], shut_bool htb true, rfl, rfl⟩
  · rw [List.append_nil, hfn ds hlen]
    exact below_all hlay hb hrd (fun x hx => hlt x (by simp [hx])) hA
  · rw [hv, List.append_nil, hfn ds hlen]
    rfl
end
end
end Go.Aw

/- Bytes as rows. -/
set_option linter.unusedVariables false
set_option linter.unusedSimpArgs false
namespace Go.Aw
def rowsB (l : List UInt8) : List (List D) := l.map fun b => [D.i .u8 b.toNat]
@[simp] theorem rowsB_length (l : List UInt8) : (rowsB l).length = l.length := by simp [rowsB]
theorem rowsB_all (l : List UInt8) : AllLen 1 (rowsB l) := by simp [rowsB, AllLen]
theorem rowsB_get {l : List UInt8} {i : Nat} (h : i < l.length) : (rowsB l).getD i [] = [D.i .u8 l[i].toNat] := by
  simp [rowsB, List.getD_eq_getElem?_getD, h]
@[simp] theorem rowsB_nil : rowsB [] = [] := rfl
theorem rowsB_append (a b : List UInt8) : rowsB (a ++ b) = rowsB a ++ rowsB b := by simp [rowsB]
theorem rowsB_drop (l : List UInt8) (n : Nat) : (rowsB l).drop n = rowsB (l.drop n) := by simp [rowsB, List.map_drop]
theorem rowsB_take (l : List UInt8) (n : Nat) : (rowsB l).take n = rowsB (l.take n) := by simp [rowsB, List.map_take]
theorem allLen_lift {n : Nat} {rows : List (List D)} (h : AllLen n rows) : AllLen n (rows.map (·.map PV.d)) := fun r hr => by
  obtain ⟨x, hx, rfl⟩ := List.mem_map.1 hr
  rw [List.length_map]; exact h x hx
theorem rowsB_succ {l : List UInt8} {i : Nat} (h : i < l.length) : rowsB (l.take (i + 1)) = rowsB (l.take i) ++ [[D.i .u8 l[i].toNat]] := by
  rw [List.take_add_one, List.getElem?_eq_getElem h, rowsB_append]; rfl
/-- A slice of bytes. -/
abbrev bytesP (l : List UInt8) : PV := .d (.sl (rowsB l))
theorem toRows_map (rows : List (List D)) : toRows (rows.map (·.map PV.d)) = some rows := by
  induction rows with
  | nil => rfl
  | cons r rs ih =>
    have : ∀ l : List D, toDs (l.map PV.d) = some l := by
      intro l
      induction l with
      | nil => rfl
      | cons d l ih => simp [toDs, PV.toD, ih]
    simp [toRows, this, ih]
theorem sizedB {l : List UInt8} (h : sizedP (bytesP l)) : l.length ≤ 9223372036854775807 := by
  simp only [sizedP, sizedD, rowsB_length, maxLen] at h
  omega
theorem ba_loop (x : ByteArray) : ∀ (n i : Nat) (r : List UInt8), x.size - i = n → i ≤ x.size → ByteArray.toList.loop x i r = r.reverse ++ x.data.toList.drop i := by
  intro n
  induction n with
  | zero =>
    intro i r hn hi
    unfold ByteArray.toList.loop
    have : ¬ i < x.size := by omega
    rw [if_neg this]
    have e : x.data.toList.length = x.size := by rw [Array.length_toList]; rfl
    rw [List.drop_eq_nil_of_le (by omega)]; simp
  | succ n ih =>
    intro i r hn hi
    unfold ByteArray.toList.loop
    have hlt : i < x.size := by omega
    rw [if_pos hlt, ih (i + 1) _ (by omega) (by omega)]
    have e : x.data.toList.length = x.size := by rw [Array.length_toList]; rfl
    rw [List.drop_eq_getElem_cons (i := i) (by omega)]
    simp only [ByteArray.get!, List.reverse_cons, List.append_assoc, List.singleton_append, Array.getElem_toList]
    rw [getElem!_pos x.data i (by have : x.data.size = x.size := rfl; omega)]
theorem ba_toList (x : ByteArray) : x.toList = x.data.toList := by
  unfold ByteArray.toList
  rw [ba_loop x _ 0 [] rfl (Nat.zero_le _)]; simp
theorem ba_beq (x y : ByteArray) : (x.toList == y.toList) = decide (x = y) := by
  rw [ba_toList, ba_toList]
  by_cases h : x = y
  · subst h; simp
  · have : ¬ x.data.toList = y.data.toList := fun e => h (by cases x; cases y; simp at e; simp [e])
    have h2 : ¬ x.data = y.data := fun e => this (by rw [e])
    simp [h, h2]

end Go.Aw

/- Nil slices in the objects that a function leaves, taken for empty rows of its own. -/
set_option linter.unusedVariables false
set_option linter.unusedSimpArgs false
namespace Go.Aw
section
variable {P : Program}
theorem DetA.adopt {f : FuncId} {args : List PV} {S0 H : Heap} {v : PV} (h : DetA P f args S0 v H) (o c sz : Nat) {cs : List PV} (hx : H[o]? = some (.box cs)) (hc : cs[c]? = some .nils) :
    DetA P f args S0 v ((H ++ [Ob.buf []]).set o (.box (cs.set c (.own H.length sz 0)))) := by
  refine ⟨h.1, fun w0 F0 mods F ρ w cargs hst hca => (h.2 w0 F0 mods F ρ w cargs hst hca).mono fun e w' he => ?_⟩
  obtain ⟨r, S1, F', ρ', ⟨rfl, rfl⟩, q1, q2, q3⟩ := he
  obtain ⟨h', hk, hr⟩ := q2.adopt
  have hl := (List.getElem?_eq_some_iff.1 hx).1
  have hx' : (S1 ++ [Ob.buf []])[o]? = some (.box cs) := by rw [List.getElem?_append_left hl]; exact hx
  have hsw := h'.swap hx' (cs' := cs.set c (.own S1.length sz 0)) fun arr hp j p hj => by
    by_cases e : c = j
    · subst e
      rw [List.getElem?_set_self (List.getElem?_eq_some_iff.1 hc).1] at hj
      cases hj
      obtain ⟨v, h1, h2, h3⟩ := hp c _ hc
      simp only [RepPV] at h3
      subst h3
      exact ⟨_, h1, h2, hr sz⟩
    · rw [List.getElem?_set_ne e] at hj
      exact hp j p hj
  refine ⟨_, _, F', _, ⟨rfl, rfl⟩, ?_, hsw, ?_⟩
  · rw [info_swap hx']
    cases e with
    | returned u => exact RepPV.keeps hk v u q1
    | panicked c => exact q1.elim
    | outgrown => exact q1.elim
  · rw [info_swap hx']
    exact q3.trans hk
end
/-! ### Which stop it is -/
theorem brIs {b : Bool} {X Y : Prop} (h : Br b X Y) : Br b X Y := h
theorem cdIs {c X : Prop} (h : Cd c X) : Cd c X := h
theorem callGo {P : Program} {f : FuncId} {args0 args : List PV} {R : ARes → Heap → Prop} {S0 S : Heap} {K QP : PV → Heap → Prop} (h : CallsA P f args0 S0 R) (x : CallW P f args S K QP) : CallW P f args S K QP := x
theorem opfIs {P : Program} {vs : List PV} {S : Heap} {o : Oper} {K : PV → Heap → Prop} (h : OpF P vs S o K) : OpF P vs S o K := h
theorem callIs {P : Program} {f : FuncId} {args : List PV} {S : Heap} {K QP : PV → Heap → Prop} (x : CallW P f args S K QP) : CallW P f args S K QP := x
/-- Rows of the call's own are handed on as data, and not changed any more. -/
def ownIn : List PV → Bool
  | [] => false
  | .own _ _ _ :: _ => true
  | _ :: r => ownIn r
theorem callFrz {P : Program} {f : FuncId} {as bs : List PV} {S S' : Heap} {K QP : PV → Heap → Prop} (ho : ownIn as = true) (fz : FrzL S as bs S') (h : forceH S' fun S' => CallW P f bs S' K QP) : CallW P f as S K QP := by
  obtain ⟨R, h1, h2⟩ := ((forceH_iff _ _).1 h).1
  exact ⟨R, h1.frz fz, h2⟩
/-! ### Rewritings for walks that go by themselves -/
theorem quoL (a k : Nat) : (a : Int).tdiv (@OfNat.ofNat Int k instOfNat) = ((a / (@OfNat.ofNat Nat k (instOfNatNat k)) : Nat) : Int) := rfl
theorem remL (a k : Nat) : (a : Int).tmod (@OfNat.ofNat Int k instOfNat) = ((a % (@OfNat.ofNat Nat k (instOfNatNat k)) : Nat) : Int) := rfl
theorem rowsB_td (l : List UInt8) (a b : Nat) : ((rowsB l).take a).drop b = rowsB ((l.take a).drop b) := by simp [rowsB, List.map_take, List.map_drop]
theorem liftR_len (l : List (List D)) : (liftR l).length = l.length := by simp [liftR]
theorem liftB_app (a b : List UInt8) : liftR (rowsB a) ++ liftR (rowsB b) = liftR (rowsB (a ++ b)) := by simp [rowsB, liftR]
theorem allLen_one {α : Type} {n : Nat} {r : List α} (h : r.length = n) : AllLen n [r] := by
  intro x hx
  rw [List.mem_singleton] at hx
  rw [hx, h]
theorem liftB_get (X : List UInt8) (r : Nat) (h : r < X.length) : (liftR (rowsB X)).getD r [] = [PV.d (.i .u8 X[r].toNat)] := by
  simp [liftR, rowsB, List.getD_eq_getElem?_getD, h]
theorem liftB_set (X : List UInt8) (r : Nat) (v : UInt8) (h : r < X.length) : (liftR (rowsB X)).set r (splice ((liftR (rowsB X)).getD r []) 0 [PV.d (.i .u8 v.toNat)]) = liftR (rowsB (X.set r v)) := by
  rw [liftB_get X r h]
  simp [liftR, rowsB, splice, List.map_set]
theorem toNat_mulL (k n : Nat) : ((@OfNat.ofNat Int k instOfNat) * (n : Int)).toNat = (@OfNat.ofNat Nat k (instOfNatNat k)) * n := by
  show ((k : Int) * (n : Int)).toNat = k * n
  rw [← Int.natCast_mul]; rfl
theorem toNat_mulR (k n : Nat) : ((n : Int) * (@OfNat.ofNat Int k instOfNat)).toNat = n * (@OfNat.ofNat Nat k (instOfNatNat k)) := by
  show ((n : Int) * (k : Int)).toNat = n * k
  rw [← Int.natCast_mul]; rfl
end Go.Aw

/- Objects under other numbers, in the midst of a walk and at a function's end. -/
set_option linter.unusedVariables false
set_option linter.unusedSimpArgs false
namespace Go.Aw

theorem St.gone {w0 w : World} {F0 mods F : Nat → Prop} {ρ : Nat → Option Nat} {S : Heap} (h : St w0 F0 mods F ρ S w) : St w0 F0 mods F ρ (S ++ [.gone]) w ∧ Keeps w w F F ρ ρ (info S) (info (S ++ [.gone])) := by
  have hk : Keeps w w F F ρ ρ (info S) (info (S ++ [.gone])) :=
    ⟨fun _ _ => rfl, fun _ h => h, fun _ => Nat.le_refl _, fun o ho => by rw [info_append ho]; exact ho,
      fun o ho hx => by rw [info_append ho] at hx; exact ⟨hx, rfl⟩,
      fun o m ho hx => by rw [info_append ho] at hx; exact ⟨m, hx, Nat.le_refl _, fun _ => rfl⟩⟩
  have live : ∀ o b, Lives (S ++ [.gone]) ρ o b → Lives S ρ o b := by
    rintro o b ⟨h1, y, h2, h3⟩
    by_cases e : o = S.length
    · subst e
      simp at h2
      subst h2
      exact h3.elim
    · have hl : o < S.length := by have := (List.getElem?_eq_some_iff.1 h2).1; simp at this; omega
      rw [List.getElem?_append_left hl] at h2
      exact ⟨h1, y, h2, h3⟩
  refine ⟨⟨?_, fun o o' b h1 h2 => h.inj o o' b (live o b h1) (live o' b h2), fun o b h1 => h.notF o b (live o b h1), h.bound, fun o b h1 => h.mine o b (live o b h1), h.grow, h.os, h.tape, h.output, h.keep, h.bsize, h.f0, h.fnew⟩, hk⟩
  intro o y hy
  by_cases e : o = S.length
  · subst e
    simp at hy
    subst hy
    trivial
  · have hl : o < S.length := by have := (List.getElem?_eq_some_iff.1 hy).1; simp at this; omega
    rw [List.getElem?_append_left hl] at hy
    exact (h.objs o y hy).keeps hk rfl fun b _ _ => rfl

/-- The state may be taken for another one. -/
def Turn (k : Nat) (e : Env) (S : Heap) (e' : Env) (S' : Heap) : Prop := ∀ (G : Ghost) (a : Act) (w : World), G.S0.length = k → Inv G e S a w → Inv G e' S' a w

theorem Turn.trans {k : Nat} {e e1 e2 : Env} {S S1 S2 : Heap} (h : Turn k e S e1 S1) (g : Turn k e1 S1 e2 S2) : Turn k e S e2 S2 := fun G a w hk hi => g G a w hk (h G a w hk hi)
theorem Turn.weak {k : Nat} {e e' : Env} {S S' : Heap} (h : WeakH k e S e' S') : Turn k e S e' S' := fun G a w hk hi => h.inv hk hi
theorem Turn.adopts {k : Nat} {e e' : Env} {S S' : Heap} (h : Adopts e S e' S') : Turn k e S e' S' := fun G a w hk hi => h.inv hi
theorem Turn.gone {k : Nat} {e : Env} {S : Heap} : Turn k e S e (S ++ [.gone]) := fun G a w hk ⟨F, ρ, hi⟩ => by
  obtain ⟨h1, h2⟩ := hi.st.gone
  exact ⟨F, ρ, h1, fun t => (hi.env t).keeps h2, hi.keeps.trans h2, hi.nt, hi.defers⟩
/-- Slots under other numbers. -/
def EnvR (τ : Nat → Nat) (n : Nat) (e : Env) : Env → Prop
  | [] => True
  | (t, p) :: r => renV τ p = look e t ∧ scB n p = true ∧ EnvR τ n e r
theorem EnvR.look {τ : Nat → Nat} {n : Nat} {e : Env} : ∀ {e' : Env}, EnvR τ n e e' → ∀ t, Go.Aw.look e' t = .any ∨ (renV τ (Go.Aw.look e' t) = Go.Aw.look e t ∧ scB n (Go.Aw.look e' t) = true)
  | [], _, t => .inl rfl
  | (s, p) :: r, h, t => by
    simp only [Go.Aw.look]
    by_cases e : t = s
    · subst e; rw [if_pos rfl]; exact .inr ⟨h.1, h.2.1⟩
    · rw [if_neg e]; exact EnvR.look h.2.2 t

/-- The caller's objects stay where they are, or are given up. -/
def pinned (sel : List Nat) (S' : Heap) : Nat → Bool
  | 0 => true
  | j + 1 => (match S'[j]? with
    | some .gone => true
    | _ => match sel[j]? with
      | some s => Nat.beq s j
      | none => false) && pinned sel S' j
theorem pinned_spec {sel : List Nat} {S' : Heap} : ∀ {k : Nat}, pinned sel S' k = true → ∀ j, j < k → S'[j]? = some .gone ∨ sel[j]? = some j
  | 0, h, j, hj => by omega
  | k + 1, h, j, hj => by
    simp only [pinned, Bool.and_eq_true] at h
    rcases Nat.lt_or_ge j k with hlt | hge
    · exact pinned_spec h.2 j hlt
    · obtain rfl : j = k := by omega
      have h1 := h.1
      split at h1
      · exact .inl (by assumption)
      · split at h1
        · rename_i s hs
          exact .inr (by rw [hs, Nat.eq_of_beq_eq_true h1])
        · cases h1

theorem Keeps.pick {w0 w : World} {F0 F : Nat → Prop} {ρ0 ρ : Nat → Option Nat} {S0 S S' : Heap} (q : Keeps w0 w F0 F ρ0 ρ (info S0) (info S)) {sel : List Nat} (hl : sel.length = S'.length) (hk : S0.length ≤ S'.length)
    (hinf : ∀ o, o < S'.length → info S (num sel S.length o) = info S' o) (hp : pinned sel S' S0.length = true) : Keeps w0 w F0 F ρ0 (fun j => ρ (num sel S.length j)) (info S0) (info S') := by
  have hc : ∀ o, info S0 o ≠ .fresh → info S' o = .gone ∨ (info S' o = info S o ∧ num sel S.length o = o) := fun o ho => by
    have hlt := info_lt ho
    rcases pinned_spec hp o hlt with h | h
    · left; rw [info_of h]; rfl
    · right
      have e : num sel S.length o = o := by
        rw [num_lt (by omega)]
        rw [List.getElem?_eq_getElem (by omega)] at h
        simpa using h
      have := hinf o (by omega)
      rw [e] at this
      exact ⟨this.symm, e⟩
  refine ⟨q.same, q.sub, q.size, fun o ho => ?_, fun o ho hx => ?_, fun o m ho hx => ?_⟩
  · rcases hc o ho with h | h
    · rw [h]; simp
    · rw [h.1]; exact q.old o ho
  · rcases hc o ho with h | ⟨h, h'⟩
    · rw [h] at hx; cases hx
    · rw [h] at hx
      obtain ⟨g1, g2⟩ := q.box o ho hx
      exact ⟨g1, by show ρ (num sel S.length o) = _; rw [h', g2]⟩
  · rcases hc o ho with h | ⟨h, h'⟩
    · rw [h] at hx; cases hx
    · rw [h] at hx
      obtain ⟨m', g1, g2, g3⟩ := q.buf o m ho hx
      exact ⟨m', g1, g2, fun e => by show ρ (num sel S.length o) = _; rw [h']; exact g3 e⟩

theorem sel_some {sel : List Nat} {S S' : Heap} (hsel : SelOk (num sel S.length) S sel S') : ∀ j x, S'[j]? = some x → S[num sel S.length j]? = some (renO (num sel S.length) x) := fun j x hx => by
  have hj : j < sel.length := by rw [hsel.len]; exact (List.getElem?_eq_some_iff.1 hx).1
  rw [num_lt hj]
  exact hsel.get (List.getElem?_eq_getElem hj) hx

theorem Turn.pick {k : Nat} {e e' : Env} {S S' : Heap} (sel : List Nat) (hsel : SelOk (num sel S.length) S sel S')
    (hn : (decide sel.Nodup && sel.all (fun s => Nat.blt s S.length) && Nat.ble k S'.length && pinned sel S' k) = true) (hsc : S'.all (Ob.sc S'.length) = true)
    (he : EnvR (num sel S.length) S'.length e e') : Turn k e S e' S' := fun G a w hk ⟨F, ρ, hi⟩ => by
  simp only [Bool.and_eq_true, decide_eq_true_eq] at hn
  obtain ⟨⟨⟨n1, n2⟩, n3⟩, n4⟩ := hn
  have n2 := List.all_eq_true.1 n2
  have n3 := Nat.le_of_ble_eq_true n3
  have hs := sel_some hsel
  have hst := hi.st.pick (τ := num sel S.length) (S' := S') (fun i j hi hj he => num_inj n1 (fun s hs => blt_lt (n2 s hs)) he) hs hsc
  have hinf : ∀ o, o < S'.length → info S (num sel S.length o) = info S' o ∧ ρ (num sel S.length o) = (fun j => ρ (num sel S.length j)) o := fun o ho => by
    have hx := List.getElem?_eq_getElem ho
    refine ⟨?_, rfl⟩
    rw [info_of (hs o _ hx), info_of hx, renO_info]
  subst hk
  refine ⟨F, _, hst, fun t => ?_, hi.keeps.pick hsel.len n3 (fun o ho => (hinf o ho).1) n4, hi.nt, hi.defers⟩
  rcases he.look t with h | ⟨h, h'⟩
  · rw [h]; simp [RepPV]
  · refine (rep_ren hinf _ _ h').1 ?_
    rw [h]; exact hi.env t

theorem Turn.ofE {k : Nat} {e e' : Env} {S S' : Heap} (hk : Nat.ble k S'.length = true) (hs : HLe S S') (hsc : S'.all (Ob.sc S'.length) = true) (he : WeakE S'.length e e') : Turn k e S e' S' :=
  Turn.weak ⟨Nat.le_of_ble_eq_true hk, hs, hsc, fun x hx => weakE_mem he x hx⟩
/-- Own rows in a slot, as data from now on. -/
theorem Turn.fix {k : Nat} {e : Env} {S : Heap} (t : Nat) {o sz n : Nat} {rows : List (List PV)} {ds : List (List D)} (ht : look e t = .own o sz n) (hx : S[o]? = some (.buf rows)) (hn : rows.length = n) (hd : toRows rows = some ds) :
    Turn k e S ((t, .d (.sl ds)) :: e) (S.set o (.fro ds)) := fun G a w hk ⟨F, ρ, hi⟩ => by
  have hv := hi.env t
  rw [ht] at hv
  obtain ⟨F', h1, h2, h3⟩ := freeze_own hi.st hx hn hd hv
  refine ⟨F', ρ, h1, fun s => ?_, hi.keeps.trans h2, hi.nt, hi.defers⟩
  simp only [look]
  by_cases e : s = t
  · subst e; rw [if_pos rfl]; simpa only [RepPV] using h3
  · rw [if_neg e]; exact (hi.env s).keeps h2
theorem drawTurn {P : Program} {k nt id : Nat} {ops : Array Oper} {Q : Post} {e e1 : Env} {S S1 : Heap} (t : Turn k e S e1 S1) (h : DrawW P k nt id ops Q e1 S1) : DrawW P k nt id ops Q e S :=
  ⟨fun G a w hk hn hi => h.1 G a w hk hn (t G a w hk hi)⟩
theorem seqTurn {P : Program} {k nt id : Nat} {c : Code} {Q : Post} {e e1 : Env} {S S1 : Heap} (t : Turn k e S e1 S1) (h : SeqW P k nt id c Q e1 S1) : SeqW P k nt id c Q e S :=
  ⟨fun hd G a w hk hn hi => h.1 hd G a w hk hn (t G a w hk hi)⟩

/-- A loop, ahead of which the state is taken for another one. -/
theorem loopTurn {P : Program} {k nt : Nat} {c : Code} {Q : Post} {e e1 : Env} {S S1 : Heap} (t : Turn k e S e1 S1) (h : LoopW P k nt c Q e1 S1) : LoopW P k nt c Q e S := by
  obtain ⟨h⟩ := h
  exact ⟨fun G a w hk hn hi => h G a w hk hn (t G a w hk hi)⟩

/-- A round's end, where the state may be taken for another one. -/
inductive NextT {γ : Type} (k : Nat) (J : γ → Prop) (ch : γ → Env) (H : γ → Heap) (μ : γ → Nat) (g : γ) (kp : Env) (e' : Env) (S' : Heap) : Prop
  | mk (g' : γ) (hj : J g') (hm : μ g' < μ g) (t : Turn k e' S' (ch g' ++ kp) (H g'))

section
variable {P : Program} {k nt : Nat} {Q : Post} {e : Env} {S : Heap}
theorem loopA' {c : Code} (hd : codeOk nt c = true) {γ : Type} (J : γ → Prop) (E : γ → Env) (H : γ → Heap) (μ : γ → Nat) (g0 : γ) (j0 : J g0) (h0 : Turn k e S (E g0) (H g0))
    (round : ∀ g, J g → AWs P k nt c (fun
      | .normal => fun e' S' => ∃ g', J g' ∧ Turn k e' S' (E g') (H g') ∧ μ g' < μ g
      | x => Q x) (E g) (H g)) : LoopA P k nt c Q e S := by
  intro G a w hk hn hi b kk cs
  have key : ∀ (n : Nat) (g : γ), μ g = n → J g → ∀ (a : Act) (w : World), Inv G (E g) (H g) a w →
      ∃ en a' w', liftQ G Q en a' w' ∧ Arrives P (lone (b.at a (.code c :: .inLoop c :: kk)) cs w) b kk cs en a' w' := by
    intro n
    induction n using Nat.strongRecOn with
    | _ n ih =>
      intro g hg hj a w hi
      obtain ⟨en, a₁, w₁, hq, harr⟩ := AWs_sound k nt c _ _ _ hd (round g hj) G a w hk hn hi b (.inLoop c :: kk) cs
      cases en with
      | normal =>
        obtain ⟨e', S', ⟨g', hj', hw, hlt⟩, hi'⟩ := hq
        obtain ⟨e₂, a₂, w₂, hq₂, harr₂⟩ := ih (μ g') (hg ▸ hlt) g' rfl hj' a₁ w₁ (hw G a₁ w₁ hk hi')
        exact ⟨e₂, a₂, w₂, hq₂, .of_steps (Steps.trans harr (.one step_inLoop)) harr₂⟩
      | exit id => exact ⟨.exit id, a₁, w₁, hq, .pass (x := .inLoop c) rfl (fun _ _ => .inl (by simp)) harr⟩
      | goto l => exact hq.elim
      | ret => exact ⟨.ret, a₁, w₁, hq, .pass (x := .inLoop c) rfl (fun _ _ => .inl (by simp)) harr⟩
      | panic ch => exact ⟨.panic ch, a₁, w₁, hq, .pass (x := .inLoop c) rfl (fun _ _ => .inl (by simp)) harr⟩
      | outgrown => exact hq.elim
  obtain ⟨en, a', w', hq, harr⟩ := key (μ g0) g0 rfl j0 a w (h0 G a w hk hi)
  exact ⟨en, a', w', hq, .of_steps (.one step_loop) harr⟩

/-- A loop whose rounds may put the objects under other numbers. kp: the slots that are kept. -/
theorem loopT {c : Code} (hd : codeOk nt c = true) {γ : Type} (kp : Env) (J : γ → Prop) (ch : γ → Env) (H : γ → Heap) (μ : γ → Nat)
    (g0 : γ) (j0 : J g0) (t0 : Turn k e S (ch g0 ++ kp) (H g0))
    (round : ∀ g, J g → forceE (ch g ++ kp) fun e1 => forceH (H g) fun S1 => AWw P k nt c (fun
      | .normal => fun e' S' => forceE e' fun e' => forceH S' fun S' => NextT k J ch H μ g kp e' S'
      | x => Q x) e1 S1) : LoopW P k nt c Q e S := by
  refine ⟨loopA' hd J (fun g => ch g ++ kp) H μ g0 j0 t0 fun g hg => ?_⟩
  have hr := round g hg
  rw [forceE_iff, forceH_iff] at hr
  refine AWw_A c _ _ (fun x e S h => ?_) _ _ hr
  cases x with
  | normal =>
    obtain ⟨g', hj, hm, t⟩ := (forceH_iff _ _).1 ((forceE_iff _ _).1 h)
    exact ⟨g', hj, t, hm⟩
  | exit i => exact h
  | ret => exact h
  | panic p => exact h

theorem DetA.gone {f : FuncId} {args : List PV} {S0 H : Heap} {v : PV} (h : DetA P f args S0 v H) : DetA P f args S0 v (H ++ [.gone]) := by
  refine ⟨h.1, fun w0 F0 mods F ρ w cargs hst hca => (h.2 w0 F0 mods F ρ w cargs hst hca).mono fun e w' he => ?_⟩
  obtain ⟨r, S1, F', ρ', ⟨rfl, rfl⟩, q1, q2, q3⟩ := he
  obtain ⟨h', hk⟩ := q2.gone
  refine ⟨_, _, F', _, ⟨rfl, rfl⟩, ?_, h', q3.trans hk⟩
  cases e with
  | returned u => exact RepPV.keeps hk v u q1
  | panicked c => exact q1.elim
  | outgrown => exact q1.elim
/-- The answered objects under other numbers; some of the caller's may be given up. -/
theorem DetA.turn {f : FuncId} {args : List PV} {S0 H H' : Heap} {v v' : PV} (h : DetA P f args S0 v H) (sel : List Nat) (hsel : SelOk (num sel H.length) H sel H')
    (hn : (decide sel.Nodup && sel.all (fun s => Nat.blt s H.length) && scB H'.length v' && Nat.ble S0.length H'.length && pinned sel H' S0.length) = true) (n3 : H'.all (Ob.sc H'.length) = true)
    (hv : renV (num sel H.length) v' = v) : DetA P f args S0 v' H' := by
  simp only [Bool.and_eq_true, decide_eq_true_eq] at hn
  obtain ⟨⟨⟨⟨n1, n2⟩, n4⟩, n5⟩, n6⟩ := hn
  have n2 := List.all_eq_true.1 n2
  have n5 := Nat.le_of_ble_eq_true n5
  subst hv
  have hs := sel_some hsel
  refine ⟨h.1, fun w0 F0 mods F ρ w cargs hst hc => (h.2 w0 F0 mods F ρ w cargs hst hc).mono fun e w' he => ?_⟩
  obtain ⟨r, S1, F', ρ', ⟨rfl, rfl⟩, q1, q2, q3⟩ := he
  have hst' := q2.pick (τ := num sel S1.length) (S' := H') (fun i j hi hj he => num_inj n1 (fun s hs => blt_lt (n2 s hs)) he) hs n3
  have hinf : ∀ o, o < H'.length → info S1 (num sel S1.length o) = info H' o ∧ ρ' (num sel S1.length o) = (fun j => ρ' (num sel S1.length j)) o := fun o ho => by
    have hx := List.getElem?_eq_getElem ho
    refine ⟨?_, rfl⟩
    rw [info_of (hs o _ hx), info_of hx, renO_info]
  refine ⟨.ret v', H', F', _, ⟨rfl, rfl⟩, ?_, hst', q3.pick hsel.len n5 (fun o ho => (hinf o ho).1) n6⟩
  cases e with
  | returned u => exact (rep_ren (n := H'.length) (σ := num sel S1.length) hinf v' u n4).1 q1
  | panicked c => exact q1.elim
  | outgrown => exact q1.elim
end
end Go.Aw

/- Slices of data at places of drawn regions. -/
set_option linter.unusedVariables false
set_option linter.unusedSimpArgs false
namespace Go.Aw
section
variable {P : Program} {t el : TypeId} {x y z : Operand} {rows : List (List D)} {sz : Nat} {S : Heap} {K : PV → Heap → Prop} {kk kl : IntKind} {n l : Int}
theorem bndA_some {kk : IntKind} {n : Int} {k d : Nat} (h : 0 ≤ n ∧ n ≤ k) : bndA (some (.d (.i kk n))) k d = some n.toNat := by
  simp only [bndA]; rw [if_pos h]
theorem PlQ.hi (hu : elO P t = some el) (hs : szO P el = some sz) (ha : AllLen sz rows) (h : 0 ≤ n ∧ n ≤ rows.length) (k : K (.d (.sl ((rows.take n.toNat).drop 0))) S) : PlQ P [.d (.sl rows), .d (.i kk n)] (.slice t x none (some y) none) S K :=
  ⟨_, fun S2 dst ty pos after g => by
    intro w0 F0 mods F ρ w a hst he
    obtain ⟨v, u, e1, e2, e3⟩ := reps_two he
    simp only [Op.operands, List.map_cons, List.map_nil, List.cons.injEq, and_true, Option.toArray, Array.toList_append, List.append_nil, List.cons_append, List.nil_append] at e1
    simp only [execOp, e1.1, e1.2, Option.map_none, Option.map_some]
    exact ok_slice_sl hst hu hs ha e2 (lo := none) (hi := some (.d (.i kk n))) trivial e3 (m := n.toNat) (l := 0) (bndA_some h) rfl ⟨rfl, rfl⟩, k⟩
theorem PlQ.lo (hu : elO P t = some el) (hs : szO P el = some sz) (ha : AllLen sz rows) (h : 0 ≤ n ∧ n ≤ rows.length) (k : K (.d (.sl ((rows.take rows.length).drop n.toNat))) S) : PlQ P [.d (.sl rows), .d (.i kk n)] (.slice t x (some y) none none) S K :=
  ⟨_, fun S2 dst ty pos after g => by
    intro w0 F0 mods F ρ w a hst he
    obtain ⟨v, u, e1, e2, e3⟩ := reps_two he
    simp only [Op.operands, List.map_cons, List.map_nil, List.cons.injEq, and_true, Option.toArray, Array.toList_append, List.append_nil, List.cons_append, List.nil_append] at e1
    simp only [execOp, e1.1, e1.2, Option.map_none, Option.map_some]
    exact ok_slice_sl hst hu hs ha e2 (lo := some (.d (.i kk n))) (hi := none) e3 trivial (m := rows.length) (l := n.toNat) rfl (bndA_some h) ⟨rfl, rfl⟩, k⟩
theorem PlQ.lohi (hu : elO P t = some el) (hs : szO P el = some sz) (ha : AllLen sz rows) (h : 0 ≤ n ∧ n ≤ rows.length) (h' : 0 ≤ l ∧ l ≤ (n.toNat : Nat)) (k : K (.d (.sl ((rows.take n.toNat).drop l.toNat))) S) : PlQ P [.d (.sl rows), .d (.i kl l), .d (.i kk n)] (.slice t x (some z) (some y) none) S K :=
  ⟨_, fun S2 dst ty pos after g => by
    intro w0 F0 mods F ρ w a hst he
    obtain ⟨v, u, q, e1, e2, e3, e4⟩ := reps_three he
    simp only [Op.operands, List.map_cons, List.map_nil, List.cons.injEq, and_true, Option.toArray, Array.toList_append, List.append_nil, List.cons_append, List.nil_append] at e1
    simp only [execOp, e1.1, e1.2.1, e1.2.2, Option.map_none, Option.map_some]
    exact ok_slice_sl hst hu hs ha e2 (lo := some (.d (.i kl l))) (hi := some (.d (.i kk n))) e3 e4 (m := n.toNat) (l := l.toNat) (bndA_some h) (bndA_some h') ⟨rfl, rfl⟩, k⟩
end
end Go.Aw

/- Well-typed data, opened. -/
set_option linter.unusedVariables false
set_option linter.unusedSimpArgs false
namespace Go.Aw
section
variable {P : Program} {t e : TypeId} {ds : List D}

theorem ty_bool (hu : P.underlying t = some .bool) (h : TyD P t ds) : ∃ b, ds = [.b b] := by
  cases h <;> rename_i h' <;> simp_all
theorem ty_int {k : IntKind} (hu : P.underlying t = some (.int k)) (h : TyD P t ds) : ∃ n, ds = [.i k n] ∧ (Lit.int k n).wf = true := by
  cases h
  case int k' n hw h' => rw [hu] at h'; cases h'; exact ⟨n, rfl, hw⟩
  all_goals (rename_i h'; first | (rw [hu] at h'; cases h'; done) | (rename_i h''; rw [hu] at h''; cases h''; done))
theorem ty_str (hu : P.underlying t = some .string) (h : TyD P t ds) : ∃ x, ds = [.s x] ∧ x.size ≤ maxLen := by
  cases h
  case str x hw h' => exact ⟨x, rfl, hw⟩
  all_goals (rename_i h'; first | (rw [hu] at h'; cases h'; done) | (rename_i h''; rw [hu] at h''; cases h''; done))
theorem ty_sl (hu : P.underlying t = some (.slice e)) (h : TyD P t ds) : ∃ rows, ds = [.sl rows] ∧ rows.length ≤ maxLen ∧ TyR P e rows := by
  cases h
  case sl e' rows hw hr h' => rw [hu] at h'; cases h'; exact ⟨rows, rfl, hw, hr⟩
  all_goals (rename_i h'; first | (rw [hu] at h'; cases h'; done) | (rename_i h''; rw [hu] at h''; cases h''; done))
theorem ty_struct {fs : Array Field} (hu : P.underlying t = some (.struct fs)) (h : TyD P t ds) : TyFs P (fs.toList.map (·.type)) ds := by
  cases h
  case struct fs' h' hr => rw [hu] at h'; cases h'; exact hr
  all_goals (rename_i h'; first | (rw [hu] at h'; cases h'; done) | (rename_i h''; rw [hu] at h''; cases h''; done))
theorem ty_array {n : Nat} (hu : P.underlying t = some (.array n e)) (h : TyD P t ds) : TyFs P (List.replicate n e) ds := by
  cases h
  case array h' hr => rw [hu] at h'; cases h'; exact hr
  all_goals (rename_i h'; first | (rw [hu] at h'; cases h'; done) | (rename_i h''; rw [hu] at h''; cases h''; done))
theorem tyfs_nil (h : TyFs P [] ds) : ds = [] := by cases h; rfl
theorem tyfs_cons {ts : List TypeId} (h : TyFs P (t :: ts) ds) : ∃ c cs, ds = c ++ cs ∧ TyD P t c ∧ TyFs P ts cs := by
  cases h
  rename_i c cs h1 h2
  exact ⟨c, cs, rfl, h1, h2⟩

theorem tyR_bytes (he : P.underlying e = some (.int .u8)) : ∀ {rows : List (List D)}, TyR P e rows → ∃ l : List UInt8, rows = rowsB l
  | [], _ => ⟨[], rfl⟩
  | r :: rs, h => by
    cases h
    rename_i h1 h2
    obtain ⟨n, rfl, hw⟩ := ty_int he h1
    obtain ⟨l, rfl⟩ := tyR_bytes he h2
    have hn : 0 ≤ n ∧ n ≤ 255 := by simpa [Lit.wf, IntKind.min, IntKind.max, IntKind.signed, IntKind.bits] using hw
    refine ⟨UInt8.ofNat n.toNat :: l, ?_⟩
    simp only [rowsB, List.map_cons]
    have : ((UInt8.ofNat n.toNat).toNat : Int) = n := by simp; omega
    rw [this]

theorem bulk_bytes : ∀ l : List UInt8, bulkR (rowsB l) = l.length
  | [] => rfl
  | b :: l => by
    have := bulk_bytes l
    simp only [rowsB, List.map_cons, bulkR, bulkL, bulkD, List.length_cons] at this ⊢
    omega

theorem ty_bytes (hu : P.underlying t = some (.slice e)) (he : P.underlying e = some (.int .u8)) (h : TyD P t ds) : ∃ l : List UInt8, ds = [.sl (rowsB l)] ∧ bulkL ds = l.length + 1 := by
  obtain ⟨rows, rfl, _, hr⟩ := ty_sl hu h
  obtain ⟨l, rfl⟩ := tyR_bytes he hr
  exact ⟨l, rfl, by simp [bulkL, bulkD, bulk_bytes]⟩

/-- An argument that is one cell. -/
theorem argT_one {N : Nat} {p : PV} (n1 : ∀ fs, P.underlying t ≠ some (.struct fs)) (n2 : ∀ n e, P.underlying t ≠ some (.array n e)) (h : ArgT P N t p) : ∃ d, TyD P t [d] ∧ bulkD d ≤ N ∧ p = .d d := by
  obtain ⟨ds, h1, h2, h3⟩ := h
  rcases h3 with ⟨_, ⟨fs, hu⟩ | ⟨n, e, hu⟩⟩ | ⟨d, rfl, rfl, _⟩
  · exact absurd hu (n1 fs)
  · exact absurd hu (n2 n e)
  · exact ⟨d, h1, by simpa [bulkL] using h2, rfl⟩

theorem argT_bytes {N : Nat} {p : PV} (hu : P.underlying t = some (.slice e)) (he : P.underlying e = some (.int .u8)) (h : ArgT P N t p) : ∃ l : List UInt8, p = bytesP l ∧ l.length ≤ N := by
  obtain ⟨d, h1, h2, rfl⟩ := argT_one (by rw [hu]; simp) (by rw [hu]; simp) h
  obtain ⟨l, e1, e2⟩ := ty_bytes hu he h1
  cases e1
  exact ⟨l, rfl, by simp [bulkD, bulk_bytes] at h2; omega⟩
theorem argT_int {N : Nat} {p : PV} {k : IntKind} (hu : P.underlying t = some (.int k)) (h : ArgT P N t p) : ∃ n, p = .d (.i k n) ∧ (Lit.int k n).wf = true := by
  obtain ⟨d, h1, h2, rfl⟩ := argT_one (by rw [hu]; simp) (by rw [hu]; simp) h
  obtain ⟨n, e1, e2⟩ := ty_int hu h1
  cases e1
  exact ⟨n, rfl, e2⟩
theorem argT_struct {N : Nat} {p : PV} {fs : Array Field} (hu : P.underlying t = some (.struct fs)) (h : ArgT P N t p) : ∃ ds, p = .agg (ds.map .d) ∧ TyFs P (fs.toList.map (·.type)) ds ∧ bulkL ds ≤ N := by
  obtain ⟨ds, h1, h2, h3⟩ := h
  rcases h3 with ⟨rfl, _⟩ | ⟨d, _, _, h4, _⟩
  · exact ⟨ds, rfl, ty_struct hu h1, h2⟩
  · exact absurd hu (h4 fs)
theorem wf_int64 {n : Int} (h : (Lit.int .i64 n).wf = true) : -9223372036854775808 ≤ n ∧ n ≤ 9223372036854775807 := by
  simpa [Lit.wf, IntKind.min, IntKind.max, IntKind.signed, IntKind.bits] using h
/-- A struct of two numbers. -/
theorem argT_int2 {N : Nat} {p : PV} {fs : Array Field} {ti : TypeId} {k : IntKind} (hu : P.underlying t = some (.struct fs)) (hf : fs.toList.map (·.type) = [ti, ti]) (hi : P.underlying ti = some (.int k)) (h : ArgT P N t p) :
    ∃ a b, p = .agg [.d (.i k a), .d (.i k b)] ∧ (Lit.int k a).wf = true ∧ (Lit.int k b).wf = true := by
  obtain ⟨ds, rfl, h1, _⟩ := argT_struct hu h
  rw [hf] at h1
  obtain ⟨c, cs, rfl, g1, g2⟩ := tyfs_cons h1
  obtain ⟨c', cs', rfl, g3, g4⟩ := tyfs_cons g2
  obtain rfl := tyfs_nil g4
  obtain ⟨a, rfl, ha⟩ := ty_int hi g1
  obtain ⟨b, rfl, hb⟩ := ty_int hi g3
  exact ⟨a, b, rfl, ha, hb⟩
theorem argsT_nil {N : Nat} {ps : List PV} (h : ArgsT P N [] ps) : ps = [] := by cases h; rfl
theorem argsT_cons {N : Nat} {ts : List TypeId} {ps : List PV} (h : ArgsT P N (t :: ts) ps) : ∃ p r, ps = p :: r ∧ ArgT P N t p ∧ ArgsT P N ts r := by
  cases h
  rename_i p r h1 h2
  exact ⟨p, r, rfl, h1, h2⟩
end
end Go.Aw
