/- What is promised of a function; regions in the order of the text; control. -/
import Derived.Test.YthilodmojjlaeaaAwJ
set_option linter.unusedVariables false
set_option linter.unusedSimpArgs false
namespace Go.Aw

inductive ARes where
  | ret (p : PV)
  | pan (p : PV)

def EndRep (w : World) (F : Nat → Prop) (ρ : Nat → Option Nat) (C : Nat → OI) : ARes → Ending → Prop
  | .ret p, .returned v => RepPV w F ρ C p v
  | .pan p, .panicked chain => ∃ v, chain = [{ v, recovered := false }] ∧ RepPV w F ρ C p v
  | _, _ => False

/-- Called with these arguments, where these objects are its caller's: the function ends, and R speaks of what it answers and of what has become of the objects. -/
def CallsA (P : Program) (f : FuncId) (args : List PV) (S : Heap) (R : ARes → Heap → Prop) : Prop :=
  (∀ args w, (callFunc f args).run P w = .ok (.enter f args) w) ∧ ∀ (w0 : World) (F0 mods F : Nat → Prop) (ρ : Nat → Option Nat) (w : World) (cargs : Array Value), St w0 F0 mods F ρ S w → RepTs w F ρ (info S) args cargs.toList →
    Calls P f cargs w fun e w' => ∃ r S' F' ρ', R r S' ∧ EndRep w' F' ρ' (info S') r e ∧ St w0 F0 mods F' ρ' S' w' ∧ Keeps w w' F F' ρ ρ' (info S) (info S')

def CallX (P : Program) (f : FuncId) (args : List PV) (S : Heap) (K QP : PV → Heap → Prop) : Prop :=
  ∃ R, CallsA P f args S R ∧ ∀ r S', R r S' → match r with
    | .ret p => sizedP p → K p S'
    | .pan p => QP p S'

theorem CallX.intro {P : Program} {f : FuncId} {args : List PV} {S : Heap} {K QP : PV → Heap → Prop} {R : ARes → Heap → Prop} (h : CallsA P f args S R)
    (hk : ∀ p S', R (.ret p) S' → sizedP p → K p S') (hp : ∀ p S', R (.pan p) S' → QP p S') : CallX P f args S K QP :=
  ⟨R, h, fun r S' hr => by cases r with | ret p => exact hk p S' hr | pan p => exact hp p S' hr⟩

/-- What is handed in is no longer than a Go int tells. -/
theorem CallsA.sized {P : Program} {f : FuncId} {args : List PV} {S : Heap} {R : ARes → Heap → Prop} (hcall : ∀ args w, (callFunc f args).run P w = .ok (.enter f args) w) (h : sizedPs args → CallsA P f args S R) : CallsA P f args S R :=
  ⟨hcall, fun w0 F0 mods F ρ w cargs hs ha => (h (RepTs.sized _ _ ha)).2 w0 F0 mods F ρ w cargs hs ha⟩

/-- A slice against nil, where it may be either. -/
def NilA (P : Program) (e : Env) (S : Heap) (op : Op) (K : PV → Heap → Prop) : Prop := match op with
  | .binOp op t x (.const (.slice none 0 0)) _ => (op = .eql ∨ op = .neq) ∧ sliceA' P t = true ∧ ∃ n, lenPV (ev e x) = some n ∧ (∀ s, ev e x ≠ .d (.s s)) ∧
      ∀ b, (b = true → n = 0 ∨ ∃ o sz, ev e x = .own o sz n) → (ev e x = .nils → b = true) → K (.d (.b (if op = .eql then b else !b))) S
  | _ => False

/-- A slice literal as an object of the call's own. -/
def LitA (P : Program) (e : Env) (S : Heap) (op : Op) (K : PV → Heap → Prop) : Prop := match op with
  | .buildSlice T len parts => ∃ el sz zs cs, elO P T = some el ∧ szO P el = some sz ∧ zO P el = some zs ∧ zs.length = sz ∧ 0 < sz ∧
      fillA (fun i => some (i * sz, sz)) (List.replicate len zs).flatten (parts.toList.map fun x => (x.1, ev e x.2)) = some cs ∧ len * sz ≤ 16777216 ∧ cs.length = len * sz ∧
      K (.own S.length sz len) (S ++ [.buf (chunks sz len cs)])
  | _ => False

/-- An operation, calls and panics among them. -/
def execA0 (P : Program) (e : Env) (S : Heap) (o : Oper) (K : PV → Heap → Prop) (QP : PV → Heap → Prop) : Prop := match o.op with
  | .call { callee := .value (.func f), args, argTypes } => CallX P f (args.toList.map (ev e)) S K QP
  | .panic x => ∃ t d, ev e x = .d (.ifc t d) ∧ QP (.d (.ifc t d)) S
  | op => opA P e S op K

/-- An operation told of by the worlds themselves: what comes of it in each world that bears the state. -/
def SemOp (P : Program) (e : Env) (S : Heap) (o : Oper) (K : PV → Heap → Prop) : Prop :=
  ∀ (w0 : World) (F0 mods F : Nat → Prop) (ρ : Nat → Option Nat) (w : World) (a : Act), St w0 F0 mods F ρ S w → (∀ x ∈ o.op.operands, RepPV w F ρ (info S) (ev e x) (a.eval x)) →
    OpOk P (execOp a.eval o) w0 F0 mods F ρ S w K
/-- A call whose function shows in the worlds alone. -/
def SemEnter (P : Program) (e : Env) (S : Heap) (o : Oper) (f : FuncId) (as : List PV) : Prop :=
  ∀ (F : Nat → Prop) (ρ : Nat → Option Nat) (w : World) (a : Act), (∀ x ∈ o.op.operands, RepPV w F ρ (info S) (ev e x) (a.eval x)) →
    ∃ cargs : Array Value, (execOp a.eval o).run P w = .ok (.enter f cargs) w ∧ RepTs w F ρ (info S) as cargs.toList
def SemA (P : Program) (e : Env) (S : Heap) (o : Oper) (K : PV → Heap → Prop) (QP : PV → Heap → Prop) : Prop :=
  SemOp P e S o K ∨ ∃ f as, CallX P f as S K QP ∧ SemEnter P e S o f as

def execA (P : Program) (e : Env) (S : Heap) (o : Oper) (K : PV → Heap → Prop) (QP : PV → Heap → Prop) : Prop := execA0 P e S o K QP ∨ NilA P e S o.op K ∨ LitA P e S o.op K ∨ SemA P e S o K QP

/-- The operation where its guard lets it. -/
def stepA (P : Program) (ops : Array Oper) (o : Oper) (K : Env → Heap → Prop) (Q : Post) (e : Env) (S : Heap) : Prop := match o.guard with
  | none => execA P e S o (fun v => K (put e o.dst v)) (fun p => Q (.panic p) e)
  | some (j, want) => match (ops[j]?).bind (·.dst) with
    | some t => (look e t = .tup [] ∧ K (put e o.dst (.tup [])) S) ∨ ∃ b, look e t = .d (.b b) ∧ (b = want → execA P ((t, .d (.b want)) :: e) S o (fun v => K (put ((t, .d (.b want)) :: e) o.dst v)) (fun p => Q (.panic p) e)) ∧
        (b = !want → K (put ((t, .d (.b (!want))) :: e) o.dst (.tup [])) S)
    | none => False

def opsA (P : Program) (ops : Array Oper) (Q : Post) : List Nat → Env → Heap → Prop
  | [] => Q .normal
  | i :: r => fun e S => match ops[i]? with
    | none => opsA P ops Q r e S
    | some o => stepA P ops o (opsA P ops Q r) Q e S

structure Ghost where
  w0 : World
  F0 : Nat → Prop
  ρ0 : Nat → Option Nat
  S0 : Heap
  nt : Nat

def Ghost.mods (G : Ghost) (b : Nat) : Prop := ∃ o, Lives G.S0 G.ρ0 o b

structure InvAt (G : Ghost) (e : Env) (S : Heap) (a : Act) (w : World) (F : Nat → Prop) (ρ : Nat → Option Nat) : Prop where
  st : St G.w0 G.F0 G.mods F ρ S w
  env : ∀ t, RepPV w F ρ (info S) (look e t) (a.tmps.getD t undef)
  keeps : Keeps G.w0 w G.F0 F G.ρ0 ρ (info G.S0) (info S)
  nt : a.tmps.size = G.nt
  defers : a.defers = []

def Inv (G : Ghost) (e : Env) (S : Heap) (a : Act) (w : World) : Prop := ∃ F ρ, InvAt G e S a w F ρ

def liftQ (G : Ghost) (Q : Post) : Exit → Act → World → Prop
  | .normal, a, w => ∃ e S, Q .normal e S ∧ Inv G e S a w
  | .exit id, a, w => ∃ e S, Q (.exit id) e S ∧ Inv G e S a w
  | .ret, a, w => ∃ e S, Q .ret e S ∧ Inv G e S a w
  | .panic chain, a, w => ∃ e S v p F ρ, chain = [{ v, recovered := false }] ∧ Q (.panic p) e S ∧ InvAt G e S a w F ρ ∧ RepPV w F ρ (info S) p v
  | _, _, _ => False

/-- A piece of code, in every world that bears the state. -/
def Sem' (P : Program) (k nt : Nat) (c : Code) (Q : Post) (e : Env) (S : Heap) : Prop :=
  ∀ (G : Ghost) (a : Act) (w : World), G.S0.length = k → G.nt = nt → Inv G e S a w → c.wp P (liftQ G Q) a w

section
variable {P : Program}

theorem rep_ev {w : World} {F : Nat → Prop} {ρ : Nat → Option Nat} {C : Nat → OI} {e : Env} {a : Act} (he : ∀ t, RepPV w F ρ C (look e t) (a.tmps.getD t undef)) (x : Operand) : RepPV w F ρ C (ev e x) (a.eval x) := by
  cases x with
  | tmp t => exact he t
  | const v => exact cst_rep v
  | global g => simp [ev, RepPV]
  | func f => simp [ev, RepPV]

theorem rep_evO {w : World} {F : Nat → Prop} {ρ : Nat → Option Nat} {C : Nat → OI} {e : Env} {a : Act} (he : ∀ t, RepPV w F ρ C (look e t) (a.tmps.getD t undef)) (x : Option Operand) : RepO w F ρ C (x.map (ev e)) (x.map a.eval) := by
  cases x with
  | none => simp [RepO]
  | some x => simpa [RepO] using rep_ev he x

theorem rep_parts {w : World} {F : Nat → Prop} {ρ : Nat → Option Nat} {C : Nat → OI} {e : Env} {a : Act} (he : ∀ t, RepPV w F ρ C (look e t) (a.tmps.getD t undef)) :
    ∀ l : List (Nat × Operand), Parts w F ρ C (l.map fun x => (x.1, ev e x.2)) (l.map fun x => (x.1, a.eval x.2))
  | [] => .nil
  | x :: r => .cons (rep_ev he x.2) (rep_parts he r)

theorem rep_args {w : World} {F : Nat → Prop} {ρ : Nat → Option Nat} {C : Nat → OI} {e : Env} {a : Act} (he : ∀ t, RepPV w F ρ C (look e t) (a.tmps.getD t undef)) :
    ∀ l : List Operand, RepTs w F ρ C (l.map (ev e)) (l.map a.eval)
  | [] => by simp [RepTs]
  | x :: r => by simp only [List.map_cons, RepTs]; exact ⟨_, _, rfl, rep_ev he x, rep_args he r⟩

theorem opA_sound {w0 : World} {F0 mods F : Nat → Prop} {ρ : Nat → Option Nat} {S : Heap} {w : World} {K : PV → Heap → Prop} (h : St w0 F0 mods F ρ S w) {e : Env} {a : Act}
    (he : ∀ t, RepPV w F ρ (info S) (look e t) (a.tmps.getD t undef)) (o : Oper) (hl : opA P e S o.op K) : OpOk P (execOp a.eval o) w0 F0 mods F ρ S w K := by
  obtain ⟨dst, op, ty, pos, after, guard⟩ := o
  cases op
  case call c =>
    obtain ⟨callee, args, argTypes⟩ := c
    cases callee with
    | value f => simp only [opA] at hl
    | invoke r m => simp only [opA] at hl
    | builtin b =>
      cases b <;> simp only [opA] at hl
      case len =>
        split at hl
        · rename_i x t hx ht
          have e1 : args = #[x] := by cases args; simp_all
          have e2 : argTypes = #[t] := by cases argTypes; simp_all
          subst e1 e2
          have := ok_lenA (ty := ty) h (rep_ev he x) hl
          simpa [execOp, resolve, invoke, builtin] using this
        · exact hl.elim
      case append =>
        split at hl
        · rename_i p x t t' hx ht
          obtain ⟨rfl, hl⟩ := hl
          have e1 : args = #[p, x] := by cases args; simp_all
          have e2 : argTypes = #[t', t'] := by cases argTypes; simp_all
          subst e1 e2
          have := ok_appendA (ty := ty) h (rep_ev he p) (rep_ev he x) hl
          simpa [execOp, resolve, invoke, builtin] using this
        · exact hl.elim
  all_goals (simp only [opA] at hl)
  all_goals (try exact hl.elim)
  all_goals (simp only [execOp])
  case move x => exact .value h rfl (rep_ev he x) hl
  case assign x => exact .value h rfl (rep_ev he x) hl
  case pick c x y =>
    obtain ⟨t, h1, h2⟩ := hl
    have hc := rep_ev he c
    rw [h1] at hc
    simp only [RepPV, RepD] at hc
    cases t with
    | true => exact .value h (v := a.eval x) (by simp [hc, asBool]) (rep_ev he x) (by simpa using h2)
    | false => exact .value h (v := a.eval y) (by simp [hc, asBool]) (rep_ev he y) (by simpa using h2)
  case alloc T => obtain ⟨cs, h1, h2⟩ := hl; exact ok_alloc h h1 h2
  case box T v => obtain ⟨cs, h1, h2⟩ := hl; exact ok_box h (rep_ev he v) h1 h2
  case build T parts =>
    obtain ⟨pl, zs, cs, h1, h2, h3, h4⟩ := hl
    generalize hq : Array.map _ parts = q
    have hp := rep_parts he parts.toList
    exact ok_build h h1 h2 (parts := q) (by rw [← hq, Array.toList_map]; exact hp) h3 h4
  case buildSlice T len parts =>
    obtain ⟨el, sz, zs, cs, ds, h1, h2, h3, h4, h5, h6, h7, h8, h9, h10⟩ := hl
    generalize hq : Array.map _ parts = q
    have hp := rep_parts he parts.toList
    exact ok_buildSlice h h1 h2 h3 h4 h5 (parts := q) (by rw [← hq, Array.toList_map]; exact hp) h6 h7 h8 h9 h10
  case load T x => exact ok_loadA h (rep_ev he x) hl
  case store T x y => exact ok_storeA h (rep_ev he x) (rep_ev he y) hl
  case fieldAddr T x f => exact ok_fieldA h (rep_ev he x) hl
  case indexAddr T x i => exact ok_indexA h (rep_ev he x) (rep_ev he i) hl
  case binOp op t x y yt =>
    obtain ⟨d, h1, h2⟩ := hl
    exact ok_binP h (rep_ev he x) (rep_ev he y) id h1 h2
  case nilCheck x =>
    obtain ⟨h1, h2⟩ := hl
    have hx := rep_ev he x
    obtain ⟨ad, hv⟩ : ∃ ad, a.eval x = .pointer (some ad) := by
      cases hp : ev e x <;> rw [hp] at h1 hx <;> simp only [ptrLike] at h1 <;> (try cases h1) <;> simp only [RepPV] at hx
      · obtain ⟨_, b, e1, _⟩ := hx; exact ⟨_, e1⟩
      · obtain ⟨b, off, e1, _⟩ := hx; exact ⟨_, e1⟩
      · obtain ⟨_, b, off, e1, _⟩ := hx; exact ⟨_, e1⟩
    exact .value h (v := a.eval x) (by simp [hv]) hx h2
  case unOp op t x =>
    cases op <;> try exact hl.elim
    case not => obtain ⟨b, h1, h2⟩ := hl; exact ok_not h (by rw [← h1]; exact rep_ev he x) h2
    case neg => obtain ⟨k, n, h1, h2⟩ := hl; exact ok_neg h (by rw [← h1]; exact rep_ev he x) h2
  case convert s t x =>
    have hx := rep_ev he x
    split at hl
    · rename_i k n hk
      rw [hk] at hx
      obtain ⟨⟨j, h1⟩, k', h2, h3⟩ := hl
      exact ok_conv_int h (kindA_under h1) (kindA_under h2) hx h3
    · rename_i y hk
      rw [hk] at hx
      obtain ⟨h1, h2, h3⟩ := hl
      exact ok_conv_str h (strA_under h1) (strA_under h2) hx h3
    · exact hl.elim
  case extract x i => obtain ⟨vs, p, h1, h2, h3⟩ := hl; exact ok_extract h (by rw [← h1]; exact rep_ev he x) h2 h3
  case index t x i =>
    have hx := rep_ev he x
    have hi := rep_ev he i
    split at hl
    · rename_i y hk
      rw [hk] at hx
      obtain ⟨h1, hl⟩ := hl
      split at hl
      · rename_i k n hn
        rw [hn] at hi
        obtain ⟨h2, h3, h4⟩ := hl
        have hev : a.eval i = .int k n := by simpa [RepPV, RepD] using hi
        have := ok_index_str (k := k) (i := n) h (strA_under h1) hx h2 h3 h4
        rw [← hev] at this
        exact this
      · exact hl.elim
    · exact hl.elim
  case slice t x lo hi mx =>
    cases mx with
    | none => exact ok_sliceA h (rep_ev he x) (rep_evO he lo) (rep_evO he hi) hl
    | some m => exact hl.elim
  case makeSlice t l c =>
    obtain ⟨el, sz, by_, zs, k, n, k', m, h1, h2, h3, h4, h5, h6, h7, h8, h9, h10, h11, h12, h13⟩ := hl
    exact ok_make h h1 h2 h3 h4 h5 h6 (by rw [← h7]; exact rep_ev he l) (by rw [← h8]; exact rep_ev he c) h9 h10 h11 h12 h13
  case makeInterface t x =>
    obtain ⟨h1, d, h2, h3⟩ := hl
    unfold plainA at h1
    cases hu : P.underlying t with
    | none => rw [hu] at h1; cases h1
    | some ds =>
      rw [hu] at h1
      exact ok_iface h hu (fun ms e => by subst e; cases h1) (rep_ev he x) h2 h3

theorem St.trans {w0 : World} {F0 mods F F' : Nat → Prop} {ρ ρ' : Nat → Option Nat} {S S' : Heap} {w w' : World} (h : St w0 F0 mods F ρ S w) (h' : St w F (fun b => ∃ o, Lives S ρ o b) F' ρ' S' w') :
    St w0 F0 mods F' ρ' S' w' where
  objs := h'.objs
  inj := h'.inj
  notF := h'.notF
  bound := h'.bound
  mine := fun o b hl => by
    rcases h'.mine o b hl with ⟨o', h1⟩ | h1
    · exact h.mine o' b h1
    · right; have := h.grow; omega
  grow := Nat.le_trans h.grow h'.grow
  os := h'.os.trans h.os
  tape := h'.tape.trans h.tape
  output := h'.output.trans h.output
  keep := fun b hb hm => by
    rw [h'.keep b (by have := h.grow; omega) ?_]
    · exact h.keep b hb hm
    · rintro ⟨o, hl⟩
      rcases h.mine o b hl with h1 | h1
      · exact hm h1
      · omega
  bsize := fun b => Nat.le_trans (h.bsize b) (h'.bsize b)
  f0 := fun b hb => h'.f0 b (h.f0 b hb)
  fnew := fun b hb => by
    rcases h'.fnew b hb with h1 | ⟨o, h1⟩ | h1
    · exact h.fnew b h1
    · rcases h.mine o b h1 with h2 | h2
      · exact .inr (.inl h2)
      · exact .inr (.inr h2)
    · right; right; have := h.grow; omega

theorem St.start {w0 : World} {F0 mods F : Nat → Prop} {ρ : Nat → Option Nat} {S : Heap} {w : World} (h : St w0 F0 mods F ρ S w) : St w F (fun b => ∃ o, Lives S ρ o b) F ρ S w :=
  ⟨h.objs, h.inj, h.notF, h.bound, fun o b hl => .inl ⟨o, hl⟩, Nat.le_refl _, rfl, rfl, rfl, fun _ _ _ => rfl, fun _ => Nat.le_refl _, fun _ h => h, fun _ h => .inl h⟩

/-- The slot that an operation writes is there. -/
def dstOk (nt : Nat) (o : Oper) : Bool := match o.dst with
  | none => true
  | some d => decide (d < nt)

theorem look_put {w : World} {F : Nat → Prop} {ρ : Nat → Option Nat} {C : Nat → OI} {e : Env} {a : Act} {nt : Nat} (he : ∀ t, RepPV w F ρ C (look e t) (a.tmps.getD t undef)) (hn : a.tmps.size = nt) {o : Oper} (hd : dstOk nt o = true)
    {p : PV} {v : Value} (hp : RepPV w F ρ C p v) : ∀ t, RepPV w F ρ C (look (put e o.dst p) t) ((a.put o.dst v).tmps.getD t undef) := by
  intro t
  cases h : o.dst with
  | none => simpa [put, Act.put] using he t
  | some d =>
    have hd' : d < a.tmps.size := by rw [hn]; simpa [dstOk, h] using hd
    simp only [put, look, Act.put]
    by_cases e : t = d
    · subst e
      simp [hd', hp]
    · rw [if_neg e]
      have := he t
      simpa [Array.getElem?_setIfInBounds_ne (Ne.symm e)] using this

theorem InvAt.put {G : Ghost} {e : Env} {S S' : Heap} {a : Act} {w w' : World} {F F' : Nat → Prop} {ρ ρ' : Nat → Option Nat} (h : InvAt G e S a w F ρ) (hk : Keeps w w' F F' ρ ρ' (info S) (info S')) (hs : St G.w0 G.F0 G.mods F' ρ' S' w')
    {o : Oper} (hd : dstOk G.nt o = true) {p : PV} {v : Value} (hp : RepPV w' F' ρ' (info S') p v) : InvAt G (put e o.dst p) S' (a.put o.dst v) w' F' ρ' where
  st := hs
  env := look_put (fun t => (h.env t).keeps hk) h.nt hd hp
  keeps := h.keeps.trans hk
  nt := by
    cases ho : o.dst with
    | none => exact h.nt
    | some d => simpa [Act.put] using h.nt
  defers := by
    cases ho : o.dst with
    | none => exact h.defers
    | some d => exact h.defers

/-- A slot's value written out. -/
theorem InvAt.known {G : Ghost} {e : Env} {S : Heap} {a : Act} {w : World} {F : Nat → Prop} {ρ : Nat → Option Nat} (h : InvAt G e S a w F ρ) {t : Nat} {p : PV} (hp : RepPV w F ρ (info S) p (a.tmps.getD t undef)) :
    InvAt G ((t, p) :: e) S a w F ρ :=
  ⟨h.st, fun s => by
    simp only [look]
    by_cases hs : s = t
    · subst hs; simpa using hp
    · rw [if_neg hs]; exact h.env s, h.keeps, h.nt, h.defers⟩

theorem execA_sound {G : Ghost} {e : Env} {S : Heap} {a : Act} {w : World} {F : Nat → Prop} {ρ : Nat → Option Nat} (h : InvAt G e S a w F ρ) {o : Oper} (hd : dstOk G.nt o = true) {K : PV → Heap → Prop} {QP : PV → Heap → Prop} {Q : Exit → Act → World → Prop}
    {next : Act → World → Prop} (hl : execA P e S o K QP) (hn : ∀ (pv : PV) (S' : Heap) (a' : Act) (w' : World), K pv S' → Inv G (Aw.put e o.dst pv) S' a' w' → next a' w')
    (hp : ∀ (p : PV) (S' : Heap) (v : Value) (w' : World) (F' : Nat → Prop) (ρ' : Nat → Option Nat), QP p S' → InvAt G e S' a w' F' ρ' → RepPV w' F' ρ' (info S') p v → Q (.panic [{ v, recovered := false }]) a w') :
    o.wp P a w next Q := by
  have okk : OpOk P (execOp a.eval o) G.w0 G.F0 G.mods F ρ S w K → o.wp P a w next Q := fun hl => by
    obtain ⟨nx, v, w', pv, S', F', ρ', h1, h2, h3, h4, h5, h6⟩ := hl
    unfold Oper.wp
    rw [h1]
    rcases h2 with rfl | ⟨rfl, rfl⟩
    · rw [Oper.upon_value]
      exact hn pv S' _ w' h3 ⟨F', ρ', h.put h6 h5 hd h4⟩
    · rw [Oper.upon_skip]
      exact hn pv S' _ w' h3 ⟨F', ρ', h.put h6 h5 hd h4⟩
  have plain : opA P e S o.op K → o.wp P a w next Q := fun hl => okk (opA_sound h.st h.env o hl)
  have enter : ∀ (f : FuncId) (as : List PV) (cargs : Array Value), CallX P f as S K QP → (execOp a.eval o).run P w = .ok (.enter f cargs) w → RepTs w F ρ (info S) as cargs.toList → o.wp P a w next Q := by
    intro f as cargs hl hrun hargs
    obtain ⟨R, hc, hk⟩ := hl
    have := hc.2 G.w0 G.F0 G.mods F ρ w cargs h.st hargs
    unfold Oper.wp
    rw [hrun, Oper.upon_enter]
    refine this.mono fun en w' hen => ?_
    obtain ⟨r, S', F', ρ', g1, g2, g3, g4⟩ := hen
    have hk' := hk r S' g1
    cases r with
    | ret p =>
      cases en with
      | returned v => exact hn p S' _ w' (hk' (RepPV.sized _ _ g2)) ⟨F', ρ', h.put g4 g3 hd g2⟩
      | panicked c => exact g2.elim
      | outgrown => exact g2.elim
    | pan p =>
      cases en with
      | returned v => exact g2.elim
      | outgrown => exact g2.elim
      | panicked c =>
        obtain ⟨v, rfl, g5⟩ := g2
        exact hp p S' v w' F' ρ' hk' ⟨g3, fun t => (h.env t).keeps g4, h.keeps.trans g4, h.nt, h.defers⟩ g5
  rcases hl with hl | hl
  case inr =>
   rcases hl with hl | hl
   case inr =>
    rcases hl with hl | hl
    case inr =>
      rcases hl with hl | ⟨f, as, h1, h2⟩
      · exact okk (hl _ _ _ _ _ _ a h.st fun x _ => rep_ev h.env x)
      · obtain ⟨cargs, h3, h4⟩ := h2 F ρ w a fun x _ => rep_ev h.env x
        exact enter f as cargs h1 h3 h4
    unfold LitA at hl
    split at hl
    · rename_i T len parts hop
      obtain ⟨el, sz, zs, cs, h1, h2, h3, h4, h5, h6, h7, h8, h9⟩ := hl
      have hp := rep_parts h.env parts.toList
      have hok : OpOk P (execOp a.eval o) G.w0 G.F0 G.mods F ρ S w K := by
        simp only [execOp, hop]
        generalize hq : Array.map _ parts = q
        exact ok_buildOwn h.st h1 h2 h3 h4 h5 (parts := q) (by rw [← hq, Array.toList_map]; exact hp) h6 h7 h8 h9
      obtain ⟨nx, v, w', pv, S', F', ρ', g1, g2, g3, g4, g5, g6⟩ := hok
      unfold Oper.wp
      rw [g1]
      rcases g2 with rfl | ⟨rfl, rfl⟩
      · rw [Oper.upon_value]
        exact hn pv S' _ w' g3 ⟨F', ρ', h.put g6 g5 hd g4⟩
      · rw [Oper.upon_skip]
        exact hn pv S' _ w' g3 ⟨F', ρ', h.put g6 g5 hd g4⟩
    · exact hl.elim
   case inl =>
    unfold NilA at hl
    split at hl
    · rename_i op t x yt hop
      obtain ⟨h1, h2, n, h3, h4, h5⟩ := hl
      obtain ⟨b, h6, h8, h7⟩ := nil_rep (P := P) (x := x) (y := .const (.slice none 0 0)) (rep_ev h.env x) h2 h3 h4 op h1
      have hr : (execOp a.eval o).run P w = .ok (.value (.bool (if op = .eql then b else !b))) w := by
        simp only [execOp, hop]
        rw [Sem.run_bind]
        show (((do eqGuard op t x (.const (.slice none 0 0)) (a.eval x) (.slice none 0 0); binOp op t (a.eval x) (.slice none 0 0)) : Sem Value).run P w).andThen _ = _
        rw [h7]; rfl
      unfold Oper.wp
      rw [hr]
      rw [Oper.upon_value]
      exact hn _ S _ w (h5 b h6 h8) ⟨F, ρ, h.put (Keeps.refl ..) h.st hd (by simp [RepPV, RepD])⟩
    · exact hl.elim
  unfold execA0 at hl
  split at hl
  · rename_i f args argTypes hop
    have hargs : RepTs w F ρ (info S) (args.toList.map (ev e)) (args.map a.eval).toList := by
      have := rep_args h.env args.toList
      simpa using this
    obtain ⟨R, hc, hk⟩ := hl
    exact enter f _ (args.map a.eval) ⟨R, hc, hk⟩ (by simp [execOp, hop, resolve, Act.eval, Deferred.ofValue, invoke, hc.1]) hargs
  · rename_i x hop
    obtain ⟨t, d, h1, h2⟩ := hl
    have hx := rep_ev h.env x
    rw [h1] at hx
    simp only [RepPV, RepD] at hx
    obtain ⟨u, hu, hd'⟩ := hx
    unfold Oper.wp
    have hrun : (execOp a.eval o).run P w = .halt (.panic (.iface t u)) w := by
      simp [execOp, hop, hu, Instr.panic]
    rw [hrun, Oper.upon_panic]
    exact hp _ S _ w F ρ h2 h (by simp only [RepPV, RepD]; exact ⟨u, rfl, hd'⟩)
  · exact plain hl

end
end Go.Aw
