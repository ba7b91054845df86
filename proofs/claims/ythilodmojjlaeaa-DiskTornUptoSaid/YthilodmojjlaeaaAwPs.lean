/- More operations, told of by the worlds: rows of the call's own become data, type assertions, bytes and strings. -/
import Derived.Test.YthilodmojjlaeaaAwR
set_option linter.unusedVariables false
set_option linter.unusedSimpArgs false
namespace Go.Aw

/-- An operation at these operands, in each world that bears the state. -/
def SemV (P : Program) (vs : List PV) (S : Heap) (o : Oper) (K : PV → Heap → Prop) : Prop :=
  ∀ (w0 : World) (F0 mods F : Nat → Prop) (ρ : Nat → Option Nat) (w : World) (a : Act), St w0 F0 mods F ρ S w → RepTs w F ρ (info S) vs (o.op.operands.toList.map a.eval) →
    OpOk P (execOp a.eval o) w0 F0 mods F ρ S w K
/-- A call whose function shows in the worlds alone. -/
def SemVE (P : Program) (vs : List PV) (S : Heap) (o : Oper) (f : FuncId) (as : List PV) : Prop :=
  ∀ (F : Nat → Prop) (ρ : Nat → Option Nat) (w : World) (a : Act), RepTs w F ρ (info S) vs (o.op.operands.toList.map a.eval) →
    ∃ cargs : Array Value, (execOp a.eval o).run P w = .ok (.enter f cargs) w ∧ RepTs w F ρ (info S) as cargs.toList
/-- What an operation comes to: one value, one state. -/
def OpPt (P : Program) (vs : List PV) (S : Heap) (o : Oper) (p : PV) (S' : Heap) : Prop := SemV P vs S o (fun v s => v = p ∧ s = S')
theorem OpPt.to {P : Program} {vs : List PV} {S S' : Heap} {o : Oper} {p : PV} {K : PV → Heap → Prop} (h : OpPt P vs S o p S') (k : K p S') : SemV P vs S o K :=
  fun w0 F0 mods F ρ w a hs he => (h w0 F0 mods F ρ w a hs he).mono fun v s hv => by obtain ⟨rfl, rfl⟩ := hv; exact k

/-- Rows as data: reduction stops here. -/
inductive PubRows (rows : List (List PV)) (n : Nat) (k : List (List D) → Prop) : Prop
  | mk (ds : List (List D)) (hn : rows.length = n) (h : toRows rows = some ds) (hk : k ds)
/-- Rows as bytes: reduction stops here. -/
inductive BytesQ (rows : List (List D)) (k : List UInt8 → Prop) : Prop
  | mk (l : List UInt8) (h : rows = l.map fun b => [D.i .u8 b.toNat]) (hk : k l)

section
variable {P : Program} {w0 : World} {F0 mods F : Nat → Prop} {ρ : Nat → Option Nat} {S : Heap} {w : World}

theorem toRows_len {rows : List (List PV)} {ds : List (List D)} (h : toRows rows = some ds) : ds.length = rows.length := (toRows_spec h).2
theorem toDs_map : ∀ {ps : List PV} {ds : List D}, toDs ps = some ds → ps.length = ds.length
  | [], ds, h => by simp only [toDs, Option.some.injEq] at h; subst h; rfl
  | p :: r, ds, h => by
    simp only [toDs] at h
    split at h
    · rename_i d ds' e1 e2; cases h; simp [toDs_map e2]
    · cases h

/-- Rows of the call's own that nobody changes from now on. -/
theorem St.fix (h : St w0 F0 mods F ρ S w) {o : Nat} {rows : List (List PV)} {ds : List (List D)} (hx : S[o]? = some (.buf rows)) (hd : toRows rows = some ds) :
    ∃ F', St w0 F0 mods F' ρ (S.set o (.fro ds)) w ∧ Keeps w w F F' ρ ρ (info S) (info (S.set o (.fro ds))) := by
  have hl := (List.getElem?_eq_some_iff.1 hx).1
  obtain ⟨e1, e2⟩ := toRows_spec hd
  have hinf : info (S.set o (.fro ds)) = info S := by
    funext o'
    by_cases e : o' = o
    · subst e; rw [info_set hl, info_of hx]; simp [Ob.info, e2]
    · rw [info_set_ne e]
  have lv : ∀ o' c, Lives (S.set o (.fro ds)) ρ o' c → Lives S ρ o' c ∧ o' ≠ o := by
    rintro o' c ⟨h1, y, h2, h3⟩
    by_cases e : o' = o
    · subst e; rw [List.getElem?_set_self hl] at h2; cases h2; exact h3.elim
    · rw [List.getElem?_set_ne (Ne.symm e)] at h2
      exact ⟨⟨h1, y, h2, h3⟩, e⟩
  rw [hinf]
  have hobj := h.objs o _ hx
  rcases hobj with ⟨g1, rfl⟩ | ⟨b, arr, T, g1, g2, g3⟩
  · have hds : ds = [] := List.eq_nil_of_length_eq_zero (by simpa using e2)
    subst hds
    refine ⟨F, ⟨?_, fun o1 o2 c h1 h2 => h.inj o1 o2 c (lv _ _ h1).1 (lv _ _ h2).1, fun o1 c h1 => h.notF o1 c (lv _ _ h1).1, h.bound, fun o1 c h1 => h.mine o1 c (lv _ _ h1).1, h.grow, h.os, h.tape, h.output, h.keep, h.bsize, h.f0, h.fnew⟩, Keeps.refl ..⟩
    intro o' y hy
    rw [hinf]
    by_cases e : o' = o
    · subst e; rw [List.getElem?_set_self hl] at hy; cases hy; exact .inl ⟨g1, rfl⟩
    · rw [List.getElem?_set_ne (Ne.symm e)] at hy; exact h.objs o' y hy
  · have hk : Keeps w w F (Plus F b) ρ ρ (info S) (info S) :=
      ⟨fun _ _ => rfl, fun _ h => .inl h, fun _ => Nat.le_refl _, fun _ h => h, fun _ _ h => ⟨h, rfl⟩, fun _ m _ h => ⟨m, h, Nat.le_refl _, fun _ => rfl⟩⟩
    have hme : Lives S ρ o b := ⟨g1, _, hx, trivial⟩
    refine ⟨Plus F b, ⟨?_, fun o1 o2 c h1 h2 => h.inj o1 o2 c (lv _ _ h1).1 (lv _ _ h2).1, fun o1 c h1 hf => ?_, fun c hc => ?_, fun o1 c h1 => h.mine o1 c (lv _ _ h1).1, h.grow, h.os, h.tape, h.output, h.keep, h.bsize,
      fun c hc => .inl (h.f0 c hc), fun c hc => ?_⟩, hk⟩
    · intro o' y hy
      rw [hinf]
      by_cases e : o' = o
      · subst e; rw [List.getElem?_set_self hl] at hy; cases hy
        refine .inr ⟨b, arr, T, g1, g2, .inr rfl, fun j p hj => ?_⟩
        have hat := RepPre.toDs (F := F) (F' := Plus F b) (ρ := ρ) (C := info S) (fun x hx => .inl hx) (.inr rfl) 0 g2 (fun j p hj => by simpa using g3 j p hj) e1
        rw [← List.map_flatten, List.getElem?_map] at hj
        obtain ⟨d, hd', rfl⟩ := Option.map_eq_some_iff.1 hj
        obtain ⟨_, v, k1, k2, k3⟩ := hat.get hd'
        refine ⟨v, by have := k1; rw [cell_of g2] at this; simpa using this, k2, by simpa [RepPV] using k3⟩
      · rw [List.getElem?_set_ne (Ne.symm e)] at hy
        exact (h.objs o' y hy).keeps hk rfl fun _ _ _ => rfl
    · obtain ⟨h2, h3⟩ := lv _ _ h1
      rcases hf with hf | hf
      · exact h.notF o1 c h2 hf
      · subst hf; exact h3 (h.inj o1 o c h2 hme)
    · rcases hc with hc | hc
      · exact h.bound c hc
      · subst hc; exact h.lives_lt hme
    · rcases hc with hc | hc
      · exact h.fnew c hc
      · subst hc; exact .inr (h.mine o c hme)

/-- A slice of rows that nobody changes is data. -/
theorem fro_rep (h : St w0 F0 mods F ρ S w) {o sz n : Nat} {ds : List (List D)} (hx : S[o]? = some (.fro ds)) (hn : ds.length = n) {v : Value} (hv : RepPV w F ρ (info S) (.own o sz n) v) : RepD w F (.sl ds) v := by
  simp only [RepPV] at hv
  obtain ⟨hfr, a, cap, rfl, h2⟩ := hv
  have hi : info S o = .buf n := by rw [info_of hx, Ob.info, hn]
  simp only [RepD]
  rcases (h2 n hi).2 rfl with ⟨g1, rfl, rfl, rfl⟩ | ⟨b, g1, rfl, g3, g4, g5⟩
  · exact ⟨none, 0, 0, rfl, by omega, Nat.le_refl _, by unfold maxLen; omega, fun _ => rfl, fun ad had => by cases had⟩
  · refine ⟨_, n, cap, rfl, by omega, g3, g4, (fun e => by cases e), fun ad had => ?_⟩
    cases had
    exact ⟨fun _ => rfl, (h.fro hx g1).1⟩

/-- Rows of the call's own, as data from now on. -/
theorem freeze_own (h : St w0 F0 mods F ρ S w) {o sz n : Nat} {rows : List (List PV)} {ds : List (List D)} (hx : S[o]? = some (.buf rows)) (hn : rows.length = n) (hd : toRows rows = some ds) {v : Value} (hv : RepPV w F ρ (info S) (.own o sz n) v) :
    ∃ F', St w0 F0 mods F' ρ (S.set o (.fro ds)) w ∧ Keeps w w F F' ρ ρ (info S) (info (S.set o (.fro ds))) ∧ RepD w F' (.sl ds) v := by
  obtain ⟨F', h1, h2⟩ := h.fix hx hd
  have hl := (List.getElem?_eq_some_iff.1 hx).1
  exact ⟨F', h1, h2, fro_rep h1 (by simp [hl]) (by rw [toRows_len hd, hn]) (hv.keeps h2)⟩

theorem reps_one {C : Nat → OI} {p : PV} {l : List Value} (h : RepTs w F ρ C [p] l) : ∃ v, l = [v] ∧ RepPV w F ρ C p v := by
  simp only [RepTs] at h
  obtain ⟨v, us, rfl, h1, rfl⟩ := h
  exact ⟨v, rfl, h1⟩
theorem reps_two {C : Nat → OI} {p q : PV} {l : List Value} (h : RepTs w F ρ C [p, q] l) : ∃ v u, l = [v, u] ∧ RepPV w F ρ C p v ∧ RepPV w F ρ C q u := by
  simp only [RepTs] at h
  obtain ⟨v, us, rfl, h1, u, us', rfl, h2, rfl⟩ := h
  exact ⟨v, u, rfl, h1, h2⟩
theorem reps_three {C : Nat → OI} {p q r : PV} {l : List Value} (h : RepTs w F ρ C [p, q, r] l) : ∃ v u t, l = [v, u, t] ∧ RepPV w F ρ C p v ∧ RepPV w F ρ C q u ∧ RepPV w F ρ C r t := by
  simp only [RepTs] at h
  obtain ⟨v, us, rfl, h1, u, us', rfl, h2, t, us'', rfl, h3, rfl⟩ := h
  exact ⟨v, u, t, rfl, h1, h2, h3⟩

theorem plainA_under {t : TypeId} (h : plainA P t = true) : ∃ d, P.underlying t = some d ∧ ∀ ms, d ≠ .interface ms := by
  unfold plainA at h
  split at h
  · cases h
  · rename_i d hn hd
    exact ⟨d, hd, fun ms e => by subst e; exact hn _ rfl⟩
  · cases h

/-- Own rows into an interface: they are data from now on. -/
theorem pt_ifcOwn {t ty : TypeId} {x : Operand} {dst : Option Tmp} {pos : String} {after : Array Edge} {g : Option (Nat × Bool)} {o sz n : Nat} {rows : List (List PV)} {ds : List (List D)} (hp : plainA P t = true) (hx : S[o]? = some (.buf rows)) (hn : rows.length = n) (hd : toRows rows = some ds) :
    OpPt P [.own o sz n] S ⟨dst, .makeInterface t x, ty, pos, after, g⟩ (.d (.ifc t (.sl ds))) (S.set o (.fro ds)) := by
  intro w0 F0 mods F ρ w a hs he
  obtain ⟨v, e1, e2⟩ := reps_one he
  simp only [Op.operands, List.map_cons, List.map_nil, List.cons.injEq, and_true] at e1
  obtain ⟨F', h1, h2, h3⟩ := freeze_own hs hx hn hd e2
  obtain ⟨d, hu, hni⟩ := plainA_under hp
  refine ⟨_, .iface t v, w, _, _, F', ρ, ?_, .inl rfl, ⟨rfl, rfl⟩, ?_, h1, h2⟩
  · simp only [execOp, e1, Instr.makeInterface, Sem.run_bind, run_underlying hu, Result.andThen_ok]
    cases d <;> first | rfl | exact absurd rfl (hni _)
  · simp only [RepPV, RepD]; exact ⟨v, rfl, h3⟩

/-- Rows that nobody changes, into an interface. -/
theorem pt_ifcFro {t ty : TypeId} {x : Operand} {dst : Option Tmp} {pos : String} {after : Array Edge} {g : Option (Nat × Bool)} {o sz n : Nat} {ds : List (List D)} (hp : plainA P t = true) (hx : S[o]? = some (.fro ds)) (hn : ds.length = n) :
    OpPt P [.own o sz n] S ⟨dst, .makeInterface t x, ty, pos, after, g⟩ (.d (.ifc t (.sl ds))) S := by
  intro w0 F0 mods F ρ w a hs he
  obtain ⟨v, e1, e2⟩ := reps_one he
  simp only [Op.operands, List.map_cons, List.map_nil, List.cons.injEq, and_true] at e1
  have h3 := fro_rep hs hx hn e2
  obtain ⟨d, hu, hni⟩ := plainA_under hp
  refine .value hs (v := .iface t v) ?_ (by simp only [RepPV, RepD]; exact ⟨v, rfl, h3⟩) ⟨rfl, rfl⟩
  simp only [execOp, e1, Instr.makeInterface, Sem.run_bind, run_underlying hu, Result.andThen_ok]
  cases d <;> first | rfl | exact absurd rfl (hni _)
/-- An element of rows that nobody changes. -/
theorem pt_indexFro {t el ty : TypeId} {x y : Operand} {dst : Option Tmp} {pos : String} {after : Array Edge} {g : Option (Nat × Bool)} {o s n sz : Nat} {k : IntKind} {i : Int} {ds : List (List D)} (he0 : elO P t = some el) (hsz : szO P el = some sz)
    (hx : S[o]? = some (.fro ds)) (hn : ds.length = n) (ha : AllLen sz ds) (h0 : 0 ≤ i) (h1 : i < n) :
    OpPt P [.own o s n, .d (.i k i)] S ⟨dst, .indexAddr t x y, ty, pos, after, g⟩ (.dp (ds.getD i.toNat [])) S := by
  intro w0 F0 mods F ρ w a hs he
  obtain ⟨v, u, e1, e2, e3⟩ := reps_two he
  simp only [Op.operands, List.map_cons, List.map_nil, List.cons.injEq, and_true] at e1
  have h3 : RepPV w F ρ (info S) (.d (.sl ds)) v := by simp only [RepPV]; exact fro_rep hs hx hn e2
  have := ok_indexA (P := P) (K := fun v s => v = .dp (ds.getD i.toNat []) ∧ s = S) hs (t := t) h3 e3 ⟨el, sz, he0, hsz, ha, h0, by omega, rfl, rfl⟩
  simpa only [execOp, e1.1, e1.2] using this

/-- The lesser of two numbers; the greater. -/
theorem pt_min {ty : TypeId} {x y : Operand} {args : Array Operand} (ha : args.toList = [x, y]) {ts : Array TypeId} {dst : Option Tmp} {pos : String} {after : Array Edge} {g : Option (Nat × Bool)} {k k' : IntKind} {a b : Int} :
    OpPt P [.d (.i k a), .d (.i k' b)] S ⟨dst, .call ⟨.builtin .min, args, ts⟩, ty, pos, after, g⟩ (.d (.i k (if b < a then b else a))) S := by
  intro w0 F0 mods F ρ w ac hs he
  obtain ⟨v, u, e1, e2, e3⟩ := reps_two he
  obtain ⟨al⟩ := args
  simp only at ha
  subst ha
  simp only [Op.operands, Call.operands, Array.toList_append, List.nil_append, List.map_cons, List.map_nil, List.cons.injEq, and_true] at e1
  simp only [RepPV, RepD] at e2 e3
  subst e2 e3
  refine .value hs (v := .int k (if b < a then b else a)) ?_ (by simp [RepPV, RepD]) ⟨rfl, rfl⟩
  simp [execOp, resolve, invoke, builtin, Builtin.min_, Builtin.min2, e1]
theorem pt_max {ty : TypeId} {x y : Operand} {args : Array Operand} (ha : args.toList = [x, y]) {ts : Array TypeId} {dst : Option Tmp} {pos : String} {after : Array Edge} {g : Option (Nat × Bool)} {k k' : IntKind} {a b : Int} :
    OpPt P [.d (.i k a), .d (.i k' b)] S ⟨dst, .call ⟨.builtin .max, args, ts⟩, ty, pos, after, g⟩ (.d (.i k (if b > a then b else a))) S := by
  intro w0 F0 mods F ρ w ac hs he
  obtain ⟨v, u, e1, e2, e3⟩ := reps_two he
  obtain ⟨al⟩ := args
  simp only at ha
  subst ha
  simp only [Op.operands, Call.operands, Array.toList_append, List.nil_append, List.map_cons, List.map_nil, List.cons.injEq, and_true] at e1
  simp only [RepPV, RepD] at e2 e3
  subst e2 e3
  refine .value hs (v := .int k (if b > a then b else a)) ?_ (by simp [RepPV, RepD]) ⟨rfl, rfl⟩
  simp [execOp, resolve, invoke, builtin, Builtin.max_, Builtin.max2, e1]

def z0 (P : Program) (t : TypeId) : Option PV := ((P.info? t).bind (·.zero)).map cst

/-- A type assertion to a concrete type, with ok. -/
theorem pt_assert {xt at_ ty : TypeId} {x : Operand} {dst : Option Tmp} {pos : String} {after : Array Edge} {g : Option (Nat × Bool)} {t : TypeId} {d : D} {p : PV} (hp : plainA P at_ = true)
    (h : (t = at_ ∧ p = .tup [.d d, .d (.b true)]) ∨ (t ≠ at_ ∧ ∃ z, z0 P at_ = some z ∧ p = .tup [z, .d (.b false)])) :
    OpPt P [.d (.ifc t d)] S ⟨dst, .typeAssert x xt at_ true, ty, pos, after, g⟩ p S := by
  intro w0 F0 mods F ρ w a hs he
  obtain ⟨v, e1, e2⟩ := reps_one he
  simp only [Op.operands, List.map_cons, List.map_nil, List.cons.injEq, and_true] at e1
  simp only [RepPV, RepD] at e2
  obtain ⟨u, rfl, e2⟩ := e2
  obtain ⟨ds, hu, hni⟩ := plainA_under hp
  rcases h with ⟨rfl, rfl⟩ | ⟨hne, z, hz, rfl⟩
  · refine .value hs (v := .tuple #[u, .bool true]) ?_ (by simp only [RepPV, RepTs]; exact ⟨_, rfl, u, _, rfl, e2, _, _, rfl, by simp [RepD], rfl⟩) ⟨rfl, rfl⟩
    simp only [execOp, e1, Instr.typeAssert, Sem.run_bind, run_underlying hu, Result.andThen_ok]
    cases ds <;> first | (simp; done) | exact absurd rfl (hni _)
  · obtain ⟨zv, hzv, rfl⟩ := Option.map_eq_some_iff.1 hz
    obtain ⟨i, hi, hzi⟩ := Option.bind_eq_some_iff.1 hzv
    refine .value hs (v := .tuple #[zv, .bool false]) ?_ (by simp only [RepPV, RepTs]; exact ⟨_, rfl, zv, _, rfl, cst_rep zv, _, _, rfl, by simp [RepD], rfl⟩) ⟨rfl, rfl⟩
    simp only [execOp, e1, Instr.typeAssert, Sem.run_bind, run_underlying hu, Result.andThen_ok]
    cases ds <;> first | (simp [hne, zeroValue, typeInfo, hi, hzi]; done) | exact absurd rfl (hni _)
theorem pt_assertNil {xt at_ ty : TypeId} {x : Operand} {dst : Option Tmp} {pos : String} {after : Array Edge} {g : Option (Nat × Bool)} {z : PV} (hp : plainA P at_ = true) (hz : z0 P at_ = some z) :
    OpPt P [.d .nili] S ⟨dst, .typeAssert x xt at_ true, ty, pos, after, g⟩ (.tup [z, .d (.b false)]) S := by
  intro w0 F0 mods F ρ w a hs he
  obtain ⟨v, e1, e2⟩ := reps_one he
  simp only [Op.operands, List.map_cons, List.map_nil, List.cons.injEq, and_true] at e1
  simp only [RepPV, RepD] at e2
  subst e2
  obtain ⟨ds, hu, hni⟩ := plainA_under hp
  obtain ⟨zv, hzv, rfl⟩ := Option.map_eq_some_iff.1 hz
  obtain ⟨i, hi, hzi⟩ := Option.bind_eq_some_iff.1 hzv
  refine .value hs (v := .tuple #[zv, .bool false]) ?_ (by simp only [RepPV, RepTs]; exact ⟨_, rfl, zv, _, rfl, cst_rep zv, _, _, rfl, by simp [RepD], rfl⟩) ⟨rfl, rfl⟩
  simp only [execOp, e1, Instr.typeAssert, Sem.run_bind, run_underlying hu, Result.andThen_ok]
  cases ds <;> first | (simp [zeroValue, typeInfo, hi, hzi]; done) | exact absurd rfl (hni _)
end

/-- Arguments that are handed on as data: rows of the call's own are not changed any more. -/
inductive FrzL : Heap → List PV → List PV → Heap → Prop
  | nil {S : Heap} : FrzL S [] [] S
  | keep {S S' : Heap} {p : PV} {r r' : List PV} (t : FrzL S r r' S') : FrzL S (p :: r) (p :: r') S'
  | own {S S' : Heap} {o sz n : Nat} {rows : List (List PV)} {r r' : List PV} (ds : List (List D)) (hx : S[o]? = some (.buf rows)) (hn : rows.length = n) (hd : toRows rows = some ds) (t : FrzL (S.set o (.fro ds)) r r' S') : FrzL S (.own o sz n :: r) (.d (.sl ds) :: r') S'
  | fro {S S' : Heap} {o sz n : Nat} {ds : List (List D)} {r r' : List PV} (hx : S[o]? = some (.fro ds)) (hn : ds.length = n) (t : FrzL S r r' S') : FrzL S (.own o sz n :: r) (.d (.sl ds) :: r') S'
  | nils {S S' : Heap} {r r' : List PV} (t : FrzL S r r' S') : FrzL S (.nils :: r) (.d (.sl []) :: r') S'
  | agg {S S1 S' : Heap} {cs cs' r r' : List PV} (c : FrzL S cs cs' S1) (t : FrzL S1 r r' S') : FrzL S (.agg cs :: r) (.agg cs' :: r') S'

theorem FrzL.cells {S S' : Heap} {as bs : List PV} (h : FrzL S as bs S') : ∀ {w0 w : World} {F0 mods F : Nat → Prop} {ρ : Nat → Option Nat} {vs : List Value}, St w0 F0 mods F ρ S w → RepPVs w F ρ (info S) as vs →
    ∃ F', St w0 F0 mods F' ρ S' w ∧ Keeps w w F F' ρ ρ (info S) (info S') ∧ RepPVs w F' ρ (info S') bs vs := by
  induction h with
  | nil => intro w0 w F0 mods F ρ vs hs hr; exact ⟨F, hs, Keeps.refl .., hr⟩
  | keep t ih =>
    intro w0 w F0 mods F ρ vs hs hr
    simp only [RepPVs] at hr
    obtain ⟨v, us, rfl, h0, h1, h2⟩ := hr
    obtain ⟨F', g1, g2, g3⟩ := ih hs h2
    exact ⟨F', g1, g2, by simp only [RepPVs]; exact ⟨v, us, rfl, h0, h1.keeps g2, g3⟩⟩
  | own ds hx hn hd t ih =>
    intro w0 w F0 mods F ρ vs hs hr
    simp only [RepPVs] at hr
    obtain ⟨v, us, rfl, h0, h1, h2⟩ := hr
    obtain ⟨F1, k1, k2, k3⟩ := freeze_own hs hx hn hd h1
    obtain ⟨F', g1, g2, g3⟩ := ih k1 (RepPVs.keeps k2 _ _ h2)
    refine ⟨F', g1, k2.trans g2, ?_⟩
    simp only [RepPVs]
    refine ⟨v, us, rfl, h0, ?_, g3⟩
    simp only [RepPV]
    exact k3.mono g2.same g2.sub
  | fro hx hn t ih =>
    intro w0 w F0 mods F ρ vs hs hr
    simp only [RepPVs] at hr
    obtain ⟨v, us, rfl, h0, h1, h2⟩ := hr
    have k3 := fro_rep hs hx hn h1
    obtain ⟨F', g1, g2, g3⟩ := ih hs h2
    refine ⟨F', g1, g2, ?_⟩
    simp only [RepPVs]
    refine ⟨v, us, rfl, h0, ?_, g3⟩
    simp only [RepPV]
    exact k3.mono g2.same g2.sub
  | nils t ih =>
    intro w0 w F0 mods F ρ vs hs hr
    simp only [RepPVs] at hr
    obtain ⟨v, us, rfl, h0, h1, h2⟩ := hr
    obtain ⟨F', g1, g2, g3⟩ := ih hs h2
    exact ⟨F', g1, g2, by simp only [RepPVs]; exact ⟨v, us, rfl, h0, PVLe.nils.rep (h1.keeps g2), g3⟩⟩
  | agg c t ihc iht =>
    intro w0 w F0 mods F ρ vs hs hr
    simp only [RepPVs] at hr
    obtain ⟨v, us, rfl, h0, h1, h2⟩ := hr
    simp only [RepPV] at h1
    obtain ⟨arr, rfl, _⟩ := h1
    simp [Value.oneCell'] at h0
theorem FrzL.rep {S S' : Heap} {as bs : List PV} (h : FrzL S as bs S') : ∀ {w0 w : World} {F0 mods F : Nat → Prop} {ρ : Nat → Option Nat} {vs : List Value}, St w0 F0 mods F ρ S w → RepTs w F ρ (info S) as vs →
    ∃ F', St w0 F0 mods F' ρ S' w ∧ Keeps w w F F' ρ ρ (info S) (info S') ∧ RepTs w F' ρ (info S') bs vs := by
  induction h with
  | nil => intro w0 w F0 mods F ρ vs hs hr; exact ⟨F, hs, Keeps.refl .., hr⟩
  | keep t ih =>
    intro w0 w F0 mods F ρ vs hs hr
    simp only [RepTs] at hr
    obtain ⟨v, us, rfl, h1, h2⟩ := hr
    obtain ⟨F', g1, g2, g3⟩ := ih hs h2
    exact ⟨F', g1, g2, by simp only [RepTs]; exact ⟨v, us, rfl, h1.keeps g2, g3⟩⟩
  | own ds hx hn hd t ih =>
    intro w0 w F0 mods F ρ vs hs hr
    simp only [RepTs] at hr
    obtain ⟨v, us, rfl, h1, h2⟩ := hr
    obtain ⟨F1, k1, k2, k3⟩ := freeze_own hs hx hn hd h1
    obtain ⟨F', g1, g2, g3⟩ := ih k1 (RepTs.keeps k2 _ _ h2)
    refine ⟨F', g1, k2.trans g2, ?_⟩
    simp only [RepTs]
    refine ⟨v, us, rfl, ?_, g3⟩
    simp only [RepPV]
    exact k3.mono g2.same g2.sub
  | fro hx hn t ih =>
    intro w0 w F0 mods F ρ vs hs hr
    simp only [RepTs] at hr
    obtain ⟨v, us, rfl, h1, h2⟩ := hr
    have k3 := fro_rep hs hx hn h1
    obtain ⟨F', g1, g2, g3⟩ := ih hs h2
    refine ⟨F', g1, g2, ?_⟩
    simp only [RepTs]
    refine ⟨v, us, rfl, ?_, g3⟩
    simp only [RepPV]
    exact k3.mono g2.same g2.sub
  | nils t ih =>
    intro w0 w F0 mods F ρ vs hs hr
    simp only [RepTs] at hr
    obtain ⟨v, us, rfl, h1, h2⟩ := hr
    obtain ⟨F', g1, g2, g3⟩ := ih hs h2
    exact ⟨F', g1, g2, by simp only [RepTs]; exact ⟨v, us, rfl, PVLe.nils.rep (h1.keeps g2), g3⟩⟩
  | agg c t ihc iht =>
    intro w0 w F0 mods F ρ vs hs hr
    simp only [RepTs] at hr
    obtain ⟨v, us, rfl, h1, h2⟩ := hr
    simp only [RepPV] at h1
    obtain ⟨arr, rfl, h1⟩ := h1
    obtain ⟨F1, k1, k2, k3⟩ := FrzL.cells c hs h1
    obtain ⟨F', g1, g2, g3⟩ := iht k1 (RepTs.keeps k2 _ _ h2)
    refine ⟨F', g1, k2.trans g2, ?_⟩
    simp only [RepTs]
    refine ⟨_, us, rfl, ?_, g3⟩
    simp only [RepPV]
    exact ⟨arr, rfl, RepPVs.keeps g2 _ _ k3⟩

section
variable {P : Program} {w0 : World} {F0 mods F : Nat → Prop} {ρ : Nat → Option Nat} {S : Heap} {w : World}
theorem SemV.frz {vs vs' : List PV} {S' : Heap} {o : Oper} {K : PV → Heap → Prop} (fz : FrzL S vs vs' S') (h : SemV P vs' S' o K) : SemV P vs S o K := fun w0 F0 mods F ρ w a hs he => by
  obtain ⟨F', g1, g2, g3⟩ := fz.rep hs he
  obtain ⟨nx, v, w', pv, S1, F1, ρ1, h1, h2, h3, h4, h5, h6⟩ := h w0 F0 mods F' ρ w a g1 g3
  exact ⟨nx, v, w', pv, S1, F1, ρ1, h1, h2, h3, h4, h5, g2.trans h6⟩
theorem parts_zip {C : Nat → OI} {a : Act} : ∀ {parts : List (Nat × Operand)} {vs : List PV}, RepTs w F ρ C vs ((parts.map (·.2)).map a.eval) → Parts w F ρ C ((parts.map (·.1)).zip vs) (parts.map fun x => (x.1, a.eval x.2))
  | [], vs, h => by
    cases vs with
    | nil => exact .nil
    | cons p r => simp only [RepTs] at h; obtain ⟨_, _, e, _⟩ := h; simp at e
  | x :: l, vs, h => by
    cases vs with
    | nil => simp [RepTs] at h
    | cons p r =>
      simp only [RepTs, List.map_cons] at h
      obtain ⟨v, us, e, h1, h2⟩ := h
      cases e
      exact .cons h1 (parts_zip h2)
end
/-- A slice literal of these values: data in a new block. -/
def litW (P : Program) (vs : List PV) (S : Heap) (T : TypeId) (len : Nat) (parts : Array (Nat × Operand)) (K : PV → Heap → Prop) : Prop := match elO P T with
  | some el => match szO P el, zO P el with
    | some sz, some zs => match fillA (fun i => some (i * sz, sz)) (List.replicate len zs).flatten ((parts.toList.map (·.1)).zip vs) with
      | some cs => match toDs cs with
        | some ds => match Nat.beq zs.length sz && Nat.blt 0 sz && Nat.ble (len * sz) 16777216 && Nat.beq ds.length (len * sz) with
          | true => forceRR (chunks sz len ds) fun rows => K (.d (.sl rows)) S
          | false => False
        | none => False
      | none => False
    | _, _ => False
  | none => False
theorem litW_pt {P : Program} {vs : List PV} {S : Heap} {T : TypeId} {len : Nat} {parts : Array (Nat × Operand)} {K : PV → Heap → Prop} {o : Oper} (ho : o.op = .buildSlice T len parts) (h : litW P vs S T len parts K) : SemV P vs S o K := by
  unfold litW at h
  split at h
  · rename_i el he
    split at h
    · rename_i sz zs hs hz
      split at h
      · rename_i cs hf
        split at h
        · rename_i ds hd
          split at h
          case h_2 => exact h.elim
          rename_i hbb
          simp only [Bool.and_eq_true] at hbb
          have h1 := Nat.eq_of_beq_eq_true hbb.1.1.1
          have h2 : 0 < sz := by have := hbb.1.1.2; simpa [Nat.blt_eq] using this
          have h3 := Nat.le_of_ble_eq_true hbb.1.2
          have h4 := Nat.eq_of_beq_eq_true hbb.2
          have hk := (forceRR_iff _ (fun rows => K (.d (.sl rows)) S)).1 h
          intro w0 F0 mods F ρ w a hst hre
          simp only [ho, Op.operands] at hre
          have hp := parts_zip hre
          simp only [execOp, ho]
          generalize hq : Array.map _ parts = q
          exact ok_buildSlice hst he hs hz h1 h2 (parts := q) (by rw [← hq, Array.toList_map]; exact hp) hf h3 hd h4 hk
        · exact h.elim
      · exact h.elim
    · exact h.elim
  · exact h.elim

end Go.Aw
