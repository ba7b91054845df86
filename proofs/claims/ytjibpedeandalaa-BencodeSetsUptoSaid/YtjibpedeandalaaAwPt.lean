/- More operations, told of by the worlds: rows of the call's own become data, type assertions, bytes and strings. -/
import Derived.Test.YtjibpedeandalaaAwR
set_option linter.unusedVariables false
set_option linter.unusedSimpArgs false
namespace Go.Aw

/-- An operation at these operands, in each world that bears the state. -/
def SemV (P : Program) (vs : List PV) (S : Heap) (o : Oper) (K : PV → Heap → Prop) : Prop :=
  ∀ (w0 : World) (F0 mods F : Nat → Prop) (ρ : Nat → Option Nat) (w : World) (a : Act), St w0 F0 mods F ρ S w → RepTs w F ρ (info S) vs (o.op.operands.toList.map a.eval) →
    OpOk P (execOp a.eval o) w0 F0 mods F ρ S w K
/-- A call whose function shows in the worlds alone. -/
def SemVE (P : Program) (vs : List PV) (S : Heap) (o : Oper) (f : FuncId) (as : List PV) : Prop :=
  ∀ (F : Nat → Prop) (ρ : Nat → Option Nat) (w : World) (a : Act), RepTs w F ρ (info S) vs (o.op.operands.toList.map a.eval) →
    ∃ cargs : Array Value, (execOp a.eval o).run P w = .ok (.enter f cargs) w ∧ RepTs w F ρ (info S) as cargs.toList
/-- What an operation comes to: one value, one state. -/
def OpPt (P : Program) (vs : List PV) (S : Heap) (o : Oper) (p : PV) (S' : Heap) : Prop := SemV P vs S o (fun v s => v = p ∧ s = S')
theorem OpPt.to {P : Program} {vs : List PV} {S S' : Heap} {o : Oper} {p : PV} {K : PV → Heap → Prop} (h : OpPt P vs S o p S') (k : K p S') : SemV P vs S o K :=
  fun w0 F0 mods F ρ w a hs he => (h w0 F0 mods F ρ w a hs he).mono fun v s hv => by obtain ⟨rfl, rfl⟩ := hv; exact k

/-- Rows as data: reduction stops here. -/
inductive PubRows (rows : List (List PV)) (n : Nat) (k : List (List D) → Prop) : Prop
  | mk (ds : List (List D)) (hn : rows.length = n) (h : toRows rows = some ds) (hk : k ds)
/-- Rows as bytes: reduction stops here. -/
inductive BytesQ (rows : List (List D)) (k : List UInt8 → Prop) : Prop
  | mk (l : List UInt8) (h : rows = l.map fun b => [D.i .u8 b.toNat]) (hk : k l)

section
variable {P : Program} {w0 : World} {F0 mods F : Nat → Prop} {ρ : Nat → Option Nat} {S : Heap} {w : World}

theorem toRows_len {rows : List (List PV)} {ds : List (List D)} (h : toRows rows = some ds) : ds.length = rows.length := (toRows_spec h).2
theorem toDs_map : ∀ {ps : List PV} {ds : List D}, toDs ps = some ds → ps.length = ds.length
  | [], ds, h => by simp only [toDs, Option.some.injEq] at h; subst h; rfl
  | p :: r, ds, h => by
    simp only [toDs] at h
    split at h
    · rename_i d ds' e1 e2; cases h; simp [toDs_map e2]
    · cases h

/-- Rows of the call's own that nobody changes from now on. -/
theorem St.fix (h : St w0 F0 mods F ρ S w) {o : Nat} {rows : List (List PV)} {ds : List (List D)} (hx : S[o]? = some (.buf rows)) (hd : toRows rows = some ds) :
    ∃ F', St w0 F0 mods F' ρ (S.set o (.fro ds)) w ∧ Keeps w w F F' ρ ρ (info S) (info (S.set o (.fro ds))) := by
  have hl := (List.getElem?_eq_some_iff.1 hx).1
  obtain ⟨e1, e2⟩ := toRows_spec hd
  have hinf : info (S.set o (.fro ds)) = info S := by
    funext o'
    by_cases e : o' = o
    · subst e; rw [info_set hl, info_of hx]; simp [Ob.info, e2]
    · rw [info_set_ne e]
  have lv : ∀ o' c, Lives (S.set o (.fro ds)) ρ o' c → Lives S ρ o' c ∧ o' ≠ o := by
    rintro o' c ⟨h1, y, h2, h3⟩
    by_cases e : o' = o
    · subst e; rw [List.getElem?_set_self hl] at h2; cases h2; exact h3.elim
    · rw [List.getElem?_set_ne (Ne.symm e)] at h2
      exact ⟨⟨h1, y, h2, h3⟩, e⟩
  rw [hinf]
  have hobj := h.objs o _ hx
  rcases hobj with ⟨g1, rfl⟩ | ⟨b, arr, T, g1, g2, g3⟩
  · have hds : ds = [] := List.eq_nil_of_length_eq_zero (by simpa using e2)
    subst hds
    refine ⟨F, ⟨?_, fun o1 o2 c h1 h2 => h.inj o1 o2 c (lv _ _ h1).1 (lv _ _ h2).1, fun o1 c h1 => h.notF o1 c (lv _ _ h1).1, h.bound, fun o1 c h1 => h.mine o1 c (lv _ _ h1).1, h.grow, h.os, h.tape, h.output, h.keep, h.bsize, h.f0, h.fnew⟩, Keeps.refl ..⟩
    intro o' y hy
    rw [hinf]
    by_cases e : o' = o
    · subst e; rw [List.getElem?_set_self hl] at hy; cases hy; exact .inl ⟨g1, rfl⟩
    · rw [List.getElem?_set_ne (Ne.symm e)] at hy; exact h.objs o' y hy
  · have hk : Keeps w w F (Plus F b) ρ ρ (info S) (info S) :=
      ⟨fun _ _ => rfl, fun _ h => .inl h, fun _ => Nat.le_refl _, fun _ h => h, fun _ _ h => ⟨h, rfl⟩, fun _ m _ h => ⟨m, h, Nat.le_refl _, fun _ => rfl⟩⟩
    have hme : Lives S ρ o b := ⟨g1, _, hx, trivial⟩
    refine ⟨Plus F b, ⟨?_, fun o1 o2 c h1 h2 => h.inj o1 o2 c (lv _ _ h1).1 (lv _ _ h2).1, fun o1 c h1 hf => ?_, fun c hc => ?_, fun o1 c h1 => h.mine o1 c (lv _ _ h1).1, h.grow, h.os, h.tape, h.output, h.keep, h.bsize,
      fun c hc => .inl (h.f0 c hc), fun c hc => ?_⟩, hk⟩
    · intro o' y hy
      rw [hinf]
      by_cases e : o' = o
      · subst e; rw [List.getElem?_set_self hl] at hy; cases hy
        refine .inr ⟨b, arr, T, g1, g2, .inr rfl, fun j p hj => ?_⟩
        have hat := RepPre.toDs (F := F) (F' := Plus F b) (ρ := ρ) (C := info S) (fun x hx => .inl hx) (.inr rfl) 0 g2 (fun j p hj => by simpa using g3 j p hj) e1
        rw [← List.map_flatten, List.getElem?_map] at hj
        obtain ⟨d, hd', rfl⟩ := Option.map_eq_some_iff.1 hj
        obtain ⟨_, v, k1, k2, k3⟩ := hat.get hd'
        refine ⟨v, by have := k1; rw [cell_of g2] at this; simpa using this, k2, by simpa [RepPV] using k3⟩
      · rw [List.getElem?_set_ne (Ne.symm e)] at hy
        exact (h.objs o' y hy).keeps hk rfl fun _ _ _ => rfl
    · obtain ⟨h2, h3⟩ := lv _ _ h1
      rcases hf with hf | hf
      · exact h.notF o1 c h2 hf
      · subst hf; exact h3 (h.inj o1 o c h2 hme)
    · rcases hc with hc | hc
      · exact h.bound c hc
      · subst hc; obtain ⟨arr, T, ha⟩ := h.lives_lt hme; exact (Array.getElem?_eq_some_iff.1 ha).1
    · rcases hc with hc | hc
      · exact h.fnew c hc
      · subst hc; exact .inr (h.mine o c hme)

/-- A slice of rows that nobody changes is data. -/
theorem fro_rep (h : St w0 F0 mods F ρ S w) {o sz n : Nat} {ds : List (List D)} (hx : S[o]? = some (.fro ds)) (hn : ds.length = n) {v : Value} (hv : RepPV w F ρ (info S) (.own o sz n) v) : RepD w F (.sl ds) v := by
  simp only [RepPV] at hv
  obtain ⟨hfr, a, cap, rfl, h2⟩ := hv
  have hi : info S o = .buf n := by rw [info_of hx, Ob.info, hn]
  simp only [RepD]
  rcases (h2 n hi).2 rfl with ⟨g1, rfl, rfl, rfl⟩ | ⟨b, g1, rfl, g3, g4, g5⟩
  · exact ⟨none, 0, 0, rfl, by omega, Nat.le_refl _, by unfold maxLen; omega, fun _ => rfl, fun ad had => by cases had⟩
  · refine ⟨_, n, cap, rfl, by omega, g3, g4, (fun e => by cases e), fun ad had => ?_⟩
    cases had
    exact ⟨fun _ => rfl, (h.fro hx g1).1⟩

/-- Rows of the call's own, as data from now on. -/
theorem freeze_own (h : St w0 F0 mods F ρ S w) {o sz n : Nat} {rows : List (List PV)} {ds : List (List D)} (hx : S[o]? = some (.buf rows)) (hn : rows.length = n) (hd : toRows rows = some ds) {v : Value} (hv : RepPV w F ρ (info S) (.own o sz n) v) :
    ∃ F', St w0 F0 mods F' ρ (S.set o (.fro ds)) w ∧ Keeps w w F F' ρ ρ (info S) (info (S.set o (.fro ds))) ∧ RepD w F' (.sl ds) v := by
  obtain ⟨F', h1, h2⟩ := h.fix hx hd
  have hl := (List.getElem?_eq_some_iff.1 hx).1
  exact ⟨F', h1, h2, fro_rep h1 (by simp [hl]) (by rw [toRows_len hd, hn]) (hv.keeps h2)⟩

theorem reps_one {C : Nat → OI} {p : PV} {l : List Value} (h : RepTs w F ρ C [p] l) : ∃ v, l = [v] ∧ RepPV w F ρ C p v := by
  simp only [RepTs] at h
  obtain ⟨v, us, rfl, h1, rfl⟩ := h
  exact ⟨v, rfl, h1⟩
theorem reps_two {C : Nat → OI} {p q : PV} {l : List Value} (h : RepTs w F ρ C [p, q] l) : ∃ v u, l = [v, u] ∧ RepPV w F ρ C p v ∧ RepPV w F ρ C q u := by
  simp only [RepTs] at h
  obtain ⟨v, us, rfl, h1, u, us', rfl, h2, rfl⟩ := h
  exact ⟨v, u, rfl, h1, h2⟩
theorem reps_three {C : Nat → OI} {p q r : PV} {l : List Value} (h : RepTs w F ρ C [p, q, r] l) : ∃ v u t, l = [v, u, t] ∧ RepPV w F ρ C p v ∧ RepPV w F ρ C q u ∧ RepPV w F ρ C r t := by
  simp only [RepTs] at h
  obtain ⟨v, us, rfl, h1, u, us', rfl, h2, t, us'', rfl, h3, rfl⟩ := h
  exact ⟨v, u, t, rfl, h1, h2, h3⟩

theorem plainA_under {t : TypeId} (h : plainA P t = true) : ∃ d, P.underlying t = some d ∧ ∀ ms, d ≠ .interface ms := by
  unfold plainA at h
  split at h
  · cases h
  · rename_i d hn hd
    exact ⟨d, hd, fun ms e => by subst e; exact hn _ rfl⟩
  · cases h

/-- Own rows into an interface: they are data from now on. -/
theorem pt_ifcOwn {t ty : TypeId} {x : Operand} {dst : Option Tmp} {pos : String} {after : Array Edge} {g : Option (Nat × Bool)} {o sz n : Nat} {rows : List (List PV)} {ds : List (List D)} (hp : plainA P t = true) (hx : S[o]? = some (.buf rows)) (hn : rows.length = n) (hd : toRows rows = some ds) :
    OpPt P [.own o sz n] S ⟨dst, .makeInterface t x, ty, pos, after, g⟩ (.d (.ifc t (.sl ds))) (S.set o (.fro ds)) := by
  intro w0 F0 mods F ρ w a hs he
  obtain ⟨v, e1, e2⟩ := reps_one he
  simp only [Op.operands, List.map_cons, List.map_nil, List.cons.injEq, and_true] at e1
  obtain ⟨F', h1, h2, h3⟩ := freeze_own hs hx hn hd e2
  obtain ⟨d, hu, hni⟩ := plainA_under hp
  refine ⟨_, .iface t v, w, _, _, F', ρ, ?_, .inl rfl, ⟨rfl, rfl⟩, ?_, h1, h2⟩
  · simp only [execOp, e1, Instr.makeInterface, Sem.run_bind, run_underlying hu, Result.andThen_ok]
    cases d <;> first | rfl | exact absurd rfl (hni _)
  · simp only [RepPV, RepD]; exact ⟨v, rfl, h3⟩

/-- Rows that nobody changes, into an interface. -/
theorem pt_ifcFro {t ty : TypeId} {x : Operand} {dst : Option Tmp} {pos : String} {after : Array Edge} {g : Option (Nat × Bool)} {o sz n : Nat} {ds : List (List D)} (hp : plainA P t = true) (hx : S[o]? = some (.fro ds)) (hn : ds.length = n) :
    OpPt P [.own o sz n] S ⟨dst, .makeInterface t x, ty, pos, after, g⟩ (.d (.ifc t (.sl ds))) S := by
  intro w0 F0 mods F ρ w a hs he
  obtain ⟨v, e1, e2⟩ := reps_one he
  simp only [Op.operands, List.map_cons, List.map_nil, List.cons.injEq, and_true] at e1
  have h3 := fro_rep hs hx hn e2
  obtain ⟨d, hu, hni⟩ := plainA_under hp
  refine .value hs (v := .iface t v) ?_ (by simp only [RepPV, RepD]; exact ⟨v, rfl, h3⟩) ⟨rfl, rfl⟩
  simp only [execOp, e1, Instr.makeInterface, Sem.run_bind, run_underlying hu, Result.andThen_ok]
  cases d <;> first | rfl | exact absurd rfl (hni _)
/-- An element of rows that nobody changes. -/
theorem pt_indexFro {t el ty : TypeId} {x y : Operand} {dst : Option Tmp} {pos : String} {after : Array Edge} {g : Option (Nat × Bool)} {o s n sz : Nat} {k : IntKind} {i : Int} {ds : List (List D)} (he0 : elO P t = some el) (hsz : szO P el = some sz)
    (hx : S[o]? = some (.fro ds)) (hn : ds.length = n) (ha : AllLen sz ds) (h0 : 0 ≤ i) (h1 : i < n) :
    OpPt P [.own o s n, .d (.i k i)] S ⟨dst, .indexAddr t x y, ty, pos, after, g⟩ (.dp (ds.getD i.toNat [])) S := by
  intro w0 F0 mods F ρ w a hs he
  obtain ⟨v, u, e1, e2, e3⟩ := reps_two he
  simp only [Op.operands, List.map_cons, List.map_nil, List.cons.injEq, and_true] at e1
  have h3 : RepPV w F ρ (info S) (.d (.sl ds)) v := by simp only [RepPV]; exact fro_rep hs hx hn e2
  have := ok_indexA (P := P) (K := fun v s => v = .dp (ds.getD i.toNat []) ∧ s = S) hs (t := t) h3 e3 ⟨el, sz, he0, hsz, ha, h0, by omega, rfl, rfl⟩
  simpa only [execOp, e1.1, e1.2] using this

def z0 (P : Program) (t : TypeId) : Option PV := ((P.info? t).bind (·.zero)).map cst

/-- A type assertion to a concrete type, with ok. -/
theorem pt_assert {xt at_ ty : TypeId} {x : Operand} {dst : Option Tmp} {pos : String} {after : Array Edge} {g : Option (Nat × Bool)} {t : TypeId} {d : D} {p : PV} (hp : plainA P at_ = true)
    (h : (t = at_ ∧ p = .tup [.d d, .d (.b true)]) ∨ (t ≠ at_ ∧ ∃ z, z0 P at_ = some z ∧ p = .tup [z, .d (.b false)])) :
    OpPt P [.d (.ifc t d)] S ⟨dst, .typeAssert x xt at_ true, ty, pos, after, g⟩ p S := by
  intro w0 F0 mods F ρ w a hs he
  obtain ⟨v, e1, e2⟩ := reps_one he
  simp only [Op.operands, List.map_cons, List.map_nil, List.cons.injEq, and_true] at e1
  simp only [RepPV, RepD] at e2
  obtain ⟨u, rfl, e2⟩ := e2
  obtain ⟨ds, hu, hni⟩ := plainA_under hp
  rcases h with ⟨rfl, rfl⟩ | ⟨hne, z, hz, rfl⟩
  · refine .value hs (v := .tuple #[u, .bool true]) ?_ (by simp only [RepPV, RepTs]; exact ⟨_, rfl, u, _, rfl, e2, _, _, rfl, by simp [RepD], rfl⟩) ⟨rfl, rfl⟩
    simp only [execOp, e1, Instr.typeAssert, Sem.run_bind, run_underlying hu, Result.andThen_ok]
    cases ds <;> first | (simp; done) | exact absurd rfl (hni _)
  · obtain ⟨zv, hzv, rfl⟩ := Option.map_eq_some_iff.1 hz
    obtain ⟨i, hi, hzi⟩ := Option.bind_eq_some_iff.1 hzv
    refine .value hs (v := .tuple #[zv, .bool false]) ?_ (by simp only [RepPV, RepTs]; exact ⟨_, rfl, zv, _, rfl, cst_rep zv, _, _, rfl, by simp [RepD], rfl⟩) ⟨rfl, rfl⟩
    simp only [execOp, e1, Instr.typeAssert, Sem.run_bind, run_underlying hu, Result.andThen_ok]
    cases ds <;> first | (simp [hne, zeroValue, typeInfo, hi, hzi]; done) | exact absurd rfl (hni _)
theorem pt_assertNil {xt at_ ty : TypeId} {x : Operand} {dst : Option Tmp} {pos : String} {after : Array Edge} {g : Option (Nat × Bool)} {z : PV} (hp : plainA P at_ = true) (hz : z0 P at_ = some z) :
    OpPt P [.d .nili] S ⟨dst, .typeAssert x xt at_ true, ty, pos, after, g⟩ (.tup [z, .d (.b false)]) S := by
  intro w0 F0 mods F ρ w a hs he
  obtain ⟨v, e1, e2⟩ := reps_one he
  simp only [Op.operands, List.map_cons, List.map_nil, List.cons.injEq, and_true] at e1
  simp only [RepPV, RepD] at e2
  subst e2
  obtain ⟨ds, hu, hni⟩ := plainA_under hp
  obtain ⟨zv, hzv, rfl⟩ := Option.map_eq_some_iff.1 hz
  obtain ⟨i, hi, hzi⟩ := Option.bind_eq_some_iff.1 hzv
  refine .value hs (v := .tuple #[zv, .bool false]) ?_ (by simp only [RepPV, RepTs]; exact ⟨_, rfl, zv, _, rfl, cst_rep zv, _, _, rfl, by simp [RepD], rfl⟩) ⟨rfl, rfl⟩
  simp only [execOp, e1, Instr.typeAssert, Sem.run_bind, run_underlying hu, Result.andThen_ok]
  cases ds <;> first | (simp [zeroValue, typeInfo, hi, hzi]; done) | exact absurd rfl (hni _)
end

/-- Operations carried out beside those of opW; where they are none of these, Z. -/
def ptW (Z : Prop) (P : Program) (vs : List PV) (S : Heap) (o : Oper) (K : PV → Heap → Prop) : Prop := match o.op with
  | .typeAssert _ _ at_ true => match plainA P at_, z0 P at_ with
    | true, some z => match vs with
      | [.d (.ifc t d)] => match Nat.decEq t at_ with
        | isTrue _ => K (.tup [.d d, .d (.b true)]) S
        | isFalse _ => K (.tup [z, .d (.b false)]) S
      | [.d .nili] => K (.tup [z, .d (.b false)]) S
      | _ => Z
    | _, _ => Z
  | .indexAddr t _ _ => match elO P t with
    | some el => match szO P el with
      | some sz => match vs with
        | [.own o _ n, .d (.i _ i)] => match S[o]? with
          | some (.fro ds) => Cd (ds.length = n ∧ AllLen sz ds ∧ 0 ≤ i ∧ i < n) (K (.dp (ds.getD i.toNat [])) S)
          | _ => Z
        | _ => Z
      | none => Z
    | none => Z
  | _ => Z
/-- The same, of operations that change what objects there are. -/
def ptX (Z : Prop) (P : Program) (vs : List PV) (S : Heap) (o : Oper) (K : PV → Heap → Prop) : Prop := match o.op with
  | .makeInterface t _ => match plainA P t, vs with
    | true, [.own o _ n] => match S[o]? with
      | some (.buf rows) => PubRows rows n fun ds => forceH (S.set o (.fro ds)) fun S' => K (.d (.ifc t (.sl ds))) S'
      | some (.fro ds) => Cd (ds.length = n) (K (.d (.ifc t (.sl ds))) S)
      | _ => Z
    | _, _ => Z
  | _ => ptW Z P vs S o K

theorem ptW_pt {P : Program} {vs : List PV} {S : Heap} {o : Oper} {K : PV → Heap → Prop} (h : ptW False P vs S o K) : ∃ p, OpPt P vs S o p S ∧ (isRd o.op = false → ∀ S2, OpPt P vs S2 o p S2) ∧ K p S := by
  obtain ⟨dst, op, ty, pos, after, g⟩ := o
  unfold ptW at h
  split at h
  · rename_i hop
    simp only at hop
    subst hop
    split at h
    · rename_i z hp hz
      split at h
      · rename_i t d
        split at h
        · rename_i he _; exact ⟨_, pt_assert hp (.inl ⟨he, rfl⟩), fun _ S2 => pt_assert hp (.inl ⟨he, rfl⟩), h⟩
        · rename_i he _; exact ⟨_, pt_assert hp (.inr ⟨he, z, hz, rfl⟩), fun _ S2 => pt_assert hp (.inr ⟨he, z, hz, rfl⟩), h⟩
      · exact ⟨_, pt_assertNil hp hz, fun _ S2 => pt_assertNil hp hz, h⟩
      · exact h.elim
    · exact h.elim
  · rename_i hop
    simp only at hop
    subst hop
    split at h
    · rename_i el he
      split at h
      · rename_i sz hs
        split at h
        · split at h
          · rename_i ds hx
            obtain ⟨⟨h1, h2, h3, h4⟩, hk⟩ := h
            exact ⟨_, pt_indexFro he hs hx h1 h2 h3 h4, by simp [isRd], hk⟩
          · exact h.elim
        · exact h.elim
      · exact h.elim
    · exact h.elim
  · exact h.elim
theorem ptX_pt {P : Program} {vs : List PV} {S : Heap} {o : Oper} {K : PV → Heap → Prop} (h : ptX False P vs S o K) : SemV P vs S o K := by
  unfold ptX at h
  split at h
  · rename_i t x hop
    obtain ⟨dst, op, ty, pos, after, g⟩ := o
    simp only at hop
    subst hop
    split at h
    · rename_i oo sz n hp
      split at h
      · rename_i rows hx
        obtain ⟨ds, h1, h2, h3⟩ := h
        exact (pt_ifcOwn hp hx h1 h2).to ((forceH_iff _ _).1 h3)
      · rename_i ds hx
        obtain ⟨h1, h3⟩ := h
        exact (pt_ifcFro hp hx h1).to h3
      · exact h.elim
    · exact h.elim
  · obtain ⟨p, h1, _, h2⟩ := ptW_pt h; exact h1.to h2
theorem ptW_Z {Z : Prop} {P : Program} {vs : List PV} {S : Heap} {o : Oper} {K : PV → Heap → Prop} (h : ptW Z P vs S o K) : (∃ p, OpPt P vs S o p S ∧ (isRd o.op = false → ∀ S2, OpPt P vs S2 o p S2) ∧ K p S) ∨ Z := by
  by_cases hz : Z
  · exact .inr hz
  · have : Z = False := propext ⟨hz, False.elim⟩
    subst this
    exact .inl (ptW_pt h)
theorem ptX_Z {Z : Prop} {P : Program} {vs : List PV} {S : Heap} {o : Oper} {K : PV → Heap → Prop} (h : ptX Z P vs S o K) : SemV P vs S o K ∨ Z := by
  by_cases hz : Z
  · exact .inr hz
  · have : Z = False := propext ⟨hz, False.elim⟩
    subst this
    exact .inl (ptX_pt h)
end Go.Aw
