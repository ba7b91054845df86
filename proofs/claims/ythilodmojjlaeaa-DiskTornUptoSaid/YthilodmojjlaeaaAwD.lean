/- What an operation does to the state of an abstract walk; each is shown of the model's own operation. -/
import Derived.Test.YthilodmojjlaeaaAwC
set_option linter.unusedVariables false
set_option linter.unusedSimpArgs false
namespace Go.Aw

def cst : Value → PV
  | .bool b => .d (.b b)
  | .int k n => .d (.i k n)
  | .string s => .d (.s s)
  | .slice none 0 0 => .nils
  | .pointer none => .d .nilp
  | .nilIface => .d .nili
  | _ => .any

def ev (e : Env) : Operand → PV
  | .tmp t => look e t
  | .const v => cst v
  | _ => .any

/-- How many cells a type has; what its zero value's cells are; where its fields lie. -/
def szO (P : Program) (t : TypeId) : Option Nat := (P.info? t).map (·.size)
def byO (P : Program) (t : TypeId) : Option Nat := (P.info? t).map (·.bytes)
def zO (P : Program) (t : TypeId) : Option (List PV) := match (P.info? t).bind (·.zero) with
  | some z => if z.cells.toList.all oneCell then some (z.cells.toList.map cst) else none
  | none => none
def aggO (P : Program) (t : TypeId) : Option Bool := (P.underlying t).map fun | .struct _ | .array _ _ => true | _ => false
def flO (P : Program) (t : TypeId) (f : Nat) : Option (Nat × TypeId) := match P.underlying t with
  | some (.struct fs) => (fs[f]?).map fun x => (x.offset, x.type)
  | _ => none
def elO (P : Program) (t : TypeId) : Option TypeId := match P.underlying t with
  | some (.slice e) => some e
  | _ => none

def PV.cellsOf : PV → Option (List PV)
  | .agg cs => some cs
  | .wag pre _ run post => some (pre ++ (run.map .d ++ post))
  | .any => none
  | .tup _ => none
  | .d (.agg _) => none
  | p => some [p]

/-- Data, if it is some. -/
def PV.toD : PV → Option D
  | .d x => some x
  | .nils => some (.sl [])
  | _ => none

def toDs : List PV → Option (List D)
  | [] => some []
  | p :: r => match p.toD, toDs r with
    | some d, some ds => some (d :: ds)
    | _, _ => none

def PV.toDA : PV → Option D
  | .agg cs => (toDs cs).map .agg
  | p => p.toD

theorem PV.toD_rep {w : World} {F : Nat → Prop} {ρ : Nat → Option Nat} {C : Nat → OI} {p : PV} {d : D} {v : Value} (h : p.toD = some d) (hr : RepPV w F ρ C p v) : RepD w F d v := by
  cases p <;> simp [PV.toD] at h
  · subst h; simpa [RepPV] using hr
  · subst h
    simp only [RepPV] at hr
    subst hr
    simp only [RepD]
    exact ⟨none, 0, 0, rfl, rfl, Nat.le_refl _, by unfold maxLen; omega, fun _ => rfl, fun ad h => by cases h⟩

theorem toDs_rep {w : World} {F : Nat → Prop} {ρ : Nat → Option Nat} {C : Nat → OI} : ∀ {ps : List PV} {ds : List D} {vs : List Value}, toDs ps = some ds → RepPVs w F ρ C ps vs → RepL w F ds vs
  | [], ds, vs, h, hr => by
    simp only [toDs, Option.some.injEq] at h
    subst h
    simpa [RepPVs, RepL] using hr
  | p :: r, ds, vs, h, hr => by
    simp only [RepPVs] at hr
    obtain ⟨v, us, rfl, h2, h3, h4⟩ := hr
    simp only [toDs] at h
    split at h
    · rename_i d ds' e1 e2
      cases h
      simp only [RepL]
      exact ⟨v, us, rfl, h2, PV.toD_rep e1 h3, toDs_rep e2 h4⟩
    · cases h

theorem toDs_length : ∀ {ps : List PV} {ds : List D}, toDs ps = some ds → ds.length = ps.length
  | [], ds, h => by simp only [toDs, Option.some.injEq] at h; simp [← h]
  | p :: r, ds, h => by
    simp only [toDs] at h
    split at h
    · rename_i d ds' e1 e2
      cases h
      simp [toDs_length e2]
    · cases h

theorem PV.toDA_rep {w : World} {F : Nat → Prop} {ρ : Nat → Option Nat} {C : Nat → OI} {p : PV} {d : D} {v : Value} (h : p.toDA = some d) (hr : RepPV w F ρ C p v) : RepD w F d v := by
  unfold PV.toDA at h
  split at h
  · rename_i cs
    obtain ⟨ds, h1, rfl⟩ := Option.map_eq_some_iff.1 h
    simp only [RepPV] at hr
    obtain ⟨arr, rfl, h2⟩ := hr
    simp only [RepD]
    exact ⟨arr, rfl, toDs_rep h1 h2⟩
  · exact PV.toD_rep h hr

theorem RepD.oneCell_or {w : World} {F : Nat → Prop} {d : D} {v : Value} (h : RepD w F d v) : (∃ cs, d = .agg cs) ∨ oneCell v = true := by
  cases d <;> simp only [RepD] at h
  case agg cs => exact .inl ⟨cs, rfl⟩
  case sl rows => obtain ⟨a, l, c, rfl, _⟩ := h; exact .inr rfl
  case ifc t x => obtain ⟨u, rfl, _⟩ := h; exact .inr rfl
  all_goals (subst h; exact .inr rfl)

theorem PV.cellsOf_rep {w : World} {F : Nat → Prop} {ρ : Nat → Option Nat} {C : Nat → OI} {p : PV} {cs : List PV} {v : Value} (h : p.cellsOf = some cs) (hr : RepPV w F ρ C p v) :
    RepPVs w F ρ C cs v.cells.toList := by
  have one : ∀ (p : PV) (v : Value), oneCell v = true → RepPV w F ρ C p v → RepPVs w F ρ C [p] v.cells.toList := fun p v ho hr => by
    have hc : v.cells = #[v] := by cases v <;> first | rfl | (simp [Value.oneCell'] at ho)
    rw [hc]
    simp only [RepPVs]
    exact ⟨v, [], rfl, ho, hr, rfl⟩
  cases p <;> simp only [PV.cellsOf] at h
  case any => cases h
  case tup vs => cases h
  case agg cs' =>
    cases h
    simp only [RepPV] at hr
    obtain ⟨arr, rfl, h2⟩ := hr
    exact h2
  case d x =>
    have hx : ∀ cs, x ≠ .agg cs := by rintro cs rfl; simp at h
    have : cs = [.d x] := by cases x <;> simp_all
    subst this
    refine one _ _ ?_ hr
    simp only [RepPV] at hr
    exact hr.oneCell_or.resolve_left fun ⟨cs, e⟩ => hx cs e
  case nils => cases h; exact one _ _ (by simp only [RepPV] at hr; subst hr; rfl) hr
  case ptr o c => cases h; exact one _ _ (by simp only [RepPV] at hr; obtain ⟨_, b, rfl, _⟩ := hr; rfl) hr
  case dp o => cases h; exact one _ _ (by simp only [RepPV] at hr; obtain ⟨b, off, rfl, _⟩ := hr; rfl) hr
  case own o sz n => cases h; exact one _ _ (by simp only [RepPV] at hr; obtain ⟨_, b, off, rfl, _⟩ := hr; rfl) hr
  case eptr o n r sz c => cases h; exact one _ _ (by simp only [RepPV] at hr; obtain ⟨_, b, off, rfl, _⟩ := hr; rfl) hr
  case wag pre n run post =>
    cases h
    simp only [RepPV] at hr
    obtain ⟨_, arr, rfl, a, b, c, e, h1, h2, h3⟩ := hr
    show RepPVs w F ρ C _ arr.toList
    rw [e]
    exact h1.append (h2.pv.append h3)
  case asl o c lo len => cases h; exact one _ _ (by simp only [RepPV] at hr; obtain ⟨_, b, cap, rfl, _⟩ := hr; rfl) hr
  case rptr o c i => cases h; exact one _ _ (by simp only [RepPV] at hr; obtain ⟨_, b, rfl, _⟩ := hr; rfl) hr
  case sub o sz off n k => cases h; exact one _ _ (by simp only [RepPV] at hr; obtain ⟨_, a, cap, rfl, _⟩ := hr; rfl) hr
  case mp o => cases h; exact one _ _ (by simp only [RepPV] at hr; obtain ⟨_, b, rfl, _⟩ := hr; rfl) hr

theorem cst_rep {w : World} {F : Nat → Prop} {ρ : Nat → Option Nat} {C : Nat → OI} (v : Value) : RepPV w F ρ C (cst v) v := by
  unfold cst
  split <;> simp [RepPV, RepD]

theorem zO_rep {P : Program} {w : World} {F : Nat → Prop} {ρ : Nat → Option Nat} {C : Nat → OI} {t : TypeId} {cs : List PV} (h : zO P t = some cs) :
    ∃ i z, P.info? t = some i ∧ i.zero = some z ∧ RepPVs w F ρ C cs z.cells.toList := by
  unfold zO at h
  split at h
  · rename_i z hz
    obtain ⟨i, hi, hzi⟩ := Option.bind_eq_some_iff.1 hz
    split at h
    · rename_i ho
      cases h
      refine ⟨i, z, hi, hzi, RepPVs.mk (by simp) fun j d v hd hv => ?_⟩
      rw [List.getElem?_map, hv] at hd
      cases hd
      exact ⟨List.all_eq_true.1 ho v (List.mem_of_getElem? hv), cst_rep v⟩
    · cases h
  · cases h

/-- What comes of an operation: a value and a new state, of which K speaks. -/
def OpOk (P : Program) (s : Sem Next) (w0 : World) (F0 mods F : Nat → Prop) (ρ : Nat → Option Nat) (S : Heap) (w : World) (K : PV → Heap → Prop) : Prop :=
  ∃ nx v w' pv S' F' ρ', s.run P w = .ok nx w' ∧ (nx = .value v ∨ (nx = .skip ∧ v = undef)) ∧ K pv S' ∧ RepPV w' F' ρ' (info S') pv v ∧ St w0 F0 mods F' ρ' S' w' ∧ Keeps w w' F F' ρ ρ' (info S) (info S')

theorem Keeps.refl (w : World) (F : Nat → Prop) (ρ : Nat → Option Nat) (C : Nat → OI) : Keeps w w F F ρ ρ C C :=
  ⟨fun _ _ => rfl, fun _ h => h, fun _ => Nat.le_refl _, fun _ h => h, fun _ _ h => ⟨h, rfl⟩, fun _ m _ h => ⟨m, h, Nat.le_refl _, fun _ => rfl⟩⟩

section
variable {P : Program} {w0 : World} {F0 mods F : Nat → Prop} {ρ : Nat → Option Nat} {S : Heap} {w : World} {K : PV → Heap → Prop}

theorem OpOk.value {s : Sem Next} {v : Value} {pv : PV} (h : St w0 F0 mods F ρ S w) (hr : s.run P w = .ok (.value v) w) (hv : RepPV w F ρ (info S) pv v) (hK : K pv S) : OpOk P s w0 F0 mods F ρ S w K :=
  ⟨_, v, w, pv, S, F, ρ, hr, .inl rfl, hK, hv, h, Keeps.refl ..⟩

theorem keeps_heap {w w' : World} (hh : w'.heap = w.heap) (F : Nat → Prop) (ρ : Nat → Option Nat) (C : Nat → OI) : Keeps w w' F F ρ ρ C C :=
  ⟨fun b _ => by rw [hh], fun _ h => h, fun b => by unfold blockSize; rw [hh]; exact Nat.le_refl _, fun _ h => h, fun _ _ h => ⟨h, rfl⟩, fun _ m _ h => ⟨m, h, Nat.le_refl _, fun _ => rfl⟩⟩

/-- A world of the same heap. -/
theorem St.heap (h : St w0 F0 mods F ρ S w) {w' : World} (hh : w'.heap = w.heap) (ho : w'.os = w.os) (ht : w'.tape = w.tape) (hp : w'.output = w.output) : St w0 F0 mods F ρ S w' :=
  ⟨fun o x hx => (h.objs o x hx).keeps (keeps_heap hh ..) rfl fun b _ _ => by rw [hh], h.inj, h.notF, fun b hb => by rw [hh]; exact h.bound b hb, h.mine, by rw [hh]; exact h.grow,
    ho.trans h.os, ht.trans h.tape, hp.trans h.output, fun b hb hm => by rw [hh]; exact h.keep b hb hm, fun b => by have := h.bsize b; unfold blockSize at *; rw [hh]; exact this, h.f0, h.fnew⟩
theorem St.drew (h : St w0 F0 mods F ρ S w) : St w0 F0 mods F ρ S w.drew := h.heap rfl rfl rfl rfl
theorem push_eq (w : World) (arr : Array Value) (T : TypeId) : push w arr T = w.alloc (.cells arr T) := rfl

theorem rep_new {x : Ob} {cs : List PV} {arr : Array Value} {T : TypeId} (h : St w0 F0 mods F ρ S w) (hc : RepPVs w F ρ (info S) cs arr.toList) (hx : x.cells = cs) :
    RepPre (push w arr T) F (Rho ρ S.length (some w.heap.size)) (info (S ++ [x])) x.cells arr := by
  intro j p hj
  rw [hx] at hj
  obtain ⟨v, h1, h2, h3⟩ := hc.get hj
  exact ⟨v, by simpa using h1, h2, h3.keeps (h.keeps_push arr T x)⟩

theorem ptr_new {x : List PV} {arr : Array Value} {T : TypeId} (h : St w0 F0 mods F ρ S w) :
    RepPV (push w arr T) F (Rho ρ S.length (some w.heap.size)) (info (S ++ [.box x])) (.ptr S.length 0) (.pointer (some ⟨w.heap.size, 0, none⟩)) := by
  have hi : info (S ++ [.box x]) S.length = .box := by simp [info, Ob.info]
  simp only [RepPV]
  exact ⟨by rw [hi]; simp, w.heap.size, rfl, fun _ => by simp [Rho]⟩

/-- A new variable. -/
theorem ok_alloc (h : St w0 F0 mods F ρ S w) {T : TypeId} {cs : List PV} (hz : zO P T = some cs) (hK : K (.ptr S.length 0) (S ++ [.box cs])) :
    OpOk P (do pure (.value (← Instr.alloc T true (.tuple #[])))) w0 F0 mods F ρ S w K := by
  obtain ⟨i, z, hi, hzi, hr⟩ := zO_rep (w := w) (F := F) (ρ := ρ) (C := info S) hz
  refine ⟨_, .pointer (some ⟨w.heap.size, 0, none⟩), push w z.cells T, _, _, F, _, ?_, .inl rfl, hK, ptr_new h, h.push z.cells T (.box cs) (by simp) (fun _ _ _ _ e => by cases e) (rep_new h hr rfl), h.keeps_push ..⟩
  simp [Instr.alloc, zeroValue, typeInfo, hi, hzi, newVar, newRow]
  rfl

theorem ok_box (h : St w0 F0 mods F ρ S w) {T : TypeId} {p : PV} {v : Value} {cs : List PV} (hv : RepPV w F ρ (info S) p v) (hc : p.cellsOf = some cs) (hK : K (.ptr S.length 0) (S ++ [.box cs])) :
    OpOk P (do pure (.value (← Instr.box T v))) w0 F0 mods F ρ S w K := by
  have hr := PV.cellsOf_rep hc hv
  refine ⟨_, .pointer (some ⟨w.heap.size, 0, none⟩), push w v.cells T, _, _, F, _, ?_, .inl rfl, hK, ptr_new h, h.push v.cells T (.box cs) (by simp) (fun _ _ _ _ e => by cases e) (rep_new h hr rfl), h.keeps_push ..⟩
  simp [Instr.box, newVar, newRow]
  rfl

end
end Go.Aw
