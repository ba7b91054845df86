/- The abstract walk, part 1 of 3. -/
import Derived.Orders
import Derived.KernelRfl
import Derived.Laws.Cells
import Derived.Laws.IdiomCopy
import Derived.Laws.AppendOwn
import Derived.Below
import Derived.Laws.StructEq
/- The values of an abstract walk, and what it means that they stand in the world. -/
set_option linter.unusedVariables false
namespace Go.Aw

/-- Data that nobody changes any more. -/
inductive D where
  | b (x : Bool)
  | i (k : IntKind) (n : Int)
  | s (x : ByteArray)
  | sl (rows : List (List D))
  | nilp
  | nili
  | ifc (t : TypeId) (x : D)
  | agg (cs : List D)

/-- The cells of a value. -/
abbrev oneCell (v : Value) : Bool := v.oneCell'

mutual
def RepD (w : World) (F : Nat → Prop) : D → Value → Prop
  | .b x, v => v = .bool x
  | .i k n, v => v = .int k n
  | .s x, v => v = .string x
  | .sl rows, v => ∃ a len cap, v = .slice a len cap ∧ len = rows.length ∧ len ≤ cap ∧ cap ≤ maxLen ∧ (a = none → cap = 0) ∧
      ∀ ad, a = some ad → (rows ≠ [] → ad.spot = none) ∧ RepRows w F ad.block ad.off rows
  | .nilp, v => v = .pointer none
  | .nili, v => v = .nilIface
  | .ifc t x, v => ∃ u, v = .iface t u ∧ RepD w F x u
  | .agg cs, v => ∃ arr : Array Value, v = .agg arr ∧ RepL w F cs arr.toList
def RepL (w : World) (F : Nat → Prop) : List D → List Value → Prop
  | [], vs => vs = []
  | d :: r, vs => ∃ v us, vs = v :: us ∧ oneCell v = true ∧ RepD w F d v ∧ RepL w F r us
def RepAt (w : World) (F : Nat → Prop) (b : Nat) : Nat → List D → Prop
  | _, [] => True
  | off, d :: r => (F b ∧ ∃ v, w.cell? ⟨b, off, none⟩ = some v ∧ oneCell v = true ∧ RepD w F d v) ∧ RepAt w F b (off + 1) r
def RepRows (w : World) (F : Nat → Prop) (b : Nat) : Nat → List (List D) → Prop
  | _, [] => True
  | off, r :: rs => RepAt w F b off r ∧ RepRows w F b (off + r.length) rs
end

/-- The blocks of F are as they were. -/
def Same (F : Nat → Prop) (w w' : World) : Prop := ∀ b, F b → w'.heap[b]? = w.heap[b]?

theorem Same.cell {F : Nat → Prop} {w w' : World} (h : Same F w w') {b off : Nat} (hb : F b) : w'.cell? ⟨b, off, none⟩ = w.cell? ⟨b, off, none⟩ := by
  simp only [World.cell?, h b hb]

mutual
theorem RepD.mono {w w' : World} {F F' : Nat → Prop} (hs : Same F w w') (hf : ∀ b, F b → F' b) : ∀ (d : D) (v : Value), RepD w F d v → RepD w' F' d v
  | .b x, v, h => by simpa [RepD] using h
  | .i k n, v, h => by simpa [RepD] using h
  | .s x, v, h => by simpa [RepD] using h
  | .sl rows, v, h => by
    simp only [RepD] at h ⊢
    obtain ⟨a, len, cap, h1, h2, h3, h3', h4, h5⟩ := h
    exact ⟨a, len, cap, h1, h2, h3, h3', h4, fun ad had => ⟨(h5 ad had).1, RepRows.mono hs hf _ _ _ (h5 ad had).2⟩⟩
  | .nilp, v, h => by simpa [RepD] using h
  | .nili, v, h => by simpa [RepD] using h
  | .ifc t x, v, h => by
    simp only [RepD] at h ⊢
    obtain ⟨u, h1, h2⟩ := h
    exact ⟨u, h1, RepD.mono hs hf _ _ h2⟩
  | .agg cs, v, h => by
    simp only [RepD] at h ⊢
    obtain ⟨u, h1, h2⟩ := h
    exact ⟨u, h1, RepL.mono hs hf _ _ h2⟩
theorem RepL.mono {w w' : World} {F F' : Nat → Prop} (hs : Same F w w') (hf : ∀ b, F b → F' b) : ∀ (ds : List D) (vs : List Value), RepL w F ds vs → RepL w' F' ds vs
  | [], vs, h => by simpa [RepL] using h
  | d :: r, vs, h => by
    simp only [RepL] at h ⊢
    obtain ⟨v, us, h1, h2, h3, h4⟩ := h
    exact ⟨v, us, h1, h2, RepD.mono hs hf _ _ h3, RepL.mono hs hf _ _ h4⟩
theorem RepAt.mono {w w' : World} {F F' : Nat → Prop} (hs : Same F w w') (hf : ∀ b, F b → F' b) : ∀ (b off : Nat) (ds : List D), RepAt w F b off ds → RepAt w' F' b off ds
  | b, off, [], h => by simp [RepAt]
  | b, off, d :: r, h => by
    simp only [RepAt] at h ⊢
    obtain ⟨⟨hb, v, h1, h2, h3⟩, h4⟩ := h
    exact ⟨⟨hf b hb, v, by rw [hs.cell hb]; exact h1, h2, RepD.mono hs hf _ _ h3⟩, RepAt.mono hs hf _ _ _ h4⟩
theorem RepRows.mono {w w' : World} {F F' : Nat → Prop} (hs : Same F w w') (hf : ∀ b, F b → F' b) : ∀ (b off : Nat) (rs : List (List D)), RepRows w F b off rs → RepRows w' F' b off rs
  | b, off, [], h => by simp [RepRows]
  | b, off, r :: rs, h => by
    simp only [RepRows] at h ⊢
    exact ⟨RepAt.mono hs hf _ _ _ h.1, RepRows.mono hs hf _ _ _ h.2⟩
end

mutual
/-- What every value that is borne keeps to: no slice is longer than a Go int tells. -/
def sizedD : D → Prop
  | .sl rows => rows.length ≤ maxLen ∧ sizedR rows
  | .ifc _ x => sizedD x
  | .agg cs => sizedL cs
  | _ => True
def sizedL : List D → Prop
  | [] => True
  | d :: r => sizedD d ∧ sizedL r
def sizedR : List (List D) → Prop
  | [] => True
  | d :: r => sizedL d ∧ sizedR r
end

mutual
theorem RepD.sized {w : World} {F : Nat → Prop} : ∀ (d : D) (v : Value), RepD w F d v → sizedD d ∨ ∃ r, d = .sl r ∧ r.length ≤ maxLen ∧ ∃ b off, RepRows w F b off r
  | .b x, v, h => by simp [sizedD]
  | .i k n, v, h => by simp [sizedD]
  | .s x, v, h => by simp [sizedD]
  | .sl [], v, h => by simp [sizedD, sizedR, maxLen]
  | .sl (r :: rs), v, h => by
    simp only [RepD] at h
    obtain ⟨a, len, cap, h1, h2, h3, h3', h4, h5⟩ := h
    cases a with
    | none => have := h4 rfl; simp at h2; omega
    | some ad =>
      have := h5 ad rfl
      exact .inl (by simp only [sizedD]; exact ⟨by omega, RepRows.sized _ _ _ this.2⟩)
  | .nilp, v, h => by simp [sizedD]
  | .nili, v, h => by simp [sizedD]
  | .ifc t x, v, h => by
    simp only [RepD] at h
    obtain ⟨u, h1, h2⟩ := h
    simp only [sizedD]
    rcases RepD.sized _ _ h2 with h3 | ⟨r, rfl, h3, b, off, h4⟩
    · exact .inl h3
    · exact .inl (by simp only [sizedD]; exact ⟨h3, RepRows.sized _ _ _ h4⟩)
  | .agg cs, v, h => by
    simp only [RepD] at h
    obtain ⟨u, h1, h2⟩ := h
    exact .inl (by simp only [sizedD]; exact RepL.sized _ _ h2)
theorem RepL.sized {w : World} {F : Nat → Prop} : ∀ (ds : List D) (vs : List Value), RepL w F ds vs → sizedL ds
  | [], vs, h => by simp [sizedL]
  | d :: r, vs, h => by
    simp only [RepL] at h
    obtain ⟨v, us, h1, h2, h3, h4⟩ := h
    simp only [sizedL]
    refine ⟨?_, RepL.sized _ _ h4⟩
    rcases RepD.sized _ _ h3 with h3 | ⟨r, rfl, h3, b, off, h4⟩
    · exact h3
    · simp only [sizedD]; exact ⟨h3, RepRows.sized _ _ _ h4⟩
theorem RepAt.sized {w : World} {F : Nat → Prop} : ∀ (b off : Nat) (ds : List D), RepAt w F b off ds → sizedL ds
  | b, off, [], h => by simp [sizedL]
  | b, off, d :: r, h => by
    simp only [RepAt] at h
    obtain ⟨⟨hb, v, h1, h2, h3⟩, h4⟩ := h
    simp only [sizedL]
    refine ⟨?_, RepAt.sized _ _ _ h4⟩
    rcases RepD.sized _ _ h3 with h3 | ⟨r, rfl, h3, b, off, h4⟩
    · exact h3
    · simp only [sizedD]; exact ⟨h3, RepRows.sized _ _ _ h4⟩
theorem RepRows.sized {w : World} {F : Nat → Prop} : ∀ (b off : Nat) (rs : List (List D)), RepRows w F b off rs → sizedR rs
  | b, off, [], h => by simp [sizedR]
  | b, off, r :: rs, h => by
    simp only [RepRows] at h
    simp only [sizedR]
    exact ⟨RepAt.sized _ _ _ h.1, RepRows.sized _ _ _ h.2⟩
end

theorem RepD.sized' {w : World} {F : Nat → Prop} {d : D} {v : Value} (h : RepD w F d v) : sizedD d := by
  rcases h.sized with h3 | ⟨r, rfl, h3, b, off, h4⟩
  · exact h3
  · simp only [sizedD]; exact ⟨h3, RepRows.sized _ _ _ h4⟩

theorem RepAt.get {w : World} {F : Nat → Prop} {b : Nat} : ∀ {off : Nat} {ds : List D} {j : Nat} {d : D}, RepAt w F b off ds → ds[j]? = some d →
    F b ∧ ∃ v, w.cell? ⟨b, off + j, none⟩ = some v ∧ oneCell v = true ∧ RepD w F d v
  | off, [], j, d, h, hj => by simp at hj
  | off, x :: r, 0, d, h, hj => by
    simp only [RepAt] at h
    simp only [List.getElem?_cons_zero, Option.some.injEq] at hj
    subst hj
    simpa using h.1
  | off, x :: r, j + 1, d, h, hj => by
    simp only [RepAt] at h
    simp only [List.getElem?_cons_succ] at hj
    have := RepAt.get h.2 hj
    rwa [show off + 1 + j = off + (j + 1) by omega] at this

theorem RepAt.mk {w : World} {F : Nat → Prop} {b : Nat} : ∀ {off : Nat} {ds : List D},
    (∀ j d, ds[j]? = some d → F b ∧ ∃ v, w.cell? ⟨b, off + j, none⟩ = some v ∧ oneCell v = true ∧ RepD w F d v) → RepAt w F b off ds
  | off, [], h => by simp [RepAt]
  | off, x :: r, h => by
    simp only [RepAt]
    refine ⟨by simpa using h 0 x rfl, RepAt.mk fun j d hj => ?_⟩
    have := h (j + 1) d (by simpa using hj)
    rwa [show off + 1 + j = off + (j + 1) by omega]

theorem RepAt.drop {w : World} {F : Nat → Prop} {b off : Nat} {ds : List D} (h : RepAt w F b off ds) (n : Nat) : RepAt w F b (off + n) (ds.drop n) :=
  RepAt.mk fun j d hj => by
    rw [List.getElem?_drop] at hj
    have := RepAt.get h hj
    rwa [show off + (n + j) = off + n + j by omega] at this

theorem RepAt.append {w : World} {F : Nat → Prop} {b off : Nat} {xs ys : List D} (h : RepAt w F b off xs) (h' : RepAt w F b (off + xs.length) ys) : RepAt w F b off (xs ++ ys) :=
  RepAt.mk fun j d hj => by
    by_cases hl : j < xs.length
    · rw [List.getElem?_append_left hl] at hj
      exact RepAt.get h hj
    · rw [List.getElem?_append_right (by omega)] at hj
      have := RepAt.get h' hj
      rwa [show off + xs.length + (j - xs.length) = off + j by omega] at this

/-- All rows have that many cells. -/
def AllLen {α : Type} (sz : Nat) (rows : List (List α)) : Prop := ∀ r ∈ rows, r.length = sz

theorem RepRows.row {w : World} {F : Nat → Prop} {b sz : Nat} : ∀ {off : Nat} {rs : List (List D)} {j : Nat} {r : List D}, RepRows w F b off rs → AllLen sz rs → rs[j]? = some r →
    RepAt w F b (off + j * sz) r
  | off, [], j, r, h, _, hj => by simp at hj
  | off, x :: rs, 0, r, h, _, hj => by
    simp only [List.getElem?_cons_zero, Option.some.injEq] at hj
    subst hj
    simp only [RepRows] at h
    simpa using h.1
  | off, x :: rs, j + 1, r, h, ha, hj => by
    simp only [RepRows] at h
    simp only [List.getElem?_cons_succ] at hj
    have h1 : x.length = sz := ha x (by simp)
    have := RepRows.row (sz := sz) h.2 (fun y hy => ha y (by simp [hy])) hj
    rw [h1] at this
    rwa [show off + sz + j * sz = off + (j + 1) * sz by rw [Nat.add_mul]; omega] at this

theorem RepRows.mk {w : World} {F : Nat → Prop} {b sz : Nat} : ∀ {off : Nat} {rs : List (List D)}, AllLen sz rs → (∀ j r, rs[j]? = some r → RepAt w F b (off + j * sz) r) → RepRows w F b off rs
  | off, [], _, h => by simp [RepRows]
  | off, x :: rs, ha, h => by
    have h1 : x.length = sz := ha x (by simp)
    simp only [RepRows]
    refine ⟨by simpa using h 0 x rfl, RepRows.mk (fun y hy => ha y (by simp [hy])) fun j r hj => ?_⟩
    have := h (j + 1) r (by simpa using hj)
    rw [h1]
    rwa [show off + sz + j * sz = off + (j + 1) * sz by rw [Nat.add_mul]; omega]

theorem RepRows.flat {w : World} {F : Nat → Prop} {b : Nat} : ∀ {off : Nat} {rs : List (List D)}, RepRows w F b off rs → RepAt w F b off rs.flatten
  | off, [], h => by simp [RepAt]
  | off, x :: rs, h => by
    simp only [RepRows] at h
    rw [List.flatten_cons]
    exact RepAt.append h.1 (RepRows.flat h.2)

theorem RepRows.of_flat {w : World} {F : Nat → Prop} {b : Nat} : ∀ {off : Nat} {rs : List (List D)}, RepAt w F b off rs.flatten → RepRows w F b off rs
  | off, [], h => by simp [RepRows]
  | off, x :: rs, h => by
    rw [List.flatten_cons] at h
    simp only [RepRows]
    refine ⟨RepAt.mk fun j d hj => ?_, RepRows.of_flat (RepAt.mk fun j d hj => ?_)⟩
    · refine RepAt.get h ?_
      rw [List.getElem?_append_left (by
        rcases Nat.lt_or_ge j x.length with h' | h'
        · exact h'
        · simp [List.getElem?_eq_none h'] at hj)]
      exact hj
    · have := RepAt.get (j := x.length + j) (d := d) h (by rw [List.getElem?_append_right (by omega)]; simpa using hj)
      rwa [show off + (x.length + j) = off + x.length + j by omega] at this

theorem RepL.length {w : World} {F : Nat → Prop} : ∀ {ds : List D} {vs : List Value}, RepL w F ds vs → vs.length = ds.length
  | [], vs, h => by simp only [RepL] at h; simp [h]
  | d :: r, vs, h => by
    simp only [RepL] at h
    obtain ⟨v, us, rfl, _, _, h4⟩ := h
    simp [RepL.length h4]

theorem RepL.get {w : World} {F : Nat → Prop} : ∀ {ds : List D} {vs : List Value} {j : Nat} {d : D}, RepL w F ds vs → ds[j]? = some d → ∃ v, vs[j]? = some v ∧ oneCell v = true ∧ RepD w F d v
  | [], vs, j, d, h, hj => by simp at hj
  | x :: r, vs, 0, d, h, hj => by
    simp only [RepL] at h
    obtain ⟨v, us, rfl, h2, h3, _⟩ := h
    simp only [List.getElem?_cons_zero, Option.some.injEq] at hj
    subst hj
    exact ⟨v, rfl, h2, h3⟩
  | x :: r, vs, j + 1, d, h, hj => by
    simp only [RepL] at h
    obtain ⟨v, us, rfl, h2, h3, h4⟩ := h
    simpa using RepL.get h4 (by simpa using hj)

theorem RepL.mk {w : World} {F : Nat → Prop} : ∀ {ds : List D} {vs : List Value}, vs.length = ds.length → (∀ (j : Nat) (d : D) (v : Value), ds[j]? = some d → vs[j]? = some v → oneCell v = true ∧ RepD w F d v) → RepL w F ds vs
  | [], vs, hl, h => by simp only [RepL]; simpa using hl
  | x :: r, [], hl, h => by simp at hl
  | x :: r, v :: us, hl, h => by
    simp only [RepL]
    exact ⟨v, us, rfl, (h 0 x v rfl rfl).1, (h 0 x v rfl rfl).2, RepL.mk (by simpa using hl) fun (j : Nat) (d : D) (u : Value) hj hu => h (j + 1) d u (by simpa using hj) (by simpa using hu)⟩

end Go.Aw

/- The state of an abstract walk: slots, objects of the call's own, and what it means that a world bears them. -/
set_option linter.unusedVariables false
namespace Go.Aw

inductive PV where
  | any
  | d (x : D)
  | nils
  | ptr (o c : Nat)
  | dp (cells : List D)
  | own (o sz n : Nat)
  | eptr (o n r sz c : Nat)
  | agg (cs : List PV)
  | tup (vs : List PV)
  /-- A struct or an array: cells, a run of data, cells. -/
  | wag (pre : List PV) (n : Nat) (run : List D) (post : List PV)
  /-- A slice over an array: from the cell c + lo on. -/
  | asl (o c lo len : Nat)
  /-- A pointer into an array's run. -/
  | rptr (o c i : Nat)
  /-- A part of own rows: n of them from off on, while there are k. -/
  | sub (o sz off n k : Nat)
  | mp (o : Nat)

abbrev Env := List (Nat × PV)

def look : Env → Nat → PV
  | [], _ => .any
  | (s, v) :: r, t => if t = s then v else look r t

inductive Ob where
  | box (cs : List PV)
  | buf (rows : List (List PV))
  | gone
  /-- Rows that nobody changes any more. -/
  | fro (rows : List (List D))
  /-- Cells, a run of data, cells. -/
  | arr (pre : List PV) (n : Nat) (run : List D) (post : List PV)
  /-- A map: keys, birth stamps, values. -/
  | mapo (es : List (D × Nat × PV)) (clock : Nat)
  /-- An iterator over the map mo. -/
  | itr (mo : Nat) (since : Nat) (seen : List Nat) (last : Nat)

abbrev Heap := List Ob

def Ob.cells : Ob → List PV
  | .box cs => cs
  | .buf rows => rows.flatten
  | .gone => []
  | .fro rows => (rows.map (·.map PV.d)).flatten
  | .arr pre _ run post => pre ++ (run.map PV.d ++ post)
  | .mapo es _ => es.map fun e => e.2.2
  | .itr mo _ _ _ => [.mp mo]
/-- It may be written to. -/
def Ob.Mut : Ob → Prop
  | .gone => False
  | .fro _ => False
  | _ => True
/-- It lies in cells. -/
def Ob.Cel : Ob → Prop
  | .box _ => True
  | .buf _ => True
  | .arr _ _ _ _ => True
  | _ => False
theorem Ob.Cel.mut {x : Ob} (h : x.Cel) : x.Mut := by cases x <;> first | trivial | exact h.elim
@[simp] theorem mut_box (cs : List PV) : (Ob.box cs).Mut := trivial
@[simp] theorem mut_buf (rows : List (List PV)) : (Ob.buf rows).Mut := trivial
@[simp] theorem mut_arr (pre : List PV) (n : Nat) (run : List D) (post : List PV) : (Ob.arr pre n run post).Mut := trivial
@[simp] theorem mut_mapo (es : List (D × Nat × PV)) (n : Nat) : (Ob.mapo es n).Mut := trivial
@[simp] theorem mut_itr (mo a : Nat) (l : List Nat) (b : Nat) : (Ob.itr mo a l b).Mut := trivial
@[simp] theorem cel_box (cs : List PV) : (Ob.box cs).Cel := trivial
@[simp] theorem cel_buf (rows : List (List PV)) : (Ob.buf rows).Cel := trivial
@[simp] theorem cel_arr (pre : List PV) (n : Nat) (run : List D) (post : List PV) : (Ob.arr pre n run post).Cel := trivial

/-- What the values may know of an object. -/
inductive OI where
  | fresh
  | gone
  | box
  | buf (n : Nat)

def Ob.info : Ob → OI
  | .box _ => .box
  | .buf rows => .buf rows.length
  | .gone => .gone
  | .fro rows => .buf rows.length
  | .arr _ _ _ _ => .box
  | .mapo _ _ => .box
  | .itr _ _ _ _ => .box

def info (S : Heap) (o : Nat) : OI := match S[o]? with
  | some x => x.info
  | none => .fresh

def blockSize (w : World) (b : Nat) : Nat := match w.heap[b]? with | some (.cells c _ _) => c.size | _ => 0

mutual
def RepPV (w : World) (F : Nat → Prop) (ρ : Nat → Option Nat) (C : Nat → OI) : PV → Value → Prop
  | .any, _ => True
  | .d x, v => RepD w F x v
  | .nils, v => v = .slice none 0 0
  | .ptr o c, v => C o ≠ .fresh ∧ ∃ b, v = .pointer (some ⟨b, c, none⟩) ∧ (C o = .box → ρ o = some b)
  | .dp cells, v => ∃ b off, v = .pointer (some ⟨b, off, none⟩) ∧ RepAt w F b off cells
  | .own o sz n, v => C o ≠ .fresh ∧ ∃ a cap, v = .slice a n cap ∧ ∀ m, C o = .buf m → n ≤ m ∧ (n = m →
      (ρ o = none ∧ a = none ∧ n = 0 ∧ cap = 0) ∨ ∃ b, ρ o = some b ∧ a = some ⟨b, 0, none⟩ ∧ n ≤ cap ∧ cap ≤ maxLen ∧ cap * sz ≤ blockSize w b)
  | .eptr o n r sz c, v => C o ≠ .fresh ∧ ∃ b off, v = .pointer (some ⟨b, off, none⟩) ∧ ∀ m, C o = .buf m → n ≤ m ∧ (n = m → ρ o = some b ∧ off = r * sz + c)
  | .agg cs, v => ∃ arr : Array Value, v = .agg arr ∧ RepPVs w F ρ C cs arr.toList
  | .tup vs, v => ∃ arr : Array Value, v = .tuple arr ∧ RepTs w F ρ C vs arr.toList
  | .wag pre n run post, v => run.length = n ∧ ∃ arr : Array Value, v = .agg arr ∧ ∃ a b c, arr.toList = a ++ (b ++ c) ∧ RepPVs w F ρ C pre a ∧ RepL w F run b ∧ RepPVs w F ρ C post c
  | .asl o c lo len, v => C o ≠ .fresh ∧ ∃ b cap, v = .slice (some ⟨b, c + lo, none⟩) len cap ∧ len ≤ cap ∧ cap ≤ maxLen ∧ (C o = .box → ρ o = some b)
  | .rptr o c i, v => C o ≠ .fresh ∧ ∃ b, v = .pointer (some ⟨b, c + i, none⟩) ∧ (C o = .box → ρ o = some b)
  | .sub o sz off n k, v => C o ≠ .fresh ∧ ∃ a cap, v = .slice a n cap ∧ n ≤ cap ∧ cap ≤ maxLen ∧ ∀ m, C o = .buf m → k ≤ m ∧ (k = m → off + n ≤ k ∧ (n = 0 ∨ ∃ b, ρ o = some b ∧ a = some ⟨b, off * sz, none⟩))
  | .mp o, v => C o ≠ .fresh ∧ ∃ b, v = .map (some b) ∧ (C o = .box → ρ o = some b)
def RepPVs (w : World) (F : Nat → Prop) (ρ : Nat → Option Nat) (C : Nat → OI) : List PV → List Value → Prop
  | [], vs => vs = []
  | d :: r, vs => ∃ v us, vs = v :: us ∧ oneCell v = true ∧ RepPV w F ρ C d v ∧ RepPVs w F ρ C r us
def RepTs (w : World) (F : Nat → Prop) (ρ : Nat → Option Nat) (C : Nat → OI) : List PV → List Value → Prop
  | [], vs => vs = []
  | d :: r, vs => ∃ v us, vs = v :: us ∧ RepPV w F ρ C d v ∧ RepTs w F ρ C r us
end

mutual
def sizedP : PV → Prop
  | .d x => sizedD x
  | .dp cells => sizedL cells
  | .agg cs => sizedPs cs
  | .tup vs => sizedPs vs
  | .wag pre _ run post => sizedPs pre ∧ sizedL run ∧ sizedPs post
  | _ => True
def sizedPs : List PV → Prop
  | [] => True
  | p :: r => sizedP p ∧ sizedPs r
end

mutual
theorem RepPV.sized {w : World} {F : Nat → Prop} {ρ : Nat → Option Nat} {C : Nat → OI} : ∀ (p : PV) (v : Value), RepPV w F ρ C p v → sizedP p
  | .any, v, h => by simp [sizedP]
  | .d x, v, h => by simp only [RepPV] at h; simp only [sizedP]; exact h.sized'
  | .nils, v, h => by simp [sizedP]
  | .ptr o c, v, h => by simp [sizedP]
  | .dp cells, v, h => by
    simp only [RepPV] at h
    obtain ⟨b, off, h1, h2⟩ := h
    simp only [sizedP]
    exact RepAt.sized _ _ _ h2
  | .own o sz n, v, h => by simp [sizedP]
  | .eptr o n r sz c, v, h => by simp [sizedP]
  | .agg cs, v, h => by
    simp only [RepPV] at h
    obtain ⟨arr, h1, h2⟩ := h
    simp only [sizedP]
    exact RepPVs.sized _ _ h2
  | .tup cs, v, h => by
    simp only [RepPV] at h
    obtain ⟨arr, h1, h2⟩ := h
    simp only [sizedP]
    exact RepTs.sized _ _ h2
  | .wag pre n run post, v, h => by
    simp only [RepPV] at h
    obtain ⟨_, arr, _, a, b, c, _, h1, h2, h3⟩ := h
    simp only [sizedP]
    exact ⟨RepPVs.sized _ _ h1, RepL.sized _ _ h2, RepPVs.sized _ _ h3⟩
  | .asl o c lo len, v, h => by simp [sizedP]
  | .rptr o c i, v, h => by simp [sizedP]
  | .sub o sz off n k, v, h => by simp [sizedP]
  | .mp o, v, h => by simp [sizedP]
theorem RepPVs.sized {w : World} {F : Nat → Prop} {ρ : Nat → Option Nat} {C : Nat → OI} : ∀ (p : List PV) (v : List Value), RepPVs w F ρ C p v → sizedPs p
  | [], vs, h => by simp [sizedPs]
  | d :: r, vs, h => by
    simp only [RepPVs] at h
    obtain ⟨v, us, h1, h2, h3, h4⟩ := h
    simp only [sizedPs]
    exact ⟨RepPV.sized _ _ h3, RepPVs.sized _ _ h4⟩
theorem RepTs.sized {w : World} {F : Nat → Prop} {ρ : Nat → Option Nat} {C : Nat → OI} : ∀ (p : List PV) (v : List Value), RepTs w F ρ C p v → sizedPs p
  | [], vs, h => by simp [sizedPs]
  | d :: r, vs, h => by
    simp only [RepTs] at h
    obtain ⟨v, us, h1, h3, h4⟩ := h
    simp only [sizedPs]
    exact ⟨RepPV.sized _ _ h3, RepTs.sized _ _ h4⟩
end

/-- What a step may do to what stands for values: stable blocks stay, no block shrinks, boxes stay where they are, own rows too unless they have grown. -/
structure Keeps (w w' : World) (F F' : Nat → Prop) (ρ ρ' : Nat → Option Nat) (C C' : Nat → OI) : Prop where
  same : Same F w w'
  sub : ∀ b, F b → F' b
  size : ∀ b, blockSize w b ≤ blockSize w' b
  old : ∀ o, C o ≠ .fresh → C' o ≠ .fresh
  box : ∀ o, C o ≠ .fresh → C' o = .box → C o = .box ∧ ρ' o = ρ o
  buf : ∀ o m', C o ≠ .fresh → C' o = .buf m' → ∃ m, C o = .buf m ∧ m ≤ m' ∧ (m = m' → ρ' o = ρ o)

mutual
theorem RepPV.keeps {w w' : World} {F F' : Nat → Prop} {ρ ρ' : Nat → Option Nat} {C C' : Nat → OI} (k : Keeps w w' F F' ρ ρ' C C') : ∀ (p : PV) (v : Value), RepPV w F ρ C p v → RepPV w' F' ρ' C' p v
  | .any, v, h => by simp [RepPV]
  | .d x, v, h => by
    simp only [RepPV] at h ⊢
    exact h.mono k.same k.sub
  | .nils, v, h => by simpa [RepPV] using h
  | .ptr o c, v, h => by
    simp only [RepPV] at h ⊢
    obtain ⟨h0, b, h1, h2⟩ := h
    exact ⟨k.old o h0, b, h1, fun hc => (k.box o h0 hc).2.trans (h2 (k.box o h0 hc).1)⟩
  | .dp cells, v, h => by
    simp only [RepPV] at h ⊢
    obtain ⟨b, off, h1, h2⟩ := h
    exact ⟨b, off, h1, h2.mono k.same k.sub⟩
  | .own o sz n, v, h => by
    simp only [RepPV] at h ⊢
    obtain ⟨h0, a, cap, h1, h2⟩ := h
    refine ⟨k.old o h0, a, cap, h1, fun m' hm' => ?_⟩
    obtain ⟨m, hm, hle, heq⟩ := k.buf o m' h0 hm'
    refine ⟨by have := (h2 m hm).1; omega, fun e => ?_⟩
    have hmm : n = m := by have := (h2 m hm).1; omega
    have hr := heq (by omega)
    rcases (h2 m hm).2 hmm with ⟨e1, e2⟩ | ⟨b, e1, e2, e3, e4, e5⟩
    · exact .inl ⟨hr.trans e1, e2⟩
    · exact .inr ⟨b, hr.trans e1, e2, e3, e4, Nat.le_trans e5 (k.size b)⟩
  | .eptr o n r sz c, v, h => by
    simp only [RepPV] at h ⊢
    obtain ⟨h0, b, off, h1, h2⟩ := h
    refine ⟨k.old o h0, b, off, h1, fun m' hm' => ?_⟩
    obtain ⟨m, hm, hle, heq⟩ := k.buf o m' h0 hm'
    refine ⟨by have := (h2 m hm).1; omega, fun e => ?_⟩
    have hmm : n = m := by have := (h2 m hm).1; omega
    exact ⟨(heq (by omega)).trans ((h2 m hm).2 hmm).1, ((h2 m hm).2 hmm).2⟩
  | .agg cs, v, h => by
    simp only [RepPV] at h ⊢
    obtain ⟨u, h1, h2⟩ := h
    exact ⟨u, h1, RepPVs.keeps k _ _ h2⟩
  | .tup cs, v, h => by
    simp only [RepPV] at h ⊢
    obtain ⟨u, h1, h2⟩ := h
    exact ⟨u, h1, RepTs.keeps k _ _ h2⟩
  | .wag pre n run post, v, h => by
    simp only [RepPV] at h ⊢
    obtain ⟨h0, arr, h1, a, b, c, h2, h3, h4, h5⟩ := h
    exact ⟨h0, arr, h1, a, b, c, h2, RepPVs.keeps k _ _ h3, h4.mono k.same k.sub, RepPVs.keeps k _ _ h5⟩
  | .asl o c lo len, v, h => by
    simp only [RepPV] at h ⊢
    obtain ⟨h0, b, cap, h1, h2, h3, h4⟩ := h
    exact ⟨k.old o h0, b, cap, h1, h2, h3, fun hc => (k.box o h0 hc).2.trans (h4 (k.box o h0 hc).1)⟩
  | .rptr o c i, v, h => by
    simp only [RepPV] at h ⊢
    obtain ⟨h0, b, h1, h2⟩ := h
    exact ⟨k.old o h0, b, h1, fun hc => (k.box o h0 hc).2.trans (h2 (k.box o h0 hc).1)⟩
  | .sub o sz off n kk, v, h => by
    simp only [RepPV] at h ⊢
    obtain ⟨h0, a, cap, h1, h1', h1'', h2⟩ := h
    refine ⟨k.old o h0, a, cap, h1, h1', h1'', fun m' hm' => ?_⟩
    obtain ⟨m, hm, hle, heq⟩ := k.buf o m' h0 hm'
    refine ⟨by have := (h2 m hm).1; omega, fun e => ?_⟩
    have hmm : kk = m := by have := (h2 m hm).1; omega
    have hr := heq (by omega)
    obtain ⟨g1, g2⟩ := (h2 m hm).2 hmm
    refine ⟨g1, g2.imp_right fun ⟨b, e1, e2⟩ => ⟨b, hr.trans e1, e2⟩⟩
  | .mp o, v, h => by
    simp only [RepPV] at h ⊢
    obtain ⟨h0, b, h1, h2⟩ := h
    exact ⟨k.old o h0, b, h1, fun hc => (k.box o h0 hc).2.trans (h2 (k.box o h0 hc).1)⟩
theorem RepPVs.keeps {w w' : World} {F F' : Nat → Prop} {ρ ρ' : Nat → Option Nat} {C C' : Nat → OI} (k : Keeps w w' F F' ρ ρ' C C') : ∀ (p : List PV) (v : List Value), RepPVs w F ρ C p v → RepPVs w' F' ρ' C' p v
  | [], vs, h => by simpa [RepPVs] using h
  | d :: r, vs, h => by
    simp only [RepPVs] at h ⊢
    obtain ⟨v, us, h1, h2, h3, h4⟩ := h
    exact ⟨v, us, h1, h2, RepPV.keeps k _ _ h3, RepPVs.keeps k _ _ h4⟩
theorem RepTs.keeps {w w' : World} {F F' : Nat → Prop} {ρ ρ' : Nat → Option Nat} {C C' : Nat → OI} (k : Keeps w w' F F' ρ ρ' C C') : ∀ (p : List PV) (v : List Value), RepTs w F ρ C p v → RepTs w' F' ρ' C' p v
  | [], vs, h => by simpa [RepTs] using h
  | d :: r, vs, h => by
    simp only [RepTs] at h ⊢
    obtain ⟨v, us, h1, h3, h4⟩ := h
    exact ⟨v, us, h1, RepPV.keeps k _ _ h3, RepTs.keeps k _ _ h4⟩
end

theorem RepPVs.length {w : World} {F : Nat → Prop} {ρ : Nat → Option Nat} {C : Nat → OI} : ∀ {ds : List PV} {vs : List Value}, RepPVs w F ρ C ds vs → vs.length = ds.length
  | [], vs, h => by simp only [RepPVs] at h; simp [h]
  | d :: r, vs, h => by
    simp only [RepPVs] at h
    obtain ⟨v, us, rfl, _, _, h4⟩ := h
    simp [RepPVs.length h4]
theorem RepPVs.get {w : World} {F : Nat → Prop} {ρ : Nat → Option Nat} {C : Nat → OI} : ∀ {ds : List PV} {vs : List Value} {j : Nat} {d : PV}, RepPVs w F ρ C ds vs → ds[j]? = some d → ∃ v, vs[j]? = some v ∧ oneCell v = true ∧ RepPV w F ρ C d v
  | [], vs, j, d, h, hj => by simp at hj
  | x :: r, vs, 0, d, h, hj => by
    simp only [RepPVs] at h
    obtain ⟨v, us, rfl, h2, h3, _⟩ := h
    simp only [List.getElem?_cons_zero, Option.some.injEq] at hj
    subst hj
    exact ⟨v, rfl, h2, h3⟩
  | x :: r, vs, j + 1, d, h, hj => by
    simp only [RepPVs] at h
    obtain ⟨v, us, rfl, h2, h3, h4⟩ := h
    simpa using RepPVs.get h4 (by simpa using hj)
theorem RepPVs.mk {w : World} {F : Nat → Prop} {ρ : Nat → Option Nat} {C : Nat → OI} : ∀ {ds : List PV} {vs : List Value}, vs.length = ds.length → (∀ (j : Nat) (d : PV) (v : Value), ds[j]? = some d → vs[j]? = some v → oneCell v = true ∧ RepPV w F ρ C d v) → RepPVs w F ρ C ds vs
  | [], vs, hl, h => by simp only [RepPVs]; simpa using hl
  | x :: r, [], hl, h => by simp at hl
  | x :: r, v :: us, hl, h => by
    simp only [RepPVs]
    exact ⟨v, us, rfl, (h 0 x v rfl rfl).1, (h 0 x v rfl rfl).2, RepPVs.mk (by simpa using hl) fun (j : Nat) (d : PV) (u : Value) hj hu => h (j + 1) d u (by simpa using hj) (by simpa using hu)⟩
theorem RepTs.get {w : World} {F : Nat → Prop} {ρ : Nat → Option Nat} {C : Nat → OI} : ∀ {ds : List PV} {vs : List Value} {j : Nat} {d : PV}, RepTs w F ρ C ds vs → ds[j]? = some d → ∃ v, vs[j]? = some v ∧ RepPV w F ρ C d v
  | [], vs, j, d, h, hj => by simp at hj
  | x :: r, vs, 0, d, h, hj => by
    simp only [RepTs] at h
    obtain ⟨v, us, rfl, h3, _⟩ := h
    simp only [List.getElem?_cons_zero, Option.some.injEq] at hj
    subst hj
    exact ⟨v, rfl, h3⟩
  | x :: r, vs, j + 1, d, h, hj => by
    simp only [RepTs] at h
    obtain ⟨v, us, rfl, h3, h4⟩ := h
    simpa using RepTs.get h4 (by simpa using hj)

/-- The cells of an object lie at the head of an array. -/
def RepPre (w : World) (F : Nat → Prop) (ρ : Nat → Option Nat) (C : Nat → OI) (cs : List PV) (arr : Array Value) : Prop :=
  ∀ (j : Nat) (p : PV), cs[j]? = some p → ∃ v, arr[j]? = some v ∧ oneCell v = true ∧ RepPV w F ρ C p v

/-- The entries of a map. -/
def RepEs (w : World) (F : Nat → Prop) (ρ : Nat → Option Nat) (C : Nat → OI) : List (D × Nat × PV) → List MapEntry → Prop
  | [], es => es = []
  | (k, bn, p) :: r, es => ∃ e l, es = e :: l ∧ RepD w F k e.key ∧ e.born = bn ∧ RepPV w F ρ C p e.val ∧ RepEs w F ρ C r l
theorem RepEs.keeps {w w' : World} {F F' : Nat → Prop} {ρ ρ' : Nat → Option Nat} {C C' : Nat → OI} (k : Keeps w w' F F' ρ ρ' C C') : ∀ {es : List (D × Nat × PV)} {l : List MapEntry}, RepEs w F ρ C es l → RepEs w' F' ρ' C' es l
  | [], l, h => h
  | (kk, bn, p) :: r, l, h => by
    simp only [RepEs] at h ⊢
    obtain ⟨e, l, rfl, h1, h2, h3, h4⟩ := h
    exact ⟨e, l, rfl, h1.mono k.same k.sub, h2, h3.keeps k, h4.keeps k⟩

def RepOb (w : World) (F : Nat → Prop) (ρ : Nat → Option Nat) (C : Nat → OI) (o : Nat) (x : Ob) : Prop :=
  match x with
  | .gone => True
  | .box cs => ∃ b arr T, ρ o = some b ∧ w.heap[b]? = some (.cells arr T (0, 0)) ∧ RepPre w F ρ C cs arr
  | .buf rows => (ρ o = none ∧ rows = []) ∨ ∃ b arr T, ρ o = some b ∧ w.heap[b]? = some (.cells arr T (0, 0)) ∧ RepPre w F ρ C rows.flatten arr
  | .fro rows => (ρ o = none ∧ rows = []) ∨ ∃ b arr T, ρ o = some b ∧ w.heap[b]? = some (.cells arr T (0, 0)) ∧ F b ∧ RepPre w F ρ C (rows.map (·.map PV.d)).flatten arr
  | .arr pre n run post => run.length = n ∧ ∃ b arr T, ρ o = some b ∧ w.heap[b]? = some (.cells arr T (0, 0)) ∧ RepPre w F ρ C (pre ++ (run.map PV.d ++ post)) arr
  | .mapo es clock => ∃ b ents, ρ o = some b ∧ w.heap[b]? = some (.map ents clock) ∧ RepEs w F ρ C es ents.toList
  | .itr mo since seen last => ∃ b m, ρ o = some b ∧ w.heap[b]? = some (.mapIter m since seen.toArray last) ∧ RepPV w F ρ C (.mp mo) (.map m)

/-- An object that lives, and its block. -/
def Lives (S : Heap) (ρ : Nat → Option Nat) (o b : Nat) : Prop := ρ o = some b ∧ ∃ x, S[o]? = some x ∧ x.Mut

/-- The world bears the objects S; F: the stable blocks; since the world w0, at which F0 was stable, nothing but the blocks of 'mods' has turned. -/
structure St (w0 : World) (F0 mods : Nat → Prop) (F : Nat → Prop) (ρ : Nat → Option Nat) (S : Heap) (w : World) : Prop where
  objs : ∀ (o : Nat) (x : Ob), S[o]? = some x → RepOb w F ρ (info S) o x
  inj : ∀ o o' b, Lives S ρ o b → Lives S ρ o' b → o = o'
  notF : ∀ o b, Lives S ρ o b → ¬ F b
  bound : ∀ b, F b → b < w.heap.size
  mine : ∀ o b, Lives S ρ o b → mods b ∨ w0.heap.size ≤ b
  grow : w0.heap.size ≤ w.heap.size
  os : w.os = w0.os
  tape : w.tape = w0.tape
  output : w.output = w0.output
  keep : ∀ b, b < w0.heap.size → ¬ mods b → w.heap[b]? = w0.heap[b]?
  bsize : ∀ b, blockSize w0 b ≤ blockSize w b
  f0 : ∀ b, F0 b → F b
  fnew : ∀ b, F b → F0 b ∨ mods b ∨ w0.heap.size ≤ b

theorem St.lives_lt {w0 : World} {F0 mods F : Nat → Prop} {ρ : Nat → Option Nat} {S : Heap} {w : World} (h : St w0 F0 mods F ρ S w) {o b : Nat} (hl : Lives S ρ o b) : b < w.heap.size := by
  obtain ⟨hr, x, hx, hg⟩ := hl
  have := h.objs o x hx
  have lt : ∀ {b : Nat} {ob : Obj}, w.heap[b]? = some ob → b < w.heap.size := fun h => (Array.getElem?_eq_some_iff.1 h).1
  cases x with
  | gone => exact hg.elim
  | fro rows => exact hg.elim
  | box cs => obtain ⟨b', arr, T, h1, h2, _⟩ := this; rw [hr] at h1; cases h1; exact lt h2
  | buf rows =>
    rcases this with ⟨h1, _⟩ | ⟨b', arr, T, h1, h2, _⟩
    · rw [hr] at h1; cases h1
    · rw [hr] at h1; cases h1; exact lt h2
  | arr pre n run post => obtain ⟨_, b', arr, T, h1, h2, _⟩ := this; rw [hr] at h1; cases h1; exact lt h2
  | mapo es c => obtain ⟨b', ents, h1, h2, _⟩ := this; rw [hr] at h1; cases h1; exact lt h2
  | itr mo a l c => obtain ⟨b', m, h1, h2, _⟩ := this; rw [hr] at h1; cases h1; exact lt h2

theorem RepPre.keeps {w w' : World} {F F' : Nat → Prop} {ρ ρ' : Nat → Option Nat} {C C' : Nat → OI} (k : Keeps w w' F F' ρ ρ' C C') {cs : List PV} {arr : Array Value} (h : RepPre w F ρ C cs arr) : RepPre w' F' ρ' C' cs arr :=
  fun j p hj => let ⟨v, h1, h2, h3⟩ := h j p hj; ⟨v, h1, h2, h3.keeps k⟩

section
variable {w : World} {F : Nat → Prop} {ρ : Nat → Option Nat}
theorem RepL.pv {C : Nat → OI} : ∀ {ds : List D} {vs : List Value}, RepL w F ds vs → RepPVs w F ρ C (ds.map .d) vs
  | [], vs, h => by simpa [RepL, RepPVs] using h
  | d :: r, vs, h => by
    simp only [RepL] at h
    obtain ⟨v, us, rfl, h2, h3, h4⟩ := h
    simp only [List.map_cons, RepPVs]
    exact ⟨v, us, rfl, h2, by simpa [RepPV] using h3, RepL.pv h4⟩

theorem RepPVs.append {C : Nat → OI} : ∀ {ps qs : List PV} {vs us : List Value}, RepPVs w F ρ C ps vs → RepPVs w F ρ C qs us → RepPVs w F ρ C (ps ++ qs) (vs ++ us)
  | [], qs, vs, us, h, h' => by simp only [RepPVs] at h; subst h; simpa using h'
  | p :: ps, qs, vs, us, h, h' => by
    simp only [RepPVs] at h
    obtain ⟨v, r, rfl, h2, h3, h4⟩ := h
    simp only [List.cons_append, RepPVs]
    exact ⟨v, r ++ us, rfl, h2, h3, RepPVs.append h4 h'⟩

end
end Go.Aw

/- The steps of a state: a new object, new stable data, a store, an append, a freeze. -/
set_option linter.unusedVariables false
namespace Go.Aw

theorem RepOb.keeps {w w' : World} {F F' : Nat → Prop} {ρ ρ' : Nat → Option Nat} {C C' : Nat → OI} (k : Keeps w w' F F' ρ ρ' C C') {o : Nat} {x : Ob} (h : RepOb w F ρ C o x)
    (hr : ρ' o = ρ o) (hb : ∀ b, ρ o = some b → x.Mut → w'.heap[b]? = w.heap[b]?) : RepOb w' F' ρ' C' o x := by
  cases x with
  | gone => trivial
  | box cs =>
    obtain ⟨b, arr, T, h1, h2, h3⟩ := h
    exact ⟨b, arr, T, hr.trans h1, (hb b h1 (by simp)).trans h2, h3.keeps k⟩
  | buf rows =>
    rcases h with ⟨h1, h2⟩ | ⟨b, arr, T, h1, h2, h3⟩
    · exact .inl ⟨hr.trans h1, h2⟩
    · exact .inr ⟨b, arr, T, hr.trans h1, (hb b h1 (by simp)).trans h2, h3.keeps k⟩
  | fro rows =>
    rcases h with ⟨h1, h2⟩ | ⟨b, arr, T, h1, h2, hF, h3⟩
    · exact .inl ⟨hr.trans h1, h2⟩
    · exact .inr ⟨b, arr, T, hr.trans h1, (k.same b hF).trans h2, k.sub b hF, h3.keeps k⟩
  | arr pre n run post =>
    obtain ⟨h0, b, arr, T, h1, h2, h3⟩ := h
    exact ⟨h0, b, arr, T, hr.trans h1, (hb b h1 (by simp)).trans h2, h3.keeps k⟩
  | mapo es c =>
    obtain ⟨b, ents, h1, h2, h3⟩ := h
    exact ⟨b, ents, hr.trans h1, (hb b h1 (by simp)).trans h2, h3.keeps k⟩
  | itr mo a l c =>
    obtain ⟨b, m, h1, h2, h3⟩ := h
    exact ⟨b, m, hr.trans h1, (hb b h1 (by simp)).trans h2, RepPV.keeps k _ _ h3⟩

theorem info_append {S : Heap} {x : Ob} {o : Nat} (h : info S o ≠ .fresh) : info (S ++ [x]) o = info S o := by
  unfold info at *
  rcases Nat.lt_or_ge o S.length with hl | hl
  · rw [List.getElem?_append_left hl]
  · simp [List.getElem?_eq_none hl] at h

theorem info_lt {S : Heap} {o : Nat} (h : info S o ≠ .fresh) : o < S.length := by
  unfold info at h
  rcases Nat.lt_or_ge o S.length with hl | hl
  · exact hl
  · simp [List.getElem?_eq_none hl] at h

theorem info_set_ne {S : Heap} {x : Ob} {o o' : Nat} (h : o' ≠ o) : info (S.set o x) o' = info S o' := by
  unfold info
  rw [List.getElem?_set_ne (Ne.symm h)]

theorem info_set {S : Heap} {x : Ob} {o : Nat} (h : o < S.length) : info (S.set o x) o = x.info := by
  unfold info
  simp [h]

theorem info_of {S : Heap} {x : Ob} {o : Nat} (h : S[o]? = some x) : info S o = x.info := by simp [info, h]

theorem Ob.info_ne (x : Ob) : x.info ≠ .fresh := by cases x <;> simp [Ob.info]

theorem info_set_old {S : Heap} {x : Ob} {o o' : Nat} (h : info S o' ≠ .fresh) : info (S.set o x) o' ≠ .fresh := by
  have hl := info_lt h
  by_cases e : o' = o
  · subst e; rw [info_set hl]; exact x.info_ne
  · rw [info_set_ne e]; exact h

def Rho (ρ : Nat → Option Nat) (o : Nat) (b : Option Nat) : Nat → Option Nat := fun i => if i = o then b else ρ i

def push (w : World) (arr : Array Value) (T : TypeId) : World := { w with heap := w.heap.push (.cells arr T) }

theorem blockSize_push (w : World) (arr : Array Value) (T : TypeId) (b : Nat) : blockSize w b ≤ blockSize (push w arr T) b := by
  unfold blockSize push
  simp only [Array.getElem?_push]
  by_cases h : b = w.heap.size
  · subst h; simp
  · rw [if_neg h]; exact Nat.le_refl _

theorem same_push (w : World) (arr : Array Value) (T : TypeId) {b : Nat} (h : b < w.heap.size) : (push w arr T).heap[b]? = w.heap[b]? := by
  simp only [push, Array.getElem?_push]
  rw [if_neg (by omega)]

theorem get_push (w : World) (arr : Array Value) (T : TypeId) : (push w arr T).heap[w.heap.size]? = some (.cells arr T (0, 0)) := by
  simp only [push, Array.getElem?_push, if_pos]

section
variable {w0 : World} {F0 mods F : Nat → Prop} {ρ : Nat → Option Nat} {S : Heap} {w : World}

theorem St.keeps_push (h : St w0 F0 mods F ρ S w) (arr : Array Value) (T : TypeId) (x : Ob) :
    Keeps w (push w arr T) F F ρ (Rho ρ S.length (some w.heap.size)) (info S) (info (S ++ [x])) where
  same := fun b hb => same_push w arr T (h.bound b hb)
  sub := fun b hb => hb
  size := blockSize_push w arr T
  old := fun o ho => by rw [info_append ho]; exact ho
  box := fun o ho hx => by
    rw [info_append ho] at hx
    exact ⟨hx, by have := info_lt ho; simp [Rho]; omega⟩
  buf := fun o m ho hx => by
    rw [info_append ho] at hx
    exact ⟨m, hx, Nat.le_refl _, fun _ => by have := info_lt ho; simp [Rho]; omega⟩

/-- A new object in a new block. -/
theorem St.push (h : St w0 F0 mods F ρ S w) (arr : Array Value) (T : TypeId) (x : Ob) (hg : x.Cel)
    (hn : ∀ pre n run post, x = .arr pre n run post → run.length = n) (hx : RepPre (Aw.push w arr T) F (Rho ρ S.length (some w.heap.size)) (info (S ++ [x])) x.cells arr) :
    St w0 F0 mods F (Rho ρ S.length (some w.heap.size)) (S ++ [x]) (Aw.push w arr T) := by
  have hk := h.keeps_push arr T x
  have live : ∀ o b, Lives (S ++ [x]) (Rho ρ S.length (some w.heap.size)) o b → (o = S.length ∧ b = w.heap.size) ∨ (o < S.length ∧ Lives S ρ o b) := by
    rintro o b ⟨h1, y, h2, h3⟩
    by_cases e : o = S.length
    · left; subst e; simp [Rho] at h1; exact ⟨rfl, h1.symm⟩
    · right
      have hl : o < S.length := by
        rcases Nat.lt_or_ge o S.length with hl | hl
        · exact hl
        · rw [List.getElem?_append_right hl] at h2
          have : o - S.length ≠ 0 := by omega
          obtain ⟨k, hk⟩ : ∃ k, o - S.length = k + 1 := ⟨o - S.length - 1, by omega⟩
          rw [hk] at h2
          simp at h2
      rw [List.getElem?_append_left hl] at h2
      simp only [Rho, if_neg e] at h1
      exact ⟨hl, h1, y, h2, h3⟩
  have lt : ∀ o b, Lives S ρ o b → b < w.heap.size := fun o b hl => h.lives_lt hl
  refine ⟨?_, ?_, ?_, ?_, ?_, ?_, h.os, h.tape, h.output, ?_, ?_, h.f0, h.fnew⟩
  · intro o y hy
    by_cases e : o = S.length
    · subst e
      simp at hy
      subst hy
      cases x with
      | gone => trivial
      | fro rows => exact hg.elim
      | mapo es c => exact hg.elim
      | itr mo a l c => exact hg.elim
      | arr pre n run post => exact ⟨hn _ _ _ _ rfl, w.heap.size, arr, T, by simp [Rho], get_push w arr T, hx⟩
      | box cs => exact ⟨w.heap.size, arr, T, by simp [Rho], get_push w arr T, hx⟩
      | buf rows => exact .inr ⟨w.heap.size, arr, T, by simp [Rho], get_push w arr T, hx⟩
    · have hl : o < S.length := by
        have := (List.getElem?_eq_some_iff.1 hy).1
        simp at this; omega
      rw [List.getElem?_append_left hl] at hy
      refine (h.objs o y hy).keeps hk (by simp [Rho, e]) fun b hb hng => same_push w arr T (lt o b ⟨hb, y, hy, hng⟩)
  · intro o o' b h1 h2
    rcases live o b h1 with ⟨e1, e2⟩ | ⟨l1, l2⟩ <;> rcases live o' b h2 with ⟨e1', e2'⟩ | ⟨l1', l2'⟩
    · omega
    · have := lt o' b l2'; omega
    · have := lt o b l2; omega
    · exact h.inj o o' b l2 l2'
  · intro o b h1 hf
    rcases live o b h1 with ⟨e1, e2⟩ | ⟨l1, l2⟩
    · have := h.bound b hf; omega
    · exact h.notF o b l2 hf
  · intro b hb; have := h.bound b hb; simp [Aw.push]; omega
  · intro o b h1
    rcases live o b h1 with ⟨e1, e2⟩ | ⟨l1, l2⟩
    · right; have := h.grow; omega
    · exact h.mine o b l2
  · have := h.grow; simp [Aw.push]; omega
  · intro b hb hm
    rw [same_push w arr T (by have := h.grow; omega)]
    exact h.keep b hb hm
  · intro b; exact Nat.le_trans (h.bsize b) (blockSize_push w arr T b)

def Plus (F : Nat → Prop) (b : Nat) : Nat → Prop := fun i => F i ∨ i = b

theorem St.keeps_data (h : St w0 F0 mods F ρ S w) (arr : Array Value) (T : TypeId) :
    Keeps w (Aw.push w arr T) F (Plus F w.heap.size) ρ ρ (info S) (info S) where
  same := fun b hb => same_push w arr T (h.bound b hb)
  sub := fun b hb => .inl hb
  size := blockSize_push w arr T
  old := fun o ho => ho
  box := fun o ho hx => ⟨hx, rfl⟩
  buf := fun o m ho hx => ⟨m, hx, Nat.le_refl _, fun _ => rfl⟩

/-- New data in a new block, which nobody will change. -/
theorem St.data (h : St w0 F0 mods F ρ S w) (arr : Array Value) (T : TypeId) : St w0 F0 mods (Plus F w.heap.size) ρ S (Aw.push w arr T) := by
  have hk := h.keeps_data arr T
  have lt : ∀ o b, Lives S ρ o b → b < w.heap.size := fun o b hl => h.lives_lt hl
  refine ⟨?_, h.inj, ?_, ?_, h.mine, ?_, h.os, h.tape, h.output, ?_, ?_, fun b hb => .inl (h.f0 b hb), ?_⟩
  · intro o y hy
    exact (h.objs o y hy).keeps hk rfl fun b hb hng => same_push w arr T (lt o b ⟨hb, y, hy, hng⟩)
  · intro o b h1 hf
    rcases hf with hf | hf
    · exact h.notF o b h1 hf
    · have := lt o b h1; omega
  · intro b hb
    rcases hb with hb | hb
    · have := h.bound b hb; simp [Aw.push]; omega
    · simp [Aw.push]; omega
  · have := h.grow; simp [Aw.push]; omega
  · intro b hb hm
    rw [same_push w arr T (by have := h.grow; omega)]
    exact h.keep b hb hm
  · intro b; exact Nat.le_trans (h.bsize b) (blockSize_push w arr T b)
  · intro b hb
    rcases hb with hb | hb
    · exact h.fnew b hb
    · right; right; have := h.grow; omega

/-- The block b has the cells arr now. -/
def setBlock (w : World) (b : Nat) (arr : Array Value) (T : TypeId) : World := { w with heap := w.heap.setIfInBounds b (.cells arr T (0, 0)) }

theorem setBlock_ne (w : World) (b : Nat) (arr : Array Value) (T : TypeId) {c : Nat} (h : c ≠ b) : (setBlock w b arr T).heap[c]? = w.heap[c]? := by
  simp only [setBlock, Array.getElem?_setIfInBounds_ne (Ne.symm h)]
theorem setBlock_eq (w : World) (b : Nat) (arr : Array Value) (T : TypeId) (h : b < w.heap.size) : (setBlock w b arr T).heap[b]? = some (.cells arr T (0, 0)) := by
  simp [setBlock, h]
theorem setBlock_size (w : World) (b : Nat) (arr : Array Value) (T : TypeId) : (setBlock w b arr T).heap.size = w.heap.size := by simp [setBlock]

theorem St.keeps_set (h : St w0 F0 mods F ρ S w) {o b : Nat} {arr arr' : Array Value} {T : TypeId} {x y : Ob} (hx : S[o]? = some x) (hg : x.Mut) (hr : ρ o = some b)
    (hb : w.heap[b]? = some (.cells arr T (0, 0))) (hs : arr.size = arr'.size)
    (hi : (x.info = y.info) ∨ ∃ m m', x.info = .buf m ∧ y.info = .buf m' ∧ m ≤ m') :
    Keeps w (setBlock w b arr' T) F F ρ ρ (info S) (info (S.set o y)) where
  same := fun c hc => setBlock_ne w b arr' T (fun e => h.notF o b ⟨hr, x, hx, hg⟩ (e ▸ hc))
  sub := fun b hb => hb
  size := fun c => by
    by_cases e : c = b
    · subst e
      simp only [blockSize, setBlock_eq w c arr' T (Array.getElem?_eq_some_iff.1 hb).1, hb]
      omega
    · simp [blockSize, setBlock_ne w b arr' T e]
  old := fun o' ho => info_set_old ho
  box := fun o' ho hx' => by
    refine ⟨?_, rfl⟩
    by_cases e : o' = o
    · subst e
      rw [info_set (List.getElem?_eq_some_iff.1 hx).1] at hx'
      rw [info_of hx]
      rcases hi with hi | ⟨m, m', h1, h2, h3⟩
      · rw [hi]; exact hx'
      · rw [h2] at hx'; cases hx'
    · rwa [info_set_ne e] at hx'
  buf := fun o' m ho hx' => by
    by_cases e : o' = o
    · subst e
      rw [info_set (List.getElem?_eq_some_iff.1 hx).1] at hx'
      rw [info_of hx]
      rcases hi with hi | ⟨m1, m2, h1, h2, h3⟩
      · exact ⟨m, hi.trans hx', Nat.le_refl _, fun _ => rfl⟩
      · rw [h2] at hx'; cases hx'; exact ⟨m1, h1, h3, fun _ => rfl⟩
    · exact ⟨m, by rwa [info_set_ne e] at hx', Nat.le_refl _, fun _ => rfl⟩

theorem lives_set {S : Heap} {ρ : Nat → Option Nat} {o : Nat} {x y : Ob} (hx : S[o]? = some x) (hg : x.Mut) {o' b : Nat} (h : Lives (S.set o y) ρ o' b) : Lives S ρ o' b := by
  obtain ⟨h1, z, h2, h3⟩ := h
  by_cases e : o' = o
  · subst e; exact ⟨h1, x, hx, hg⟩
  · rw [List.getElem?_set_ne (Ne.symm e)] at h2
    exact ⟨h1, z, h2, h3⟩

/-- Cells of an object are written. -/
theorem St.set (h : St w0 F0 mods F ρ S w) {o b : Nat} {arr arr' : Array Value} {T : TypeId} {x y : Ob} (hx : S[o]? = some x) (hg : x.Mut) (hgy : y.Cel) (hn : ∀ pre n run post, y = .arr pre n run post → run.length = n) (hr : ρ o = some b)
    (hb : w.heap[b]? = some (.cells arr T (0, 0))) (hs : arr.size = arr'.size)
    (hi : (x.info = y.info) ∨ ∃ m m', x.info = .buf m ∧ y.info = .buf m' ∧ m ≤ m')
    (hy : RepPre (setBlock w b arr' T) F ρ (info (S.set o y)) y.cells arr') : St w0 F0 mods F ρ (S.set o y) (setBlock w b arr' T) := by
  have hk := h.keeps_set (arr' := arr') hx hg hr hb hs hi
  have hlt : b < w.heap.size := (Array.getElem?_eq_some_iff.1 hb).1
  have holt := (List.getElem?_eq_some_iff.1 hx).1
  refine ⟨?_, ?_, ?_, ?_, ?_, ?_, h.os, h.tape, h.output, ?_, ?_, h.f0, h.fnew⟩
  · intro o' z hz
    by_cases e : o' = o
    · subst e
      simp [holt] at hz
      subst hz
      cases y with
      | gone => trivial
      | fro rows => exact hgy.elim
      | mapo es c => exact hgy.elim
      | itr mo a l c => exact hgy.elim
      | arr pre n run post => exact ⟨hn _ _ _ _ rfl, b, arr', T, hr, setBlock_eq w b arr' T hlt, hy⟩
      | box cs => exact ⟨b, arr', T, hr, setBlock_eq w b arr' T hlt, hy⟩
      | buf rows => exact .inr ⟨b, arr', T, hr, setBlock_eq w b arr' T hlt, hy⟩
    · rw [List.getElem?_set_ne (Ne.symm e)] at hz
      refine (h.objs o' z hz).keeps hk rfl fun c hc hng => setBlock_ne w b arr' T fun e' => ?_
      subst e'
      exact e (h.inj o' o c ⟨hc, z, hz, hng⟩ ⟨hr, x, hx, hg⟩)
  · exact fun o1 o2 c h1 h2 => h.inj o1 o2 c (lives_set hx hg h1) (lives_set hx hg h2)
  · exact fun o1 c h1 => h.notF o1 c (lives_set hx hg h1)
  · exact fun c hc => by rw [setBlock_size]; exact h.bound c hc
  · exact fun o1 c h1 => h.mine o1 c (lives_set hx hg h1)
  · rw [setBlock_size]; exact h.grow
  · intro c hc hm
    rw [setBlock_ne w b arr' T]
    · exact h.keep c hc hm
    · intro e
      subst e
      rcases h.mine o c ⟨hr, x, hx, hg⟩ with h1 | h1
      · exact hm h1
      · omega
  · exact fun c => Nat.le_trans (h.bsize c) (hk.size c)

/-- An own row that has grown into a new block. -/
theorem St.keeps_grow (h : St w0 F0 mods F ρ S w) {o : Nat} {rows rows' : List (List PV)} (hx : S[o]? = some (.buf rows)) (hm : rows.length < rows'.length) (arr : Array Value) (T : TypeId) :
    Keeps w (Aw.push w arr T) F F ρ (Rho ρ o (some w.heap.size)) (info S) (info (S.set o (.buf rows'))) where
  same := fun b hb => same_push w arr T (h.bound b hb)
  sub := fun b hb => hb
  size := blockSize_push w arr T
  old := fun o' ho => info_set_old ho
  box := fun o' ho hx' => by
    by_cases e : o' = o
    · subst e
      rw [info_set (List.getElem?_eq_some_iff.1 hx).1] at hx'
      cases hx'
    · rw [info_set_ne e] at hx'
      exact ⟨hx', by simp [Rho, e]⟩
  buf := fun o' m ho hx' => by
    by_cases e : o' = o
    · subst e
      rw [info_set (List.getElem?_eq_some_iff.1 hx).1] at hx'
      cases hx'
      exact ⟨rows.length, info_of hx, by omega, fun e => by omega⟩
    · rw [info_set_ne e] at hx'
      exact ⟨m, hx', Nat.le_refl _, fun _ => by simp [Rho, e]⟩

theorem St.grown (h : St w0 F0 mods F ρ S w) {o : Nat} {rows rows' : List (List PV)} (hx : S[o]? = some (.buf rows)) (hm : rows.length < rows'.length) (arr : Array Value) (T : TypeId)
    (hy : RepPre (Aw.push w arr T) F (Rho ρ o (some w.heap.size)) (info (S.set o (.buf rows'))) rows'.flatten arr) :
    St w0 F0 mods F (Rho ρ o (some w.heap.size)) (S.set o (.buf rows')) (Aw.push w arr T) := by
  have hk := h.keeps_grow hx hm arr T
  have holt := (List.getElem?_eq_some_iff.1 hx).1
  have lt : ∀ o b, Lives S ρ o b → b < w.heap.size := fun o b hl => h.lives_lt hl
  have live : ∀ o1 b, Lives (S.set o (.buf rows')) (Rho ρ o (some w.heap.size)) o1 b → (o1 = o ∧ b = w.heap.size) ∨ (o1 ≠ o ∧ Lives S ρ o1 b) := by
    rintro o1 b ⟨h1, y, h2, h3⟩
    by_cases e : o1 = o
    · left; subst e; simp [Rho] at h1; exact ⟨rfl, h1.symm⟩
    · right
      rw [List.getElem?_set_ne (Ne.symm e)] at h2
      simp only [Rho, if_neg e] at h1
      exact ⟨e, h1, y, h2, h3⟩
  refine ⟨?_, ?_, ?_, ?_, ?_, ?_, h.os, h.tape, h.output, ?_, ?_, h.f0, h.fnew⟩
  · intro o1 y hy'
    by_cases e : o1 = o
    · subst e
      simp [holt] at hy'
      subst hy'
      exact .inr ⟨w.heap.size, arr, T, by simp [Rho], get_push w arr T, hy⟩
    · rw [List.getElem?_set_ne (Ne.symm e)] at hy'
      exact (h.objs o1 y hy').keeps hk (by simp [Rho, e]) fun b hb hng => same_push w arr T (lt o1 b ⟨hb, y, hy', hng⟩)
  · intro o1 o2 b h1 h2
    rcases live o1 b h1 with ⟨e1, e2⟩ | ⟨l1, l2⟩ <;> rcases live o2 b h2 with ⟨e1', e2'⟩ | ⟨l1', l2'⟩
    · omega
    · have := lt o2 b l2'; omega
    · have := lt o1 b l2; omega
    · exact h.inj o1 o2 b l2 l2'
  · intro o1 b h1 hf
    rcases live o1 b h1 with ⟨e1, e2⟩ | ⟨l1, l2⟩
    · have := h.bound b hf; omega
    · exact h.notF o1 b l2 hf
  · intro b hb; have := h.bound b hb; simp [Aw.push]; omega
  · intro o1 b h1
    rcases live o1 b h1 with ⟨e1, e2⟩ | ⟨l1, l2⟩
    · right; have := h.grow; omega
    · exact h.mine o1 b l2
  · have := h.grow; simp [Aw.push]; omega
  · intro b hb hm
    rw [same_push w arr T (by have := h.grow; omega)]
    exact h.keep b hb hm
  · intro b; exact Nat.le_trans (h.bsize b) (blockSize_push w arr T b)

end
end Go.Aw

/- What an operation does to the state of an abstract walk; each is shown of the model's own operation. -/
set_option linter.unusedVariables false
set_option linter.unusedSimpArgs false
namespace Go.Aw

def cst : Value → PV
  | .bool b => .d (.b b)
  | .int k n => .d (.i k n)
  | .string s => .d (.s s)
  | .slice none 0 0 => .nils
  | .pointer none => .d .nilp
  | .nilIface => .d .nili
  | _ => .any

def ev (e : Env) : Operand → PV
  | .tmp t => look e t
  | .const v => cst v
  | _ => .any

/-- How many cells a type has; what its zero value's cells are; where its fields lie. -/
def szO (P : Program) (t : TypeId) : Option Nat := (P.info? t).map (·.size)
def byO (P : Program) (t : TypeId) : Option Nat := (P.info? t).map (·.bytes)
def zO (P : Program) (t : TypeId) : Option (List PV) := match (P.info? t).bind (·.zero) with
  | some z => if z.cells.toList.all oneCell then some (z.cells.toList.map cst) else none
  | none => none
def aggO (P : Program) (t : TypeId) : Option Bool := (P.underlying t).map fun | .struct _ | .array _ _ => true | _ => false
def flO (P : Program) (t : TypeId) (f : Nat) : Option (Nat × TypeId) := match P.underlying t with
  | some (.struct fs) => (fs[f]?).map fun x => (x.offset, x.type)
  | _ => none
def elO (P : Program) (t : TypeId) : Option TypeId := match P.underlying t with
  | some (.slice e) => some e
  | _ => none

def PV.cellsOf : PV → Option (List PV)
  | .agg cs => some cs
  | .wag pre _ run post => some (pre ++ (run.map .d ++ post))
  | .any => none
  | .tup _ => none
  | .d (.agg _) => none
  | p => some [p]

/-- Data, if it is some. -/
def PV.toD : PV → Option D
  | .d x => some x
  | .nils => some (.sl [])
  | _ => none

def toDs : List PV → Option (List D)
  | [] => some []
  | p :: r => match p.toD, toDs r with
    | some d, some ds => some (d :: ds)
    | _, _ => none

def PV.toDA : PV → Option D
  | .agg cs => (toDs cs).map .agg
  | p => p.toD

theorem PV.toD_rep {w : World} {F : Nat → Prop} {ρ : Nat → Option Nat} {C : Nat → OI} {p : PV} {d : D} {v : Value} (h : p.toD = some d) (hr : RepPV w F ρ C p v) : RepD w F d v := by
  cases p <;> simp [PV.toD] at h
  · subst h; simpa [RepPV] using hr
  · subst h
    simp only [RepPV] at hr
    subst hr
    simp only [RepD]
    exact ⟨none, 0, 0, rfl, rfl, Nat.le_refl _, by unfold maxLen; omega, fun _ => rfl, fun ad h => by cases h⟩

theorem toDs_rep {w : World} {F : Nat → Prop} {ρ : Nat → Option Nat} {C : Nat → OI} : ∀ {ps : List PV} {ds : List D} {vs : List Value}, toDs ps = some ds → RepPVs w F ρ C ps vs → RepL w F ds vs
  | [], ds, vs, h, hr => by
    simp only [toDs, Option.some.injEq] at h
    subst h
    simpa [RepPVs, RepL] using hr
  | p :: r, ds, vs, h, hr => by
    simp only [RepPVs] at hr
    obtain ⟨v, us, rfl, h2, h3, h4⟩ := hr
    simp only [toDs] at h
    split at h
    · rename_i d ds' e1 e2
      cases h
      simp only [RepL]
      exact ⟨v, us, rfl, h2, PV.toD_rep e1 h3, toDs_rep e2 h4⟩
    · cases h

theorem toDs_length : ∀ {ps : List PV} {ds : List D}, toDs ps = some ds → ds.length = ps.length
  | [], ds, h => by simp only [toDs, Option.some.injEq] at h; simp [← h]
  | p :: r, ds, h => by
    simp only [toDs] at h
    split at h
    · rename_i d ds' e1 e2
      cases h
      simp [toDs_length e2]
    · cases h

theorem PV.toDA_rep {w : World} {F : Nat → Prop} {ρ : Nat → Option Nat} {C : Nat → OI} {p : PV} {d : D} {v : Value} (h : p.toDA = some d) (hr : RepPV w F ρ C p v) : RepD w F d v := by
  unfold PV.toDA at h
  split at h
  · rename_i cs
    obtain ⟨ds, h1, rfl⟩ := Option.map_eq_some_iff.1 h
    simp only [RepPV] at hr
    obtain ⟨arr, rfl, h2⟩ := hr
    simp only [RepD]
    exact ⟨arr, rfl, toDs_rep h1 h2⟩
  · exact PV.toD_rep h hr

theorem RepD.oneCell_or {w : World} {F : Nat → Prop} {d : D} {v : Value} (h : RepD w F d v) : (∃ cs, d = .agg cs) ∨ oneCell v = true := by
  cases d <;> simp only [RepD] at h
  case agg cs => exact .inl ⟨cs, rfl⟩
  case sl rows => obtain ⟨a, l, c, rfl, _⟩ := h; exact .inr rfl
  case ifc t x => obtain ⟨u, rfl, _⟩ := h; exact .inr rfl
  all_goals (subst h; exact .inr rfl)

theorem PV.cellsOf_rep {w : World} {F : Nat → Prop} {ρ : Nat → Option Nat} {C : Nat → OI} {p : PV} {cs : List PV} {v : Value} (h : p.cellsOf = some cs) (hr : RepPV w F ρ C p v) :
    RepPVs w F ρ C cs v.cells.toList := by
  have one : ∀ (p : PV) (v : Value), oneCell v = true → RepPV w F ρ C p v → RepPVs w F ρ C [p] v.cells.toList := fun p v ho hr => by
    have hc : v.cells = #[v] := by cases v <;> first | rfl | (simp [Value.oneCell'] at ho)
    rw [hc]
    simp only [RepPVs]
    exact ⟨v, [], rfl, ho, hr, rfl⟩
  cases p <;> simp only [PV.cellsOf] at h
  case any => cases h
  case tup vs => cases h
  case agg cs' =>
    cases h
    simp only [RepPV] at hr
    obtain ⟨arr, rfl, h2⟩ := hr
    exact h2
  case d x =>
    have hx : ∀ cs, x ≠ .agg cs := by rintro cs rfl; simp at h
    have : cs = [.d x] := by cases x <;> simp_all
    subst this
    refine one _ _ ?_ hr
    simp only [RepPV] at hr
    exact hr.oneCell_or.resolve_left fun ⟨cs, e⟩ => hx cs e
  case nils => cases h; exact one _ _ (by simp only [RepPV] at hr; subst hr; rfl) hr
  case ptr o c => cases h; exact one _ _ (by simp only [RepPV] at hr; obtain ⟨_, b, rfl, _⟩ := hr; rfl) hr
  case dp o => cases h; exact one _ _ (by simp only [RepPV] at hr; obtain ⟨b, off, rfl, _⟩ := hr; rfl) hr
  case own o sz n => cases h; exact one _ _ (by simp only [RepPV] at hr; obtain ⟨_, b, off, rfl, _⟩ := hr; rfl) hr
  case eptr o n r sz c => cases h; exact one _ _ (by simp only [RepPV] at hr; obtain ⟨_, b, off, rfl, _⟩ := hr; rfl) hr
  case wag pre n run post =>
    cases h
    simp only [RepPV] at hr
    obtain ⟨_, arr, rfl, a, b, c, e, h1, h2, h3⟩ := hr
    show RepPVs w F ρ C _ arr.toList
    rw [e]
    exact h1.append (h2.pv.append h3)
  case asl o c lo len => cases h; exact one _ _ (by simp only [RepPV] at hr; obtain ⟨_, b, cap, rfl, _⟩ := hr; rfl) hr
  case rptr o c i => cases h; exact one _ _ (by simp only [RepPV] at hr; obtain ⟨_, b, rfl, _⟩ := hr; rfl) hr
  case sub o sz off n k => cases h; exact one _ _ (by simp only [RepPV] at hr; obtain ⟨_, a, cap, rfl, _⟩ := hr; rfl) hr
  case mp o => cases h; exact one _ _ (by simp only [RepPV] at hr; obtain ⟨_, b, rfl, _⟩ := hr; rfl) hr

theorem cst_rep {w : World} {F : Nat → Prop} {ρ : Nat → Option Nat} {C : Nat → OI} (v : Value) : RepPV w F ρ C (cst v) v := by
  unfold cst
  split <;> simp [RepPV, RepD]

theorem zO_rep {P : Program} {w : World} {F : Nat → Prop} {ρ : Nat → Option Nat} {C : Nat → OI} {t : TypeId} {cs : List PV} (h : zO P t = some cs) :
    ∃ i z, P.info? t = some i ∧ i.zero = some z ∧ RepPVs w F ρ C cs z.cells.toList := by
  unfold zO at h
  split at h
  · rename_i z hz
    obtain ⟨i, hi, hzi⟩ := Option.bind_eq_some_iff.1 hz
    split at h
    · rename_i ho
      cases h
      refine ⟨i, z, hi, hzi, RepPVs.mk (by simp) fun j d v hd hv => ?_⟩
      rw [List.getElem?_map, hv] at hd
      cases hd
      exact ⟨List.all_eq_true.1 ho v (List.mem_of_getElem? hv), cst_rep v⟩
    · cases h
  · cases h

/-- What comes of an operation: a value and a new state, of which K speaks. -/
def OpOk (P : Program) (s : Sem Next) (w0 : World) (F0 mods F : Nat → Prop) (ρ : Nat → Option Nat) (S : Heap) (w : World) (K : PV → Heap → Prop) : Prop :=
  ∃ nx v w' pv S' F' ρ', s.run P w = .ok nx w' ∧ (nx = .value v ∨ (nx = .skip ∧ v = undef)) ∧ K pv S' ∧ RepPV w' F' ρ' (info S') pv v ∧ St w0 F0 mods F' ρ' S' w' ∧ Keeps w w' F F' ρ ρ' (info S) (info S')

theorem Keeps.refl (w : World) (F : Nat → Prop) (ρ : Nat → Option Nat) (C : Nat → OI) : Keeps w w F F ρ ρ C C :=
  ⟨fun _ _ => rfl, fun _ h => h, fun _ => Nat.le_refl _, fun _ h => h, fun _ _ h => ⟨h, rfl⟩, fun _ m _ h => ⟨m, h, Nat.le_refl _, fun _ => rfl⟩⟩

section
variable {P : Program} {w0 : World} {F0 mods F : Nat → Prop} {ρ : Nat → Option Nat} {S : Heap} {w : World} {K : PV → Heap → Prop}

theorem OpOk.value {s : Sem Next} {v : Value} {pv : PV} (h : St w0 F0 mods F ρ S w) (hr : s.run P w = .ok (.value v) w) (hv : RepPV w F ρ (info S) pv v) (hK : K pv S) : OpOk P s w0 F0 mods F ρ S w K :=
  ⟨_, v, w, pv, S, F, ρ, hr, .inl rfl, hK, hv, h, Keeps.refl ..⟩

theorem keeps_heap {w w' : World} (hh : w'.heap = w.heap) (F : Nat → Prop) (ρ : Nat → Option Nat) (C : Nat → OI) : Keeps w w' F F ρ ρ C C :=
  ⟨fun b _ => by rw [hh], fun _ h => h, fun b => by unfold blockSize; rw [hh]; exact Nat.le_refl _, fun _ h => h, fun _ _ h => ⟨h, rfl⟩, fun _ m _ h => ⟨m, h, Nat.le_refl _, fun _ => rfl⟩⟩

/-- A world of the same heap. -/
theorem St.heap (h : St w0 F0 mods F ρ S w) {w' : World} (hh : w'.heap = w.heap) (ho : w'.os = w.os) (ht : w'.tape = w.tape) (hp : w'.output = w.output) : St w0 F0 mods F ρ S w' :=
  ⟨fun o x hx => (h.objs o x hx).keeps (keeps_heap hh ..) rfl fun b _ _ => by rw [hh], h.inj, h.notF, fun b hb => by rw [hh]; exact h.bound b hb, h.mine, by rw [hh]; exact h.grow,
    ho.trans h.os, ht.trans h.tape, hp.trans h.output, fun b hb hm => by rw [hh]; exact h.keep b hb hm, fun b => by have := h.bsize b; unfold blockSize at *; rw [hh]; exact this, h.f0, h.fnew⟩
theorem St.drew (h : St w0 F0 mods F ρ S w) : St w0 F0 mods F ρ S w.drew := h.heap rfl rfl rfl rfl
theorem push_eq (w : World) (arr : Array Value) (T : TypeId) : push w arr T = w.alloc (.cells arr T) := rfl

theorem rep_new {x : Ob} {cs : List PV} {arr : Array Value} {T : TypeId} (h : St w0 F0 mods F ρ S w) (hc : RepPVs w F ρ (info S) cs arr.toList) (hx : x.cells = cs) :
    RepPre (push w arr T) F (Rho ρ S.length (some w.heap.size)) (info (S ++ [x])) x.cells arr := by
  intro j p hj
  rw [hx] at hj
  obtain ⟨v, h1, h2, h3⟩ := hc.get hj
  exact ⟨v, by simpa using h1, h2, h3.keeps (h.keeps_push arr T x)⟩

theorem ptr_new {x : List PV} {arr : Array Value} {T : TypeId} (h : St w0 F0 mods F ρ S w) :
    RepPV (push w arr T) F (Rho ρ S.length (some w.heap.size)) (info (S ++ [.box x])) (.ptr S.length 0) (.pointer (some ⟨w.heap.size, 0, none⟩)) := by
  have hi : info (S ++ [.box x]) S.length = .box := by simp [info, Ob.info]
  simp only [RepPV]
  exact ⟨by rw [hi]; simp, w.heap.size, rfl, fun _ => by simp [Rho]⟩

/-- A new variable. -/
theorem ok_alloc (h : St w0 F0 mods F ρ S w) {T : TypeId} {cs : List PV} (hz : zO P T = some cs) (hK : K (.ptr S.length 0) (S ++ [.box cs])) :
    OpOk P (do pure (.value (← Instr.alloc T true (.tuple #[])))) w0 F0 mods F ρ S w K := by
  obtain ⟨i, z, hi, hzi, hr⟩ := zO_rep (w := w) (F := F) (ρ := ρ) (C := info S) hz
  refine ⟨_, .pointer (some ⟨w.heap.size, 0, none⟩), push w z.cells T, _, _, F, _, ?_, .inl rfl, hK, ptr_new h, h.push z.cells T (.box cs) (by simp) (fun _ _ _ _ e => by cases e) (rep_new h hr rfl), h.keeps_push ..⟩
  simp [Instr.alloc, zeroValue, typeInfo, hi, hzi, newVar, newRow]
  rfl

theorem ok_box (h : St w0 F0 mods F ρ S w) {T : TypeId} {p : PV} {v : Value} {cs : List PV} (hv : RepPV w F ρ (info S) p v) (hc : p.cellsOf = some cs) (hK : K (.ptr S.length 0) (S ++ [.box cs])) :
    OpOk P (do pure (.value (← Instr.box T v))) w0 F0 mods F ρ S w K := by
  have hr := PV.cellsOf_rep hc hv
  refine ⟨_, .pointer (some ⟨w.heap.size, 0, none⟩), push w v.cells T, _, _, F, _, ?_, .inl rfl, hK, ptr_new h, h.push v.cells T (.box cs) (by simp) (fun _ _ _ _ e => by cases e) (rep_new h hr rfl), h.keeps_push ..⟩
  simp [Instr.box, newVar, newRow]
  rfl

end
end Go.Aw

/- Operations on memory: load, store, field and element addresses, a struct's literal. -/
set_option linter.unusedVariables false
set_option linter.unusedSimpArgs false
namespace Go.Aw
section
variable {P : Program} {w0 : World} {F0 mods F : Nat → Prop} {ρ : Nat → Option Nat} {S : Heap} {w : World} {K : PV → Heap → Prop}

theorem run_isAgg {t : TypeId} {b : Bool} (h : aggO P t = some b) : (isAgg t).run P w = .ok b w := by
  obtain ⟨d, h1, h2⟩ := Option.map_eq_some_iff.1 h
  simp only [isAgg, Sem.run_bind, run_underlying h1, Result.andThen_ok]
  cases d <;> simp_all

theorem run_size {t : TypeId} {n : Nat} (h : szO P t = some n) : (sizeOf t).run P w = .ok n w := by
  obtain ⟨i, h1, h2⟩ := Option.map_eq_some_iff.1 h
  simp [sizeOf, typeInfo, h1, h2]

theorem run_loadVar_agg {t : TypeId} (ha : aggO P t = some true) {n : Nat} (hs : szO P t = some n) (a : Addr) (vs : List Value) (hl : vs.length = n)
    (hc : ∀ j v, vs[j]? = some v → w.cell? (a.add j) = some v) : (loadVar t a).run P w = .ok (.agg vs.toArray) w := by
  subst hl
  simp [loadVar, run_isAgg ha, run_size hs, run_loadCells_list w a vs hc]

theorem run_loadVar_one {t : TypeId} (ha : aggO P t = some false) (a : Addr) {v : Value} (hc : w.cell? a = some v) : (loadVar t a).run P w = .ok v w := by
  simp [loadVar, run_isAgg ha, hc]

theorem add_mid (b off j : Nat) : (⟨b, off, none⟩ : Addr).add j = ⟨b, off + j, none⟩ := Addr.add_lit b off j

/-- What a list of cells in memory reads as: all are there. -/
theorem cells_at {b off : Nat} {cs : List D} (h : RepAt w F b off cs) : ∃ vs : List Value, vs.length = cs.length ∧ (∀ j v, vs[j]? = some v → w.cell? ⟨b, off + j, none⟩ = some v) ∧ RepL w F cs vs := by
  induction cs generalizing off with
  | nil => exact ⟨[], rfl, fun j v h => by simp at h, by simp [RepL]⟩
  | cons d r ih =>
    simp only [RepAt] at h
    obtain ⟨⟨hb, v, h1, h2, h3⟩, h4⟩ := h
    obtain ⟨vs, e1, e2, e3⟩ := ih h4
    refine ⟨v :: vs, by simp [e1], fun j u hj => ?_, by simp only [RepL]; exact ⟨v, vs, rfl, h2, h3, e3⟩⟩
    cases j with
    | zero => simp at hj; subst hj; simpa using h1
    | succ j =>
      have := e2 j u (by simpa using hj)
      rwa [show off + 1 + j = off + (j + 1) by omega] at this

/-- The value of a struct at a pointer to data. -/
theorem ok_load_dp_agg (h : St w0 F0 mods F ρ S w) {t : TypeId} (ha : aggO P t = some true) {n : Nat} (hs : szO P t = some n) {cells : List D} {v : Value} (hv : RepPV w F ρ (info S) (.dp cells) v)
    (hl : n ≤ cells.length) (hK : K (.agg ((cells.take n).map .d)) S) : OpOk P (do pure (.value (← Instr.loadAt t v))) w0 F0 mods F ρ S w K := by
  simp only [RepPV] at hv
  obtain ⟨b, off, rfl, hat⟩ := hv
  have hat' : RepAt w F b off (cells.take n) := RepAt.mk fun j d hj => by
    rw [List.getElem?_take] at hj
    split at hj
    · exact hat.get hj
    · cases hj
  obtain ⟨vs, e1, e2, e3⟩ := cells_at hat'
  have hr := run_loadVar_agg (P := P) (w := w) ha hs ⟨b, off, none⟩ vs (by rw [e1]; simp; omega) (fun j v hj => by rw [add_mid]; exact e2 j v hj)
  refine .value h (v := .agg vs.toArray) (by simp [Instr.loadAt, Instr.sureAddr, hr]) ?_ hK
  simp only [RepPV]
  exact ⟨_, rfl, e3.pv⟩

theorem ok_load_dp_one (h : St w0 F0 mods F ρ S w) {t : TypeId} (ha : aggO P t = some false) {cells : List D} {d : D} {v : Value} (hv : RepPV w F ρ (info S) (.dp cells) v)
    (hl : cells[0]? = some d) (hK : K (.d d) S) : OpOk P (do pure (.value (← Instr.loadAt t v))) w0 F0 mods F ρ S w K := by
  simp only [RepPV] at hv
  obtain ⟨b, off, rfl, hat⟩ := hv
  obtain ⟨_, u, e1, e2, e3⟩ := hat.get hl
  have hr := run_loadVar_one (P := P) (w := w) ha ⟨b, off, none⟩ (v := u) (by simpa using e1)
  exact .value h (v := u) (by simp [Instr.loadAt, Instr.sureAddr, hr]) (by simpa [RepPV] using e3) hK

/-- The block of an object, and its cells. -/
theorem St.cells (h : St w0 F0 mods F ρ S w) {o : Nat} {x : Ob} (hx : S[o]? = some x) (hg : x.Cel) {b : Nat} (hb : ρ o = some b) :
    ∃ arr T, w.heap[b]? = some (.cells arr T (0, 0)) ∧ RepPre w F ρ (info S) x.cells arr := by
  have := h.objs o x hx
  cases x with
  | gone => exact hg.elim
  | fro rows => exact hg.elim
  | mapo es c => exact hg.elim
  | itr mo a l c => exact hg.elim
  | arr pre n run post =>
    obtain ⟨_, b', arr, T, h1, h2, h3⟩ := this
    rw [hb] at h1; cases h1
    exact ⟨arr, T, h2, h3⟩
  | box cs =>
    obtain ⟨b', arr, T, h1, h2, h3⟩ := this
    rw [hb] at h1; cases h1
    exact ⟨arr, T, h2, h3⟩
  | buf rows =>
    rcases this with ⟨h1, _⟩ | ⟨b', arr, T, h1, h2, h3⟩
    · rw [hb] at h1; cases h1
    · rw [hb] at h1; cases h1
      exact ⟨arr, T, h2, h3⟩

/-- The block of rows that nobody changes. -/
theorem St.fro (h : St w0 F0 mods F ρ S w) {o : Nat} {rows : List (List D)} (hx : S[o]? = some (.fro rows)) {b : Nat} (hb : ρ o = some b) : RepRows w F b 0 rows ∧ F b := by
  have := h.objs o _ hx
  rcases this with ⟨h1, _⟩ | ⟨b', arr, T, h1, h2, hF, h3⟩
  · rw [hb] at h1; cases h1
  · rw [hb] at h1; cases h1
    refine ⟨RepRows.of_flat (RepAt.mk fun j d hj => ⟨hF, ?_⟩), hF⟩
    obtain ⟨v, e1, e2, e3⟩ := h3 j (.d d) (by rw [← List.map_flatten, List.getElem?_map, hj]; rfl)
    exact ⟨v, by simp only [World.cell?, h2, Nat.zero_add]; exact e1, e2, by simpa [RepPV] using e3⟩

theorem RepPre.sub {C : Nat → OI} {cs : List PV} {arr : Array Value} (h : RepPre w F ρ C cs arr) (c n : Nat) (hl : c + n ≤ cs.length) :
    ∃ vs : List Value, vs.length = n ∧ (∀ j v, vs[j]? = some v → arr[c + j]? = some v) ∧ RepPVs w F ρ C ((cs.drop c).take n) vs := by
  have key : ∀ j, j < n → ∃ v, arr[c + j]? = some v ∧ oneCell v = true ∧ ∀ p, cs[c + j]? = some p → RepPV w F ρ C p v := fun j hj => by
    obtain ⟨v, h1, h2, h3⟩ := h (c + j) cs[c + j] (List.getElem?_eq_getElem (by omega))
    exact ⟨v, h1, h2, fun p hp => by rw [List.getElem?_eq_getElem (by omega)] at hp; cases hp; exact h3⟩
  refine ⟨(List.range n).map fun j => (arr[c + j]?).getD undef, by simp, fun j v hj => ?_, RepPVs.mk (by simp; omega) fun j d v hd hv => ?_⟩
  · rw [List.getElem?_map] at hj
    obtain ⟨k, hk, rfl⟩ := Option.map_eq_some_iff.1 hj
    have hk' : k = j ∧ j < n := by
      have hjn : j < n := by
        have := (List.getElem?_eq_some_iff.1 hk).1
        simpa using this
      rw [List.getElem?_range hjn] at hk
      cases hk
      exact ⟨rfl, hjn⟩
    obtain ⟨rfl, hjn⟩ := hk'
    obtain ⟨v, h1, _⟩ := key k hjn
    simp [h1]
  · have hjn : j < n := by
      have := (List.getElem?_eq_some_iff.1 hd).1
      simp at this; omega
    obtain ⟨u, h1, h2, h3⟩ := key j hjn
    rw [List.getElem?_map, List.getElem?_range hjn] at hv
    simp only [Option.map_some, h1, Option.getD_some, Option.some.injEq] at hv
    subst hv
    rw [List.getElem?_take_of_lt hjn, List.getElem?_drop] at hd
    exact ⟨h2, h3 d hd⟩

theorem cell_of {b : Nat} {arr : Array Value} {T : TypeId} {fr : Nat × Nat} (h : w.heap[b]? = some (.cells arr T fr)) (off : Nat) : w.cell? ⟨b, off, none⟩ = arr[off]? := by
  simp [World.cell?, h]

/-- A whole part of an object is loaded: n cells from c on. -/
theorem ok_load_ob_agg (h : St w0 F0 mods F ρ S w) {t : TypeId} (ha : aggO P t = some true) {n : Nat} (hs : szO P t = some n) {o b c : Nat} {x : Ob} (hx : S[o]? = some x) (hg : x.Cel) (hb : ρ o = some b)
    (hl : c + n ≤ x.cells.length) (hK : K (.agg ((x.cells.drop c).take n)) S) : OpOk P (do pure (.value (← Instr.loadAt t (.pointer (some ⟨b, c, none⟩))))) w0 F0 mods F ρ S w K := by
  obtain ⟨arr, T, e1, e2⟩ := h.cells hx hg hb
  obtain ⟨vs, f1, f2, f3⟩ := e2.sub c n hl
  have hr := run_loadVar_agg (P := P) (w := w) ha hs ⟨b, c, none⟩ vs f1 (fun j v hj => by rw [add_mid, cell_of e1]; exact f2 j v hj)
  refine .value h (v := .agg vs.toArray) (by simp [Instr.loadAt, Instr.sureAddr, hr]) ?_ hK
  simp only [RepPV]
  exact ⟨_, rfl, f3⟩

theorem ok_load_ob_one (h : St w0 F0 mods F ρ S w) {t : TypeId} (ha : aggO P t = some false) {o b c : Nat} {x : Ob} (hx : S[o]? = some x) (hg : x.Cel) (hb : ρ o = some b)
    {p : PV} (hl : x.cells[c]? = some p) (hK : K p S) : OpOk P (do pure (.value (← Instr.loadAt t (.pointer (some ⟨b, c, none⟩))))) w0 F0 mods F ρ S w K := by
  obtain ⟨arr, T, e1, e2⟩ := h.cells hx hg hb
  obtain ⟨v, f1, f2, f3⟩ := e2 c p hl
  have hr := run_loadVar_one (P := P) (w := w) ha ⟨b, c, none⟩ (v := v) (by rw [cell_of e1]; exact f1)
  exact .value h (v := v) (by simp [Instr.loadAt, Instr.sureAddr, hr]) f3 hK

theorem setRow_eq {b : Nat} {arr cs : Array Value} {T : TypeId} (h : w.heap[b]? = some (.cells arr T (0, 0))) : w.setRow b cs = setBlock w b cs T := by
  have hlt := (Array.getElem?_eq_some_iff.1 h).1
  have hv : w.heap[b] = .cells arr T (0, 0) := (Array.getElem?_eq_some_iff.1 h).2
  unfold World.setRow setBlock
  congr 1
  apply Array.ext_getElem?
  intro i
  rw [Array.getElem?_modify, Array.getElem?_setIfInBounds]
  by_cases e : b = i
  · subst e; simp [hlt, hv]
  · simp [e]

/-- The cells cs with those from c on put in the place of what lay there. -/
def splice {α : Type} (cs : List α) (c : Nat) (vs : List α) : List α := cs.take c ++ vs ++ cs.drop (c + vs.length)

theorem splice_get {α : Type} (cs : List α) (c : Nat) (vs : List α) (h : c + vs.length ≤ cs.length) (j : Nat) : (splice cs c vs)[j]? = if c ≤ j ∧ j < c + vs.length then vs[j - c]? else cs[j]? := by
  unfold splice
  by_cases h1 : j < c
  · rw [List.append_assoc, List.getElem?_append_left (by simp; omega), List.getElem?_take_of_lt h1, if_neg (by omega)]
  · by_cases h2 : j < c + vs.length
    · rw [List.getElem?_append_left (by simp; omega), List.getElem?_append_right (by simp; omega), if_pos (by omega)]
      simp [Nat.min_eq_left (show c ≤ cs.length by omega)]
    · rw [List.getElem?_append_right (by simp; omega), if_neg (by omega), List.getElem?_drop]
      congr 1
      simp [Nat.min_eq_left (show c ≤ cs.length by omega)]
      omega

theorem splice_length {α : Type} (cs : List α) (c : Nat) (vs : List α) (h : c + vs.length ≤ cs.length) : (splice cs c vs).length = cs.length := by
  simp [splice]; omega

/-- Cells of an object are written: those from c on, by vs. -/
theorem ok_store_ob (h : St w0 F0 mods F ρ S w) {t : TypeId} {n : Nat} (hs : szO P t = some n) {o b c : Nat} {x y : Ob} (hx : S[o]? = some x) (hg : x.Cel) (hgy : y.Cel) (hyn : ∀ pre n run post, y = .arr pre n run post → run.length = n) (hb : ρ o = some b) {p : PV} {ps : List PV} {v : Value}
    (hv : RepPV w F ρ (info S) p v) (hc : p.cellsOf = some ps) (hn : ps.length = n) (hl : c + n ≤ x.cells.length) (hy : y.cells = splice x.cells c ps) (hi : x.info = y.info) (hK : K .any (S.set o y)) :
    OpOk P (do Instr.storeAt t (.pointer (some ⟨b, c, none⟩)) v; pure .skip) w0 F0 mods F ρ S w K := by
  obtain ⟨arr, T, e1, e2⟩ := h.cells hx hg hb
  have hr := PV.cellsOf_rep hc hv
  have hlen : v.cells.size = n := by have := hr.length; simp at this; omega
  have hsz : x.cells.length ≤ arr.size := by
    rcases Nat.eq_zero_or_pos x.cells.length with h0 | h0
    · omega
    · obtain ⟨v, h1, _⟩ := e2 (x.cells.length - 1) x.cells[x.cells.length - 1] (List.getElem?_eq_getElem (by omega))
      have := (Array.getElem?_eq_some_iff.1 h1).1
      omega
  have hone : ∀ u ∈ v.cells.toList, u.oneCell' = true := fun u hu => by
    obtain ⟨j, hj⟩ := List.getElem?_of_mem hu
    obtain ⟨p', hp'⟩ : ∃ p', ps[j]? = some p' := by
      have h1 := (List.getElem?_eq_some_iff.1 hj).1
      exact ⟨_, List.getElem?_eq_getElem (by have := hr.length; omega)⟩
    obtain ⟨u', h1, h2, _⟩ := hr.get hp'
    rw [hj] at h1; cases h1
    exact h2
  have hst := run_storeCells_at P b c T v.cells.toList 0 arr w e1 (by simp; omega) hone
  simp only [Nat.add_zero] at hst
  rw [setRow_eq e1] at hst
  have hrun : (do Instr.storeAt t (.pointer (some ⟨b, c, none⟩)) v; pure Next.skip : Sem Next).run P w = .ok .skip (setBlock w b (arr.toList.take c ++ v.cells.toList ++ arr.toList.drop (c + v.cells.toList.length)).toArray T) := by
    simp [Instr.storeAt, Instr.sureAddr, storeVar, run_size hs, hlen] at hst ⊢
    rw [hst]
    simp
  have hsize : arr.size = (arr.toList.take c ++ v.cells.toList ++ arr.toList.drop (c + v.cells.toList.length)).toArray.size := by simp; omega
  refine ⟨_, undef, _, .any, S.set o y, F, ρ, hrun, .inr ⟨rfl, rfl⟩, hK, by simp [RepPV], ?_, h.keeps_set hx hg.mut hb e1 hsize (.inl hi)⟩
  refine h.set hx hg.mut hgy hyn hb e1 hsize (.inl hi) ?_
  have hk := h.keeps_set (arr' := (arr.toList.take c ++ v.cells.toList ++ arr.toList.drop (c + v.cells.toList.length)).toArray) (y := y) hx hg.mut hb e1 hsize (.inl hi)
  intro j q hj
  rw [hy, splice_get _ _ _ (by omega)] at hj
  have hget : ((arr.toList.take c ++ v.cells.toList ++ arr.toList.drop (c + v.cells.toList.length)).toArray)[j]? = if c ≤ j ∧ j < c + v.cells.toList.length then v.cells.toList[j - c]? else arr[j]? := by
    have := splice_get arr.toList c v.cells.toList (by simp; omega) j
    simpa [splice] using this
  split at hj
  · rename_i hcj
    obtain ⟨u, h1, h2, h3⟩ := hr.get hj
    refine ⟨u, ?_, h2, h3.keeps hk⟩
    rw [hget, if_pos (by have := hr.length; omega)]
    exact h1
  · rename_i hcj
    obtain ⟨u, h1, h2, h3⟩ := e2 j q hj
    refine ⟨u, ?_, h2, h3.keeps hk⟩
    rw [hget, if_neg (by have := hr.length; omega)]
    exact h1
end
end Go.Aw

/- Operations on slices: element addresses, lengths, append, literals, make. -/
set_option linter.unusedVariables false
set_option linter.unusedSimpArgs false
namespace Go.Aw

theorem AllLen.flatten {α : Type} {sz : Nat} : ∀ {rows : List (List α)}, AllLen sz rows → rows.flatten.length = rows.length * sz
  | [], _ => by simp
  | r :: rs, h => by
    have h1 : r.length = sz := h r (by simp)
    have h2 := AllLen.flatten (rows := rs) fun x hx => h x (by simp [hx])
    simp only [List.flatten_cons, List.length_append, h1, h2, List.length_cons, Nat.add_mul]
    omega

theorem AllLen.append {α : Type} {sz : Nat} {a b : List (List α)} (h : AllLen sz a) (h' : AllLen sz b) : AllLen sz (a ++ b) := fun r hr => by
  rcases List.mem_append.1 hr with hr | hr
  · exact h r hr
  · exact h' r hr

/-- The cell j of row i lies at i * sz + j. -/
theorem AllLen.get {α : Type} {sz : Nat} : ∀ {rows : List (List α)} {i : Nat} {r : List α}, AllLen sz rows → rows[i]? = some r → ∀ j, j < sz → rows.flatten[i * sz + j]? = r[j]?
  | [], i, r, _, hi => by simp at hi
  | x :: rs, 0, r, h, hi => fun j hj => by
    simp at hi
    subst hi
    have h1 : x.length = sz := h x (by simp)
    simp only [List.flatten_cons, Nat.zero_mul, Nat.zero_add]
    rw [List.getElem?_append_left (by omega)]
  | x :: rs, i + 1, r, h, hi => fun j hj => by
    have h1 : x.length = sz := h x (by simp)
    have := AllLen.get (rows := rs) (i := i) (fun y hy => h y (by simp [hy])) (by simpa using hi) j hj
    simp only [List.flatten_cons]
    rw [List.getElem?_append_right (by rw [h1, Nat.add_mul]; omega), ← this]
    congr 1
    rw [h1, Nat.add_mul]; omega

section
variable {P : Program} {w0 : World} {F0 mods F : Nat → Prop} {ρ : Nat → Option Nat} {S : Heap} {w : World} {K : PV → Heap → Prop}

theorem run_fieldAt {t : TypeId} {f off n : Nat} {ft : TypeId} (hf : flO P t f = some (off, ft)) (hs : szO P ft = some n) (hn : n ≠ 0) (b c : Nat) :
    (Instr.fieldAt t (.pointer (some ⟨b, c, none⟩)) f).run P w = .ok (.pointer (some ⟨b, c + off, none⟩)) w := by
  unfold flO at hf
  split at hf
  · rename_i fs hu
    obtain ⟨x, hx, he⟩ := Option.map_eq_some_iff.1 hf
    cases he
    simp [Instr.fieldAt, run_underlying hu, hx, Instr.sureAddr, fieldPlace, run_size hs, hn, Addr.add_lit]
  · cases hf

theorem ok_field_dp (h : St w0 F0 mods F ρ S w) {t : TypeId} {f off n : Nat} {ft : TypeId} (hf : flO P t f = some (off, ft)) (hs : szO P ft = some n) (hn : n ≠ 0) {cells : List D} {v : Value}
    (hv : RepPV w F ρ (info S) (.dp cells) v) (hK : K (.dp (cells.drop off)) S) : OpOk P (do pure (.value (← Instr.fieldAt t v f))) w0 F0 mods F ρ S w K := by
  simp only [RepPV] at hv
  obtain ⟨b, c, rfl, hat⟩ := hv
  refine .value h (v := .pointer (some ⟨b, c + off, none⟩)) (by simp [run_fieldAt hf hs hn]) ?_ hK
  simp only [RepPV]
  exact ⟨b, c + off, rfl, hat.drop off⟩

theorem ok_field_ptr (h : St w0 F0 mods F ρ S w) {t : TypeId} {f off n : Nat} {ft : TypeId} (hf : flO P t f = some (off, ft)) (hs : szO P ft = some n) (hn : n ≠ 0) {o c : Nat} {v : Value}
    (hv : RepPV w F ρ (info S) (.ptr o c) v) (hK : K (.ptr o (c + off)) S) : OpOk P (do pure (.value (← Instr.fieldAt t v f))) w0 F0 mods F ρ S w K := by
  simp only [RepPV] at hv
  obtain ⟨h0, b, rfl, hb⟩ := hv
  refine .value h (v := .pointer (some ⟨b, c + off, none⟩)) (by simp [run_fieldAt hf hs hn]) ?_ hK
  simp only [RepPV]
  exact ⟨h0, b, rfl, hb⟩

theorem ok_field_eptr (h : St w0 F0 mods F ρ S w) {t : TypeId} {f off n : Nat} {ft : TypeId} (hf : flO P t f = some (off, ft)) (hs : szO P ft = some n) (hn : n ≠ 0) {o m r sz c : Nat} {v : Value}
    (hv : RepPV w F ρ (info S) (.eptr o m r sz c) v) (hK : K (.eptr o m r sz (c + off)) S) : OpOk P (do pure (.value (← Instr.fieldAt t v f))) w0 F0 mods F ρ S w K := by
  simp only [RepPV] at hv
  obtain ⟨h0, b, d, rfl, hb⟩ := hv
  refine .value h (v := .pointer (some ⟨b, d + off, none⟩)) (by simp [run_fieldAt hf hs hn]) ?_ hK
  simp only [RepPV]
  refine ⟨h0, b, d + off, rfl, fun m' hm' => ⟨(hb m' hm').1, fun e => ⟨((hb m' hm').2 e).1, ?_⟩⟩⟩
  have := ((hb m' hm').2 e).2
  omega

theorem run_indexAt {t e : TypeId} (hu : elO P t = some e) {n : Nat} (hs : szO P e = some n) (b c len cap : Nat) (k : IntKind) (i : Int) (h0 : 0 ≤ i) (h1 : i < len) :
    (Instr.indexAt t (.slice (some ⟨b, c, none⟩) len cap) (.int k i)).run P w = .ok (.pointer (some ⟨b, c + i.toNat * n, none⟩)) w := by
  unfold elO at hu
  split at hu
  · rename_i e' hu'
    cases hu
    simp [Instr.indexAt, asIntOf, run_underlying hu', h0, h1, run_size hs, Addr.add_lit]
  · cases hu

theorem ok_index_sl (h : St w0 F0 mods F ρ S w) {t e : TypeId} (hu : elO P t = some e) {n : Nat} (hs : szO P e = some n) {rows : List (List D)} (ha : AllLen n rows) {k : IntKind} {i : Int} {v : Value}
    (hv : RepPV w F ρ (info S) (.d (.sl rows)) v) (h0 : 0 ≤ i) (h1 : i < rows.length) (hK : K (.dp (rows.getD i.toNat [])) S) :
    OpOk P (do pure (.value (← Instr.indexAt t v (.int k i)))) w0 F0 mods F ρ S w K := by
  simp only [RepPV, RepD] at hv
  obtain ⟨a, len, cap, rfl, rfl, h3, h4, h5, h6⟩ := hv
  cases a with
  | none => have := h5 rfl; omega
  | some ad =>
    obtain ⟨b, c, sp⟩ := ad
    obtain ⟨hsp, hrows⟩ := h6 _ rfl
    simp only at hsp hrows
    have hsp := hsp (fun e => by rw [e] at h1; simp at h1; omega)
    subst hsp
    have hlt : i.toNat < rows.length := by omega
    have hrow := hrows.row ha (List.getElem?_eq_getElem hlt)
    refine .value h (v := .pointer (some ⟨b, c + i.toNat * n, none⟩)) (by simp [run_indexAt hu hs b c rows.length cap k i h0 h1]) ?_ hK
    simp only [RepPV]
    refine ⟨b, c + i.toNat * n, rfl, ?_⟩
    simpa [List.getD_eq_getElem?_getD, List.getElem?_eq_getElem hlt] using hrow

theorem ok_index_own (h : St w0 F0 mods F ρ S w) {t e : TypeId} (hu : elO P t = some e) {n : Nat} (hs : szO P e = some n) {o m : Nat} {rows : List (List PV)} (hx : S[o]? = some (.buf rows)) (hm : rows.length = m)
    {k : IntKind} {i : Int} {v : Value} (hv : RepPV w F ρ (info S) (.own o n m) v) (h0 : 0 ≤ i) (h1 : i < m) (hK : K (.eptr o m i.toNat n 0) S) :
    OpOk P (do pure (.value (← Instr.indexAt t v (.int k i)))) w0 F0 mods F ρ S w K := by
  simp only [RepPV] at hv
  obtain ⟨hfr, a, cap, rfl, h2⟩ := hv
  have hi : info S o = .buf m := by rw [info_of hx, Ob.info, hm]
  rcases (h2 m hi).2 rfl with ⟨_, _, h3, _⟩ | ⟨b, hb, rfl, _⟩
  · omega
  · refine .value h (v := .pointer (some ⟨b, 0 + i.toNat * n, none⟩)) (by simp [run_indexAt hu hs b 0 m cap k i h0 h1]) ?_ hK
    simp only [RepPV]
    refine ⟨hfr, b, 0 + i.toNat * n, rfl, fun m' hm' => ?_⟩
    rw [hi] at hm'
    cases hm'
    exact ⟨Nat.le_refl _, fun _ => ⟨hb, by omega⟩⟩

/-- What a slice that is handed to append holds: its length, and its cells. -/
def Holds (P : Program) (w : World) (F : Nat → Prop) (ρ : Nat → Option Nat) (C : Nat → OI) (rows : List (List PV)) (v : Value) : Prop :=
  ∃ a c vs, v = .slice a rows.length c ∧ RepPVs w F ρ C rows.flatten vs ∧ (a = none → rows = []) ∧ ∀ ad, a = some ad → ∀ j u, vs[j]? = some u → w.cell? (ad.add j) = some u

theorem holds_sl {rows : List (List D)} {v : Value} {C : Nat → OI} (hv : RepPV w F ρ C (.d (.sl rows)) v) : Holds P w F ρ C (rows.map (·.map .d)) v := by
  simp only [RepPV, RepD] at hv
  obtain ⟨a, len, cap, rfl, rfl, h3, h4, h5, h6⟩ := hv
  cases a with
  | none =>
    have : rows = [] := List.eq_nil_of_length_eq_zero (by have := h5 rfl; omega)
    subst this
    exact ⟨none, cap, [], rfl, by simp [RepPVs], fun _ => rfl, (fun ad h => by cases h)⟩
  | some ad =>
    obtain ⟨b, c, sp⟩ := ad
    obtain ⟨hsp, hrows⟩ := h6 _ rfl
    simp only at hsp hrows
    by_cases hr0 : rows = []
    · subst hr0
      exact ⟨some ⟨b, c, sp⟩, cap, [], by simp, by simp [RepPVs], (fun h => by cases h), fun ad had j u hj => by simp at hj⟩
    have hsp := hsp hr0
    subst hsp
    obtain ⟨vs, e1, e2, e3⟩ := cells_at hrows.flat
    refine ⟨some ⟨b, c, none⟩, cap, vs, by simp, ?_, (fun h => by cases h), fun ad had j u hj => by cases had; rw [add_mid]; exact e2 j u hj⟩
    have : (rows.map (·.map PV.d)).flatten = rows.flatten.map PV.d := by rw [List.map_flatten]
    rw [this]
    exact e3.pv

theorem holds_own (h : St w0 F0 mods F ρ S w) {o sz m : Nat} {rows : List (List PV)} (hx : S[o]? = some (.buf rows)) (hm : rows.length = m) {v : Value} (hv : RepPV w F ρ (info S) (.own o sz m) v) :
    Holds P w F ρ (info S) rows v := by
  simp only [RepPV] at hv
  obtain ⟨hfr, a, cap, rfl, h2⟩ := hv
  have hi : info S o = .buf m := by rw [info_of hx, Ob.info, hm]
  rcases (h2 m hi).2 rfl with ⟨_, rfl, h3, _⟩ | ⟨b, hb, rfl, _⟩
  · have : rows = [] := List.eq_nil_of_length_eq_zero (by omega)
    subst this
    exact ⟨none, cap, [], by simp at hm; simp [← hm], by simp [RepPVs], fun _ => rfl, (fun ad h => by cases h)⟩
  · obtain ⟨arr, T, e1, e2⟩ := h.cells hx (by simp) hb
    obtain ⟨vs, f1, f2, f3⟩ := e2.sub 0 rows.flatten.length (by simp [Ob.cells])
    refine ⟨some ⟨b, 0, none⟩, cap, vs, by rw [hm], by simpa only [Ob.cells, List.drop_zero, List.take_length] using f3, (fun h => by cases h), fun ad had j u hj => ?_⟩
    cases had
    rw [add_mid, cell_of e1]
    exact f2 j u hj

theorem holds_nil {C : Nat → OI} : Holds P w F ρ C [] (.slice none 0 0) := ⟨none, 0, [], rfl, by simp [RepPVs], fun _ => rfl, (fun ad h => by cases h)⟩

theorem run_append_none {t e ty : TypeId} (hu : elO P t = some e) {n : Nat} (hs : szO P e = some n) (a : Option Addr) (len cap : Nat) (hl : len ≤ cap) (a2 : Option Addr) (c2 : Nat) :
    (Builtin.append_ #[t, t] ty #[.slice a len cap, .slice a2 0 c2]).run P w = .ok (.slice a len cap) w := by
  unfold elO at hu
  split at hu
  · rename_i e' hu'
    cases hu
    cases a <;> cases a2 <;> simp [Builtin.append_, run_underlying hu', run_size hs, Builtin.lenOf, hl, Builtin.firstCells, loadCells, loadCellsFrom, storeCells]
  · cases hu

theorem run_append_room' {t e ty : TypeId} {i : TypeInfo} (ht : P.underlying t = some (.slice e)) (hi : P.info? e = some i)
    (g sLen sCap : Nat) (cur : Array Value) (T : TypeId) (hg : w.heap[g]? = some (.cells cur T (0, 0)))
    (a : Addr) (m c : Nat) (news : List Value) (hl : news.length = m * i.size) (hnews : ∀ j u, news[j]? = some u → w.cell? (a.add j) = some u) (h1 : ∀ u ∈ news, u.oneCell' = true)
    (hroom : sLen + m ≤ sCap) (hfit : sLen * i.size + news.length ≤ cur.size) :
    (Builtin.append_ #[t, t] ty #[.slice (some ⟨g, 0, none⟩) sLen sCap, .slice (some a) m c]).run P w =
      .ok (.slice (some ⟨g, 0, none⟩) (sLen + m) sCap) (setBlock w g (cur.toList.take (sLen * i.size) ++ news ++ cur.toList.drop (sLen * i.size + news.length)).toArray T) := by
  have hf := run_firstCells_some (P := P) w i.size m a m c news hl hnews
  have hst := run_storeCells_at P g (sLen * i.size) T news 0 cur w hg (by simpa using hfit) h1
  simp only [Nat.add_zero] at hst
  rw [setRow_eq hg] at hst
  simp [Builtin.append_, run_underlying ht, sizeOf, typeInfo, hi, Builtin.lenOf, hroom, hf, Addr.add_lit, hst]

theorem ones {C : Nat → OI} {ps : List PV} {vs : List Value} (h : RepPVs w F ρ C ps vs) : ∀ u ∈ vs, u.oneCell' = true := fun u hu => by
  obtain ⟨j, hj⟩ := List.getElem?_of_mem hu
  have h1 := (List.getElem?_eq_some_iff.1 hj).1
  obtain ⟨u', h2, h3, _⟩ := h.get (List.getElem?_eq_getElem (show j < ps.length by have := h.length; omega))
  rw [hj] at h2; cases h2
  exact h3

theorem RepPVs.pre {C : Nat → OI} {ps : List PV} {vs : List Value} (h : RepPVs w F ρ C ps vs) {arr : Array Value} (ha : ∀ (j : Nat) (v : Value), vs[j]? = some v → arr[j]? = some v) : RepPre w F ρ C ps arr := fun j p hj => by
  obtain ⟨v, h1, h2, h3⟩ := h.get hj
  exact ⟨v, ha j v h1, h2, h3⟩

/-- append to a row of the call's own. -/
theorem ok_append_own (h : St w0 F0 mods F ρ S w) {t e ty : TypeId} (hu : elO P t = some e) {sz by_ : Nat} (hs : szO P e = some sz) (hby : byO P e = some by_) {zs : List PV} (hz : zO P e = some zs) (hzs : zs.length = sz) (hsz : 0 < sz)
    {o n : Nat} {rows : List (List PV)} (hx : S[o]? = some (.buf rows)) (hn : rows.length = n) (ha : AllLen sz rows) {v : Value} (hv : RepPV w F ρ (info S) (.own o sz n) v)
    {more : List (List PV)} (ha' : AllLen sz more) {x : Value} (hm : Holds P w F ρ (info S) more x) (hbd : (n + more.length) * by_ ≤ 140737488355328) (hb63 : n + more.length ≤ 9223372036854775807)
    (hK : K (.own o sz (n + more.length)) (S.set o (.buf (rows ++ more)))) :
    OpOk P (do pure (.value (← Builtin.append_ #[t, t] ty #[v, x]))) w0 F0 mods F ρ S w K := by
  have hi : info S o = .buf n := by rw [info_of hx, Ob.info, hn]
  have hot := (List.getElem?_eq_some_iff.1 hx).1
  obtain ⟨a2, c2, news, rfl, hr2, hn2, hc2⟩ := hm
  obtain ⟨i, z, hii, hzi, hrz⟩ := zO_rep (w := w) (F := F) (ρ := ρ) (C := info S) hz
  have hisz : i.size = sz := by simpa [szO, hii] using hs
  have hiby : i.bytes = by_ := by simpa [byO, hii] using hby
  have hzsz : z.cells.size = sz := by have := hrz.length; simp at this; omega
  have hut : P.underlying t = some (.slice e) := by
    unfold elO at hu
    split at hu
    · rename_i e' hu'; cases hu; exact hu'
    · cases hu
  have hnl : news.length = more.length * sz := by rw [hr2.length, ha'.flatten]
  simp only [RepPV] at hv
  obtain ⟨hfr, a, cap, rfl, h2⟩ := hv
  by_cases hm0 : more = []
  · subst hm0
    simp only [List.append_nil, List.length_nil, Nat.add_zero] at hK ⊢
    have hset : S.set o (.buf rows) = S := by
      apply List.ext_getElem?
      intro j
      by_cases e : j = o
      · subst e; rw [List.getElem?_set_self hot, hx]
      · rw [List.getElem?_set_ne (Ne.symm e)]
    rw [hset] at hK
    have hle : n ≤ cap := by
      rcases (h2 n hi).2 rfl with ⟨_, _, h3, h4⟩ | ⟨b, _, _, h3, _⟩ <;> omega
    refine .value h (v := .slice a n cap) (by simp [run_append_none hu hs a n cap hle a2 c2]) ?_ hK
    simp only [RepPV]
    exact ⟨hfr, a, cap, rfl, h2⟩
  · have hmpos : 0 < more.length := List.length_pos_iff.2 hm0
    cases a2 with
    | none => exact absurd (hn2 rfl) hm0
    | some ad =>
      have hcells := hc2 ad rfl
      -- the new block, in both cases in which the row moves
      have moved : ∀ (olds : List Value) (gc : Nat), RepPVs w F ρ (info S) rows.flatten olds → n + more.length ≤ gc → gc ≤ maxLen →
          St w0 F0 mods F (Rho ρ o (some w.drew.heap.size)) (S.set o (.buf (rows ++ more))) (w.drew.alloc (.cells (olds.toArray ++ news.toArray ++ Builtin.zeroCells z.cells (gc - (n + more.length))) e)) ∧
          Keeps w (w.drew.alloc (.cells (olds.toArray ++ news.toArray ++ Builtin.zeroCells z.cells (gc - (n + more.length))) e)) F F ρ (Rho ρ o (some w.drew.heap.size)) (info S) (info (S.set o (.buf (rows ++ more)))) ∧
          RepPV (w.drew.alloc (.cells (olds.toArray ++ news.toArray ++ Builtin.zeroCells z.cells (gc - (n + more.length))) e)) F (Rho ρ o (some w.drew.heap.size)) (info (S.set o (.buf (rows ++ more)))) (.own o sz (n + more.length))
            (.slice (some ⟨w.drew.heap.size, 0, none⟩) (n + more.length) gc) := by
        intro olds gc hol hge hcm
        have hk0 := h.drew.keeps_grow (rows' := rows ++ more) hx (by simp; omega) (olds.toArray ++ news.toArray ++ Builtin.zeroCells z.cells (gc - (n + more.length))) e
        have hk : Keeps w (w.drew.alloc (.cells (olds.toArray ++ news.toArray ++ Builtin.zeroCells z.cells (gc - (n + more.length))) e)) F F ρ (Rho ρ o (some w.drew.heap.size)) (info S) (info (S.set o (.buf (rows ++ more)))) :=
          ⟨hk0.same, hk0.sub, hk0.size, hk0.old, hk0.box, hk0.buf⟩
        refine ⟨h.drew.grown (rows' := rows ++ more) hx (by simp; omega) _ e ?_, hk, ?_⟩
        · rw [List.flatten_append]
          refine RepPre.keeps hk ((hol.append hr2).pre fun j v hj => ?_)
          have hlt := (List.getElem?_eq_some_iff.1 hj).1
          rw [Array.getElem?_append_left (by simp at hlt ⊢; omega), List.append_toArray]
          simpa using hj
        · simp only [RepPV]
          have hinf : info (S.set o (.buf (rows ++ more))) o = .buf (n + more.length) := by rw [info_set hot]; simp [Ob.info, hn]
          refine ⟨by rw [hinf]; simp, _, gc, rfl, fun m hm => ?_⟩
          rw [hinf] at hm
          cases hm
          refine ⟨Nat.le_refl _, fun _ => .inr ⟨w.drew.heap.size, by simp [Rho], rfl, hge, hcm, ?_⟩⟩
          have : (w.drew.alloc (.cells (olds.toArray ++ news.toArray ++ Builtin.zeroCells z.cells (gc - (n + more.length))) e)).heap[w.drew.heap.size]? = some (.cells (olds.toArray ++ news.toArray ++ Builtin.zeroCells z.cells (gc - (n + more.length))) e (0, 0)) := get_push _ _ _
          unfold blockSize
          rw [this]
          simp only [Array.size_append, List.size_toArray, Builtin.zeroCells, Array.size_map, Array.size_range, hzsz, hnl, hol.length, ha.flatten, hn]
          rw [← Nat.add_mul, ← Nat.add_mul]
          exact Nat.mul_le_mul_right _ (by omega)
      rcases (h2 n hi).2 rfl with ⟨hr0, rfl, rfl, rfl⟩ | ⟨b, hb, rfl, hle, hcm, hbs⟩
      · have hrows : rows = [] := List.eq_nil_of_length_eq_zero hn
        subst hrows
        simp only [Nat.zero_add] at *
        have hrun := run_append_nil (P := P) w t ty e i z hut hii hzi ad more.length c2 news (by rw [hisz]; exact hnl) hcells hmpos (by omega) (by rw [hiby]; omega)
        obtain ⟨m1, m2, m3⟩ := moved [] (grownCap w more.length 0 e) (by simp [RepPVs]) (grownCap_ge ..) (grownCap_le_maxLen _ _ _ _ (by unfold maxLen; omega))
        refine ⟨_, _, _, _, _, F, _, ?_, .inl rfl, hK, m3, m1, m2⟩
        simp only [Sem.run_bind, hrun, Result.andThen_ok, Sem.run_pure]
        simp
      · obtain ⟨arr, T, e1, e2⟩ := h.cells hx (by simp) hb
        have hbsz : blockSize w b = arr.size := by simp [blockSize, e1]
        by_cases hroom : n + more.length ≤ cap
        · have hfit : n * i.size + news.length ≤ arr.size := by
            rw [hisz, hnl, ← Nat.add_mul, ← hbsz]
            exact Nat.le_trans (Nat.mul_le_mul_right _ hroom) hbs
          have hrun := run_append_room' (P := P) (ty := ty) hut hii b n cap arr T e1 ad more.length c2 news (by rw [hisz]; exact hnl) hcells (ones hr2) hroom hfit
          have hsize : arr.size = (arr.toList.take (n * i.size) ++ news ++ arr.toList.drop (n * i.size + news.length)).toArray.size := by simp; omega
          have hio : (Ob.buf rows).info = .buf n := by simp [Ob.info, hn]
          have hiy : (Ob.buf (rows ++ more)).info = .buf (n + more.length) := by simp [Ob.info, hn]
          have hk := h.keeps_set (arr' := (arr.toList.take (n * i.size) ++ news ++ arr.toList.drop (n * i.size + news.length)).toArray) (y := .buf (rows ++ more)) hx (by simp) hb e1 hsize (.inr ⟨n, _, hio, hiy, by omega⟩)
          refine ⟨_, _, _, _, _, F, ρ, by simp only [Sem.run_bind, hrun, Result.andThen_ok, Sem.run_pure]; rfl, .inl rfl, hK, ?_, h.set hx (by simp) (by simp) (fun _ _ _ _ e => by cases e) hb e1 hsize (.inr ⟨n, _, hio, hiy, by omega⟩) ?_, hk⟩
          · simp only [RepPV]
            have hinf : info (S.set o (.buf (rows ++ more))) o = .buf (n + more.length) := by rw [info_set hot]; exact hiy
            refine ⟨by rw [hinf]; simp, _, cap, rfl, fun m hm => ?_⟩
            rw [hinf] at hm
            cases hm
            exact ⟨Nat.le_refl _, fun _ => .inr ⟨b, hb, rfl, hroom, hcm, Nat.le_trans hbs (hk.size b)⟩⟩
          · refine RepPre.keeps hk ?_
            have hfl : rows.flatten.length = n * i.size := by rw [ha.flatten, hn, hisz]
            have hg := splice_get arr.toList (n * i.size) news (by simp; omega)
            unfold splice at hg
            intro j p hj
            simp only [Ob.cells, List.flatten_append] at hj
            by_cases hjl : j < n * i.size
            · rw [List.getElem?_append_left (by omega)] at hj
              obtain ⟨u, u1, u2, u3⟩ := e2 j p (by simpa [Ob.cells] using hj)
              refine ⟨u, ?_, u2, u3⟩
              have := hg j
              rw [if_neg (by omega)] at this
              simp only [List.getElem?_toArray]
              rw [this]
              simpa using u1
            · rw [List.getElem?_append_right (by omega)] at hj
              obtain ⟨u, u1, u2, u3⟩ := hr2.get hj
              refine ⟨u, ?_, u2, u3⟩
              have hlt := (List.getElem?_eq_some_iff.1 u1).1
              have := hg j
              rw [if_pos (by omega)] at this
              simp only [List.getElem?_toArray]
              rw [this, ← hfl]
              exact u1
        · obtain ⟨vs, f1, f2, f3⟩ := e2.sub 0 rows.flatten.length (by simp [Ob.cells])
          have hol : RepPVs w F ρ (info S) rows.flatten vs := by simpa only [Ob.cells, List.drop_zero, List.take_length] using f3
          have hrun := run_append_grow (P := P) w t ty e i z hut hii hzi ⟨b, 0, none⟩ n cap vs (by rw [f1, ha.flatten, hn, hisz]) (fun j u hj => by rw [add_mid, cell_of e1]; exact f2 j u hj)
            ad more.length c2 news (by rw [hisz]; exact hnl) hcells (by omega) (by omega) (by rw [hiby]; exact growslice_fits (by omega) hbd)
          obtain ⟨m1, m2, m3⟩ := moved vs (grownCap w (n + more.length) cap e) hol (grownCap_ge ..) (grownCap_le_maxLen _ _ _ _ (by unfold maxLen; omega))
          exact ⟨_, _, _, _, _, F, _, by simp only [Sem.run_bind, hrun, Result.andThen_ok, Sem.run_pure]; rfl, .inl rfl, hK, m3, m1, m2⟩
end
end Go.Aw

/- Plain operations: lengths, numbers, texts, struct and slice literals. -/
set_option linter.unusedVariables false
set_option linter.unusedSimpArgs false
namespace Go.Aw
section
variable {P : Program} {w0 : World} {F0 mods F : Nat → Prop} {ρ : Nat → Option Nat} {S : Heap} {w : World} {K : PV → Heap → Prop}

/-- The length of a value that is a slice or a string. -/
def lenPV : PV → Option Nat
  | .d (.sl rows) => some rows.length
  | .d (.s x) => some x.size
  | .nils => some 0
  | .own _ _ n => some n
  | _ => none

theorem elO_under {t e : TypeId} (h : elO P t = some e) : P.underlying t = some (.slice e) := by
  unfold elO at h
  split at h
  · rename_i e' hu'; cases h; exact hu'
  · cases h

theorem ok_len_slice (h : St w0 F0 mods F ρ S w) {t e ty : TypeId} (hu : elO P t = some e) {p : PV} {v : Value} {n : Nat} (hv : RepPV w F ρ (info S) p v) (hp : ∀ x, p ≠ .d (.s x)) (hn : lenPV p = some n)
    (hK : K (.d (.i .i64 n)) S) : OpOk P (do pure (.value (← Builtin.len_ #[t] ty #[v]))) w0 F0 mods F ρ S w K := by
  have hut := elO_under hu
  obtain ⟨a, c, rfl⟩ : ∃ a c, v = .slice a n c := by
    cases p <;> simp [lenPV] at hn
    case d x =>
      cases x <;> simp at hn
      case s x => exact absurd rfl (hp x)
      case sl rows =>
        subst hn
        simp only [RepPV, RepD] at hv
        obtain ⟨a, l, c, rfl, rfl, _⟩ := hv
        exact ⟨a, c, rfl⟩
    case nils => subst hn; simp only [RepPV] at hv; exact ⟨none, 0, hv⟩
    case own o sz m => subst hn; simp only [RepPV] at hv; obtain ⟨_, a, c, rfl, _⟩ := hv; exact ⟨a, c, rfl⟩
  exact .value h (v := .int .i64 n) (by simp [Builtin.len_, run_underlying hut, goInt]) (by simp [RepPV, RepD]) hK

theorem ok_len_str (h : St w0 F0 mods F ρ S w) {t ty : TypeId} (hu : P.underlying t = some .string) {x : ByteArray} {v : Value} (hv : RepPV w F ρ (info S) (.d (.s x)) v)
    (hK : K (.d (.i .i64 x.size)) S) : OpOk P (do pure (.value (← Builtin.len_ #[t] ty #[v]))) w0 F0 mods F ρ S w K := by
  simp only [RepPV, RepD] at hv
  subst hv
  exact .value h (v := .int .i64 x.size) (by simp [Builtin.len_, run_underlying hu, goInt]) (by simp [RepPV, RepD]) hK

/-- What a binary operation on two numbers yields: a value, or nothing that is told of. -/
def intOp (op : BinOp) (k : IntKind) (a b : Int) : Option D :=
  match op with
  | .add => some (.i k (k.wrap (a + b)))
  | .sub => some (.i k (k.wrap (a - b)))
  | .mul => some (.i k (k.wrap (a * b)))
  | .quo => if b = 0 then none else some (.i k (k.wrap (a.tdiv b)))
  | .rem => if b = 0 then none else some (.i k (a.tmod b))
  | .and => some (.i k (k.wrap ((BitVec.ofInt k.bits a &&& BitVec.ofInt k.bits b).toNat : Int)))
  | .or => some (.i k (k.wrap ((BitVec.ofInt k.bits a ||| BitVec.ofInt k.bits b).toNat : Int)))
  | .xor => some (.i k (k.wrap ((BitVec.ofInt k.bits a ^^^ BitVec.ofInt k.bits b).toNat : Int)))
  | .andNot => some (.i k (k.wrap ((BitVec.ofInt k.bits a &&& ~~~(BitVec.ofInt k.bits b)).toNat : Int)))
  | .shl => if b < 0 then none else some (.i k (k.wrap (a * 2 ^ (min b.toNat k.bits))))
  | .shr => if b < 0 then none else some (.i k (a.fdiv (2 ^ (min b.toNat k.bits))))
  | .eql => some (.b (a == b))
  | .neq => some (.b (a != b))
  | .lss => some (.b (decide (a < b)))
  | .leq => some (.b (decide (a ≤ b)))
  | .gtr => some (.b (decide (a > b)))
  | .geq => some (.b (decide (a ≥ b)))

def strOp (op : BinOp) (x y : ByteArray) : Option D :=
  match op with
  | .add => if ((x.size + y.size : Nat) : Int) > 9223372036854775807 then none else some (.s (x ++ y))
  | .eql => some (.b (x.toList == y.toList))
  | .neq => some (.b (!(x.toList == y.toList)))
  | .lss => some (.b (Op.bytesLess x.toList y.toList))
  | .leq => some (.b (Op.bytesLess x.toList y.toList || x.toList == y.toList))
  | .gtr => some (.b (!(Op.bytesLess x.toList y.toList || x.toList == y.toList)))
  | .geq => some (.b (!(Op.bytesLess x.toList y.toList)))
  | _ => none

/-- The kinds of two operands must agree, but for a shift's count. -/
def isShift : BinOp → Bool
  | .shl | .shr => true
  | _ => false

def binD (op : BinOp) : D → D → Option D
  | .i k a, .i k' b => if k = k' ∨ isShift op = true then intOp op k a b else none
  | .s x, .s y => strOp op x y
  | _, _ => none

theorem ok_bin (h : St w0 F0 mods F ρ S w) {op : BinOp} {t : TypeId} {x y : Operand} {a b d : D} {u v : Value} (ha : RepPV w F ρ (info S) (.d a) u) (hb : RepPV w F ρ (info S) (.d b) v) (hd : binD op a b = some d)
    (hK : K (.d d) S) : OpOk P (do pure (.value (← (do eqGuard op t x y u v; binOp op t u v)))) w0 F0 mods F ρ S w K := by
  cases a <;> cases b <;> simp only [binD] at hd <;> (try cases hd)
  case i.i k a k' b =>
    simp only [RepPV, RepD] at ha hb
    subst ha hb
    have hg : eqGuard op t x y (.int k a) (.int k' b) = pure () := by cases op <;> rfl
    have hrun : ∃ r, (binOp op t (.int k a) (.int k' b)).run P w = .ok r w ∧ RepD w F d r := by
      split at hd
      · rename_i hk
        cases op <;> simp only [intOp] at hd <;> (try (split at hd <;> try cases hd)) <;> (try cases hd) <;> simp [isShift] at hk <;>
          (try subst hk) <;> (refine ⟨_, ?_, by simp only [RepD]; rfl⟩) <;>
          simp_all [binOp, Op.intArith, Op.intDiv, Op.intBits, Op.intCmp, Op.shift] <;> (intro hneg; omega)
      · cases hd
    obtain ⟨r, h1, h2⟩ := hrun
    exact .value h (v := r) (by simp [hg, h1]) (by simpa [RepPV] using h2) hK
  case s.s x' y' =>
    simp only [RepPV, RepD] at ha hb
    subst ha hb
    have hg : eqGuard op t x y (.string x') (.string y') = pure () := by cases op <;> rfl
    have hrun : ∃ r, (binOp op t (.string x') (.string y')).run P w = .ok r w ∧ RepD w F d r := by
      cases op <;> simp only [strOp] at hd <;> (try (split at hd <;> try cases hd)) <;> (try cases hd) <;> (refine ⟨_, ?_, by simp only [RepD]; rfl⟩) <;>
        simp_all [binOp, Op.stringOp]
    obtain ⟨r, h1, h2⟩ := hrun
    exact .value h (v := r) (by simp [hg, h1]) (by simpa [RepPV] using h2) hK

/-! ### Equality of what is no number and no text -/

def boolA (P : Program) (t : TypeId) : Bool := match P.underlying t with
  | some .bool => true
  | _ => false
def ptrA (P : Program) (t : TypeId) : Bool := match P.underlying t with
  | some (.pointer _) => true
  | _ => false
def ifaceA (P : Program) (t : TypeId) : Bool := match P.underlying t with
  | some (.interface _) => true
  | _ => false
def sliceA' (P : Program) (t : TypeId) : Bool := match P.underlying t with
  | some (.slice _) => true
  | _ => false
def isConst : Operand → Bool
  | .const _ => true
  | _ => false

/-- Two cells of a struct that is compared. -/
def leafEq (P : Program) (t : TypeId) (p q : PV) : Option Bool := match P.underlying t, p, q with
  | some (.int _), .d (.i k a), .d (.i k' b) => match instDecidableEqIntKind k k' with
    | isTrue _ => some (a == b)
    | isFalse _ => none
  | some .string, .d (.s a), .d (.s b) => some (a.toList == b.toList)
  | some .bool, .d (.b a), .d (.b b) => some (a == b)
  | _, _, _ => none
def flatEq (P : Program) : List Field → Nat → List PV → List PV → Option Bool
  | [], _, [], [] => some true
  | f :: fs, i, x :: xs, y :: ys => match Nat.beq f.offset i, f.name == "_", aggO P f.type, leafEq P f.type x y, flatEq P fs (i + 1) xs ys with
    | true, false, some false, some a, some b => some (a && b)
    | _, _, _, _, _ => none
  | _, _, _, _ => none
def structEq (P : Program) (t : TypeId) (cs ds : List PV) : Option Bool := match P.underlying t, P.stoodInHeld t, P.eqGuardType P.depth t with
  | some (.struct fs), false, false => flatEq P fs.toList 0 cs ds
  | _, _, _ => none

theorem leafEq_run {t : TypeId} {p q : PV} {u v : Value} {b : Bool} (hp : RepPV w F ρ (info S) p u) (hq : RepPV w F ρ (info S) q v) (h : leafEq P t p q = some b) (d : Nat) : (Op.equalIn (d + 1) t u v).run P w = .ok b w := by
  unfold leafEq at h
  split at h
  · rename_i kk k a k' b' hu
    split at h
    · rename_i hk _
      subst hk
      cases h
      simp only [RepPV, RepD] at hp hq
      subst hp hq
      exact run_equalIn_int w d t k kk a b' hu
    · cases h
  · rename_i a b' hu
    cases h
    simp only [RepPV, RepD] at hp hq
    subst hp hq
    exact run_equalIn_string w d t a b' hu
  · rename_i a b' hu
    cases h
    simp only [RepPV, RepD] at hp hq
    subst hp hq
    exact run_equalIn_bool' w d t a b' hu
  · cases h

theorem run_part {t : TypeId} (ha : aggO P t = some false) {xs : Array Value} {i : Nat} {v : Value} (hv : xs[i]? = some v) : (part t xs i).run P w = .ok v w := by
  simp [part, run_isAgg ha, hv]

theorem flatEq_run {xs ys : Array Value} (d : Nat) : ∀ (fs : List Field) (i : Nat) (cs ds : List PV) (b : Bool), flatEq P fs i cs ds = some b → RepPVs w F ρ (info S) cs (xs.toList.drop i) → RepPVs w F ρ (info S) ds (ys.toList.drop i) →
    (Op.eqFields (d + 1) xs ys fs).run P w = .ok b w
  | [], i, [], [], b, h, _, _ => by simp only [flatEq, Option.some.injEq] at h; subst h; simp [Op.eqFields]
  | f :: fs, i, x :: cs, y :: ds, b, h, hx, hy => by
    simp only [flatEq] at h
    split at h
    · rename_i r1 r2 h1 h2 h3 h4 h5
      cases h
      have hoff := Nat.eq_of_beq_eq_true h1
      have hname : f.name ≠ "_" := by simpa using h2
      simp only [RepPVs] at hx hy
      obtain ⟨u, us, e1, _, e2, e3⟩ := hx
      obtain ⟨v, vs, g1, _, g2, g3⟩ := hy
      have hu : xs[i]? = some u := by
        have := congrArg (fun l => l[0]?) e1
        simpa using this
      have hv : ys[i]? = some v := by
        have := congrArg (fun l => l[0]?) g1
        simpa using this
      have eu : xs.toList.drop (i + 1) = us := by rw [← List.drop_drop, e1]; rfl
      have ev : ys.toList.drop (i + 1) = vs := by rw [← List.drop_drop, g1]; rfl
      have ih := flatEq_run d fs (i + 1) cs ds r2 h5 (by rw [eu]; exact e3) (by rw [ev]; exact g3)
      have hl := leafEq_run e2 g2 h4 d
      simp only [Op.eqFields]
      rw [if_pos hname]
      rw [← hoff] at hu hv
      simp only [Sem.run_bind, run_part h3 hu, run_part h3 hv, Result.andThen_ok, hl]
      cases r1 with
      | true => simpa using ih
      | false => simp
    · cases h
  | [], i, _ :: _, _, b, h, _, _ => by simp [flatEq] at h
  | [], i, [], _ :: _, b, h, _, _ => by simp [flatEq] at h
  | _ :: _, i, [], _, b, h, _, _ => by simp [flatEq] at h
  | _ :: _, i, _ :: _, [], b, h, _, _ => by simp [flatEq] at h

def eqP (P : Program) (t : TypeId) (yc : Bool) (p q : PV) : Option Bool := match q with
  | .d (.b b) => match p, boolA P t with
    | .d (.b a), true => some (a == b)
    | _, _ => none
  | .d .nilp => match p, ptrA P t with
    | .d .nilp, true => some true
    | .ptr _ _, true => some false
    | .dp _, true => some false
    | .eptr _ _ _ _ _, true => some false
    | _, _ => none
  | .d .nili => match p, ifaceA P t, yc with
    | .d .nili, true, true => some true
    | .d (.ifc _ _), true, _ => some false
    | _, _, _ => none
  | .nils => match p, sliceA' P t with
    | .nils, true => some true
    | .d (.sl (_ :: _)), true => some false
    | _, _ => none
  | .agg ds => match p with
    | .agg cs => structEq P t cs ds
    | _ => none
  | _ => none

theorem run_equal (t : TypeId) (u v : Value) {w : World} {ds : TypeDesc} (hu : P.underlying t = some ds) {r : Result Bool} (h : ∀ d, (Op.equalIn (d + 1) t u v).run P w = r) : (Op.equal t u v).run P w = r := h 9999

theorem eqP_rep {t : TypeId} {yc : Bool} {p q : PV} {b : Bool} {u v : Value} (hp : RepPV w F ρ (info S) p u) (hq : RepPV w F ρ (info S) q v) (h : eqP P t yc p q = some b) (op : BinOp) (hop : op = .eql ∨ op = .neq) {x y : Operand} (hy : yc = true → isConst y = true) :
    (do eqGuard op t x y u v; binOp op t u v : Sem Value).run P w = .ok (.bool (if op = .eql then b else !b)) w := by
  unfold eqP at h
  split at h
  · rename_i c
    split at h
    · rename_i a ht
      cases h
      simp only [RepPV, RepD] at hp hq
      subst hp hq
      have hu : P.underlying t = some .bool := by unfold boolA at ht; split at ht <;> simp_all
      have hr := run_equal (P := P) (w := w) t (.bool a) (.bool c) hu (r := .ok (a == c) w) (fun d => by simp [Op.equalIn, run_underlying hu])
      rcases hop with rfl | rfl <;> simp [eqGuard, binOp, hr]
    · cases h
  · have key : ∀ (u' : Option Addr) (b' : Bool), u = .pointer u' → b' = u'.isNone → P.underlying t = P.underlying t → ptrA P t = true → (do eqGuard op t x y u v; binOp op t u v : Sem Value).run P w = .ok (.bool (if op = .eql then b' else !b')) w := by
      intro u' b' e1 e2 _ ht
      simp only [RepPV, RepD] at hq
      subst e1 hq
      obtain ⟨el, hu⟩ : ∃ el, P.underlying t = some (.pointer el) := by unfold ptrA at ht; split at ht <;> simp_all
      have hr := run_equal (P := P) (w := w) t (.pointer u') (.pointer none) hu (r := .ok b' w) (fun d => by cases u' <;> simp [Op.equalIn, run_underlying hu, e2])
      rcases hop with rfl | rfl <;> simp [eqGuard, binOp, hr]
    split at h
    · rename_i ht; cases h; simp only [RepPV, RepD] at hp; exact key none true hp rfl rfl ht
    · rename_i o c ht; cases h; simp only [RepPV] at hp; obtain ⟨_, bb, e1, _⟩ := hp; exact key _ false e1 rfl rfl ht
    · rename_i cells ht; cases h; simp only [RepPV] at hp; obtain ⟨bb, off, e1, _⟩ := hp; exact key _ false e1 rfl rfl ht
    · rename_i o n r sz c ht; cases h; simp only [RepPV] at hp; obtain ⟨_, bb, off, e1, _⟩ := hp; exact key _ false e1 rfl rfl ht
    · cases h
  · simp only [RepPV, RepD] at hq
    subst hq
    split at h
    · have ht : ifaceA P t = true := by assumption
      cases h
      simp only [RepPV, RepD] at hp
      subst hp
      obtain ⟨ms, hu⟩ : ∃ ms, P.underlying t = some (.interface ms) := by unfold ifaceA at ht; split at ht <;> simp_all
      have hr := run_equal (P := P) (w := w) t .nilIface .nilIface hu (r := .ok true w) (fun d => by simp [Op.equalIn, run_underlying hu])
      obtain ⟨c, rfl⟩ : ∃ c, y = .const c := by have := hy rfl; cases y <;> simp [isConst] at this; exact ⟨_, rfl⟩
      rcases hop with rfl | rfl <;> simp [eqGuard, binOp, hr]
    · rename_i tx d ht
      cases h
      simp only [RepPV, RepD] at hp
      obtain ⟨z, rfl, _⟩ := hp
      obtain ⟨ms, hu⟩ : ∃ ms, P.underlying t = some (.interface ms) := by unfold ifaceA at ht; split at ht <;> simp_all
      have hr := run_equal (P := P) (w := w) t (.iface tx z) .nilIface hu (r := .ok false w) (fun d => by simp [Op.equalIn, run_underlying hu])
      rcases hop with rfl | rfl <;> simp [eqGuard, binOp, hr]
    · cases h
  · simp only [RepPV] at hq
    subst hq
    split at h
    · rename_i ht
      cases h
      simp only [RepPV] at hp
      subst hp
      obtain ⟨el, hu⟩ : ∃ el, P.underlying t = some (.slice el) := by unfold sliceA' at ht; split at ht <;> simp_all
      have hr := run_equal (P := P) (w := w) t (.slice none 0 0) (.slice none 0 0) hu (r := .ok true w) (fun d => by simp [Op.equalIn, run_underlying hu])
      rcases hop with rfl | rfl <;> simp [eqGuard, binOp, hr]
    · rename_i r rs ht
      cases h
      simp only [RepPV, RepD] at hp
      obtain ⟨a, len, cap, rfl, e1, e2, e3, e4, _⟩ := hp
      obtain ⟨ad, rfl⟩ : ∃ ad, a = some ad := by
        cases a with
        | none => have := e4 rfl; simp at e1; omega
        | some ad => exact ⟨ad, rfl⟩
      obtain ⟨el, hu⟩ : ∃ el, P.underlying t = some (.slice el) := by unfold sliceA' at ht; split at ht <;> simp_all
      have hr := run_equal (P := P) (w := w) t (.slice (some ad) len cap) (.slice none 0 0) hu (r := .ok false w) (fun d => by simp [Op.equalIn, run_underlying hu])
      rcases hop with rfl | rfl <;> simp [eqGuard, binOp, hr]
    · cases h
  · rename_i ds
    split at h
    · rename_i cs
      simp only [RepPV] at hp hq
      obtain ⟨xs, rfl, hx⟩ := hp
      obtain ⟨ys, rfl, hy⟩ := hq
      unfold structEq at h
      split at h
      · rename_i fs hu hst hg
        have hfs : P.fieldsOf t = fs := by unfold Program.fieldsOf; rw [hu]
        have hr : (Op.equalIn 10000 t (.agg xs) (.agg ys)).run P w = .ok b w := by
          rw [show (10000 : Nat) = 9998 + 1 + 1 from rfl, run_equalIn_struct w (9998 + 1) t xs ys (by rw [hfs]; exact hu) hst, hfs]
          exact flatEq_run 9998 fs.toList 0 cs ds b h (by simpa using hx) (by simpa using hy)
        rcases hop with rfl | rfl
        · rw [Sem.run_bind, run_eqGuard_agg w .eql t x y xs ys hg, Result.andThen_ok, run_eql_struct, hr]; rfl
        · rw [Sem.run_bind, run_eqGuard_agg w .neq t x y xs ys hg, Result.andThen_ok, run_neq_struct, hr]; rfl
      · cases h
    · cases h
  · cases h

/-- A binary operation, told of. -/
def binP (P : Program) (op : BinOp) (t : TypeId) (yc : Bool) (p q : PV) : Option D := match op with
  | .eql => match eqP P t yc p q with
    | some b => some (.b b)
    | none => match p, q with
      | .d a, .d b => binD .eql a b
      | _, _ => none
  | .neq => match eqP P t yc p q with
    | some b => some (.b (!b))
    | none => match p, q with
      | .d a, .d b => binD .neq a b
      | _, _ => none
  | op => match p, q with
    | .d a, .d b => binD op a b
    | _, _ => none

theorem binP_cases {op : BinOp} {t : TypeId} {yc : Bool} {p q : PV} {d : D} (h : binP P op t yc p q = some d) : (∃ b, (op = .eql ∨ op = .neq) ∧ eqP P t yc p q = some b ∧ d = .b (if op = .eql then b else !b)) ∨ ∃ a b, p = .d a ∧ q = .d b ∧ binD op a b = some d := by
  have key : ∀ op, (match p, q with | .d a, .d b => binD op a b | _, _ => none : Option D) = some d → ∃ a b, p = .d a ∧ q = .d b ∧ binD op a b = some d := by
    intro op h
    split at h
    · exact ⟨_, _, rfl, rfl, h⟩
    · cases h
  unfold binP at h
  split at h
  · split at h
    · rename_i b hb; cases h; exact .inl ⟨b, .inl rfl, hb, rfl⟩
    · exact .inr (key _ h)
  · split at h
    · rename_i b hb; cases h; exact .inl ⟨b, .inr rfl, hb, rfl⟩
    · exact .inr (key _ h)
  · exact .inr (key _ h)

theorem ok_binP (h : St w0 F0 mods F ρ S w) {op : BinOp} {t : TypeId} {x y : Operand} {p q : PV} {d : D} {u v : Value} (hp : RepPV w F ρ (info S) p u) (hq : RepPV w F ρ (info S) q v) {yc : Bool} (hy : yc = true → isConst y = true) (hd : binP P op t yc p q = some d)
    (hK : K (.d d) S) : OpOk P (do pure (.value (← (do eqGuard op t x y u v; binOp op t u v)))) w0 F0 mods F ρ S w K := by
  rcases binP_cases hd with ⟨b, hop, h1, rfl⟩ | ⟨a, b, rfl, rfl, h1⟩
  · have hr := eqP_rep (x := x) hp hq h1 op hop hy
    exact .value h (v := .bool (if op = .eql then b else !b)) (by rw [Sem.run_bind, hr]; rfl) (by simp [RepPV, RepD]) hK
  · exact ok_bin h hp hq h1 hK

/-- A slice against nil, where it is not known whether there is one: either answer may come, but rows are never nil. -/
theorem nil_rep {t : TypeId} {u : Value} {n : Nat} {p : PV} (hp : RepPV w F ρ (info S) p u) (ht : sliceA' P t = true) (hn : lenPV p = some n) (hs : ∀ x, p ≠ .d (.s x)) (op : BinOp) (hop : op = .eql ∨ op = .neq) {x y : Operand} :
    ∃ b, (b = true → n = 0 ∨ ∃ o sz, p = .own o sz n) ∧ (p = .nils → b = true) ∧ (do eqGuard op t x y u (.slice none 0 0); binOp op t u (.slice none 0 0) : Sem Value).run P w = .ok (.bool (if op = .eql then b else !b)) w := by
  obtain ⟨el, hu⟩ : ∃ el, P.underlying t = some (.slice el) := by unfold sliceA' at ht; split at ht <;> simp_all
  obtain ⟨a, c, rfl, hz, hni⟩ : ∃ a c, u = .slice a n c ∧ (a = none → n = 0 ∨ ∃ o sz, p = .own o sz n) ∧ (p = .nils → a = none) := by
    cases p <;> simp [lenPV] at hn
    case d x =>
      cases x <;> simp at hn
      case s x => exact absurd rfl (hs x)
      case sl rows =>
        subst hn
        simp only [RepPV, RepD] at hp
        obtain ⟨a, l, c, rfl, rfl, h1, h2, h3, _⟩ := hp
        exact ⟨a, c, rfl, fun e => .inl (by have := h3 e; omega), by simp⟩
    case nils => subst hn; simp only [RepPV] at hp; exact ⟨none, 0, hp, fun _ => .inl rfl, fun _ => rfl⟩
    case own o sz m => subst hn; simp only [RepPV] at hp; obtain ⟨_, a, c, rfl, _⟩ := hp; exact ⟨a, c, rfl, fun _ => .inr ⟨o, sz, rfl⟩, by simp⟩
  have hr := run_equal (P := P) (w := w) t (.slice a n c) (.slice none 0 0) hu (r := .ok a.isNone w) (fun d => by cases a <;> simp [Op.equalIn, run_underlying hu])
  refine ⟨a.isNone, fun e => hz (by simpa using e), fun e => by rw [hni e]; rfl, ?_⟩
  rcases hop with rfl | rfl <;> simp [eqGuard, binOp, hr]

theorem ok_not (h : St w0 F0 mods F ρ S w) {b : Bool} {v : Value} (hv : RepPV w F ρ (info S) (.d (.b b)) v) (hK : K (.d (.b (!b))) S) :
    OpOk P (do pure (.value (← Op.unary .not v))) w0 F0 mods F ρ S w K := by
  simp only [RepPV, RepD] at hv
  subst hv
  exact .value h (v := .bool (!b)) (by simp [Op.unary]) (by simp [RepPV, RepD]) hK

theorem ok_neg (h : St w0 F0 mods F ρ S w) {k : IntKind} {n : Int} {v : Value} (hv : RepPV w F ρ (info S) (.d (.i k n)) v) (hK : K (.d (.i k (k.wrap (0 - n)))) S) :
    OpOk P (do pure (.value (← Op.unary .neg v))) w0 F0 mods F ρ S w K := by
  simp only [RepPV, RepD] at hv
  subst hv
  exact .value h (v := .int k (k.wrap (0 - n))) (by simp [Op.unary, Op.intArith]) (by simp [RepPV, RepD]) hK

/-- Numbers from kind to kind. -/
theorem ok_conv_int (h : St w0 F0 mods F ρ S w) {s t : TypeId} {k j k' : IntKind} {n : Int} {v : Value} (hs : P.underlying s = some (.int j)) (ht : P.underlying t = some (.int k')) (hv : RepPV w F ρ (info S) (.d (.i k n)) v)
    (hK : K (.d (.i k' (k'.wrap n))) S) : OpOk P (do pure (.value (← convert s t v))) w0 F0 mods F ρ S w K := by
  simp only [RepPV, RepD] at hv
  subst hv
  exact .value h (v := .int k' (k'.wrap n)) (by simp [convert, run_underlying hs, run_underlying ht, Conv.intToInt]) (by simp [RepPV, RepD]) hK

theorem ok_conv_str (h : St w0 F0 mods F ρ S w) {s t : TypeId} {x : ByteArray} {v : Value} (hs : P.underlying s = some .string) (ht : P.underlying t = some .string) (hv : RepPV w F ρ (info S) (.d (.s x)) v)
    (hK : K (.d (.s x)) S) : OpOk P (do pure (.value (← convert s t v))) w0 F0 mods F ρ S w K := by
  simp only [RepPV, RepD] at hv
  subst hv
  exact .value h (v := .string x) (by simp [convert, run_underlying hs, run_underlying ht]) (by simp [RepPV, RepD]) hK

theorem ok_extract (h : St w0 F0 mods F ρ S w) {vs : List PV} {i : Nat} {p : PV} {v : Value} (hv : RepPV w F ρ (info S) (.tup vs) v) (hi : vs[i]? = some p) (hK : K p S) :
    OpOk P (do pure (.value (← Instr.extract v i))) w0 F0 mods F ρ S w K := by
  simp only [RepPV] at hv
  obtain ⟨arr, rfl, ht⟩ := hv
  obtain ⟨u, h1, h2⟩ := ht.get hi
  have h1' : arr[i]? = some u := by simpa using h1
  exact .value h (v := u) (by simp [Instr.extract, h1']) h2 hK

/-- A byte of a string. -/
theorem ok_index_str (h : St w0 F0 mods F ρ S w) {t : TypeId} (hu : P.underlying t = some .string) {x : ByteArray} {k : IntKind} {i : Int} {v : Value} (hv : RepPV w F ρ (info S) (.d (.s x)) v) (h0 : 0 ≤ i) (h1 : i < x.size)
    (hK : K (.d (.i .u8 (x.data.getD i.toNat 0).toNat)) S) : OpOk P (do pure (.value (← Instr.index t v (.int k i)))) w0 F0 mods F ρ S w K := by
  simp only [RepPV, RepD] at hv
  subst hv
  have hlt : i.toNat < x.size := by omega
  have hg : x[i.toNat]? = some (x.data.getD i.toNat 0) := by
    have : i.toNat < x.data.size := hlt
    simp [getElem?_pos, hlt, this, ByteArray.getElem_eq_getElem_data]
  exact .value h (v := .int .u8 (x.data.getD i.toNat 0).toNat) (by simp [Instr.index, asIntOf, run_underlying hu, h0, hg]) (by simp [RepPV, RepD]) hK

theorem ok_iface (h : St w0 F0 mods F ρ S w) {t : TypeId} {d : TypeDesc} (hu : P.underlying t = some d) (hd : ∀ ms, d ≠ .interface ms) {p : PV} {x : D} {v : Value} (hv : RepPV w F ρ (info S) p v) (hp : p.toDA = some x)
    (hK : K (.d (.ifc t x)) S) : OpOk P (do pure (.value (← Instr.makeInterface t v))) w0 F0 mods F ρ S w K := by
  have hr := PV.toDA_rep hp hv
  refine .value h (v := .iface t v) ?_ (by simp only [RepPV, RepD]; exact ⟨v, rfl, hr⟩) hK
  cases d <;> simp_all [Instr.makeInterface, run_underlying hu]

end
end Go.Aw

/- Slicing, literals, make, conversions between texts and bytes. -/
set_option linter.unusedVariables false
set_option linter.unusedSimpArgs false
namespace Go.Aw

/-- A list cut into so many rows. -/
def chunks {α : Type} (sz : Nat) : Nat → List α → List (List α)
  | 0, _ => []
  | n + 1, l => l.take sz :: chunks sz n (l.drop sz)

theorem chunks_flatten {α : Type} {sz : Nat} : ∀ {n : Nat} {l : List α}, l.length = n * sz → (chunks sz n l).flatten = l
  | 0, l, h => by simp at h; simp [chunks, h]
  | n + 1, l, h => by
    simp only [chunks, List.flatten_cons]
    rw [chunks_flatten (by simp [h, Nat.add_mul]), List.take_append_drop]

theorem chunks_length {α : Type} {sz : Nat} : ∀ {n : Nat} {l : List α}, (chunks sz n l).length = n
  | 0, l => rfl
  | n + 1, l => by simp [chunks, chunks_length]

theorem getElem?_foldl_put (off : Nat) : ∀ (vs : List Value) (k : Nat) (cs : Array Value) (m : Nat),
    ((vs.zipIdx k).foldl (fun (cs : Array Value) (x : Value × Nat) => cs.setIfInBounds (off + x.2) x.1) cs)[m]? = if off + k ≤ m ∧ m < off + k + vs.length ∧ m < cs.size then vs[m - off - k]? else cs[m]?
  | [], k, cs, m => by simp; intro h1 h2; omega
  | v :: r, k, cs, m => by
    simp only [List.zipIdx_cons, List.foldl_cons]
    rw [getElem?_foldl_put off r (k + 1)]
    simp only [Array.size_setIfInBounds, List.length_cons]
    by_cases h1 : m = off + k
    · subst h1
      by_cases h2 : off + k < cs.size
      · rw [if_neg (by omega), if_pos (by omega)]
        simp [h2]
      · rw [if_neg (by omega), if_neg (by omega)]
        simp [h2]
    · rw [Array.getElem?_setIfInBounds_ne (by omega)]
      by_cases h2 : off + (k + 1) ≤ m ∧ m < off + (k + 1) + r.length ∧ m < cs.size
      · rw [if_pos h2, if_pos (by omega)]
        obtain ⟨j, hj⟩ : ∃ j, m - off - k = j + 1 := ⟨m - off - k - 1, by omega⟩
        rw [hj, List.getElem?_cons_succ]
        congr 1; omega
      · rw [if_neg h2, if_neg (by omega)]

def fillA (place : Nat → Option (Nat × Nat)) : List PV → List (Nat × PV) → Option (List PV)
  | cs, [] => some cs
  | cs, (i, p) :: r => match place i, p.cellsOf with
    | some (off, size), some ps => if ps.length = size ∧ off + size ≤ cs.length then fillA place (splice cs off ps) r else none
    | _, _ => none

section
variable {P : Program} {w0 : World} {F0 mods F : Nat → Prop} {ρ : Nat → Option Nat} {S : Heap} {w : World} {K : PV → Heap → Prop}

theorem RepPVs.splice {C : Nat → OI} {cs ps : List PV} {vs us : List Value} (h : RepPVs w F ρ C cs vs) (h' : RepPVs w F ρ C ps us) {off : Nat} (hl : off + ps.length ≤ cs.length) {zs : List Value}
    (hz : ∀ m : Nat, zs[m]? = if off ≤ m ∧ m < off + us.length ∧ m < vs.length then us[m - off]? else vs[m]?) (hzl : zs.length = vs.length) : RepPVs w F ρ C (Aw.splice cs off ps) zs := by
  refine RepPVs.mk (by rw [hzl, h.length, splice_length _ _ _ hl]) fun j d v hd hv => ?_
  rw [splice_get _ _ _ hl] at hd
  rw [hz] at hv
  have e1 := h.length
  have e2 := h'.length
  by_cases hj : off ≤ j ∧ j < off + ps.length
  · rw [if_pos hj] at hd
    rw [if_pos (by omega)] at hv
    obtain ⟨u, h1, h2, h3⟩ := h'.get hd
    rw [h1] at hv; cases hv
    exact ⟨h2, h3⟩
  · rw [if_neg hj] at hd
    rw [if_neg (by omega)] at hv
    obtain ⟨u, h1, h2, h3⟩ := h.get hd
    rw [h1] at hv; cases hv
    exact ⟨h2, h3⟩

/-- Parts of a literal, as they stand in the slots. -/
inductive Parts (w : World) (F : Nat → Prop) (ρ : Nat → Option Nat) (C : Nat → OI) : List (Nat × PV) → List (Nat × Value) → Prop
  | nil : Parts w F ρ C [] []
  | cons {i : Nat} {p : PV} {v : Value} {ps : List (Nat × PV)} {vs : List (Nat × Value)} : RepPV w F ρ C p v → Parts w F ρ C ps vs → Parts w F ρ C ((i, p) :: ps) ((i, v) :: vs)

theorem fill_rep {C : Nat → OI} (place : Nat → Option (Nat × Nat)) : ∀ {pps : List (Nat × PV)} {parts : List (Nat × Value)} {cs cs' : List PV} {cells : Array Value},
    Parts w F ρ C pps parts → RepPVs w F ρ C cs cells.toList → fillA place cs pps = some cs' → ∃ cells', Instr.fill place cells parts = some cells' ∧ RepPVs w F ρ C cs' cells'.toList
  | _, _, cs, cs', cells, .nil, hc, hf => by
    simp only [fillA, Option.some.injEq] at hf
    subst hf
    exact ⟨cells, rfl, hc⟩
  | _, _, cs, cs', cells, .cons (i := i) (p := p) (v := v) hp hr, hc, hf => by
    simp only [fillA] at hf
    split at hf
    · rename_i off size ps hpl hps
      split at hf
      · rename_i hcond
        have hv := PV.cellsOf_rep hps hp
        have hvl : v.cells.size = ps.length := by have := hv.length; simpa using this
        have hcl : cells.size = cs.length := by have := hc.length; simpa using this
        have hcond1 := hcond.1
        have hcond2 := hcond.2
        have hsp := hc.splice hv (off := off) (by omega) (zs := (v.cells.zipIdx.foldl (fun (cs : Array Value) (x : Value × Nat) => cs.setIfInBounds (off + x.2) x.1) cells).toList)
          (fun m => by
            rw [← Array.foldl_toList, Array.toList_zipIdx, Array.getElem?_toList, getElem?_foldl_put]
            simp) (by
            have hsz : ∀ (l : List (Value × Nat)) (a : Array Value), (l.foldl (fun (cs : Array Value) (x : Value × Nat) => cs.setIfInBounds (off + x.2) x.1) a).size = a.size := by
              intro l
              induction l with
              | nil => intro a; rfl
              | cons x r ih => intro a; simp [ih]
            rw [← Array.foldl_toList]
            simp [hsz])
        obtain ⟨cells', h1, h2⟩ := fill_rep place hr hsp hf
        refine ⟨cells', ?_, h2⟩
        simp only [Instr.fill, hpl]
        rw [if_neg (by simp; omega)]
        exact h1
      · cases hf
    · cases hf

/-- A value's zero, so many times. -/
theorem zeros_rep {C : Nat → OI} {zs : List PV} {z : Array Value} (h : RepPVs w F ρ C zs z.toList) (hpos : 0 < zs.length) (n : Nat) :
    RepPVs w F ρ C (List.replicate n zs).flatten ((Array.range (n * zs.length)).map (z[· % z.size]!)).toList := by
  have hl : AllLen zs.length (List.replicate n zs) := fun r hr => by rw [List.eq_of_mem_replicate hr]
  have hzl : z.size = zs.length := by have := h.length; simpa using this
  refine RepPVs.mk (by rw [hl.flatten]; simp) fun j d v hd hv => ?_
  have hj : j < n * zs.length := by
    have := (List.getElem?_eq_some_iff.1 hd).1
    rwa [hl.flatten, List.length_replicate] at this
  have hdiv : j / zs.length < n := (Nat.div_lt_iff_lt_mul hpos).2 hj
  have hmod : j % zs.length < zs.length := Nat.mod_lt _ hpos
  have hget := hl.get (i := j / zs.length) (r := zs) (by simp [hdiv]) (j % zs.length) hmod
  rw [Nat.div_add_mod'] at hget
  rw [hget] at hd
  obtain ⟨u, h1, h2, h3⟩ := h.get hd
  have hv' : v = z[j % z.size]! := by
    simp only [Array.toList_map, Array.toList_range, List.getElem?_map] at hv
    rw [List.getElem?_range hj] at hv
    simpa using hv.symm
  have : z[j % z.size]! = u := by
    rw [hzl]
    have hlt : j % zs.length < z.size := by omega
    rw [getElem!_pos z _ hlt]
    have h1' : z[j % zs.length]? = some u := by simpa using h1
    rw [Array.getElem?_eq_getElem hlt] at h1'
    simpa using h1'
  rw [hv', this]
  exact ⟨h2, h3⟩

theorem fresh_data {C : Nat → OI} {T : TypeId} {arr : Array Value} (h : St w0 F0 mods F ρ S w) {ds : List D} (hd : RepL w F ds arr.toList) : RepAt (push w arr T) (Plus F w.heap.size) w.heap.size 0 ds :=
  RepAt.mk fun j d hj => by
    obtain ⟨v, h1, h2, h3⟩ := hd.get hj
    refine ⟨.inr rfl, v, ?_, h2, h3.mono (h.keeps_data arr T).same (h.keeps_data arr T).sub⟩
    rw [cell_of (get_push w arr T)]
    simpa using h1

/-- A slice literal: data in a new block. -/
theorem ok_buildSlice (h : St w0 F0 mods F ρ S w) {t e : TypeId} (hu : elO P t = some e) {sz : Nat} (hs : szO P e = some sz) {zs : List PV} (hz : zO P e = some zs) (hzs : zs.length = sz) (hpos : 0 < sz)
    {len : Nat} {pps : List (Nat × PV)} {parts : Array (Nat × Value)} (hp : Parts w F ρ (info S) pps parts.toList) {cs : List PV} (hf : fillA (fun i => some (i * sz, sz)) (List.replicate len zs).flatten pps = some cs)
    (hbig : len * sz ≤ 16777216) {ds : List D} (hd : toDs cs = some ds) (hdl : ds.length = len * sz) (hK : K (.d (.sl (chunks sz len ds))) S) :
    OpOk P (do pure (.value (← Instr.buildSlice t len parts))) w0 F0 mods F ρ S w K := by
  have hut := elO_under hu
  obtain ⟨i, z, hii, hzi, hrz⟩ := zO_rep (w := w) (F := F) (ρ := ρ) (C := info S) hz
  have hzl : z.cells.size = zs.length := by have := hrz.length; simpa using this
  obtain ⟨cells', h1, h2⟩ := fill_rep _ hp (zeros_rep hrz (by omega) len) hf
  have hL := toDs_rep hd h2
  refine ⟨_, .slice (some ⟨w.heap.size, 0, none⟩) len len, push w cells' e, _, S, Plus F w.heap.size, ρ, ?_, .inl rfl, hK, ?_, h.data cells' e, h.keeps_data cells' e⟩
  · have hn : ¬ (2 ^ 24 < len * sz) := by omega
    rw [hzs] at h1
    by_cases h0 : len * sz = 0
    · rw [h0] at h1
      have e0 : ∀ f : Nat → Value, (Array.range 0).map f = #[] := fun f => by rw [Array.range_zero', Array.map_empty]
      rw [e0] at h1
      simp [Instr.buildSlice, run_underlying hut, run_size hs, h0, newRow, Array.range_zero', h1]
      rfl
    · simp [Instr.buildSlice, run_underlying hut, run_size hs, hn, h0, newRow, zeroValue, typeInfo, hii, hzi, h1]
      rfl
  · simp only [RepPV, RepD]
    refine ⟨_, len, len, rfl, by rw [chunks_length], Nat.le_refl _, ?_, (fun h => by cases h), fun ad had => ?_⟩
    · unfold maxLen
      have : len * 1 ≤ len * sz := Nat.mul_le_mul_left _ hpos
      omega
    · cases had
      refine ⟨fun _ => rfl, RepRows.of_flat ?_⟩
      rw [chunks_flatten hdl]
      exact fresh_data (C := info S) h hL
end
end Go.Aw

/- Struct literals, make, slicing. -/
set_option linter.unusedVariables false
set_option linter.unusedSimpArgs false
namespace Go.Aw

/-- Where the fields of a struct lie, and how large they are. -/
def plL (P : Program) : List Field → Option (List (Nat × Nat))
  | [] => some []
  | f :: r => match szO P f.type, plL P r with
    | some n, some l => some ((f.offset, n) :: l)
    | _, _ => none
def plO (P : Program) (t : TypeId) : Option (List (Nat × Nat)) := match P.underlying t with
  | some (.struct fs) => plL P fs.toList
  | _ => none

section
variable {P : Program} {w0 : World} {F0 mods F : Nat → Prop} {ρ : Nat → Option Nat} {S : Heap} {w : World} {K : PV → Heap → Prop}

theorem run_places : ∀ {fs : List Field} {l : List (Nat × Nat)}, plL P fs = some l → (fs.mapM fun f => do pure (f.offset, ← sizeOf f.type) : Sem (List (Nat × Nat))).run P w = .ok l w
  | [], l, h => by simp only [plL, Option.some.injEq] at h; subst h; rfl
  | f :: r, l, h => by
    simp only [plL] at h
    split at h
    · rename_i n l' h1 h2
      cases h
      have ih := run_places h2
      simp only [List.mapM_cons, Sem.run_bind, run_size h1, Result.andThen_ok, Sem.run_pure, ih]
    · cases h

theorem ok_build (h : St w0 F0 mods F ρ S w) {t : TypeId} {pl : List (Nat × Nat)} (hp : plO P t = some pl) {zs : List PV} (hz : zO P t = some zs) {pps : List (Nat × PV)} {parts : Array (Nat × Value)} (hq : Parts w F ρ (info S) pps parts.toList)
    {cs : List PV} (hf : fillA (fun i => pl[i]?) zs pps = some cs) (hK : K (.agg cs) S) : OpOk P (do pure (.value (← Instr.build t parts))) w0 F0 mods F ρ S w K := by
  obtain ⟨i, z, hii, hzi, hrz⟩ := zO_rep (w := w) (F := F) (ρ := ρ) (C := info S) hz
  obtain ⟨cells', h1, h2⟩ := fill_rep _ hq hrz hf
  unfold plO at hp
  split at hp
  · rename_i fs hu
    have hpl := run_places (w := w) hp
    have hm : (fs.mapM fun f => do pure (f.offset, ← sizeOf f.type) : Sem (Array (Nat × Nat))).run P w = .ok pl.toArray w := by
      rw [Array.mapM_eq_mapM_toList]
      simp only [Sem.run_map, hpl, Result.andThen_ok]
    refine .value h (v := .agg cells') ?_ (by simp only [RepPV]; exact ⟨cells', rfl, h2⟩) hK
    have h1' : Instr.fill (fun x => pl.toArray[x]?) z.cells parts.toList = some cells' := by simpa using h1
    simp only [Instr.build, Sem.run_bind, zeroValue, typeInfo, run_program, hii, hzi, Result.andThen_ok, Sem.run_pure, run_underlying hu, hm, h1']
  · cases hp

/-- make: a row of zeros of the call's own. -/
theorem ok_make (h : St w0 F0 mods F ρ S w) {t e : TypeId} (hu : elO P t = some e) {sz by_ : Nat} (hs : szO P e = some sz) (hby : byO P e = some by_) {zs : List PV} (hz : zO P e = some zs) (hzs : zs.length = sz) (hpos : 0 < sz)
    {k k' : IntKind} {l c : Int} {lv cv : Value} (hl : RepPV w F ρ (info S) (.d (.i k l)) lv) (hc : RepPV w F ρ (info S) (.d (.i k' c)) cv) (h0 : 0 ≤ l) (h1 : l ≤ c) (hb : by_ * c ≤ 281474976710656) (h63 : c ≤ 9223372036854775807)
    (hK : K (.own S.length sz l.toNat) (S ++ [.buf (List.replicate l.toNat zs)])) : OpOk P (do pure (.value (← Instr.makeSlice t lv cv))) w0 F0 mods F ρ S w K := by
  simp only [RepPV, RepD] at hl hc
  subst hl hc
  have hut := elO_under hu
  obtain ⟨i, z, hii, hzi, hrz⟩ := zO_rep (w := w) (F := F) (ρ := ρ) (C := info S) hz
  have hzl : z.cells.size = zs.length := by have := hrz.length; simpa using this
  have hiby : i.bytes = by_ := by simpa [byO, hii] using hby
  have hwl : IntKind.i64.wrap l = l := by simp [IntKind.wrap, IntKind.signed, IntKind.bits]; omega
  have hwc : IntKind.i64.wrap c = c := by simp [IntKind.wrap, IntKind.signed, IntKind.bits]; omega
  let arr : Array Value := (Array.range (c.toNat * sz)).map (z.cells[· % z.cells.size]!)
  have hrep : RepPVs w F ρ (info S) (List.replicate c.toNat zs).flatten arr.toList := by
    have := zeros_rep hrz (by omega) c.toNat
    rw [hzs] at this
    exact this
  have hlen : AllLen sz (List.replicate l.toNat zs) := fun r hr => by rw [List.eq_of_mem_replicate hr]; exact hzs
  have hpre : RepPre w F ρ (info S) (List.replicate l.toNat zs).flatten arr := by
    intro j p hj
    refine hrep.pre (arr := arr) (fun j v h => by simpa using h) j p ?_
    have : List.replicate c.toNat zs = List.replicate l.toNat zs ++ List.replicate (c.toNat - l.toNat) zs := by rw [List.replicate_append_replicate]; congr 1; omega
    rw [this, List.flatten_append, List.getElem?_append_left (List.getElem?_eq_some_iff.1 hj).1]
    exact hj
  have hk := h.keeps_push arr e (.buf (List.replicate l.toNat zs))
  refine ⟨_, .slice (some ⟨w.heap.size, 0, none⟩) l.toNat c.toNat, push w arr e, _, _, F, _, ?_, .inl rfl, hK, ?_, h.push arr e (.buf (List.replicate l.toNat zs)) (by simp) (fun _ _ _ _ e => by cases e) (hpre.keeps hk), hk⟩
  · have n1 : ¬ (c < 0 ∨ (281474976710656 : Int) < (by_ : Int) * c) := by omega
    have n2 : ¬ (l < 0) := by omega
    have n3 : ¬ (c < l) := by omega
    have n4 : ¬ (c < 0) := by omega
    have n5 : ¬ ((281474976710656 : Int) < (by_ : Int) * c) := by omega
    by_cases hz0 : c.toNat * sz = 0
    · have ha : arr = #[] := by show (Array.range (c.toNat * sz)).map _ = #[]; rw [hz0, Array.range_zero', Array.map_empty]
      simp [Instr.makeSlice, run_underlying hut, asInt, asIntOf, typeInfo, hii, hiby, hwl, hwc, n2, n3, n4, n5, run_size hs, hz0, newRow, Array.range_zero', ha]
      rfl
    · simp [Instr.makeSlice, run_underlying hut, asInt, asIntOf, typeInfo, hii, hiby, hwl, hwc, n2, n3, n4, n5, run_size hs, hz0, newRow, zeroValue, hzi]
      rfl
  · simp only [RepPV]
    have hinf : info (S ++ [.buf (List.replicate l.toNat zs)]) S.length = .buf l.toNat := by simp [info, Ob.info]
    refine ⟨by rw [hinf]; simp, _, c.toNat, rfl, fun m hm => ?_⟩
    rw [hinf] at hm
    cases hm
    refine ⟨Nat.le_refl _, fun _ => .inr ⟨w.heap.size, by simp [Rho], rfl, by omega, by unfold maxLen; omega, ?_⟩⟩
    have hbs : blockSize (push w arr e) w.heap.size = arr.size := by simp [blockSize, get_push]
    rw [hbs]
    simp [arr]

/-- A slice literal as an object of the call's own: it may be written to, and appended to. -/
theorem ok_buildOwn (h : St w0 F0 mods F ρ S w) {t e : TypeId} (hu : elO P t = some e) {sz : Nat} (hs : szO P e = some sz) {zs : List PV} (hz : zO P e = some zs) (hzs : zs.length = sz) (hpos : 0 < sz)
    {len : Nat} {pps : List (Nat × PV)} {parts : Array (Nat × Value)} (hp : Parts w F ρ (info S) pps parts.toList) {cs : List PV} (hf : fillA (fun i => some (i * sz, sz)) (List.replicate len zs).flatten pps = some cs)
    (hbig : len * sz ≤ 16777216) (hdl : cs.length = len * sz) (hK : K (.own S.length sz len) (S ++ [.buf (chunks sz len cs)])) :
    OpOk P (do pure (.value (← Instr.buildSlice t len parts))) w0 F0 mods F ρ S w K := by
  have hut := elO_under hu
  obtain ⟨i, z, hii, hzi, hrz⟩ := zO_rep (w := w) (F := F) (ρ := ρ) (C := info S) hz
  have hzl : z.cells.size = zs.length := by have := hrz.length; simpa using this
  obtain ⟨cells', h1, h2⟩ := fill_rep _ hp (zeros_rep hrz (by omega) len) hf
  have hcl : cells'.size = cs.length := by have := h2.length; simpa using this
  have hrows : (chunks sz len cs).length = len := chunks_length
  have hpre : RepPre w F ρ (info S) (chunks sz len cs).flatten cells' := by
    rw [chunks_flatten hdl]
    exact h2.pre (arr := cells') (fun j v h => by simpa using h)
  have hk := h.keeps_push cells' e (.buf (chunks sz len cs))
  refine ⟨_, .slice (some ⟨w.heap.size, 0, none⟩) len len, push w cells' e, _, _, F, _, ?_, .inl rfl, hK, ?_, h.push cells' e (.buf (chunks sz len cs)) (by simp) (fun _ _ _ _ e => by cases e) (hpre.keeps hk), hk⟩
  · have hn : ¬ (2 ^ 24 < len * sz) := by omega
    rw [hzs] at h1
    by_cases h0 : len * sz = 0
    · rw [h0] at h1
      have e0 : ∀ f : Nat → Value, (Array.range 0).map f = #[] := fun f => by rw [Array.range_zero', Array.map_empty]
      rw [e0] at h1
      simp [Instr.buildSlice, run_underlying hut, run_size hs, h0, newRow, Array.range_zero', h1]
      rfl
    · simp [Instr.buildSlice, run_underlying hut, run_size hs, hn, h0, newRow, zeroValue, typeInfo, hii, hzi, h1]
      rfl
  · simp only [RepPV]
    have hinf : info (S ++ [.buf (chunks sz len cs)]) S.length = .buf len := by simp [info, Ob.info, hrows]
    refine ⟨by rw [hinf]; simp, _, len, rfl, fun m hm => ?_⟩
    rw [hinf] at hm
    cases hm
    refine ⟨Nat.le_refl _, fun _ => .inr ⟨w.heap.size, by simp [Rho], rfl, Nat.le_refl _, ?_, ?_⟩⟩
    · unfold maxLen
      have : len * 1 ≤ len * sz := Nat.mul_le_mul_left _ hpos
      omega
    · have hbs : blockSize (push w cells' e) w.heap.size = cells'.size := by simp [blockSize, get_push]
      rw [hbs, hcl, hdl]
      exact Nat.le_refl _

/-- The bound of a slice expression. -/
def bndA (o : Option PV) (y : Nat) (dflt : Nat) : Option Nat := match o with
  | none => some dflt
  | some (.d (.i _ n)) => if 0 ≤ n ∧ n ≤ y then some n.toNat else none
  | _ => none

theorem run_bound {o : PV} {v : Value} {y d l : Nat} {code : BoundsCode} (hv : RepPV w F ρ (info S) o v) (hb : bndA (some o) y d = some l) : (Instr.sliceBound v y code).run P w = .ok l w ∧ l ≤ y := by
  unfold bndA at hb
  split at hb
  · rename_i h; cases h
  · rename_i k n he
    cases he
    split at hb
    · rename_i hc
      cases hb
      simp only [RepPV, RepD] at hv
      subst hv
      exact ⟨by simp [Instr.sliceBound, asIntOf, hc], by omega⟩
    · cases hb
  · cases hb

/-- An operand that need not be there. -/
def RepO (w : World) (F : Nat → Prop) (ρ : Nat → Option Nat) (C : Nat → OI) : Option PV → Option Value → Prop
  | none, none => True
  | some p, some v => RepPV w F ρ C p v
  | _, _ => False

theorem run_bounds (b : Bool) {len cap : Nat} (hlc : len ≤ cap) {lo hi : Option PV} {lv hv : Option Value} (h1 : RepO w F ρ (info S) lo lv) (h2 : RepO w F ρ (info S) hi hv) {l m : Nat}
    (e2 : bndA hi len len = some m) (e1 : bndA lo m 0 = some l) : (Instr.sliceBounds b len cap lv hv none).run P w = .ok (l, m, cap) w ∧ l ≤ m ∧ m ≤ len := by
  have hm : m ≤ len := by
    cases hi with
    | none => simp [bndA] at e2; omega
    | some p =>
      cases hv with
      | none => exact h2.elim
      | some v => exact (run_bound (P := P) (code := .index) h2 e2).2
  cases lo <;> cases lv <;> simp only [RepO] at h1 <;> cases hi <;> cases hv <;> simp only [RepO] at h2
  case none.none.none.none =>
    simp [bndA] at e1 e2
    subst e1 e2
    exact ⟨by simp [Instr.sliceBounds], by omega, hm⟩
  case none.none.some.some p v =>
    obtain rfl : 0 = l := by simpa only [bndA, Option.some.injEq] using e1
    have e2' : bndA (some p) cap len = some m := by
      unfold bndA at e2 ⊢
      split at e2
      · rename_i h; cases h
      · rename_i k n he; cases he
        split at e2
        · rename_i hc; rw [if_pos (by omega)]; exact e2
        · cases e2
      · cases e2
    have hr := fun code => (run_bound (P := P) (code := code) h2 e2').1
    exact ⟨by simp [Instr.sliceBounds, hr], by omega, hm⟩
  case some.some.none.none p v =>
    obtain rfl : len = m := by simpa only [bndA, Option.some.injEq] using e2
    have hr := fun code => run_bound (P := P) (code := code) h1 e1
    exact ⟨by simp [Instr.sliceBounds, fun code => (hr code).1], (hr .index).2, hm⟩
  case some.some.some.some p v q u =>
    have e2' : bndA (some q) cap len = some m := by
      unfold bndA at e2 ⊢
      split at e2
      · rename_i h; cases h
      · rename_i k n he; cases he
        split at e2
        · rename_i hc; rw [if_pos (by omega)]; exact e2
        · cases e2
      · cases e2
    have hr := fun code => run_bound (P := P) (code := code) h1 e1
    have hr2 := fun code => (run_bound (P := P) (code := code) h2 e2').1
    exact ⟨by simp [Instr.sliceBounds, fun code => (hr code).1, hr2], (hr .index).2, hm⟩

theorem ok_slice_str (h : St w0 F0 mods F ρ S w) {t : TypeId} (hu : P.underlying t = some .string) {x : ByteArray} {v : Value} (hv : RepPV w F ρ (info S) (.d (.s x)) v) {lo hi : Option PV} {lv hv' : Option Value}
    (h1 : RepO w F ρ (info S) lo lv) (h2 : RepO w F ρ (info S) hi hv') {l m : Nat} (e2 : bndA hi x.size x.size = some m) (e1 : bndA lo m 0 = some l) (hK : K (.d (.s (x.extract l m))) S) :
    OpOk P (do pure (.value (← Instr.sliceAt t v lv hv' none))) w0 F0 mods F ρ S w K := by
  simp only [RepPV, RepD] at hv
  subst hv
  have hr := (run_bounds (P := P) (w := w) (S := S) false (Nat.le_refl x.size) h1 h2 e2 e1).1
  exact .value h (v := .string (x.extract l m)) (by simp [Instr.sliceAt, Instr.slice, run_underlying hu, hr]) (by simp [RepPV, RepD]) hK

theorem ok_slice_sl (h : St w0 F0 mods F ρ S w) {t e : TypeId} (hu : elO P t = some e) {sz : Nat} (hs : szO P e = some sz) {rows : List (List D)} (ha : AllLen sz rows) {v : Value} (hv : RepPV w F ρ (info S) (.d (.sl rows)) v)
    {lo hi : Option PV} {lv hv' : Option Value} (h1 : RepO w F ρ (info S) lo lv) (h2 : RepO w F ρ (info S) hi hv') {l m : Nat} (e2 : bndA hi rows.length rows.length = some m) (e1 : bndA lo m 0 = some l)
    (hK : K (.d (.sl ((rows.take m).drop l))) S) : OpOk P (do pure (.value (← Instr.sliceAt t v lv hv' none))) w0 F0 mods F ρ S w K := by
  have hut := elO_under hu
  simp only [RepPV, RepD] at hv
  obtain ⟨a, len, cap, rfl, rfl, h3, h4, h5, h6⟩ := hv
  obtain ⟨hr, hlm, hml⟩ := run_bounds (P := P) (w := w) (S := S) true h3 h1 h2 e2 e1
  refine .value h (v := .slice (if cap = l then a else a.map (·.add (l * sz))) (m - l) (cap - l)) ?_ ?_ hK
  · simp [Instr.sliceAt, Instr.slice, run_underlying hut, hr, run_size hs]
  · simp only [RepPV, RepD]
    refine ⟨_, m - l, cap - l, rfl, by simp; omega, by omega, by omega, ?_, ?_⟩
    · intro hn
      by_cases hc : cap = l
      · omega
      · rw [if_neg hc] at hn
        cases a with
        | none => have := h5 rfl; omega
        | some ad => cases hn
    · intro ad had
      by_cases hc : cap = l
      · rw [if_pos hc] at had
        obtain ⟨hsp, hrows⟩ := h6 ad had
        refine ⟨fun hne => hsp (fun e => hne (by simp [e])), ?_⟩
        have : (rows.take m).drop l = [] := by
          apply List.eq_nil_of_length_eq_zero
          simp; omega
        rw [this]
        simp [RepRows]
      · rw [if_neg hc] at had
        cases a with
        | none => cases had
        | some a0 =>
          obtain ⟨hsp, hrows⟩ := h6 a0 rfl
          simp only [Option.map_some, Option.some.injEq] at had
          by_cases hr0 : rows = []
          · exact ⟨fun hne => absurd (by simp [hr0]) hne, by simp [hr0, RepRows]⟩
          obtain ⟨b, c, sp⟩ := a0
          simp only at hsp
          have hsp := hsp hr0
          subst hsp
          rw [add_mid] at had
          subst had
          refine ⟨fun _ => rfl, RepRows.mk (sz := sz) (fun r hr => ha r (List.mem_of_mem_take (List.mem_of_mem_drop hr))) fun j r hj => ?_⟩
          rw [List.getElem?_drop] at hj
          have hj' : rows[l + j]? = some r := by
            rw [List.getElem?_take] at hj
            split at hj
            · exact hj
            · cases hj
          have := hrows.row ha hj'
          simp only at this ⊢
          rwa [show c + (l + j) * sz = c + l * sz + j * sz by rw [Nat.add_mul]; omega] at this
end
end Go.Aw

/- The abstract machine: operations by their kind, regions, control, and what is promised of a function. -/
set_option linter.unusedVariables false
set_option linter.unusedSimpArgs false
namespace Go.Aw

inductive AExit where
  | normal
  | exit (id : Nat)
  | ret
  | panic (p : PV)

abbrev Post := AExit → Env → Heap → Prop

def put (e : Env) (d : Option Nat) (v : PV) : Env := match d with
  | some t => (t, v) :: e
  | none => e

/-- What a pointer leads to: n cells of it. -/
def loadA (P : Program) (S : Heap) (t : TypeId) (p : PV) (K : PV → Heap → Prop) : Prop := match p with
  | .dp cells => match aggO P t with
    | some true => ∃ n, szO P t = some n ∧ n ≤ cells.length ∧ K (.agg ((cells.take n).map .d)) S
    | some false => ∃ d, cells[0]? = some d ∧ K (.d d) S
    | none => False
  | .ptr o c => ∃ cs, S[o]? = some (.box cs) ∧ match aggO P t with
    | some true => ∃ n, szO P t = some n ∧ c + n ≤ cs.length ∧ K (.agg ((cs.drop c).take n)) S
    | some false => ∃ q, cs[c]? = some q ∧ K q S
    | none => False
  | .eptr o n r sz c => ∃ rows row, S[o]? = some (.buf rows) ∧ rows.length = n ∧ AllLen sz rows ∧ rows[r]? = some row ∧ match aggO P t with
    | some true => ∃ m, szO P t = some m ∧ c + m ≤ sz ∧ K (.agg ((row.drop c).take m)) S
    | some false => ∃ q, row[c]? = some q ∧ K q S
    | none => False
  | _ => False

def storeA (P : Program) (S : Heap) (t : TypeId) (p v : PV) (K : PV → Heap → Prop) : Prop := match p with
  | .ptr o c => ∃ cs ps, S[o]? = some (.box cs) ∧ v.cellsOf = some ps ∧ szO P t = some ps.length ∧ c + ps.length ≤ cs.length ∧ K .any (S.set o (.box (splice cs c ps)))
  | .eptr o n r sz c => ∃ rows row ps, S[o]? = some (.buf rows) ∧ rows.length = n ∧ AllLen sz rows ∧ rows[r]? = some row ∧ v.cellsOf = some ps ∧ szO P t = some ps.length ∧ c + ps.length ≤ sz ∧
      K .any (S.set o (.buf (rows.set r (splice row c ps))))
  | _ => False

def fieldA (P : Program) (S : Heap) (t : TypeId) (p : PV) (f : Nat) (K : PV → Heap → Prop) : Prop :=
  ∃ off ft n, flO P t f = some (off, ft) ∧ szO P ft = some n ∧ n ≠ 0 ∧ match p with
    | .dp cells => K (.dp (cells.drop off)) S
    | .ptr o c => K (.ptr o (c + off)) S
    | .eptr o m r sz c => K (.eptr o m r sz (c + off)) S
    | _ => False

def indexA (P : Program) (S : Heap) (t : TypeId) (p ix : PV) (K : PV → Heap → Prop) : Prop :=
  ∃ el sz, elO P t = some el ∧ szO P el = some sz ∧ match ix with
    | .d (.i _ i) => match p with
      | .d (.sl rows) => AllLen sz rows ∧ 0 ≤ i ∧ i < rows.length ∧ K (.dp (rows.getD i.toNat [])) S
      | .own o s n => s = sz ∧ ∃ rows, S[o]? = some (.buf rows) ∧ rows.length = n ∧ 0 ≤ i ∧ i < n ∧ K (.eptr o n i.toNat sz 0) S
      | _ => False
    | _ => False

def strA (P : Program) (t : TypeId) : Bool := match P.underlying t with
  | some .string => true
  | _ => false
def kindA (P : Program) (t : TypeId) : Option IntKind := match P.underlying t with
  | some (.int k) => some k
  | _ => none
def plainA (P : Program) (t : TypeId) : Bool := match P.underlying t with
  | some (.interface _) => false
  | some _ => true
  | none => false

def lenA (P : Program) (S : Heap) (t : TypeId) (p : PV) (K : PV → Heap → Prop) : Prop := match p with
  | .d (.s x) => strA P t = true ∧ K (.d (.i .i64 x.size)) S
  | p => (∃ el, elO P t = some el) ∧ ∃ n, lenPV p = some n ∧ K (.d (.i .i64 n)) S

/-- The rows of a slice that is appended. -/
def rowsOf (S : Heap) : PV → Option (List (List PV))
  | .nils => some []
  | .d (.sl rows) => some (rows.map (·.map .d))
  | .own o sz n => match S[o]? with
    | some (.buf rows) => if rows.length = n then some rows else none
    | _ => none
  | _ => none

def appendA (P : Program) (S : Heap) (t : TypeId) (p x : PV) (K : PV → Heap → Prop) : Prop :=
  ∃ el sz by_ zs more, elO P t = some el ∧ szO P el = some sz ∧ byO P el = some by_ ∧ zO P el = some zs ∧ zs.length = sz ∧ 0 < sz ∧ rowsOf S x = some more ∧ AllLen sz more ∧ match p with
    | .nils => (more.length * by_ ≤ 140737488355328 ∧ more.length ≤ 9223372036854775807) ∧ K (.own S.length sz more.length) (S ++ [.buf more])
    | .own o s n => s = sz ∧ ∃ rows, S[o]? = some (.buf rows) ∧ rows.length = n ∧ AllLen sz rows ∧ ((n + more.length) * by_ ≤ 140737488355328 ∧ n + more.length ≤ 9223372036854775807) ∧
        K (.own o sz (n + more.length)) (S.set o (.buf (rows ++ more)))
    | _ => False

def sliceA (P : Program) (S : Heap) (t : TypeId) (p : PV) (lo hi : Option PV) (K : PV → Heap → Prop) : Prop := match p with
  | .d (.s x) => strA P t = true ∧ ∃ m l, bndA hi x.size x.size = some m ∧ bndA lo m 0 = some l ∧ K (.d (.s (x.extract l m))) S
  | .d (.sl rows) => ∃ el sz m l, elO P t = some el ∧ szO P el = some sz ∧ AllLen sz rows ∧ bndA hi rows.length rows.length = some m ∧ bndA lo m 0 = some l ∧ K (.d (.sl ((rows.take m).drop l))) S
  | _ => False

/-- A pointer that is not nil. -/
def ptrLike : PV → Bool
  | .ptr _ _ => true
  | .dp _ => true
  | .eptr _ _ _ _ _ => true
  | _ => false

/-- An operation that is no call of a function: what K is told of. -/
def opA (P : Program) (e : Env) (S : Heap) (op : Op) (K : PV → Heap → Prop) : Prop := match op with
  | .move x => K (ev e x) S
  | .assign x => K (ev e x) S
  | .pick c a b => ∃ t, ev e c = .d (.b t) ∧ K (if t = true then ev e a else ev e b) S
  | .alloc T => ∃ cs, zO P T = some cs ∧ K (.ptr S.length 0) (S ++ [.box cs])
  | .box T v => ∃ cs, (ev e v).cellsOf = some cs ∧ K (.ptr S.length 0) (S ++ [.box cs])
  | .build T parts => ∃ pl zs cs, plO P T = some pl ∧ zO P T = some zs ∧ fillA (fun i => pl[i]?) zs (parts.toList.map fun x => (x.1, ev e x.2)) = some cs ∧ K (.agg cs) S
  | .buildSlice T len parts => ∃ el sz zs cs ds, elO P T = some el ∧ szO P el = some sz ∧ zO P el = some zs ∧ zs.length = sz ∧ 0 < sz ∧
      fillA (fun i => some (i * sz, sz)) (List.replicate len zs).flatten (parts.toList.map fun x => (x.1, ev e x.2)) = some cs ∧ len * sz ≤ 16777216 ∧ toDs cs = some ds ∧ ds.length = len * sz ∧
      K (.d (.sl (chunks sz len ds))) S
  | .load T a => loadA P S T (ev e a) K
  | .store T a v => storeA P S T (ev e a) (ev e v) K
  | .fieldAddr T x f => fieldA P S T (ev e x) f K
  | .indexAddr T x i => indexA P S T (ev e x) (ev e i) K
  | .binOp op t x y _ => ∃ d, binP P op t (isConst y) (ev e x) (ev e y) = some d ∧ K (.d d) S
  | .unOp .not t x => ∃ b, ev e x = .d (.b b) ∧ K (.d (.b (!b))) S
  | .nilCheck x => ptrLike (ev e x) = true ∧ K (ev e x) S
  | .unOp .neg t x => ∃ k n, ev e x = .d (.i k n) ∧ K (.d (.i k (k.wrap (0 - n)))) S
  | .convert s t x => match ev e x with
    | .d (.i k n) => (∃ j, kindA P s = some j) ∧ ∃ k', kindA P t = some k' ∧ K (.d (.i k' (k'.wrap n))) S
    | .d (.s y) => strA P s = true ∧ strA P t = true ∧ K (.d (.s y)) S
    | _ => False
  | .extract x i => ∃ vs p, ev e x = .tup vs ∧ vs[i]? = some p ∧ K p S
  | .index t x i => match ev e x with
    | .d (.s y) => strA P t = true ∧ match ev e i with
      | .d (.i k n) => 0 ≤ n ∧ n < y.size ∧ K (.d (.i .u8 (y.data.getD n.toNat 0).toNat)) S
      | _ => False
    | _ => False
  | .slice t x lo hi none => sliceA P S t (ev e x) (lo.map (ev e)) (hi.map (ev e)) K
  | .makeSlice t l c => ∃ el sz by_ zs k n k' m, elO P t = some el ∧ szO P el = some sz ∧ byO P el = some by_ ∧ zO P el = some zs ∧ zs.length = sz ∧ 0 < sz ∧ ev e l = .d (.i k n) ∧ ev e c = .d (.i k' m) ∧
      0 ≤ n ∧ n ≤ m ∧ by_ * m ≤ 281474976710656 ∧ m ≤ 9223372036854775807 ∧ K (.own S.length sz n.toNat) (S ++ [.buf (List.replicate n.toNat zs)])
  | .makeInterface t x => plainA P t = true ∧ ∃ d, (ev e x).toDA = some d ∧ K (.d (.ifc t d)) S
  | .call { callee := .builtin .len, args, argTypes } => match args.toList, argTypes.toList with
    | [x], [t] => lenA P S t (ev e x) K
    | _, _ => False
  | .call { callee := .builtin .append, args, argTypes } => match args.toList, argTypes.toList with
    | [p, x], [t, t'] => t' = t ∧ appendA P S t (ev e p) (ev e x) K
    | _, _ => False
  | _ => False

section
variable {P : Program} {w0 : World} {F0 mods F : Nat → Prop} {ρ : Nat → Option Nat} {S : Heap} {w : World} {K : PV → Heap → Prop}

theorem aggO_false {t : TypeId} : True := trivial

theorem ok_loadA (h : St w0 F0 mods F ρ S w) {t : TypeId} {p : PV} {v : Value} (hv : RepPV w F ρ (info S) p v) (hl : loadA P S t p K) : OpOk P (do pure (.value (← Instr.loadAt t v))) w0 F0 mods F ρ S w K := by
  cases p <;> simp only [loadA] at hl <;> try exact hl.elim
  case dp cells =>
    split at hl
    · rename_i ha
      obtain ⟨n, h1, h2, h3⟩ := hl
      exact ok_load_dp_agg h ha h1 hv h2 h3
    · rename_i ha
      obtain ⟨d, h1, h2⟩ := hl
      exact ok_load_dp_one h ha hv h1 h2
    · exact hl.elim
  case ptr o c =>
    obtain ⟨cs, hx, hl⟩ := hl
    simp only [RepPV] at hv
    obtain ⟨hfr, b, rfl, hb⟩ := hv
    have hb' := hb (by rw [info_of hx]; rfl)
    split at hl
    · rename_i ha
      obtain ⟨n, h1, h2, h3⟩ := hl
      exact ok_load_ob_agg h ha h1 hx (by simp) hb' h2 h3
    · rename_i ha
      obtain ⟨q, h1, h2⟩ := hl
      exact ok_load_ob_one h ha hx (by simp) hb' h1 h2
    · exact hl.elim
  case eptr o n r sz c =>
    obtain ⟨rows, row, hx, hn, hal, hr, hl⟩ := hl
    simp only [RepPV] at hv
    obtain ⟨hfr, b, off, rfl, hb⟩ := hv
    obtain ⟨_, hb'⟩ := hb n (by rw [info_of hx, Ob.info, hn])
    obtain ⟨hbb, rfl⟩ := hb' rfl
    have hrl : row.length = sz := hal row (List.mem_of_getElem? hr)
    have hrlt : r < rows.length := (List.getElem?_eq_some_iff.1 hr).1
    have hfl := hal.flatten
    have hle : r * sz + sz ≤ rows.length * sz := by
      have := Nat.mul_le_mul_right sz (show r + 1 ≤ rows.length by omega)
      rwa [Nat.add_mul, Nat.one_mul] at this
    split at hl
    · rename_i ha
      obtain ⟨m, h1, h2, h3⟩ := hl
      refine ok_load_ob_agg h ha h1 hx (by simp) hbb (by simp only [Ob.cells, hfl]; omega) ?_
      have : ((Ob.buf rows).cells.drop (r * sz + c)).take m = (row.drop c).take m := by
        apply List.ext_getElem?
        intro j
        simp only [Ob.cells]
        by_cases hj : j < m
        · rw [List.getElem?_take_of_lt hj, List.getElem?_take_of_lt hj, List.getElem?_drop, List.getElem?_drop, ← hal.get hr (c + j) (by omega)]
          congr 1; omega
        · rw [List.getElem?_take_eq_none (by omega), List.getElem?_take_eq_none (by omega)]
      rwa [this]
    · rename_i ha
      obtain ⟨q, h1, h2⟩ := hl
      have hc : c < sz := by have := (List.getElem?_eq_some_iff.1 h1).1; omega
      exact ok_load_ob_one h ha hx (by simp) hbb (by simp only [Ob.cells]; rw [hal.get hr c hc]; exact h1) h2
    · exact hl.elim

theorem AllLen.set {α : Type} {sz : Nat} {rows : List (List α)} (h : AllLen sz rows) {r : Nat} {row : List α} (hr : row.length = sz) : AllLen sz (rows.set r row) := fun x hx => by
  rcases List.mem_or_eq_of_mem_set hx with hx | rfl
  · exact h x hx
  · exact hr

theorem flatten_set {α : Type} {sz : Nat} {rows : List (List α)} (h : AllLen sz rows) {r : Nat} {row : List α} (hr : rows[r]? = some row) {c : Nat} {ps : List α} (hc : c + ps.length ≤ sz) :
    (rows.set r (splice row c ps)).flatten = splice rows.flatten (r * sz + c) ps := by
  have hrl : row.length = sz := h row (List.mem_of_getElem? hr)
  have hrlt : r < rows.length := (List.getElem?_eq_some_iff.1 hr).1
  have hle : r * sz + sz ≤ rows.length * sz := by
    have := Nat.mul_le_mul_right sz (show r + 1 ≤ rows.length by omega)
    rwa [Nat.add_mul, Nat.one_mul] at this
  have hsl : (splice row c ps).length = sz := by rw [splice_length _ _ _ (by omega)]; exact hrl
  have h' : AllLen sz (rows.set r (splice row c ps)) := h.set hsl
  apply List.ext_getElem?
  intro j
  rw [splice_get _ _ _ (by rw [h.flatten]; omega)]
  by_cases hj : j < rows.length * sz
  · have hpos : 0 < sz := by rcases Nat.eq_zero_or_pos sz with h0 | h0; · rw [h0] at hj; omega
                             · exact h0
    have hd : j / sz < rows.length := (Nat.div_lt_iff_lt_mul hpos).2 hj
    have hm : j % sz < sz := Nat.mod_lt _ hpos
    have hjj : j / sz * sz + j % sz = j := Nat.div_add_mod' j sz
    by_cases e : j / sz = r
    · have g1 := h'.get (i := r) (r := splice row c ps) (by simp [hrlt]) (j % sz) hm
      have g2 := h.get hr (j % sz) hm
      rw [e] at hjj
      rw [hjj] at g1 g2
      rw [g1, splice_get _ _ _ (by omega), g2]
      by_cases hcj : c ≤ j % sz ∧ j % sz < c + ps.length
      · rw [if_pos hcj, if_pos (by omega)]
        congr 1; omega
      · rw [if_neg hcj, if_neg (by omega)]
    · have g1 := h'.get (i := j / sz) (r := rows[j / sz]) (by rw [List.getElem?_set_ne (Ne.symm e)]; exact List.getElem?_eq_getElem hd) (j % sz) hm
      have g2 := h.get (i := j / sz) (r := rows[j / sz]) (List.getElem?_eq_getElem hd) (j % sz) hm
      rw [hjj] at g1 g2
      rw [g1, g2, if_neg]
      intro hcj
      apply e
      have h1 : r * sz ≤ j := by omega
      have h2 : j < (r + 1) * sz := by rw [Nat.add_mul]; omega
      have := Nat.div_lt_of_lt_mul (show j < sz * (r + 1) by rw [Nat.mul_comm]; exact h2)
      have := (Nat.le_div_iff_mul_le hpos).2 h1
      omega
  · have e1 : (rows.set r (splice row c ps)).flatten.length = rows.length * sz := by rw [h'.flatten]; simp
    rw [List.getElem?_eq_none (by omega), if_neg (by omega), List.getElem?_eq_none (by rw [h.flatten]; omega)]

theorem ok_storeA (h : St w0 F0 mods F ρ S w) {t : TypeId} {p q : PV} {v u : Value} (hv : RepPV w F ρ (info S) p v) (hu : RepPV w F ρ (info S) q u) (hl : storeA P S t p q K) :
    OpOk P (do Instr.storeAt t v u; pure .skip) w0 F0 mods F ρ S w K := by
  cases p <;> simp only [storeA] at hl <;> try exact hl.elim
  case ptr o c =>
    obtain ⟨cs, ps, hx, h1, h2, h3, h4⟩ := hl
    simp only [RepPV] at hv
    obtain ⟨hfr, b, rfl, hb⟩ := hv
    have hb' := hb (by rw [info_of hx]; rfl)
    exact ok_store_ob h (y := .box (splice cs c ps)) h2 hx (by simp) (by simp) (fun _ _ _ _ e => by cases e) hb' hu h1 rfl h3 rfl rfl h4
  case eptr o n r sz c =>
    obtain ⟨rows, row, ps, hx, hn, hal, hr, h1, h2, h3, h4⟩ := hl
    simp only [RepPV] at hv
    obtain ⟨hfr, b, off, rfl, hb⟩ := hv
    obtain ⟨_, hb'⟩ := hb n (by rw [info_of hx, Ob.info, hn])
    obtain ⟨hbb, rfl⟩ := hb' rfl
    have hrlt : r < rows.length := (List.getElem?_eq_some_iff.1 hr).1
    have hle : r * sz + sz ≤ rows.length * sz := by
      have := Nat.mul_le_mul_right sz (show r + 1 ≤ rows.length by omega)
      rwa [Nat.add_mul, Nat.one_mul] at this
    refine ok_store_ob h (y := .buf (rows.set r (splice row c ps))) h2 hx (by simp) (by simp) (fun _ _ _ _ e => by cases e) hbb hu h1 rfl (by simp only [Ob.cells, hal.flatten]; omega) ?_ (by simp [Ob.info]) h4
    simp only [Ob.cells]
    exact flatten_set hal hr h3

theorem ok_fieldA (h : St w0 F0 mods F ρ S w) {t : TypeId} {p : PV} {v : Value} {f : Nat} (hv : RepPV w F ρ (info S) p v) (hl : fieldA P S t p f K) : OpOk P (do pure (.value (← Instr.fieldAt t v f))) w0 F0 mods F ρ S w K := by
  obtain ⟨off, ft, n, h1, h2, h3, hl⟩ := hl
  cases p <;> try exact hl.elim
  case dp cells => exact ok_field_dp h h1 h2 h3 hv hl
  case ptr o c => exact ok_field_ptr h h1 h2 h3 hv hl
  case eptr o m r sz c => exact ok_field_eptr h h1 h2 h3 hv hl

theorem ok_indexA (h : St w0 F0 mods F ρ S w) {t : TypeId} {p q : PV} {v u : Value} (hv : RepPV w F ρ (info S) p v) (hu : RepPV w F ρ (info S) q u) (hl : indexA P S t p q K) :
    OpOk P (do pure (.value (← Instr.indexAt t v u))) w0 F0 mods F ρ S w K := by
  obtain ⟨el, sz, h1, h2, hl⟩ := hl
  split at hl
  · rename_i k i
    simp only [RepPV, RepD] at hu
    subst hu
    split at hl
    · obtain ⟨h3, h4, h5, h6⟩ := hl
      exact ok_index_sl h h1 h2 h3 hv h4 h5 h6
    · obtain ⟨rfl, rows, h3, h4, h5, h6, h7⟩ := hl
      exact ok_index_own h h1 h2 h3 h4 hv h5 h6 h7
    · exact hl.elim
  · exact hl.elim

theorem strA_under {t : TypeId} (h : strA P t = true) : P.underlying t = some .string := by
  unfold strA at h
  split at h
  · assumption
  · cases h

theorem kindA_under {t : TypeId} {k : IntKind} (h : kindA P t = some k) : P.underlying t = some (.int k) := by
  unfold kindA at h
  split at h
  · rename_i k' hu; cases h; exact hu
  · cases h

theorem ok_lenA (h : St w0 F0 mods F ρ S w) {t ty : TypeId} {p : PV} {v : Value} (hv : RepPV w F ρ (info S) p v) (hl : lenA P S t p K) : OpOk P (do pure (.value (← Builtin.len_ #[t] ty #[v]))) w0 F0 mods F ρ S w K := by
  unfold lenA at hl
  split at hl
  · obtain ⟨h1, h2⟩ := hl
    exact ok_len_str h (strA_under h1) hv h2
  · rename_i hns
    obtain ⟨⟨el, h1⟩, n, h2, h3⟩ := hl
    exact ok_len_slice h h1 hv hns h2 h3

theorem holds_rowsOf (h : St w0 F0 mods F ρ S w) {p : PV} {v : Value} {rows : List (List PV)} (hv : RepPV w F ρ (info S) p v) (hr : rowsOf S p = some rows) : Holds P w F ρ (info S) rows v := by
  unfold rowsOf at hr
  split at hr
  · cases hr; simp only [RepPV] at hv; subst hv; exact holds_nil
  · cases hr; exact holds_sl hv
  · split at hr
    · rename_i o sz n rows' hx
      split at hr
      · rename_i hn; cases hr; exact holds_own h hx hn hv
      · cases hr
    · cases hr
  · cases hr

/-- A nil slice may be taken for a row of the call's own, which has no block yet. -/
theorem St.adopt (h : St w0 F0 mods F ρ S w) : St w0 F0 mods F (Rho ρ S.length none) (S ++ [.buf []]) w ∧ Keeps w w F F ρ (Rho ρ S.length none) (info S) (info (S ++ [.buf []])) ∧
    ∀ sz, RepPV w F (Rho ρ S.length none) (info (S ++ [.buf []])) (.own S.length sz 0) (.slice none 0 0) := by
  have hk : Keeps w w F F ρ (Rho ρ S.length none) (info S) (info (S ++ [.buf []])) :=
    ⟨fun _ _ => rfl, fun _ h => h, fun _ => Nat.le_refl _, fun o ho => by rw [info_append ho]; exact ho,
      fun o ho hx => by
        rw [info_append ho] at hx
        exact ⟨hx, by have := info_lt ho; simp [Rho]; omega⟩,
      fun o m ho hx => by
        rw [info_append ho] at hx
        exact ⟨m, hx, Nat.le_refl _, fun _ => by have := info_lt ho; simp [Rho]; omega⟩⟩
  have live : ∀ o b, Lives (S ++ [.buf []]) (Rho ρ S.length none) o b → Lives S ρ o b := by
    rintro o b ⟨h1, y, h2, h3⟩
    by_cases e : o = S.length
    · subst e; simp [Rho] at h1
    · have hl : o < S.length := by have := (List.getElem?_eq_some_iff.1 h2).1; simp at this; omega
      rw [List.getElem?_append_left hl] at h2
      simp only [Rho, if_neg e] at h1
      exact ⟨h1, y, h2, h3⟩
  refine ⟨⟨?_, fun o o' b h1 h2 => h.inj o o' b (live o b h1) (live o' b h2), fun o b h1 => h.notF o b (live o b h1), h.bound, fun o b h1 => h.mine o b (live o b h1), h.grow, h.os, h.tape, h.output, h.keep, h.bsize, h.f0, h.fnew⟩, hk, fun sz => ?_⟩
  · intro o y hy
    by_cases e : o = S.length
    · subst e
      simp at hy
      subst hy
      exact .inl ⟨by simp [Rho], rfl⟩
    · have hl : o < S.length := by have := (List.getElem?_eq_some_iff.1 hy).1; simp at this; omega
      rw [List.getElem?_append_left hl] at hy
      exact (h.objs o y hy).keeps hk (by simp [Rho, e]) fun b _ _ => rfl
  · simp only [RepPV]
    have hinf : info (S ++ [.buf []]) S.length = .buf 0 := by simp [info, Ob.info]
    refine ⟨by rw [hinf]; simp, none, 0, rfl, fun m hm => ?_⟩
    rw [hinf] at hm
    cases hm
    exact ⟨Nat.le_refl _, fun _ => .inl (by simp [Rho])⟩

theorem Keeps.trans {w w' w'' : World} {F F' F'' : Nat → Prop} {ρ ρ' ρ'' : Nat → Option Nat} {C C' C'' : Nat → OI} (a : Keeps w w' F F' ρ ρ' C C') (b : Keeps w' w'' F' F'' ρ' ρ'' C' C'') : Keeps w w'' F F'' ρ ρ'' C C'' where
  same := fun x hx => (b.same x (a.sub x hx)).trans (a.same x hx)
  sub := fun x hx => b.sub x (a.sub x hx)
  size := fun x => Nat.le_trans (a.size x) (b.size x)
  old := fun o ho => b.old o (a.old o ho)
  box := fun o ho hx => by
    obtain ⟨h1, h2⟩ := b.box o (a.old o ho) hx
    obtain ⟨h3, h4⟩ := a.box o ho h1
    exact ⟨h3, h2.trans h4⟩
  buf := fun o m ho hx => by
    obtain ⟨m1, h1, h2, h3⟩ := b.buf o m (a.old o ho) hx
    obtain ⟨m2, h4, h5, h6⟩ := a.buf o m1 ho h1
    exact ⟨m2, h4, by omega, fun e => (h3 (by omega)).trans (h6 (by omega))⟩

theorem OpOk.after {s : Sem Next} {F' : Nat → Prop} {ρ' : Nat → Option Nat} {S' : Heap} (hk : Keeps w w F F' ρ ρ' (info S) (info S')) (h : OpOk P s w0 F0 mods F' ρ' S' w K) : OpOk P s w0 F0 mods F ρ S w K := by
  obtain ⟨nx, v, w', pv, S'', F'', ρ'', h1, h2, h3, h4, h5, h6⟩ := h
  exact ⟨nx, v, w', pv, S'', F'', ρ'', h1, h2, h3, h4, h5, hk.trans h6⟩

theorem ok_appendA (h : St w0 F0 mods F ρ S w) {t ty : TypeId} {p q : PV} {v u : Value} (hv : RepPV w F ρ (info S) p v) (hu : RepPV w F ρ (info S) q u) (hl : appendA P S t p q K) :
    OpOk P (do pure (.value (← Builtin.append_ #[t, t] ty #[v, u]))) w0 F0 mods F ρ S w K := by
  obtain ⟨el, sz, by_, zs, more, h1, h2, h3, h4, h5, h6, h7, h8, hl⟩ := hl
  have hm := holds_rowsOf (P := P) h hu h7
  split at hl
  · obtain ⟨⟨hb1, hb2⟩, hK⟩ := hl
    simp only [RepPV] at hv
    subst hv
    obtain ⟨h', hk, hr⟩ := h.adopt
    refine OpOk.after hk ?_
    have hm' : Holds P w F (Rho ρ S.length none) (info (S ++ [.buf []])) more u := by
      obtain ⟨a, c, vs, e1, e2, e3⟩ := hm
      exact ⟨a, c, vs, e1, RepPVs.keeps hk _ _ e2, e3⟩
    refine ok_append_own h' h1 h2 h3 h4 h5 h6 (o := S.length) (n := 0) (rows := []) (by simp) rfl (fun r hr => by simp at hr) (hr sz) h8 hm' (by simpa using hb1) (by simpa using hb2) ?_
    simpa using hK
  · obtain ⟨rfl, rows, hx, hn, hal, ⟨hb1, hb2⟩, hK⟩ := hl
    exact ok_append_own h h1 h2 h3 h4 h5 h6 hx hn hal hv h8 hm hb1 hb2 hK
  · exact hl.elim

theorem ok_sliceA (h : St w0 F0 mods F ρ S w) {t : TypeId} {p : PV} {v : Value} (hv : RepPV w F ρ (info S) p v) {lo hi : Option PV} {lv hv' : Option Value} (h1 : RepO w F ρ (info S) lo lv) (h2 : RepO w F ρ (info S) hi hv')
    (hl : sliceA P S t p lo hi K) : OpOk P (do pure (.value (← Instr.sliceAt t v lv hv' none))) w0 F0 mods F ρ S w K := by
  unfold sliceA at hl
  split at hl
  · obtain ⟨e0, m, l, e1, e2, e3⟩ := hl
    exact ok_slice_str h (strA_under e0) hv h1 h2 e1 e2 e3
  · obtain ⟨el, sz, m, l, e0, e1, e2, e3, e4, e5⟩ := hl
    exact ok_slice_sl h e0 e1 e2 hv h1 h2 e3 e4 e5
  · exact hl.elim

end
end Go.Aw

/- What is promised of a function; regions in the order of the text; control. -/
set_option linter.unusedVariables false
set_option linter.unusedSimpArgs false
namespace Go.Aw

inductive ARes where
  | ret (p : PV)
  | pan (p : PV)

def EndRep (w : World) (F : Nat → Prop) (ρ : Nat → Option Nat) (C : Nat → OI) : ARes → Ending → Prop
  | .ret p, .returned v => RepPV w F ρ C p v
  | .pan p, .panicked chain => ∃ v, chain = [{ v, recovered := false }] ∧ RepPV w F ρ C p v
  | _, _ => False

/-- Called with these arguments, where these objects are its caller's: the function ends, and R speaks of what it answers and of what has become of the objects. -/
def CallsA (P : Program) (f : FuncId) (args : List PV) (S : Heap) (R : ARes → Heap → Prop) : Prop :=
  (∀ args w, (callFunc f args).run P w = .ok (.enter f args) w) ∧ ∀ (w0 : World) (F0 mods F : Nat → Prop) (ρ : Nat → Option Nat) (w : World) (cargs : Array Value), St w0 F0 mods F ρ S w → RepTs w F ρ (info S) args cargs.toList →
    Calls P f cargs w fun e w' => ∃ r S' F' ρ', R r S' ∧ EndRep w' F' ρ' (info S') r e ∧ St w0 F0 mods F' ρ' S' w' ∧ Keeps w w' F F' ρ ρ' (info S) (info S')

def CallX (P : Program) (f : FuncId) (args : List PV) (S : Heap) (K QP : PV → Heap → Prop) : Prop :=
  ∃ R, CallsA P f args S R ∧ ∀ r S', R r S' → match r with
    | .ret p => sizedP p → K p S'
    | .pan p => QP p S'

theorem CallX.intro {P : Program} {f : FuncId} {args : List PV} {S : Heap} {K QP : PV → Heap → Prop} {R : ARes → Heap → Prop} (h : CallsA P f args S R)
    (hk : ∀ p S', R (.ret p) S' → sizedP p → K p S') (hp : ∀ p S', R (.pan p) S' → QP p S') : CallX P f args S K QP :=
  ⟨R, h, fun r S' hr => by cases r with | ret p => exact hk p S' hr | pan p => exact hp p S' hr⟩

/-- What is handed in is no longer than a Go int tells. -/
theorem CallsA.sized {P : Program} {f : FuncId} {args : List PV} {S : Heap} {R : ARes → Heap → Prop} (hcall : ∀ args w, (callFunc f args).run P w = .ok (.enter f args) w) (h : sizedPs args → CallsA P f args S R) : CallsA P f args S R :=
  ⟨hcall, fun w0 F0 mods F ρ w cargs hs ha => (h (RepTs.sized _ _ ha)).2 w0 F0 mods F ρ w cargs hs ha⟩

/-- A slice against nil, where it may be either. -/
def NilA (P : Program) (e : Env) (S : Heap) (op : Op) (K : PV → Heap → Prop) : Prop := match op with
  | .binOp op t x (.const (.slice none 0 0)) _ => (op = .eql ∨ op = .neq) ∧ sliceA' P t = true ∧ ∃ n, lenPV (ev e x) = some n ∧ (∀ s, ev e x ≠ .d (.s s)) ∧
      ∀ b, (b = true → n = 0 ∨ ∃ o sz, ev e x = .own o sz n) → (ev e x = .nils → b = true) → K (.d (.b (if op = .eql then b else !b))) S
  | _ => False

/-- A slice literal as an object of the call's own. -/
def LitA (P : Program) (e : Env) (S : Heap) (op : Op) (K : PV → Heap → Prop) : Prop := match op with
  | .buildSlice T len parts => ∃ el sz zs cs, elO P T = some el ∧ szO P el = some sz ∧ zO P el = some zs ∧ zs.length = sz ∧ 0 < sz ∧
      fillA (fun i => some (i * sz, sz)) (List.replicate len zs).flatten (parts.toList.map fun x => (x.1, ev e x.2)) = some cs ∧ len * sz ≤ 16777216 ∧ cs.length = len * sz ∧
      K (.own S.length sz len) (S ++ [.buf (chunks sz len cs)])
  | _ => False

/-- An operation, calls and panics among them. -/
def execA0 (P : Program) (e : Env) (S : Heap) (o : Oper) (K : PV → Heap → Prop) (QP : PV → Heap → Prop) : Prop := match o.op with
  | .call { callee := .value (.func f), args, argTypes } => CallX P f (args.toList.map (ev e)) S K QP
  | .panic x => ∃ t d, ev e x = .d (.ifc t d) ∧ QP (.d (.ifc t d)) S
  | op => opA P e S op K

/-- An operation told of by the worlds themselves: what comes of it in each world that bears the state. -/
def SemOp (P : Program) (e : Env) (S : Heap) (o : Oper) (K : PV → Heap → Prop) : Prop :=
  ∀ (w0 : World) (F0 mods F : Nat → Prop) (ρ : Nat → Option Nat) (w : World) (a : Act), St w0 F0 mods F ρ S w → (∀ x ∈ o.op.operands, RepPV w F ρ (info S) (ev e x) (a.eval x)) →
    OpOk P (execOp a.eval o) w0 F0 mods F ρ S w K
/-- A call whose function shows in the worlds alone. -/
def SemEnter (P : Program) (e : Env) (S : Heap) (o : Oper) (f : FuncId) (as : List PV) : Prop :=
  ∀ (F : Nat → Prop) (ρ : Nat → Option Nat) (w : World) (a : Act), (∀ x ∈ o.op.operands, RepPV w F ρ (info S) (ev e x) (a.eval x)) →
    ∃ cargs : Array Value, (execOp a.eval o).run P w = .ok (.enter f cargs) w ∧ RepTs w F ρ (info S) as cargs.toList
def SemA (P : Program) (e : Env) (S : Heap) (o : Oper) (K : PV → Heap → Prop) (QP : PV → Heap → Prop) : Prop :=
  SemOp P e S o K ∨ ∃ f as, CallX P f as S K QP ∧ SemEnter P e S o f as

def execA (P : Program) (e : Env) (S : Heap) (o : Oper) (K : PV → Heap → Prop) (QP : PV → Heap → Prop) : Prop := execA0 P e S o K QP ∨ NilA P e S o.op K ∨ LitA P e S o.op K ∨ SemA P e S o K QP

/-- The operation where its guard lets it. -/
def stepA (P : Program) (ops : Array Oper) (o : Oper) (K : Env → Heap → Prop) (Q : Post) (e : Env) (S : Heap) : Prop := match o.guard with
  | none => execA P e S o (fun v => K (put e o.dst v)) (fun p => Q (.panic p) e)
  | some (j, want) => match (ops[j]?).bind (·.dst) with
    | some t => (look e t = .tup [] ∧ K (put e o.dst (.tup [])) S) ∨ ∃ b, look e t = .d (.b b) ∧ (b = want → execA P ((t, .d (.b want)) :: e) S o (fun v => K (put ((t, .d (.b want)) :: e) o.dst v)) (fun p => Q (.panic p) e)) ∧
        (b = !want → K (put ((t, .d (.b (!want))) :: e) o.dst (.tup [])) S)
    | none => False

def opsA (P : Program) (ops : Array Oper) (Q : Post) : List Nat → Env → Heap → Prop
  | [] => Q .normal
  | i :: r => fun e S => match ops[i]? with
    | none => opsA P ops Q r e S
    | some o => stepA P ops o (opsA P ops Q r) Q e S

structure Ghost where
  w0 : World
  F0 : Nat → Prop
  ρ0 : Nat → Option Nat
  S0 : Heap
  nt : Nat

def Ghost.mods (G : Ghost) (b : Nat) : Prop := ∃ o, Lives G.S0 G.ρ0 o b

structure InvAt (G : Ghost) (e : Env) (S : Heap) (a : Act) (w : World) (F : Nat → Prop) (ρ : Nat → Option Nat) : Prop where
  st : St G.w0 G.F0 G.mods F ρ S w
  env : ∀ t, RepPV w F ρ (info S) (look e t) (a.tmps.getD t undef)
  keeps : Keeps G.w0 w G.F0 F G.ρ0 ρ (info G.S0) (info S)
  nt : a.tmps.size = G.nt
  defers : a.defers = []

def Inv (G : Ghost) (e : Env) (S : Heap) (a : Act) (w : World) : Prop := ∃ F ρ, InvAt G e S a w F ρ

def liftQ (G : Ghost) (Q : Post) : Exit → Act → World → Prop
  | .normal, a, w => ∃ e S, Q .normal e S ∧ Inv G e S a w
  | .exit id, a, w => ∃ e S, Q (.exit id) e S ∧ Inv G e S a w
  | .ret, a, w => ∃ e S, Q .ret e S ∧ Inv G e S a w
  | .panic chain, a, w => ∃ e S v p F ρ, chain = [{ v, recovered := false }] ∧ Q (.panic p) e S ∧ InvAt G e S a w F ρ ∧ RepPV w F ρ (info S) p v
  | _, _, _ => False

/-- A piece of code, in every world that bears the state. -/
def Sem' (P : Program) (k nt : Nat) (c : Code) (Q : Post) (e : Env) (S : Heap) : Prop :=
  ∀ (G : Ghost) (a : Act) (w : World), G.S0.length = k → G.nt = nt → Inv G e S a w → c.wp P (liftQ G Q) a w

section
variable {P : Program}

theorem rep_ev {w : World} {F : Nat → Prop} {ρ : Nat → Option Nat} {C : Nat → OI} {e : Env} {a : Act} (he : ∀ t, RepPV w F ρ C (look e t) (a.tmps.getD t undef)) (x : Operand) : RepPV w F ρ C (ev e x) (a.eval x) := by
  cases x with
  | tmp t => exact he t
  | const v => exact cst_rep v
  | global g => simp [ev, RepPV]
  | func f => simp [ev, RepPV]

theorem rep_evO {w : World} {F : Nat → Prop} {ρ : Nat → Option Nat} {C : Nat → OI} {e : Env} {a : Act} (he : ∀ t, RepPV w F ρ C (look e t) (a.tmps.getD t undef)) (x : Option Operand) : RepO w F ρ C (x.map (ev e)) (x.map a.eval) := by
  cases x with
  | none => simp [RepO]
  | some x => simpa [RepO] using rep_ev he x

theorem rep_parts {w : World} {F : Nat → Prop} {ρ : Nat → Option Nat} {C : Nat → OI} {e : Env} {a : Act} (he : ∀ t, RepPV w F ρ C (look e t) (a.tmps.getD t undef)) :
    ∀ l : List (Nat × Operand), Parts w F ρ C (l.map fun x => (x.1, ev e x.2)) (l.map fun x => (x.1, a.eval x.2))
  | [] => .nil
  | x :: r => .cons (rep_ev he x.2) (rep_parts he r)

theorem rep_args {w : World} {F : Nat → Prop} {ρ : Nat → Option Nat} {C : Nat → OI} {e : Env} {a : Act} (he : ∀ t, RepPV w F ρ C (look e t) (a.tmps.getD t undef)) :
    ∀ l : List Operand, RepTs w F ρ C (l.map (ev e)) (l.map a.eval)
  | [] => by simp [RepTs]
  | x :: r => by simp only [List.map_cons, RepTs]; exact ⟨_, _, rfl, rep_ev he x, rep_args he r⟩

theorem opA_sound {w0 : World} {F0 mods F : Nat → Prop} {ρ : Nat → Option Nat} {S : Heap} {w : World} {K : PV → Heap → Prop} (h : St w0 F0 mods F ρ S w) {e : Env} {a : Act}
    (he : ∀ t, RepPV w F ρ (info S) (look e t) (a.tmps.getD t undef)) (o : Oper) (hl : opA P e S o.op K) : OpOk P (execOp a.eval o) w0 F0 mods F ρ S w K := by
  obtain ⟨dst, op, ty, pos, after, guard⟩ := o
  cases op
  case call c =>
    obtain ⟨callee, args, argTypes⟩ := c
    cases callee with
    | value f => simp only [opA] at hl
    | invoke r m => simp only [opA] at hl
    | builtin b =>
      cases b <;> simp only [opA] at hl
      case len =>
        split at hl
        · rename_i x t hx ht
          have e1 : args = #[x] := by cases args; simp_all
          have e2 : argTypes = #[t] := by cases argTypes; simp_all
          subst e1 e2
          have := ok_lenA (ty := ty) h (rep_ev he x) hl
          simpa [execOp, resolve, invoke, builtin] using this
        · exact hl.elim
      case append =>
        split at hl
        · rename_i p x t t' hx ht
          obtain ⟨rfl, hl⟩ := hl
          have e1 : args = #[p, x] := by cases args; simp_all
          have e2 : argTypes = #[t', t'] := by cases argTypes; simp_all
          subst e1 e2
          have := ok_appendA (ty := ty) h (rep_ev he p) (rep_ev he x) hl
          simpa [execOp, resolve, invoke, builtin] using this
        · exact hl.elim
  all_goals (simp only [opA] at hl)
  all_goals (try exact hl.elim)
  all_goals (simp only [execOp])
  case move x => exact .value h rfl (rep_ev he x) hl
  case assign x => exact .value h rfl (rep_ev he x) hl
  case pick c x y =>
    obtain ⟨t, h1, h2⟩ := hl
    have hc := rep_ev he c
    rw [h1] at hc
    simp only [RepPV, RepD] at hc
    cases t with
    | true => exact .value h (v := a.eval x) (by simp [hc, asBool]) (rep_ev he x) (by simpa using h2)
    | false => exact .value h (v := a.eval y) (by simp [hc, asBool]) (rep_ev he y) (by simpa using h2)
  case alloc T => obtain ⟨cs, h1, h2⟩ := hl; exact ok_alloc h h1 h2
  case box T v => obtain ⟨cs, h1, h2⟩ := hl; exact ok_box h (rep_ev he v) h1 h2
  case build T parts =>
    obtain ⟨pl, zs, cs, h1, h2, h3, h4⟩ := hl
    generalize hq : Array.map _ parts = q
    have hp := rep_parts he parts.toList
    exact ok_build h h1 h2 (parts := q) (by rw [← hq, Array.toList_map]; exact hp) h3 h4
  case buildSlice T len parts =>
    obtain ⟨el, sz, zs, cs, ds, h1, h2, h3, h4, h5, h6, h7, h8, h9, h10⟩ := hl
    generalize hq : Array.map _ parts = q
    have hp := rep_parts he parts.toList
    exact ok_buildSlice h h1 h2 h3 h4 h5 (parts := q) (by rw [← hq, Array.toList_map]; exact hp) h6 h7 h8 h9 h10
  case load T x => exact ok_loadA h (rep_ev he x) hl
  case store T x y => exact ok_storeA h (rep_ev he x) (rep_ev he y) hl
  case fieldAddr T x f => exact ok_fieldA h (rep_ev he x) hl
  case indexAddr T x i => exact ok_indexA h (rep_ev he x) (rep_ev he i) hl
  case binOp op t x y yt =>
    obtain ⟨d, h1, h2⟩ := hl
    exact ok_binP h (rep_ev he x) (rep_ev he y) id h1 h2
  case nilCheck x =>
    obtain ⟨h1, h2⟩ := hl
    have hx := rep_ev he x
    obtain ⟨ad, hv⟩ : ∃ ad, a.eval x = .pointer (some ad) := by
      cases hp : ev e x <;> rw [hp] at h1 hx <;> simp only [ptrLike] at h1 <;> (try cases h1) <;> simp only [RepPV] at hx
      · obtain ⟨_, b, e1, _⟩ := hx; exact ⟨_, e1⟩
      · obtain ⟨b, off, e1, _⟩ := hx; exact ⟨_, e1⟩
      · obtain ⟨_, b, off, e1, _⟩ := hx; exact ⟨_, e1⟩
    exact .value h (v := a.eval x) (by simp [hv]) hx h2
  case unOp op t x =>
    cases op <;> try exact hl.elim
    case not => obtain ⟨b, h1, h2⟩ := hl; exact ok_not h (by rw [← h1]; exact rep_ev he x) h2
    case neg => obtain ⟨k, n, h1, h2⟩ := hl; exact ok_neg h (by rw [← h1]; exact rep_ev he x) h2
  case convert s t x =>
    have hx := rep_ev he x
    split at hl
    · rename_i k n hk
      rw [hk] at hx
      obtain ⟨⟨j, h1⟩, k', h2, h3⟩ := hl
      exact ok_conv_int h (kindA_under h1) (kindA_under h2) hx h3
    · rename_i y hk
      rw [hk] at hx
      obtain ⟨h1, h2, h3⟩ := hl
      exact ok_conv_str h (strA_under h1) (strA_under h2) hx h3
    · exact hl.elim
  case extract x i => obtain ⟨vs, p, h1, h2, h3⟩ := hl; exact ok_extract h (by rw [← h1]; exact rep_ev he x) h2 h3
  case index t x i =>
    have hx := rep_ev he x
    have hi := rep_ev he i
    split at hl
    · rename_i y hk
      rw [hk] at hx
      obtain ⟨h1, hl⟩ := hl
      split at hl
      · rename_i k n hn
        rw [hn] at hi
        obtain ⟨h2, h3, h4⟩ := hl
        have hev : a.eval i = .int k n := by simpa [RepPV, RepD] using hi
        have := ok_index_str (k := k) (i := n) h (strA_under h1) hx h2 h3 h4
        rw [← hev] at this
        exact this
      · exact hl.elim
    · exact hl.elim
  case slice t x lo hi mx =>
    cases mx with
    | none => exact ok_sliceA h (rep_ev he x) (rep_evO he lo) (rep_evO he hi) hl
    | some m => exact hl.elim
  case makeSlice t l c =>
    obtain ⟨el, sz, by_, zs, k, n, k', m, h1, h2, h3, h4, h5, h6, h7, h8, h9, h10, h11, h12, h13⟩ := hl
    exact ok_make h h1 h2 h3 h4 h5 h6 (by rw [← h7]; exact rep_ev he l) (by rw [← h8]; exact rep_ev he c) h9 h10 h11 h12 h13
  case makeInterface t x =>
    obtain ⟨h1, d, h2, h3⟩ := hl
    unfold plainA at h1
    cases hu : P.underlying t with
    | none => rw [hu] at h1; cases h1
    | some ds =>
      rw [hu] at h1
      exact ok_iface h hu (fun ms e => by subst e; cases h1) (rep_ev he x) h2 h3

theorem St.trans {w0 : World} {F0 mods F F' : Nat → Prop} {ρ ρ' : Nat → Option Nat} {S S' : Heap} {w w' : World} (h : St w0 F0 mods F ρ S w) (h' : St w F (fun b => ∃ o, Lives S ρ o b) F' ρ' S' w') :
    St w0 F0 mods F' ρ' S' w' where
  objs := h'.objs
  inj := h'.inj
  notF := h'.notF
  bound := h'.bound
  mine := fun o b hl => by
    rcases h'.mine o b hl with ⟨o', h1⟩ | h1
    · exact h.mine o' b h1
    · right; have := h.grow; omega
  grow := Nat.le_trans h.grow h'.grow
  os := h'.os.trans h.os
  tape := h'.tape.trans h.tape
  output := h'.output.trans h.output
  keep := fun b hb hm => by
    rw [h'.keep b (by have := h.grow; omega) ?_]
    · exact h.keep b hb hm
    · rintro ⟨o, hl⟩
      rcases h.mine o b hl with h1 | h1
      · exact hm h1
      · omega
  bsize := fun b => Nat.le_trans (h.bsize b) (h'.bsize b)
  f0 := fun b hb => h'.f0 b (h.f0 b hb)
  fnew := fun b hb => by
    rcases h'.fnew b hb with h1 | ⟨o, h1⟩ | h1
    · exact h.fnew b h1
    · rcases h.mine o b h1 with h2 | h2
      · exact .inr (.inl h2)
      · exact .inr (.inr h2)
    · right; right; have := h.grow; omega

theorem St.start {w0 : World} {F0 mods F : Nat → Prop} {ρ : Nat → Option Nat} {S : Heap} {w : World} (h : St w0 F0 mods F ρ S w) : St w F (fun b => ∃ o, Lives S ρ o b) F ρ S w :=
  ⟨h.objs, h.inj, h.notF, h.bound, fun o b hl => .inl ⟨o, hl⟩, Nat.le_refl _, rfl, rfl, rfl, fun _ _ _ => rfl, fun _ => Nat.le_refl _, fun _ h => h, fun _ h => .inl h⟩

/-- The slot that an operation writes is there. -/
def dstOk (nt : Nat) (o : Oper) : Bool := match o.dst with
  | none => true
  | some d => decide (d < nt)

theorem look_put {w : World} {F : Nat → Prop} {ρ : Nat → Option Nat} {C : Nat → OI} {e : Env} {a : Act} {nt : Nat} (he : ∀ t, RepPV w F ρ C (look e t) (a.tmps.getD t undef)) (hn : a.tmps.size = nt) {o : Oper} (hd : dstOk nt o = true)
    {p : PV} {v : Value} (hp : RepPV w F ρ C p v) : ∀ t, RepPV w F ρ C (look (put e o.dst p) t) ((a.put o.dst v).tmps.getD t undef) := by
  intro t
  cases h : o.dst with
  | none => simpa [put, Act.put] using he t
  | some d =>
    have hd' : d < a.tmps.size := by rw [hn]; simpa [dstOk, h] using hd
    simp only [put, look, Act.put]
    by_cases e : t = d
    · subst e
      simp [hd', hp]
    · rw [if_neg e]
      have := he t
      simpa [Array.getElem?_setIfInBounds_ne (Ne.symm e)] using this

theorem InvAt.put {G : Ghost} {e : Env} {S S' : Heap} {a : Act} {w w' : World} {F F' : Nat → Prop} {ρ ρ' : Nat → Option Nat} (h : InvAt G e S a w F ρ) (hk : Keeps w w' F F' ρ ρ' (info S) (info S')) (hs : St G.w0 G.F0 G.mods F' ρ' S' w')
    {o : Oper} (hd : dstOk G.nt o = true) {p : PV} {v : Value} (hp : RepPV w' F' ρ' (info S') p v) : InvAt G (put e o.dst p) S' (a.put o.dst v) w' F' ρ' where
  st := hs
  env := look_put (fun t => (h.env t).keeps hk) h.nt hd hp
  keeps := h.keeps.trans hk
  nt := by
    cases ho : o.dst with
    | none => exact h.nt
    | some d => simpa [Act.put] using h.nt
  defers := by
    cases ho : o.dst with
    | none => exact h.defers
    | some d => exact h.defers

/-- A slot's value written out. -/
theorem InvAt.known {G : Ghost} {e : Env} {S : Heap} {a : Act} {w : World} {F : Nat → Prop} {ρ : Nat → Option Nat} (h : InvAt G e S a w F ρ) {t : Nat} {p : PV} (hp : RepPV w F ρ (info S) p (a.tmps.getD t undef)) :
    InvAt G ((t, p) :: e) S a w F ρ :=
  ⟨h.st, fun s => by
    simp only [look]
    by_cases hs : s = t
    · subst hs; simpa using hp
    · rw [if_neg hs]; exact h.env s, h.keeps, h.nt, h.defers⟩

theorem execA_sound {G : Ghost} {e : Env} {S : Heap} {a : Act} {w : World} {F : Nat → Prop} {ρ : Nat → Option Nat} (h : InvAt G e S a w F ρ) {o : Oper} (hd : dstOk G.nt o = true) {K : PV → Heap → Prop} {QP : PV → Heap → Prop} {Q : Exit → Act → World → Prop}
    {next : Act → World → Prop} (hl : execA P e S o K QP) (hn : ∀ (pv : PV) (S' : Heap) (a' : Act) (w' : World), K pv S' → Inv G (Aw.put e o.dst pv) S' a' w' → next a' w')
    (hp : ∀ (p : PV) (S' : Heap) (v : Value) (w' : World) (F' : Nat → Prop) (ρ' : Nat → Option Nat), QP p S' → InvAt G e S' a w' F' ρ' → RepPV w' F' ρ' (info S') p v → Q (.panic [{ v, recovered := false }]) a w') :
    o.wp P a w next Q := by
  have okk : OpOk P (execOp a.eval o) G.w0 G.F0 G.mods F ρ S w K → o.wp P a w next Q := fun hl => by
    obtain ⟨nx, v, w', pv, S', F', ρ', h1, h2, h3, h4, h5, h6⟩ := hl
    unfold Oper.wp
    rw [h1]
    rcases h2 with rfl | ⟨rfl, rfl⟩
    · rw [Oper.upon_value]
      exact hn pv S' _ w' h3 ⟨F', ρ', h.put h6 h5 hd h4⟩
    · rw [Oper.upon_skip]
      exact hn pv S' _ w' h3 ⟨F', ρ', h.put h6 h5 hd h4⟩
  have plain : opA P e S o.op K → o.wp P a w next Q := fun hl => okk (opA_sound h.st h.env o hl)
  have enter : ∀ (f : FuncId) (as : List PV) (cargs : Array Value), CallX P f as S K QP → (execOp a.eval o).run P w = .ok (.enter f cargs) w → RepTs w F ρ (info S) as cargs.toList → o.wp P a w next Q := by
    intro f as cargs hl hrun hargs
    obtain ⟨R, hc, hk⟩ := hl
    have := hc.2 G.w0 G.F0 G.mods F ρ w cargs h.st hargs
    unfold Oper.wp
    rw [hrun, Oper.upon_enter]
    refine this.mono fun en w' hen => ?_
    obtain ⟨r, S', F', ρ', g1, g2, g3, g4⟩ := hen
    have hk' := hk r S' g1
    cases r with
    | ret p =>
      cases en with
      | returned v => exact hn p S' _ w' (hk' (RepPV.sized _ _ g2)) ⟨F', ρ', h.put g4 g3 hd g2⟩
      | panicked c => exact g2.elim
      | outgrown => exact g2.elim
    | pan p =>
      cases en with
      | returned v => exact g2.elim
      | outgrown => exact g2.elim
      | panicked c =>
        obtain ⟨v, rfl, g5⟩ := g2
        exact hp p S' v w' F' ρ' hk' ⟨g3, fun t => (h.env t).keeps g4, h.keeps.trans g4, h.nt, h.defers⟩ g5
  rcases hl with hl | hl
  case inr =>
   rcases hl with hl | hl
   case inr =>
    rcases hl with hl | hl
    case inr =>
      rcases hl with hl | ⟨f, as, h1, h2⟩
      · exact okk (hl _ _ _ _ _ _ a h.st fun x _ => rep_ev h.env x)
      · obtain ⟨cargs, h3, h4⟩ := h2 F ρ w a fun x _ => rep_ev h.env x
        exact enter f as cargs h1 h3 h4
    unfold LitA at hl
    split at hl
    · rename_i T len parts hop
      obtain ⟨el, sz, zs, cs, h1, h2, h3, h4, h5, h6, h7, h8, h9⟩ := hl
      have hp := rep_parts h.env parts.toList
      have hok : OpOk P (execOp a.eval o) G.w0 G.F0 G.mods F ρ S w K := by
        simp only [execOp, hop]
        generalize hq : Array.map _ parts = q
        exact ok_buildOwn h.st h1 h2 h3 h4 h5 (parts := q) (by rw [← hq, Array.toList_map]; exact hp) h6 h7 h8 h9
      obtain ⟨nx, v, w', pv, S', F', ρ', g1, g2, g3, g4, g5, g6⟩ := hok
      unfold Oper.wp
      rw [g1]
      rcases g2 with rfl | ⟨rfl, rfl⟩
      · rw [Oper.upon_value]
        exact hn pv S' _ w' g3 ⟨F', ρ', h.put g6 g5 hd g4⟩
      · rw [Oper.upon_skip]
        exact hn pv S' _ w' g3 ⟨F', ρ', h.put g6 g5 hd g4⟩
    · exact hl.elim
   case inl =>
    unfold NilA at hl
    split at hl
    · rename_i op t x yt hop
      obtain ⟨h1, h2, n, h3, h4, h5⟩ := hl
      obtain ⟨b, h6, h8, h7⟩ := nil_rep (P := P) (x := x) (y := .const (.slice none 0 0)) (rep_ev h.env x) h2 h3 h4 op h1
      have hr : (execOp a.eval o).run P w = .ok (.value (.bool (if op = .eql then b else !b))) w := by
        simp only [execOp, hop]
        rw [Sem.run_bind]
        show (((do eqGuard op t x (.const (.slice none 0 0)) (a.eval x) (.slice none 0 0); binOp op t (a.eval x) (.slice none 0 0)) : Sem Value).run P w).andThen _ = _
        rw [h7]; rfl
      unfold Oper.wp
      rw [hr]
      rw [Oper.upon_value]
      exact hn _ S _ w (h5 b h6 h8) ⟨F, ρ, h.put (Keeps.refl ..) h.st hd (by simp [RepPV, RepD])⟩
    · exact hl.elim
  unfold execA0 at hl
  split at hl
  · rename_i f args argTypes hop
    have hargs : RepTs w F ρ (info S) (args.toList.map (ev e)) (args.map a.eval).toList := by
      have := rep_args h.env args.toList
      simpa using this
    obtain ⟨R, hc, hk⟩ := hl
    exact enter f _ (args.map a.eval) ⟨R, hc, hk⟩ (by simp [execOp, hop, resolve, Act.eval, Deferred.ofValue, invoke, hc.1]) hargs
  · rename_i x hop
    obtain ⟨t, d, h1, h2⟩ := hl
    have hx := rep_ev h.env x
    rw [h1] at hx
    simp only [RepPV, RepD] at hx
    obtain ⟨u, hu, hd'⟩ := hx
    unfold Oper.wp
    have hrun : (execOp a.eval o).run P w = .halt (.panic (.iface t u)) w := by
      simp [execOp, hop, hu, Instr.panic]
    rw [hrun, Oper.upon_panic]
    exact hp _ S _ w F ρ h2 h (by simp only [RepPV, RepD]; exact ⟨u, rfl, hd'⟩)
  · exact plain hl

end
end Go.Aw

/- Control: sequence, branches, blocks, loops; weakening; what a function answers. -/
set_option linter.unusedVariables false
set_option linter.unusedSimpArgs false
namespace Go.Aw

mutual
def scB (n : Nat) : PV → Bool
  | .ptr o _ => decide (o < n)
  | .own o _ _ => decide (o < n)
  | .eptr o _ _ _ _ => decide (o < n)
  | .agg cs => scBs n cs
  | .tup vs => scBs n vs
  | .wag pre _ _ post => scBs n pre && scBs n post
  | .asl o _ _ _ => decide (o < n)
  | .rptr o _ _ => decide (o < n)
  | .sub o _ _ _ _ => decide (o < n)
  | .mp o => decide (o < n)
  | _ => true
def scBs (n : Nat) : List PV → Bool
  | [] => true
  | p :: r => scB n p && scBs n r
end

theorem scBs_mem {n : Nat} : ∀ {ps : List PV}, scBs n ps = true → ∀ p ∈ ps, scB n p = true
  | [], _, p, hp => by simp at hp
  | q :: r, h, p, hp => by
    simp only [scBs, Bool.and_eq_true] at h
    rcases List.mem_cons.1 hp with rfl | hp
    · exact h.1
    · exact scBs_mem h.2 p hp

@[simp] theorem scBs_map_d (n : Nat) : ∀ l : List D, scBs n (l.map PV.d) = true
  | [] => rfl
  | d :: r => by simp [scBs, scB, scBs_map_d n r]

mutual
theorem RepPV.agree {w : World} {F : Nat → Prop} {ρ : Nat → Option Nat} {C C' : Nat → OI} {n : Nat} (hc : ∀ o, o < n → C' o = C o) : ∀ (p : PV) (v : Value), scB n p = true → RepPV w F ρ C p v → RepPV w F ρ C' p v
  | .any, v, _, h => by simp [RepPV]
  | .d x, v, _, h => by simpa [RepPV] using h
  | .nils, v, _, h => by simpa [RepPV] using h
  | .ptr o c, v, hs, h => by
    have := hc o (by simpa [scB] using hs)
    simp only [RepPV] at h ⊢
    rw [this]; exact h
  | .dp cells, v, _, h => by simpa [RepPV] using h
  | .own o sz m, v, hs, h => by
    have := hc o (by simpa [scB] using hs)
    simp only [RepPV] at h ⊢
    rw [this]; exact h
  | .eptr o m r sz c, v, hs, h => by
    have := hc o (by simpa [scB] using hs)
    simp only [RepPV] at h ⊢
    rw [this]; exact h
  | .agg cs, v, hs, h => by
    simp only [RepPV] at h ⊢
    obtain ⟨arr, h1, h2⟩ := h
    exact ⟨arr, h1, RepPVs.agree hc _ _ (by simpa [scB] using hs) h2⟩
  | .tup cs, v, hs, h => by
    simp only [RepPV] at h ⊢
    obtain ⟨arr, h1, h2⟩ := h
    exact ⟨arr, h1, RepTs.agree hc _ _ (by simpa [scB] using hs) h2⟩
  | .wag pre m run post, v, hs, h => by
    simp only [scB, Bool.and_eq_true] at hs
    simp only [RepPV] at h ⊢
    obtain ⟨h0, arr, h1, a, b, c, h2, h3, h4, h5⟩ := h
    exact ⟨h0, arr, h1, a, b, c, h2, RepPVs.agree hc _ _ hs.1 h3, h4, RepPVs.agree hc _ _ hs.2 h5⟩
  | .asl o c lo len, v, hs, h => by
    have := hc o (by simpa [scB] using hs)
    simp only [RepPV] at h ⊢
    rw [this]; exact h
  | .rptr o c i, v, hs, h => by
    have := hc o (by simpa [scB] using hs)
    simp only [RepPV] at h ⊢
    rw [this]; exact h
  | .sub o sz off m k, v, hs, h => by
    have := hc o (by simpa [scB] using hs)
    simp only [RepPV] at h ⊢
    rw [this]; exact h
  | .mp o, v, hs, h => by
    have := hc o (by simpa [scB] using hs)
    simp only [RepPV] at h ⊢
    rw [this]; exact h
theorem RepPVs.agree {w : World} {F : Nat → Prop} {ρ : Nat → Option Nat} {C C' : Nat → OI} {n : Nat} (hc : ∀ o, o < n → C' o = C o) : ∀ (p : List PV) (v : List Value), scBs n p = true → RepPVs w F ρ C p v → RepPVs w F ρ C' p v
  | [], vs, _, h => by simpa [RepPVs] using h
  | d :: r, vs, hs, h => by
    simp only [scBs, Bool.and_eq_true] at hs
    simp only [RepPVs] at h ⊢
    obtain ⟨v, us, h1, h2, h3, h4⟩ := h
    exact ⟨v, us, h1, h2, RepPV.agree hc _ _ hs.1 h3, RepPVs.agree hc _ _ hs.2 h4⟩
theorem RepTs.agree {w : World} {F : Nat → Prop} {ρ : Nat → Option Nat} {C C' : Nat → OI} {n : Nat} (hc : ∀ o, o < n → C' o = C o) : ∀ (p : List PV) (v : List Value), scBs n p = true → RepTs w F ρ C p v → RepTs w F ρ C' p v
  | [], vs, _, h => by simpa [RepTs] using h
  | d :: r, vs, hs, h => by
    simp only [scBs, Bool.and_eq_true] at hs
    simp only [RepTs] at h ⊢
    obtain ⟨v, us, h1, h3, h4⟩ := h
    exact ⟨v, us, h1, RepPV.agree hc _ _ hs.1 h3, RepTs.agree hc _ _ hs.2 h4⟩
end

def Ob.sc (n : Nat) (x : Ob) : Bool := scBs n x.cells

theorem RepEs.move {w : World} {F F' : Nat → Prop} {ρ ρ' : Nat → Option Nat} {C C' : Nat → OI} (hF : ∀ b, F b → F' b) : ∀ {es : List (D × Nat × PV)} {l : List MapEntry}, (∀ p ∈ es.map (fun e => e.2.2), ∀ v, RepPV w F ρ C p v → RepPV w F' ρ' C' p v) → RepEs w F ρ C es l → RepEs w F' ρ' C' es l
  | [], l, hp, h => h
  | (kk, bn, p) :: r, l, hp, h => by
    simp only [RepEs] at h ⊢
    obtain ⟨e, l, rfl, h1, h2, h3, h4⟩ := h
    exact ⟨e, l, rfl, h1.mono (fun _ _ => rfl) hF, h2, hp p (by simp) _ h3, RepEs.move hF (fun q hq => hp q (List.mem_cons_of_mem _ hq)) h4⟩
/-- What is known of the cells is known elsewhere. -/
theorem RepOb.move {w : World} {F F' : Nat → Prop} {ρ ρ' : Nat → Option Nat} {C C' : Nat → OI} {o o' : Nat} (hρ : ρ' o' = ρ o) (hF : ∀ b, F b → F' b) {x : Ob} (hp : ∀ p ∈ x.cells, ∀ v, RepPV w F ρ C p v → RepPV w F' ρ' C' p v)
    (h : RepOb w F ρ C o x) : RepOb w F' ρ' C' o' x := by
  have pre : ∀ arr, RepPre w F ρ C x.cells arr → RepPre w F' ρ' C' x.cells arr := fun arr hq j p hj => by
    obtain ⟨v, h1, h2, h3⟩ := hq j p hj
    exact ⟨v, h1, h2, hp p (List.mem_of_getElem? hj) v h3⟩
  cases x with
  | gone => trivial
  | fro rows =>
    rcases h with ⟨h1, h2⟩ | ⟨b, arr, T, h1, h2, hb, h3⟩
    · exact .inl ⟨hρ.trans h1, h2⟩
    · exact .inr ⟨b, arr, T, hρ.trans h1, h2, hF b hb, pre arr h3⟩
  | box cs => obtain ⟨b, arr, T, h1, h2, h3⟩ := h; exact ⟨b, arr, T, hρ.trans h1, h2, pre arr h3⟩
  | buf rows =>
    rcases h with ⟨h1, h2⟩ | ⟨b, arr, T, h1, h2, h3⟩
    · exact .inl ⟨hρ.trans h1, h2⟩
    · exact .inr ⟨b, arr, T, hρ.trans h1, h2, pre arr h3⟩
  | arr p n run q => obtain ⟨h0, b, arr, T, h1, h2, h3⟩ := h; exact ⟨h0, b, arr, T, hρ.trans h1, h2, pre arr h3⟩
  | mapo es c => obtain ⟨b, ents, h1, h2, h3⟩ := h; exact ⟨b, ents, hρ.trans h1, h2, h3.move hF hp⟩
  | itr mo a l c => obtain ⟨b, m, h1, h2, h3⟩ := h; exact ⟨b, m, hρ.trans h1, h2, hp _ (by simp [Ob.cells]) _ h3⟩

/-- Less is known of a value. -/
inductive PVLe : PV → PV → Prop
  | refl (p : PV) : PVLe p p
  | any (p : PV) : PVLe p .any
  | nils : PVLe .nils (.d (.sl []))
theorem PVLe.rep {w : World} {F : Nat → Prop} {ρ : Nat → Option Nat} {C : Nat → OI} {p q : PV} (h : PVLe p q) {v : Value} (hv : RepPV w F ρ C p v) : RepPV w F ρ C q v := by
  cases h with
  | refl => exact hv
  | any => simp [RepPV]
  | nils =>
    simp only [RepPV] at hv ⊢
    subst hv
    simp only [RepD]
    exact ⟨none, 0, 0, rfl, rfl, Nat.le_refl _, by unfold maxLen; omega, fun _ => rfl, fun ad h => by cases h⟩
/-- Less is known: some slots are let go, and the last objects. -/
def Weak (k : Nat) (e : Env) (S : Heap) (e' : Env) (S' : Heap) : Prop :=
  k ≤ S'.length ∧ (∃ extra, S = S' ++ extra) ∧ S'.all (Ob.sc S'.length) = true ∧ ∀ x ∈ e', PVLe (look e x.1) x.2 ∧ scB S'.length x.2 = true

theorem look_mem {e : Env} {t : Nat} : look e t = .any ∨ (t, look e t) ∈ e := by
  induction e with
  | nil => exact .inl rfl
  | cons x r ih =>
    obtain ⟨s, v⟩ := x
    simp only [look]
    by_cases h : t = s
    · subst h; right; simp
    · rw [if_neg h]
      rcases ih with h1 | h1
      · exact .inl h1
      · exact .inr (List.mem_cons_of_mem _ h1)

theorem info_prefix {S' extra : Heap} {o : Nat} (h : o < S'.length) : info (S' ++ extra) o = info S' o := by
  unfold info
  rw [List.getElem?_append_left h]

theorem Weak.inv {k : Nat} {e e' : Env} {S S' : Heap} (h : Weak k e S e' S') {G : Ghost} {a : Act} {w : World} (hG : G.S0.length = k) (hi : Inv G e S a w) : Inv G e' S' a w := by
  obtain ⟨hk, ⟨extra, rfl⟩, hS, he⟩ := h
  obtain ⟨F, ρ, hi⟩ := hi
  have hc : ∀ o, o < S'.length → info S' o = info (S' ++ extra) o := fun o ho => (info_prefix ho).symm
  have lv : ∀ o b, Lives S' ρ o b → Lives (S' ++ extra) ρ o b := by
    rintro o b ⟨h1, x, h2, h3⟩
    exact ⟨h1, x, by rw [List.getElem?_append_left (List.getElem?_eq_some_iff.1 h2).1]; exact h2, h3⟩
  refine ⟨F, ρ, ⟨⟨?_, fun o o' b h1 h2 => hi.st.inj o o' b (lv o b h1) (lv o' b h2), fun o b h1 => hi.st.notF o b (lv o b h1), hi.st.bound, fun o b h1 => hi.st.mine o b (lv o b h1), hi.st.grow, hi.st.os, hi.st.tape, hi.st.output,
    hi.st.keep, hi.st.bsize, hi.st.f0, hi.st.fnew⟩, ?_, ?_, hi.nt, hi.defers⟩⟩
  · intro o x hx
    have hlt := (List.getElem?_eq_some_iff.1 hx).1
    have hsc : scBs S'.length x.cells = true := List.all_eq_true.1 hS x (List.mem_of_getElem? hx)
    have := hi.st.objs o x (by rw [List.getElem?_append_left hlt]; exact hx)
    exact this.move rfl (fun _ h => h) fun p hp v hv => hv.agree hc _ _ (scBs_mem hsc p hp)
  · intro t
    rcases look_mem (e := e') (t := t) with h1 | h1
    · rw [h1]; simp [RepPV]
    · obtain ⟨h2, h3⟩ := he _ h1
      exact (h2.rep (hi.env t)).agree hc _ _ h3
  · have hk' := hi.keeps
    have lt : ∀ o, info G.S0 o ≠ .fresh → o < S'.length := fun o ho => by have := info_lt ho; omega
    refine ⟨hk'.same, hk'.sub, hk'.size, fun o ho => ?_, fun o ho hx => ?_, fun o m ho hx => ?_⟩
    · rw [hc o (lt o ho)]; exact hk'.old o ho
    · rw [hc o (lt o ho)] at hx; exact hk'.box o ho hx
    · rw [hc o (lt o ho)] at hx; exact hk'.buf o m ho hx

inductive CellsLe : List PV → List PV → Prop
  | refl (l : List PV) : CellsLe l l
  | nil : CellsLe [] []
  | cons {p q : PV} {r s : List PV} (h : PVLe p q) (t : CellsLe r s) : CellsLe (p :: r) (q :: s)
inductive ObLe : Ob → Ob → Prop
  | refl (x : Ob) : ObLe x x
  | gone (x : Ob) : ObLe x .gone
  | box {cs ds : List PV} (h : CellsLe cs ds) : ObLe (.box cs) (.box ds)
/-- Less is known of the objects, and nothing of the last ones. -/
def HLe : Heap → Heap → Prop
  | _, [] => True
  | [], _ :: _ => False
  | x :: S, y :: S' => ObLe x y ∧ HLe S S'

theorem HLe.refl_append : ∀ {S extra : Heap}, HLe (S ++ extra) S
  | [], extra => by cases extra <;> trivial
  | x :: S, extra => ⟨.refl x, HLe.refl_append⟩
theorem HLe.get : ∀ {S S' : Heap} {o : Nat} {y : Ob}, HLe S S' → S'[o]? = some y → ∃ x, S[o]? = some x ∧ ObLe x y
  | S, [], o, y, _, h => by simp at h
  | [], _ :: _, o, y, h, _ => h.elim
  | x :: S, z :: S', 0, y, h, hy => by
    simp only [List.getElem?_cons_zero, Option.some.injEq] at hy
    subst hy
    exact ⟨x, rfl, h.1⟩
  | x :: S, z :: S', o + 1, y, h, hy => by
    simp only [List.getElem?_cons_succ] at hy
    simpa using HLe.get h.2 hy
theorem HLe.length : ∀ {S S' : Heap}, HLe S S' → S'.length ≤ S.length
  | S, [], _ => Nat.zero_le _
  | [], _ :: _, h => h.elim
  | x :: S, z :: S', h => by have := HLe.length h.2; simp; omega

theorem CellsLe.get {r s : List PV} (h : CellsLe r s) : ∀ {j : Nat} {q : PV}, s[j]? = some q → ∃ p, r[j]? = some p ∧ PVLe p q := by
  induction h with
  | refl l => exact fun hq => ⟨_, hq, .refl _⟩
  | nil => intro j q hq; simp at hq
  | cons h t ih =>
    intro j q hq
    cases j with
    | zero => simp at hq; subst hq; exact ⟨_, rfl, h⟩
    | succ j => simpa using ih (by simpa using hq)
theorem ObLe.info {x y : Ob} (h : ObLe x y) : y.info = x.info ∨ y = .gone := by
  cases h with
  | refl => exact .inl rfl
  | gone => exact .inr rfl
  | box => exact .inl rfl

theorem HLe.keeps {S S' : Heap} (h : HLe S S') (w : World) (F : Nat → Prop) (ρ : Nat → Option Nat) : Keeps w w F F ρ ρ (info (S' ++ S.drop S'.length)) (info (S' ++ S.drop S'.length)) := Keeps.refl ..

theorem info_le {S S' : Heap} (h : HLe S S') (o : Nat) : info (S' ++ S.drop S'.length) o = info S o ∨ (info (S' ++ S.drop S'.length) o = .gone ∧ o < S'.length) := by
  have hl := h.length
  rcases Nat.lt_or_ge o S'.length with hlt | hge
  · obtain ⟨x, hx, hle⟩ := h.get (List.getElem?_eq_getElem hlt)
    have e1 : info (S' ++ S.drop S'.length) o = S'[o].info := by rw [info_prefix hlt]; exact info_of (List.getElem?_eq_getElem hlt)
    rcases hle.info with hi | hi
    · left; rw [e1, hi, info_of hx]
    · right; rw [e1, hi]; exact ⟨rfl, hlt⟩
  · left
    unfold info
    rw [List.getElem?_append_right hge, List.getElem?_drop]
    congr 2
    omega

theorem HLe.inv {S S' : Heap} (h : HLe S S') {e : Env} {G : Ghost} {a : Act} {w : World} (hi : Inv G e S a w) (hk : ∀ o, o < G.S0.length → info (S' ++ S.drop S'.length) o = info S o ∨ info (S' ++ S.drop S'.length) o = .gone) :
    Inv G e (S' ++ S.drop S'.length) a w := by
  obtain ⟨F, ρ, hi⟩ := hi
  have hl := h.length
  have hinf := info_le h
  have kk : Keeps w w F F ρ ρ (info S) (info (S' ++ S.drop S'.length)) := by
    refine ⟨fun _ _ => rfl, fun _ h => h, fun _ => Nat.le_refl _, fun o ho => ?_, fun o ho hx => ?_, fun o m ho hx => ?_⟩
    · rcases hinf o with e1 | ⟨e1, _⟩
      · rw [e1]; exact ho
      · rw [e1]; simp
    · rcases hinf o with e1 | ⟨e1, _⟩
      · rw [e1] at hx; exact ⟨hx, rfl⟩
      · rw [e1] at hx; cases hx
    · rcases hinf o with e1 | ⟨e1, _⟩
      · rw [e1] at hx; exact ⟨m, hx, Nat.le_refl _, fun _ => rfl⟩
      · rw [e1] at hx; cases hx
  have obj : ∀ (o : Nat) (y : Ob), (S' ++ S.drop S'.length)[o]? = some y → ∃ x, S[o]? = some x ∧ ObLe x y := by
    intro o y hy
    rcases Nat.lt_or_ge o S'.length with hlt | hge
    · rw [List.getElem?_append_left hlt] at hy
      exact h.get hy
    · rw [List.getElem?_append_right hge, List.getElem?_drop] at hy
      rw [show S'.length + (o - S'.length) = o by omega] at hy
      exact ⟨y, hy, .refl y⟩
  have lv : ∀ o b, Lives (S' ++ S.drop S'.length) ρ o b → Lives S ρ o b := by
    rintro o b ⟨h1, y, h2, h3⟩
    obtain ⟨x, hx, hle⟩ := obj o y h2
    refine ⟨h1, x, hx, ?_⟩
    cases hle with
    | refl => exact h3
    | gone => exact h3.elim
    | box => trivial
  refine ⟨F, ρ, ⟨⟨?_, fun o o' b h1 h2 => hi.st.inj o o' b (lv o b h1) (lv o' b h2), fun o b h1 => hi.st.notF o b (lv o b h1), hi.st.bound, fun o b h1 => hi.st.mine o b (lv o b h1), hi.st.grow, hi.st.os, hi.st.tape, hi.st.output,
    hi.st.keep, hi.st.bsize, hi.st.f0, hi.st.fnew⟩, fun t => (hi.env t).keeps kk, hi.keeps.trans kk, hi.nt, hi.defers⟩⟩
  intro o y hy
  obtain ⟨x, hx, hle⟩ := obj o y hy
  have hx' := (hi.st.objs o x hx).keeps kk rfl fun b _ _ => rfl
  cases hle with
  | refl => exact hx'
  | gone => trivial
  | box hc =>
    obtain ⟨b, arr, T, h1, h2, h3⟩ := hx'
    refine ⟨b, arr, T, h1, h2, fun j q hj => ?_⟩
    obtain ⟨p, hp, hle⟩ := hc.get hj
    obtain ⟨v, g1, g2, g3⟩ := h3 j p hp
    exact ⟨v, g1, g2, hle.rep g3⟩

def WeakH (k : Nat) (e : Env) (S : Heap) (e' : Env) (S' : Heap) : Prop :=
  k ≤ S'.length ∧ HLe S S' ∧ S'.all (Ob.sc S'.length) = true ∧ ∀ x ∈ e', PVLe (look e x.1) x.2 ∧ scB S'.length x.2 = true
theorem Weak.toH {k : Nat} {e e' : Env} {S S' : Heap} (h : Weak k e S e' S') : WeakH k e S e' S' := by
  obtain ⟨h1, ⟨extra, rfl⟩, h3, h4⟩ := h
  exact ⟨h1, HLe.refl_append, h3, h4⟩
theorem WeakH.inv {k : Nat} {e e' : Env} {S S' : Heap} (h : WeakH k e S e' S') {G : Ghost} {a : Act} {w : World} (hG : G.S0.length = k) (hi : Inv G e S a w) : Inv G e' S' a w := by
  obtain ⟨h1, h2, h3, h4⟩ := h
  have hi1 := h2.inv hi fun o _ => by rcases info_le h2 o with e1 | ⟨e1, _⟩ <;> simp [e1]
  exact Weak.inv (S := S' ++ S.drop S'.length) ⟨h1, ⟨_, rfl⟩, h3, h4⟩ hG hi1

/-- A loop, in every world that bears the state. -/
def LoopA (P : Program) (k nt : Nat) (c : Code) (Q : Post) (e : Env) (S : Heap) : Prop := Sem' P k nt (.loop c) Q e S

/-- A region whose order is drawn. -/
def DrawA (P : Program) (k nt : Nat) (id : Nat) (ops : Array Oper) (Q : Post) (e : Env) (S : Heap) : Prop := Sem' P k nt (.region id ops true) Q e S

/-- Ahead of a branch: the slot's value is known from now on. -/
def condE (c : Operand) (b : Bool) (e : Env) : Env := match c with
  | .tmp t => (t, .d (.b b)) :: e
  | _ => e

def codeOk (nt : Nat) : Code → Bool
  | .region _ ops _ => ops.all (dstOk nt)
  | .seq a b => codeOk nt a && codeOk nt b
  | .cond _ a b => codeOk nt a && codeOk nt b
  | .block _ c => codeOk nt c
  | .loop c => codeOk nt c
  | _ => true

def AWs (P : Program) (k nt : Nat) : Code → Post → Env → Heap → Prop
  | .skip, Q => Q .normal
  | .region id ops draw, Q => fun e S => (match draw with
    | false => opsA P ops Q (List.range ops.size) e S
    | true => DrawA P k nt id ops Q e S) ∨ (codeOk nt (.region id ops draw) = true → Sem' P k nt (.region id ops draw) Q e S)
  | .seq a b, Q => AWs P k nt a fun
    | .normal => AWs P k nt b Q
    | x => Q x
  | .cond c x y, Q => fun e S => (∃ b, ev e c = .d (.b b) ∧ (b = true → AWs P k nt x Q (condE c true e) S) ∧ (b = false → AWs P k nt y Q (condE c false e) S)) ∨ (codeOk nt (.cond c x y) = true → Sem' P k nt (.cond c x y) Q e S)
  | .block id c, Q => fun e S => AWs P k nt c (fun
    | .exit i => if i = id then Q .normal else Q (.exit i)
    | x => Q x) e S ∨ (codeOk nt (.block id c) = true → Sem' P k nt (.block id c) Q e S)
  | .loop c, Q => LoopA P k nt c Q
  | .exit id, Q => Q (.exit id)
  | .ret, Q => Q .ret
  | _, _ => fun _ _ => False

section
variable {P : Program}

theorem liftQ_mono {G : Ghost} {Q Q' : Post} (h : ∀ x e S, Q x e S → Q' x e S) : ∀ (x : Exit) (a : Act) (w : World), liftQ G Q x a w → liftQ G Q' x a w
  | .normal, a, w, ⟨e, S, h1, h2⟩ => ⟨e, S, h _ _ _ h1, h2⟩
  | .exit id, a, w, ⟨e, S, h1, h2⟩ => ⟨e, S, h _ _ _ h1, h2⟩
  | .ret, a, w, ⟨e, S, h1, h2⟩ => ⟨e, S, h _ _ _ h1, h2⟩
  | .panic c, a, w, ⟨e, S, v, p, F, ρ, h0, h1, h2, h3⟩ => ⟨e, S, v, p, F, ρ, h0, h _ _ _ h1, h2, h3⟩
  | .goto l, a, w, h1 => h1.elim
  | .outgrown, a, w, h1 => h1.elim

theorem known_operand {G : Ghost} {e : Env} {S : Heap} {a : Act} {w : World} {F : Nat → Prop} {ρ : Nat → Option Nat} (h : InvAt G e S a w F ρ) {c : Operand} {b : Bool} (hc : ev e c = .d (.b b)) : InvAt G (condE c b e) S a w F ρ := by
  cases c with
  | tmp t =>
    refine h.known ?_
    have := h.env t
    simp only [ev] at hc
    rwa [hc] at this
  | const v => exact h
  | global g => exact h
  | func f => exact h

theorem stepA_sound {G : Ghost} {e : Env} {S : Heap} {a : Act} {w : World} (h : Inv G e S a w) {ops : Array Oper} {i : Nat} {o : Oper} (ho : ops[i]? = some o) (hd : dstOk G.nt o = true) {K : Env → Heap → Prop} {Q : Post}
    {next : Act → World → Prop} (hl : stepA P ops o K Q e S) (hn : ∀ (e' : Env) (S' : Heap) (a' : Act) (w' : World), K e' S' → Inv G e' S' a' w' → next a' w') : wpOp P ops (liftQ G Q) i next a w := by
  obtain ⟨F, ρ, hi⟩ := h
  unfold wpOp
  simp only [ho]
  unfold stepA at hl
  split at hl
  · rename_i hg
    have hw : Region.wanted o (yielded ops a.tmps) = true := by simp [Region.wanted, hg]
    rw [if_pos hw]
    exact .inl (execA_sound hi hd hl (fun pv S' a' w' hk hi' => hn _ _ a' w' hk hi') fun p S' v w' F' ρ' hq hi' hr => ⟨e, S', v, p, F', ρ', rfl, hq, hi', hr⟩)
  · rename_i j want hg
    split at hl
    · rename_i t ht
      rcases hl with ⟨hu, hK⟩ | ⟨b, hb, h1, h2⟩
      · have hval : a.tmps.getD t undef = .tuple #[] := by
          have := hi.env t
          rw [hu] at this
          simp only [RepPV, RepTs] at this
          obtain ⟨arr, h1, h2⟩ := this
          rw [h1]
          congr 1
          exact Array.toList_inj.1 h2
        have hy : yielded ops a.tmps j = none := by
          simp only [yielded, ht, Option.bind_some]
          rcases Nat.lt_or_ge t a.tmps.size with h' | h'
          · have : a.tmps[t]? = some (.tuple #[]) := by simp [h'] at hval ⊢; exact hval
            simp [this]
          · simp [h']
        have hw : ¬ Region.wanted o (yielded ops a.tmps) = true := by simp [Region.wanted, hg, hy]
        rw [if_neg hw]
        exact hn _ _ _ _ hK ⟨F, ρ, hi.put (Keeps.refl ..) hi.st hd (by simp [RepPV, RepTs, undef])⟩
      have hval : a.tmps.getD t undef = .bool b := by
        have := hi.env t
        rw [hb] at this
        simpa [RepPV, RepD] using this
      have hget : a.tmps[t]? = some (.bool b) := by
        have hlt : t < a.tmps.size := by
          rcases Nat.lt_or_ge t a.tmps.size with h' | h'
          · exact h'
          · simp [h', undef] at hval
        simp [hlt] at hval ⊢
        exact hval
      have hy : yielded ops a.tmps j = some b := by simp [yielded, ht, hget]
      have hknown : ∀ c, b = c → InvAt G ((t, .d (.b c)) :: e) S a w F ρ := fun c hc => hi.known (by rw [hval]; simp [RepPV, RepD, hc])
      by_cases hbw : b = want
      · have hw : Region.wanted o (yielded ops a.tmps) = true := by simp [Region.wanted, hg, hy, hbw]
        rw [if_pos hw]
        exact .inl (execA_sound (hknown want hbw) hd (h1 hbw) (fun pv S' a' w' hk hi' => hn _ _ a' w' hk hi') fun p S' v w' F' ρ' hq hi' hr => ⟨e, S', v, p, F', ρ', rfl, hq,
          ⟨hi'.st, fun s => by
            have := hi'.env s
            simp only [look] at this
            by_cases hs : s = t
            · subst hs
              rw [hb]
              simp only [if_true] at this
              rw [hbw]; exact this
            · rwa [if_neg hs] at this, hi'.keeps, hi'.nt, hi'.defers⟩, hr⟩)
      · have hw : ¬ Region.wanted o (yielded ops a.tmps) = true := by simp [Region.wanted, hg, hy, hbw]
        rw [if_neg hw]
        have hb' : b = !want := by cases b <;> cases want <;> simp_all
        exact hn _ _ _ _ (h2 hb') ⟨F, ρ, (hknown _ hb').put (Keeps.refl ..) hi.st hd (by simp [RepPV, RepTs, undef])⟩
    · exact hl.elim

theorem opsA_sound {G : Ghost} {ops : Array Oper} {Q : Post} (hd : ops.all (dstOk G.nt) = true) : ∀ (l : List Nat) (e : Env) (S : Heap) (a : Act) (w : World), opsA P ops Q l e S → Inv G e S a w → wpOps P ops (liftQ G Q) l a w
  | [], e, S, a, w, h, hi => by
    simp only [wpOps]
    exact ⟨e, S, h, hi⟩
  | i :: r, e, S, a, w, h, hi => by
    rw [wpOps_cons]
    simp only [opsA] at h
    cases ho : ops[i]? with
    | none =>
      rw [ho] at h
      unfold wpOp
      simp only [ho]
      exact opsA_sound hd r e S a w h hi
    | some o =>
      rw [ho] at h
      exact stepA_sound hi ho (by
        have := Array.all_eq_true_iff_forall_mem.1 hd o (Array.mem_of_getElem? ho)
        exact this) h fun e' S' a' w' hk hi' => opsA_sound hd r e' S' a' w' hk hi'

theorem AWs_sound (k nt : Nat) : ∀ (c : Code) (Q : Post) (e : Env) (S : Heap), codeOk nt c = true → AWs P k nt c Q e S → Sem' P k nt c Q e S
  | .skip, Q, e, S, _, h => fun G a w _ _ hi => wp_skip ⟨e, S, h, hi⟩
  | .region id ops false, Q, e, S, hd, .inr h => h hd
  | .region id ops true, Q, e, S, hd, .inr h => h hd
  | .region id ops false, Q, e, S, hd, .inl h => fun G a w _ hn hi => wp_region (opsA_sound (by rw [hn]; exact hd) _ e S a w h hi)
  | .region id ops true, Q, e, S, hd, .inl h => h
  | .seq x y, Q, e, S, hd, h => fun G a w hk hn hi => by
    simp only [codeOk, Bool.and_eq_true] at hd
    refine wp_seq (wp_mono (AWs_sound k nt x _ e S hd.1 h G a w hk hn hi) fun en a' w' hq => ?_)
    cases en with
    | normal => obtain ⟨e', S', h1, h2⟩ := hq; exact AWs_sound k nt y Q e' S' hd.2 h1 G a' w' hk hn h2
    | exit id => exact hq
    | ret => exact hq
    | panic c => exact hq
    | goto l => exact hq.elim
    | outgrown => exact hq.elim
  | .cond c x y, Q, e, S, hd, .inr h => h hd
  | .cond c x y, Q, e, S, hd, .inl h => fun G a w hk hn hi => by
    simp only [codeOk, Bool.and_eq_true] at hd
    obtain ⟨b, h1, h2, h3⟩ := h
    obtain ⟨F, ρ, hi⟩ := hi
    have hc : a.eval c = .bool b := by
      have := rep_ev hi.env c
      rw [h1] at this
      simpa [RepPV, RepD] using this
    cases b with
    | true => exact wp_cond_true hc (AWs_sound k nt x Q _ S hd.1 (h2 rfl) G a w hk hn ⟨F, ρ, known_operand hi h1⟩)
    | false => exact wp_cond_false hc (AWs_sound k nt y Q _ S hd.2 (h3 rfl) G a w hk hn ⟨F, ρ, known_operand hi h1⟩)
  | .block id c, Q, e, S, hd, .inr h => h hd
  | .block id c, Q, e, S, hd, .inl h => fun G a w hk hn hi => by
    refine wp_block (wp_mono (AWs_sound k nt c _ e S hd h G a w hk hn hi) fun en a' w' hq => ?_)
    cases en with
    | normal => exact hq
    | exit i =>
      obtain ⟨e', S', h1, h2⟩ := hq
      simp only [Exit.inBlock]
      by_cases hi : i = id
      · rw [if_pos hi]; simp only [hi, if_true] at h1; exact ⟨e', S', h1, h2⟩
      · rw [if_neg hi]; simp only [hi, if_false] at h1; exact ⟨e', S', h1, h2⟩
    | ret => exact hq
    | panic c => exact hq
    | goto l => exact hq.elim
    | outgrown => exact hq.elim
  | .loop c, Q, e, S, hd, h => h
  | .exit id, Q, e, S, _, h => fun G a w _ _ hi => wp_exit ⟨e, S, h, hi⟩
  | .ret, Q, e, S, _, h => fun G a w _ _ hi => wp_ret ⟨e, S, h, hi⟩
  | .rangeFunc .., Q, e, S, _, h => h.elim
  | .scope _, Q, e, S, _, h => h.elim
  | .label _, Q, e, S, _, h => h.elim
  | .goto _, Q, e, S, _, h => h.elim
  | .refuse _, Q, e, S, _, h => h.elim

/-- A loop: what holds at every round's head. -/
theorem loopA {k nt : Nat} {c : Code} {Q : Post} {e : Env} {S : Heap} (hd : codeOk nt c = true) {γ : Type} (J : γ → Prop) (E : γ → Env) (H : γ → Heap) (μ : γ → Nat) (g0 : γ) (j0 : J g0) (h0 : WeakH k e S (E g0) (H g0))
    (round : ∀ g, J g → AWs P k nt c (fun
      | .normal => fun e' S' => ∃ g', J g' ∧ WeakH k e' S' (E g') (H g') ∧ μ g' < μ g
      | x => Q x) (E g) (H g)) : LoopA P k nt c Q e S := by
  intro G a w hk hn hi b kk cs
  have key : ∀ (n : Nat) (g : γ), μ g = n → J g → ∀ (a : Act) (w : World), Inv G (E g) (H g) a w →
      ∃ en a' w', liftQ G Q en a' w' ∧ Arrives P (lone (b.at a (.code c :: .inLoop c :: kk)) cs w) b kk cs en a' w' := by
    intro n
    induction n using Nat.strongRecOn with
    | _ n ih =>
      intro g hg hj a w hi
      obtain ⟨en, a₁, w₁, hq, harr⟩ := AWs_sound k nt c _ _ _ hd (round g hj) G a w hk hn hi b (.inLoop c :: kk) cs
      cases en with
      | normal =>
        obtain ⟨e', S', ⟨g', hj', hw, hlt⟩, hi'⟩ := hq
        obtain ⟨e₂, a₂, w₂, hq₂, harr₂⟩ := ih (μ g') (hg ▸ hlt) g' rfl hj' a₁ w₁ (hw.inv hk hi')
        exact ⟨e₂, a₂, w₂, hq₂, .of_steps (Steps.trans harr (.one step_inLoop)) harr₂⟩
      | exit id => exact ⟨.exit id, a₁, w₁, hq, .pass (x := .inLoop c) rfl (fun _ _ => .inl (by simp)) harr⟩
      | goto l => exact hq.elim
      | ret => exact ⟨.ret, a₁, w₁, hq, .pass (x := .inLoop c) rfl (fun _ _ => .inl (by simp)) harr⟩
      | panic ch => exact ⟨.panic ch, a₁, w₁, hq, .pass (x := .inLoop c) rfl (fun _ _ => .inl (by simp)) harr⟩
      | outgrown => exact hq.elim
  obtain ⟨en, a', w', hq, harr⟩ := key (μ g0) g0 rfl j0 a w (h0.inv hk hi)
  exact ⟨en, a', w', hq, .of_steps (.one step_loop) harr⟩
end
end Go.Aw

/- What a function answers; calls. -/
set_option linter.unusedVariables false
set_option linter.unusedSimpArgs false
namespace Go.Aw

/-! ### 1. The end of a function -/

def loadV (P : Program) (S : Heap) (t : TypeId) (p : PV) : Option PV := match p with
  | .ptr o c => match S[o]? with
    | some (.box cs) => match aggO P t with
      | some true => match szO P t with
        | some n => if c + n ≤ cs.length then some (.agg ((cs.drop c).take n)) else none
        | none => none
      | some false => cs[c]?
      | none => none
    | _ => none
  | _ => none

def resV (P : Program) (e : Env) (S : Heap) : ResultVar → Option PV
  | .tmp t => some (look e t)
  | .cell a t => loadV P S t (look e a)

def resVs (P : Program) (e : Env) (S : Heap) : List ResultVar → Option (List PV)
  | [] => some []
  | r :: rs => match resV P e S r, resVs P e S rs with
    | some p, some ps => some (p :: ps)
    | _, _ => none

def tupP : List PV → PV
  | [p] => p
  | ps => .tup ps

def toRows : List (List PV) → Option (List (List D))
  | [] => some []
  | r :: rs => match toDs r, toRows rs with
    | some d, some ds => some (d :: ds)
    | _, _ => none

/-- Values as they are handed out: what lies in objects from m on is data from now on. -/
def pubOwn (m : Nat) (S : Heap) (o sz n : Nat) : Option PV := if o < m then some (.own o sz n) else match S[o]? with
  | some (.buf rows) => if rows.length = n then (toRows rows).map (fun r => .d (.sl r)) else none
  | some (.fro ds) => if ds.length = n then some (.d (.sl ds)) else none
  | _ => none

/-- An array that is handed out as a slice. -/
def pubAsl (S : Heap) (o c lo len : Nat) : Option PV := match S[o]? with
  | some (.arr pre n run post) => if c = pre.length ∧ lo + len ≤ n then some (.d (.sl (((run.drop lo).take len).map fun d => [d]))) else none
  | _ => none

mutual
def pubV (m : Nat) (S : Heap) : PV → Option PV
  | .any => some .any
  | .d x => some (.d x)
  | .nils => some (.d (.sl []))
  | .ptr o c => if o < m then some (.ptr o c) else none
  | .dp cells => some (.dp cells)
  | .own o sz n => pubOwn m S o sz n
  | .eptr o n r sz c => if o < m then some (.eptr o n r sz c) else none
  | .agg cs => (pubVs m S cs).map .agg
  | .tup vs => (pubVs m S vs).map .tup
  | .wag pre n run post => match pubVs m S pre, pubVs m S post with
    | some a, some b => some (.wag a n run b)
    | _, _ => none
  | .asl o c lo len => if o < m then some (.asl o c lo len) else pubAsl S o c lo len
  | .rptr o c i => if o < m then some (.rptr o c i) else none
  | .sub o sz off n k => if o < m then some (.sub o sz off n k) else none
  | .mp o => if o < m then some (.mp o) else none
def pubVs (m : Nat) (S : Heap) : List PV → Option (List PV)
  | [] => some []
  | p :: r => match pubV m S p, pubVs m S r with
    | some q, some qs => some (q :: qs)
    | _, _ => none
end

@[simp] theorem pubVs_map_d (m : Nat) (S : Heap) : ∀ l : List D, pubVs m S (l.map PV.d) = some (l.map PV.d)
  | [] => rfl
  | d :: r => by simp [pubVs, pubV, pubVs_map_d m S r]

/-- What a function's end must show: R of what it answers; objects from m on are let go. -/
def retQ (P : Program) (m : Nat) (rs : List ResultVar) (R : ARes → Heap → Prop) : Post := fun
  | .normal => fun e S => ∃ vs r, resVs P e S rs = some vs ∧ pubV m S (tupP vs) = some r ∧ m ≤ S.length ∧ (S.take m).all (Ob.sc m) = true ∧ R (.ret r) (S.take m)
  | .ret => fun e S => ∃ vs r, resVs P e S rs = some vs ∧ pubV m S (tupP vs) = some r ∧ m ≤ S.length ∧ (S.take m).all (Ob.sc m) = true ∧ R (.ret r) (S.take m)
  | .panic p => fun e S => ∃ r, pubV m S p = some r ∧ m ≤ S.length ∧ (S.take m).all (Ob.sc m) = true ∧ R (.pan r) (S.take m)
  | .exit _ => fun _ _ => False

def env0 : Nat → List PV → Env
  | _, [] => []
  | i, p :: r => (i, p) :: env0 (i + 1) r

theorem look_env0 {w : World} {F : Nat → Prop} {ρ : Nat → Option Nat} {C : Nat → OI} : ∀ {i : Nat} {ps : List PV} {vs : List Value}, RepTs w F ρ C ps vs → ∀ t, look (env0 i ps) t = .any ∨ (i ≤ t ∧ ∃ v, vs[t - i]? = some v ∧ RepPV w F ρ C (look (env0 i ps) t) v)
  | i, [], vs, h, t => .inl rfl
  | i, p :: r, vs, h, t => by
    simp only [RepTs] at h
    obtain ⟨v, us, rfl, h2, h3⟩ := h
    simp only [env0, look]
    by_cases e : t = i
    · subst e
      right
      exact ⟨Nat.le_refl _, v, by simp, by simpa using h2⟩
    · rw [if_neg e]
      rcases look_env0 (i := i + 1) h3 t with h4 | ⟨h4, u, h5, h6⟩
      · exact .inl h4
      · refine .inr ⟨by omega, u, ?_, h6⟩
        rw [show t - i = (t - (i + 1)) + 1 by omega, List.getElem?_cons_succ]
        exact h5

section
variable {P : Program}

theorem toRows_spec : ∀ {rows : List (List PV)} {rs : List (List D)}, toRows rows = some rs → toDs rows.flatten = some rs.flatten ∧ rs.length = rows.length
  | [], rs, h => by simp only [toRows, Option.some.injEq] at h; subst h; simp [toDs]
  | r :: rows, rs, h => by
    simp only [toRows] at h
    split at h
    · rename_i d ds h1 h2
      cases h
      obtain ⟨e1, e2⟩ := toRows_spec h2
      have app : ∀ (a : List PV) (x : List D) (b : List PV) (y : List D), toDs a = some x → toDs b = some y → toDs (a ++ b) = some (x ++ y) := by
        intro a
        induction a with
        | nil => intro x b y h1 h2; simp only [toDs, Option.some.injEq] at h1; subst h1; simpa using h2
        | cons p a ih =>
          intro x b y h1 h2
          simp only [toDs] at h1
          split at h1
          · rename_i d' ds' g1 g2
            cases h1
            simp [toDs, g1, ih _ _ _ g2 h2]
          · cases h1
      exact ⟨by simpa using app _ _ _ _ h1 e1, by simp [e2]⟩
    · cases h

theorem RepPre.toDs {w : World} {F F' : Nat → Prop} {ρ : Nat → Option Nat} {C : Nat → OI} {b : Nat} (hF : ∀ x, F x → F' x) (hb : F' b) : ∀ {ps : List PV} {ds : List D} {arr : Array Value} {T : TypeId} (off : Nat), w.heap[b]? = some (.cells arr T (0, 0)) →
    (∀ (j : Nat) (p : PV), ps[j]? = some p → ∃ v, arr[off + j]? = some v ∧ oneCell v = true ∧ RepPV w F ρ C p v) → Aw.toDs ps = some ds → RepAt w F' b off ds
  | [], ds, arr, T, off, hh, hp, hd => by simp only [Aw.toDs, Option.some.injEq] at hd; subst hd; simp [RepAt]
  | p :: ps, ds, arr, T, off, hh, hp, hd => by
    simp only [Aw.toDs] at hd
    split at hd
    · rename_i d ds' h1 h2
      cases hd
      obtain ⟨v, e1, e2, e3⟩ := hp 0 p rfl
      simp only [RepAt]
      refine ⟨⟨hb, v, by rw [cell_of hh]; simpa using e1, e2, (PV.toD_rep h1 e3).mono (fun _ _ => rfl) hF⟩, RepPre.toDs (ρ := ρ) (C := C) hF hb (off + 1) hh (fun j q hj => ?_) h2⟩
      obtain ⟨u, f1, f2, f3⟩ := hp (j + 1) q (by simpa using hj)
      exact ⟨u, by rwa [show off + 1 + j = off + (j + 1) by omega], f2, f3⟩
    · cases hd

/-- What was stable, and the blocks of the objects from m on. -/
def Frozen (F : Nat → Prop) (ρ : Nat → Option Nat) (S : Heap) (m : Nat) : Nat → Prop := fun b => F b ∨ ∃ o, m ≤ o ∧ Lives S ρ o b

theorem info_take {S : Heap} {m o : Nat} (h : o < m) : info (S.take m) o = info S o := by
  unfold info
  rw [List.getElem?_take_of_lt h]

theorem rep_pubOwn {w0 : World} {F0 mods F : Nat → Prop} {ρ : Nat → Option Nat} {S : Heap} {w : World} (h : St w0 F0 mods F ρ S w) {m o sz n : Nat} {q : PV} {v : Value} (hq : pubOwn m S o sz n = some q) (hv : RepPV w F ρ (info S) (.own o sz n) v) :
    RepPV w (Frozen F ρ S m) ρ (info (S.take m)) q v := by
  unfold pubOwn at hq
  split at hq
  · rename_i ho
    cases hq
    simp only [RepPV] at hv ⊢
    rw [info_take ho]
    exact hv
  · rename_i ho
    split at hq
    · rename_i rows hx
      split at hq
      · rename_i hn
        obtain ⟨rs, h1, rfl⟩ := Option.map_eq_some_iff.1 hq
        obtain ⟨e1, e2⟩ := toRows_spec h1
        simp only [RepPV] at hv
        obtain ⟨hfr, a, cap, rfl, h2⟩ := hv
        have hi : info S o = .buf n := by rw [info_of hx, Ob.info, hn]
        simp only [RepPV, RepD]
        rcases (h2 n hi).2 rfl with ⟨g1, rfl, rfl, rfl⟩ | ⟨b, g1, rfl, g3, g4, g5⟩
        · exact ⟨none, 0, 0, rfl, by omega, Nat.le_refl _, by unfold maxLen; omega, fun _ => rfl, fun ad had => by cases had⟩
        · refine ⟨_, n, cap, rfl, by omega, g3, g4, (fun e => by cases e), fun ad had => ?_⟩
          cases had
          obtain ⟨arr, T, k1, k2⟩ := h.cells hx (by simp) g1
          refine ⟨fun _ => rfl, RepRows.of_flat (RepPre.toDs (F := F) (ρ := ρ) (C := info S) (fun x hx => .inl hx) (.inr ⟨o, by omega, g1, _, hx, by simp⟩) 0 k1 (fun j p hj => ?_) e1)⟩
          simpa using k2 j p (by simpa [Ob.cells] using hj)
      · cases hq
    · rename_i ds hx
      split at hq
      · rename_i hn
        cases hq
        simp only [RepPV] at hv
        obtain ⟨hfr, a, cap, rfl, h2⟩ := hv
        have hi : info S o = .buf n := by rw [info_of hx, Ob.info, hn]
        simp only [RepPV, RepD]
        rcases (h2 n hi).2 rfl with ⟨g1, rfl, rfl, rfl⟩ | ⟨b, g1, rfl, g3, g4, g5⟩
        · exact ⟨none, 0, 0, rfl, by omega, Nat.le_refl _, by unfold maxLen; omega, fun _ => rfl, fun ad had => by cases had⟩
        · refine ⟨_, n, cap, rfl, by omega, g3, g4, (fun e => by cases e), fun ad had => ?_⟩
          cases had
          exact ⟨fun _ => rfl, (h.fro hx g1).1.mono (fun _ _ => rfl) (fun x hx => .inl hx)⟩
      · cases hq
    · cases hq

theorem flat_single {α : Type} : ∀ l : List α, (l.map fun d => [d]).flatten = l
  | [] => rfl
  | d :: r => by simp [flat_single r]
theorem toDs_d : ∀ l : List D, toDs (l.map PV.d) = some l
  | [] => rfl
  | d :: r => by simp [toDs, PV.toD, toDs_d r]
theorem rep_pubAsl {w0 : World} {F0 mods F : Nat → Prop} {ρ : Nat → Option Nat} {S : Heap} {w : World} (h : St w0 F0 mods F ρ S w) {m o c lo len : Nat} {q : PV} {v : Value} (ho : ¬ o < m) (hq : pubAsl S o c lo len = some q) (hv : RepPV w F ρ (info S) (.asl o c lo len) v) :
    RepPV w (Frozen F ρ S m) ρ (info (S.take m)) q v := by
  unfold pubAsl at hq
  split at hq
  · rename_i pre n run post hx
    split at hq
    · rename_i hc
      obtain ⟨rfl, hl⟩ := hc
      cases hq
      simp only [RepPV] at hv
      obtain ⟨_, b, cap, rfl, g1, g2, hb⟩ := hv
      have hb := hb (by rw [info_of hx]; rfl)
      have hn : run.length = n := (h.objs o _ hx).1
      obtain ⟨arr, T, k1, k2⟩ := h.cells hx (by simp) hb
      simp only [RepPV, RepD]
      refine ⟨_, len, cap, rfl, by simp; omega, g1, g2, (fun e => by cases e), fun ad had => ?_⟩
      cases had
      refine ⟨fun _ => rfl, RepRows.of_flat ?_⟩
      rw [flat_single]
      refine RepPre.toDs (F := F) (ρ := ρ) (C := info S) (fun x hx => .inl hx) (.inr ⟨o, by omega, hb, _, hx, by simp⟩) (pre.length + lo) k1 (fun j p hj => ?_) (toDs_d _)
      have hjl : j < len := by have := (List.getElem?_eq_some_iff.1 hj).1; simp at this; omega
      obtain ⟨u, e1, e2, e3⟩ := k2 (pre.length + lo + j) p (by
        simp only [Ob.cells]
        rw [List.getElem?_append_right (by omega), List.getElem?_append_left (by simp; omega)]
        rw [List.map_take, List.map_drop, List.getElem?_take_of_lt hjl, List.getElem?_drop] at hj
        rw [← hj]; congr 1; omega)
      exact ⟨u, e1, e2, e3⟩
    · cases hq
  · cases hq

mutual
theorem rep_pubV {w0 : World} {F0 mods F : Nat → Prop} {ρ : Nat → Option Nat} {S : Heap} {w : World} (h : St w0 F0 mods F ρ S w) {m : Nat} : ∀ (p q : PV) (v : Value), pubV m S p = some q → RepPV w F ρ (info S) p v →
    RepPV w (Frozen F ρ S m) ρ (info (S.take m)) q v
  | .any, q, v, hq, hv => by simp only [pubV, Option.some.injEq] at hq; subst hq; simp [RepPV]
  | .d x, q, v, hq, hv => by
    simp only [pubV, Option.some.injEq] at hq; subst hq
    simp only [RepPV] at hv ⊢
    exact hv.mono (fun _ _ => rfl) fun b hb => .inl hb
  | .nils, q, v, hq, hv => by
    simp only [pubV, Option.some.injEq] at hq; subst hq
    simp only [RepPV] at hv
    subst hv
    simp only [RepPV, RepD]
    exact ⟨none, 0, 0, rfl, rfl, Nat.le_refl _, by unfold maxLen; omega, fun _ => rfl, fun ad h => by cases h⟩
  | .ptr o c, q, v, hq, hv => by
    simp only [pubV] at hq
    split at hq
    · rename_i ho; cases hq
      simp only [RepPV] at hv ⊢
      rw [info_take ho]; exact hv
    · cases hq
  | .dp cells, q, v, hq, hv => by
    simp only [pubV, Option.some.injEq] at hq; subst hq
    simp only [RepPV] at hv ⊢
    obtain ⟨b, off, h1, h2⟩ := hv
    exact ⟨b, off, h1, h2.mono (fun _ _ => rfl) fun b hb => .inl hb⟩
  | .own o sz n, q, v, hq, hv => rep_pubOwn h (by simpa [pubV] using hq) hv
  | .eptr o n r sz c, q, v, hq, hv => by
    simp only [pubV] at hq
    split at hq
    · rename_i ho; cases hq
      simp only [RepPV] at hv ⊢
      rw [info_take ho]; exact hv
    · cases hq
  | .agg cs, q, v, hq, hv => by
    simp only [pubV] at hq
    obtain ⟨qs, h1, rfl⟩ := Option.map_eq_some_iff.1 hq
    simp only [RepPV] at hv ⊢
    obtain ⟨arr, rfl, h2⟩ := hv
    exact ⟨arr, rfl, rep_pubVs h cs qs _ h1 h2⟩
  | .tup vs, q, v, hq, hv => by
    simp only [pubV] at hq
    obtain ⟨qs, h1, rfl⟩ := Option.map_eq_some_iff.1 hq
    simp only [RepPV] at hv ⊢
    obtain ⟨arr, rfl, h2⟩ := hv
    exact ⟨arr, rfl, rep_pubTs h vs qs _ h1 h2⟩
  | .wag pre n run post, q, v, hq, hv => by
    simp only [pubV] at hq
    split at hq
    · rename_i a b h1 h2
      cases hq
      simp only [RepPV] at hv ⊢
      obtain ⟨h0, arr, rfl, x, y, z, g1, g2, g3, g4⟩ := hv
      exact ⟨h0, arr, rfl, x, y, z, g1, rep_pubVs h pre a _ h1 g2, g3.mono (fun _ _ => rfl) (fun b hb => .inl hb), rep_pubVs h post b _ h2 g4⟩
    · cases hq
  | .asl o c lo len, q, v, hq, hv => by
    simp only [pubV] at hq
    split at hq
    · rename_i ho; cases hq
      simp only [RepPV] at hv ⊢
      rw [info_take ho]; exact hv
    · rename_i ho; exact rep_pubAsl h ho hq hv
  | .rptr o c i, q, v, hq, hv => by
    simp only [pubV] at hq
    split at hq
    · rename_i ho; cases hq
      simp only [RepPV] at hv ⊢
      rw [info_take ho]; exact hv
    · cases hq
  | .sub o sz off n k, q, v, hq, hv => by
    simp only [pubV] at hq
    split at hq
    · rename_i ho; cases hq
      simp only [RepPV] at hv ⊢
      rw [info_take ho]; exact hv
    · cases hq
  | .mp o, q, v, hq, hv => by
    simp only [pubV] at hq
    split at hq
    · rename_i ho; cases hq
      simp only [RepPV] at hv ⊢
      rw [info_take ho]; exact hv
    · cases hq
theorem rep_pubVs {w0 : World} {F0 mods F : Nat → Prop} {ρ : Nat → Option Nat} {S : Heap} {w : World} (h : St w0 F0 mods F ρ S w) {m : Nat} : ∀ (p q : List PV) (v : List Value), pubVs m S p = some q → RepPVs w F ρ (info S) p v →
    RepPVs w (Frozen F ρ S m) ρ (info (S.take m)) q v
  | [], q, v, hq, hv => by simp only [pubVs, Option.some.injEq] at hq; subst hq; simpa [RepPVs] using hv
  | p :: r, q, v, hq, hv => by
    simp only [pubVs] at hq
    split at hq
    · rename_i q1 qs h1 h2
      cases hq
      simp only [RepPVs] at hv ⊢
      obtain ⟨u, us, rfl, g2, g3, g4⟩ := hv
      exact ⟨u, us, rfl, g2, rep_pubV h p q1 u h1 g3, rep_pubVs h r qs us h2 g4⟩
    · cases hq
theorem rep_pubTs {w0 : World} {F0 mods F : Nat → Prop} {ρ : Nat → Option Nat} {S : Heap} {w : World} (h : St w0 F0 mods F ρ S w) {m : Nat} : ∀ (p q : List PV) (v : List Value), pubVs m S p = some q → RepTs w F ρ (info S) p v →
    RepTs w (Frozen F ρ S m) ρ (info (S.take m)) q v
  | [], q, v, hq, hv => by simp only [pubVs, Option.some.injEq] at hq; subst hq; simpa [RepTs] using hv
  | p :: r, q, v, hq, hv => by
    simp only [pubVs] at hq
    split at hq
    · rename_i q1 qs h1 h2
      cases hq
      simp only [RepTs] at hv ⊢
      obtain ⟨u, us, rfl, g3, g4⟩ := hv
      exact ⟨u, us, rfl, rep_pubV h p q1 u h1 g3, rep_pubTs h r qs us h2 g4⟩
    · cases hq
end

/-- The objects from m on are let go. -/
theorem St.cut {w0 : World} {F0 mods F : Nat → Prop} {ρ : Nat → Option Nat} {S : Heap} {w : World} (h : St w0 F0 mods F ρ S w) {m : Nat} (hs : (S.take m).all (Ob.sc m) = true) : St w0 F0 mods (Frozen F ρ S m) ρ (S.take m) w := by
  have lv : ∀ o b, Lives (S.take m) ρ o b → o < m ∧ Lives S ρ o b := by
    rintro o b ⟨h1, x, h2, h3⟩
    have hlt : o < m := by have := (List.getElem?_eq_some_iff.1 h2).1; simp at this; omega
    rw [List.getElem?_take_of_lt hlt] at h2
    exact ⟨hlt, h1, x, h2, h3⟩
  have hF : ∀ b, F b → Frozen F ρ S m b := fun b hb => .inl hb
  refine ⟨?_, fun o o' b h1 h2 => h.inj o o' b (lv o b h1).2 (lv o' b h2).2, ?_, ?_, fun o b h1 => h.mine o b (lv o b h1).2, h.grow, h.os, h.tape, h.output, h.keep, h.bsize, fun b hb => .inl (h.f0 b hb), ?_⟩
  · intro o x hx
    have hlt : o < m := by have := (List.getElem?_eq_some_iff.1 hx).1; simp at this; omega
    have hsc : scBs m x.cells = true := List.all_eq_true.1 hs x (List.mem_of_getElem? hx)
    rw [List.getElem?_take_of_lt hlt] at hx
    refine (h.objs o x hx).move rfl hF fun p hp v h3 => ?_
    have h4 := RepPV.agree (C' := info (S.take m)) (fun o ho => info_take ho) _ _ (scBs_mem hsc p hp) h3
    exact h4.keeps ⟨fun _ _ => rfl, hF, fun _ => Nat.le_refl _, fun _ h => h, fun _ _ h => ⟨h, rfl⟩, fun _ m _ h => ⟨m, h, Nat.le_refl _, fun _ => rfl⟩⟩
  · intro o b h1 hf
    obtain ⟨h2, h3⟩ := lv o b h1
    rcases hf with hf | ⟨o', h4, h5⟩
    · exact h.notF o b h3 hf
    · have := h.inj o o' b h3 h5; omega
  · intro b hb
    rcases hb with hb | ⟨o', h4, h5⟩
    · exact h.bound b hb
    · exact h.lives_lt h5
  · intro b hb
    rcases hb with hb | ⟨o', h4, h5⟩
    · exact h.fnew b hb
    · rcases h.mine o' b h5 with h6 | h6
      · exact .inr (.inl h6)
      · exact .inr (.inr h6)

theorem keeps_cut {w w0 : World} {F0 F : Nat → Prop} {ρ0 ρ : Nat → Option Nat} {S0 S : Heap} (h : Keeps w0 w F0 F ρ0 ρ (info S0) (info S)) {m : Nat} (hm : S0.length ≤ m) :
    Keeps w0 w F0 (Frozen F ρ S m) ρ0 ρ (info S0) (info (S.take m)) := by
  have e : ∀ o, info S0 o ≠ .fresh → info (S.take m) o = info S o := fun o ho => info_take (by have := info_lt ho; omega)
  exact ⟨h.same, fun b hb => .inl (h.sub b hb), h.size, fun o ho => by rw [e o ho]; exact h.old o ho, fun o ho hx => h.box o ho (by rwa [e o ho] at hx), fun o mm ho hx => h.buf o mm ho (by rwa [e o ho] at hx)⟩

theorem run_resV {G : Ghost} {e : Env} {S : Heap} {a : Act} {w : World} {F : Nat → Prop} {ρ : Nat → Option Nat} (h : InvAt G e S a w F ρ) : ∀ {r : ResultVar} {p : PV}, resV P e S r = some p →
    ∃ v, ((match r with | .tmp t => pure (a.tmps.getD t undef) | .cell c t => do loadVar t (← asAddr (a.tmps.getD c undef)) : Sem Value)).run P w = .ok v w ∧ RepPV w F ρ (info S) p v
  | .tmp t, p, hr => by
    simp only [resV, Option.some.injEq] at hr
    subst hr
    exact ⟨_, rfl, h.env t⟩
  | .cell c t, p, hr => by
    simp only [resV] at hr
    have hv := h.env c
    unfold loadV at hr
    split at hr
    · rename_i o c' hp
      rw [hp] at hv
      simp only [RepPV] at hv
      obtain ⟨hfr, b, hbv, hb⟩ := hv
      split at hr
      · rename_i cs hx
        have hb' := hb (by rw [info_of hx]; rfl)
        obtain ⟨arr, T, e1, e2⟩ := h.st.cells hx (by simp) hb'
        split at hr
        · rename_i ha
          split at hr
          · rename_i n hs
            split at hr
            · rename_i hl
              cases hr
              obtain ⟨vs, f1, f2, f3⟩ := e2.sub c' n (by simpa [Ob.cells] using hl)
              refine ⟨.agg vs.toArray, ?_, by simp only [RepPV]; exact ⟨_, rfl, f3⟩⟩
              have hrun := run_loadVar_agg (P := P) (w := w) ha hs ⟨b, c', none⟩ vs f1 (fun j v hj => by rw [add_mid, cell_of e1]; exact f2 j v hj)
              simp only [hbv, asAddr, Sem.run_bind, Sem.run_pure, Result.andThen_ok, hrun]
            · cases hr
          · cases hr
        · rename_i ha
          obtain ⟨v, f1, f2, f3⟩ := e2 c' p hr
          refine ⟨v, ?_, f3⟩
          have hrun := run_loadVar_one (P := P) (w := w) ha ⟨b, c', none⟩ (v := v) (by rw [cell_of e1]; exact f1)
          simp only [hbv, asAddr, Sem.run_bind, Sem.run_pure, Result.andThen_ok, hrun]
        · cases hr
      · cases hr
    · cases hr

theorem run_resVs {G : Ghost} {e : Env} {S : Heap} {a : Act} {w : World} {F : Nat → Prop} {ρ : Nat → Option Nat} (h : InvAt G e S a w F ρ) : ∀ {rs : List ResultVar} {ps : List PV}, resVs P e S rs = some ps →
    ∃ vs, (rs.mapM fun (r : ResultVar) => (match r with | .tmp t => pure (a.tmps.getD t undef) | .cell c t => do loadVar t (← asAddr (a.tmps.getD c undef)) : Sem Value)).run P w = .ok vs w ∧ RepTs w F ρ (info S) ps vs ∧ vs.length = ps.length
  | [], ps, hr => by simp only [resVs, Option.some.injEq] at hr; subst hr; exact ⟨[], rfl, by simp [RepTs], rfl⟩
  | r :: rs, ps, hr => by
    simp only [resVs] at hr
    split at hr
    · rename_i p ps' h1 h2
      cases hr
      obtain ⟨v, e1, e2⟩ := run_resV h h1
      obtain ⟨vs, f1, f2, f3⟩ := run_resVs h h2
      refine ⟨v :: vs, ?_, by simp only [RepTs]; exact ⟨v, vs, rfl, e2, f2⟩, by simp [f3]⟩
      simp only [List.mapM_cons, Sem.run_bind, e1, Result.andThen_ok, f1, Sem.run_pure]
    · cases hr

theorem run_results {G : Ghost} {e : Env} {S : Heap} {a : Act} {w : World} {F : Nat → Prop} {ρ : Nat → Option Nat} (h : InvAt G e S a w F ρ) {fn : Func} {ps : List PV} (hr : resVs P e S fn.results.toList = some ps) :
    ∃ v, (results fn a.tmps).run P w = .ok v w ∧ RepPV w F ρ (info S) (tupP ps) v := by
  obtain ⟨vs, h1, h2, h3⟩ := run_resVs h hr
  have hm : (results fn a.tmps).run P w = .ok (if h : vs.toArray.size = 1 then vs.toArray[0] else .tuple vs.toArray) w := by
    unfold results
    rw [Array.mapM_eq_mapM_toList]
    simp only [Sem.run_bind, Sem.run_map, Sem.run_pure]
    erw [h1]
    rfl
  refine ⟨_, hm, ?_⟩
  match ps, vs, h2, h3 with
  | [], [], h2, _ => simp only [tupP, RepPV]; exact ⟨#[], by simp, by simp [RepTs]⟩
  | [p], [v], h2, _ => simp only [RepTs] at h2; obtain ⟨u, us, e, h4, _⟩ := h2; cases e; simpa [tupP] using h4
  | p :: q :: r, v :: u :: t, h2, _ => simp only [tupP, RepPV]; exact ⟨_, by simp, h2⟩

/-- A function's contract, from its body. -/
theorem callsA_of {f : FuncId} {fn : Func} {c : Code} {args : List PV} {S0 : Heap} {R : ARes → Heap → Prop} (m : Nat) (hcall : ∀ args w, (callFunc f args).run P w = .ok (.enter f args) w) (hf : P.funcs[f]? = some fn) (hb : fn.body = some c)
    (hd : codeOk fn.ntmps c = true) (ha : args.length ≤ fn.ntmps) (hm : S0.length ≤ m) (h : AWs P S0.length fn.ntmps c (retQ P m fn.results.toList R) (env0 0 args) S0) : CallsA P f args S0 R := by
  refine ⟨hcall, fun w0 F0 mods F ρ w cargs hs hargs => ?_⟩
  have hlen : cargs.size = args.length := by
    have : ∀ (ps : List PV) (vs : List Value), RepTs w F ρ (info S0) ps vs → vs.length = ps.length := by
      intro ps
      induction ps with
      | nil => intro vs h; simp only [RepTs] at h; simp [h]
      | cons p r ih => intro vs h; simp only [RepTs] at h; obtain ⟨v, us, rfl, _, h3⟩ := h; simp [ih us h3]
    have := this _ _ hargs
    simpa using this
  let G : Ghost := { w0 := w, F0 := F, ρ0 := ρ, S0 := S0, nt := fn.ntmps }
  have hinit : Inv G (env0 0 args) S0 { tmps := cargs ++ Array.replicate (fn.ntmps - cargs.size) undef, defers := [] } w := by
    refine ⟨F, ρ, hs.start, fun t => ?_, Keeps.refl .., by simp [G]; omega, rfl⟩
    rcases look_env0 (i := 0) hargs t with h1 | ⟨h1, v, h2, h3⟩
    · rw [h1]; simp [RepPV]
    · have hlt : t < cargs.size := by have := (List.getElem?_eq_some_iff.1 h2).1; simpa using this
      have : (cargs ++ Array.replicate (fn.ntmps - cargs.size) undef).getD t undef = v := by
        have h2' : cargs[t]? = some v := by simpa using h2
        simp [Array.getElem?_append_left hlt, h2']
      simp only at this ⊢
      rw [this]
      exact h3
  have fin : ∀ (a : Act) (w' : World) (F' : Nat → Prop) (ρ' : Nat → Option Nat) (e : Env) (S : Heap), InvAt G e S a w' F' ρ' → (S.take m).all (Ob.sc m) = true →
      St w0 F0 mods (Frozen F' ρ' S m) ρ' (S.take m) w' ∧ Keeps w w' F (Frozen F' ρ' S m) ρ ρ' (info S0) (info (S.take m)) := by
    intro a w' F' ρ' e S hi hsc
    have h1 : St w F (fun b => ∃ o, Lives S0 ρ o b) F' ρ' S w' := hi.st
    exact ⟨hs.trans (h1.cut hsc), keeps_cut hi.keeps hm⟩
  have ret : ∀ (a : Act) (w' : World), (∃ e S, retQ P m fn.results.toList R .ret e S ∧ Inv G e S a w') → a.defers = [] ∧ ∃ v, (results fn a.tmps).run P w' = .ok v w' ∧
      ∃ r S' F' ρ', R r S' ∧ EndRep w' F' ρ' (info S') r (.returned v) ∧ St w0 F0 mods F' ρ' S' w' ∧ Keeps w w' F F' ρ ρ' (info S0) (info S') := by
    rintro a w' ⟨e, S, ⟨vs, r, h1, h2, h3, h4, h5⟩, F', ρ', hi⟩
    obtain ⟨v, g1, g2⟩ := run_results hi h1
    obtain ⟨g3, g4⟩ := fin a w' F' ρ' e S hi h4
    exact ⟨hi.defers, v, g1, .ret r, S.take m, _, ρ', h5, rep_pubV hi.st _ _ _ h2 g2, g3, g4⟩
  refine calls_of_wp hf hb (wp_mono (AWs_sound S0.length fn.ntmps c _ _ _ hd h G _ w rfl rfl hinit) fun en a w' hq => ?_)
  cases en with
  | normal => obtain ⟨e, S, h1, h2⟩ := hq; exact ret a w' ⟨e, S, h1, h2⟩
  | ret => exact ret a w' hq
  | exit id => obtain ⟨e, S, h1, h2⟩ := hq; exact h1.elim
  | goto l => exact hq.elim
  | outgrown => exact hq.elim
  | panic chain =>
    obtain ⟨e, S, v, p, F', ρ', rfl, ⟨r, h1, h2, h3, h4⟩, hi, hv⟩ := hq
    obtain ⟨g3, g4⟩ := fin a w' F' ρ' e S hi h3
    exact ⟨hi.defers, .pan r, S.take m, _, ρ', h4, ⟨v, rfl, rep_pubV hi.st _ _ _ h1 hv⟩, g3, g4⟩
end
end Go.Aw

/- A contract is used where more objects are about: the callee is handed some of them, under numbers of its own. -/
set_option linter.unusedVariables false
set_option linter.unusedSimpArgs false
namespace Go.Aw

mutual
def renV (σ : Nat → Nat) : PV → PV
  | .any => .any
  | .d x => .d x
  | .nils => .nils
  | .ptr o c => .ptr (σ o) c
  | .dp cells => .dp cells
  | .own o sz n => .own (σ o) sz n
  | .eptr o n r sz c => .eptr (σ o) n r sz c
  | .agg cs => .agg (renVs σ cs)
  | .tup vs => .tup (renVs σ vs)
  | .wag pre n run post => .wag (renVs σ pre) n run (renVs σ post)
  | .asl o c lo len => .asl (σ o) c lo len
  | .rptr o c i => .rptr (σ o) c i
  | .sub o sz off n k => .sub (σ o) sz off n k
  | .mp o => .mp (σ o)
def renVs (σ : Nat → Nat) : List PV → List PV
  | [] => []
  | p :: r => renV σ p :: renVs σ r
end

@[simp] theorem renVs_map_d (σ : Nat → Nat) : ∀ l : List D, renVs σ (l.map PV.d) = l.map PV.d
  | [] => rfl
  | d :: r => by simp [renVs, renV, renVs_map_d σ r]

theorem renVs_eq (σ : Nat → Nat) : ∀ l : List PV, renVs σ l = l.map (renV σ)
  | [] => rfl
  | p :: r => by simp [renVs, renVs_eq σ r]

def renO (σ : Nat → Nat) : Ob → Ob
  | .box cs => .box (renVs σ cs)
  | .buf rows => .buf (rows.map (renVs σ))
  | .gone => .gone
  | .fro rows => .fro rows
  | .arr pre n run post => .arr (renVs σ pre) n run (renVs σ post)
  | .mapo es c => .mapo (es.map fun e => (e.1, e.2.1, renV σ e.2.2)) c
  | .itr mo since seen last => .itr (σ mo) since seen last

mutual
theorem renV_nop (σ : Nat → Nat) : ∀ (p : PV), scB 0 p = true → renV σ p = p
  | .any, _ => rfl
  | .d x, _ => rfl
  | .nils, _ => rfl
  | .ptr o c, h => by simp [scB] at h
  | .dp cells, _ => rfl
  | .own o sz n, h => by simp [scB] at h
  | .eptr o n r sz c, h => by simp [scB] at h
  | .agg cs, h => by simp only [renV]; rw [renVs_nop σ cs (by simpa [scB] using h)]
  | .tup vs, h => by simp only [renV]; rw [renVs_nop σ vs (by simpa [scB] using h)]
  | .wag pre n run post, h => by
    simp only [scB, Bool.and_eq_true] at h
    simp only [renV]
    rw [renVs_nop σ pre h.1, renVs_nop σ post h.2]
  | .asl o c lo len, h => by simp [scB] at h
  | .rptr o c i, h => by simp [scB] at h
  | .sub o sz off n k, h => by simp [scB] at h
  | .mp o, h => by simp [scB] at h
theorem renVs_nop (σ : Nat → Nat) : ∀ (ps : List PV), scBs 0 ps = true → renVs σ ps = ps
  | [], _ => rfl
  | p :: r, h => by
    simp only [scBs, Bool.and_eq_true] at h
    simp only [renVs]
    rw [renV_nop σ p h.1, renVs_nop σ r h.2]
end

theorem renO_info (σ : Nat → Nat) (x : Ob) : (renO σ x).info = x.info := by cases x <;> simp [renO, Ob.info]
theorem renO_cells (σ : Nat → Nat) (x : Ob) : (renO σ x).cells = x.cells.map (renV σ) := by
  cases x with
  | box cs => simp [renO, Ob.cells, renVs_eq]
  | gone => simp [renO, Ob.cells]
  | fro rows =>
    simp only [renO, Ob.cells]
    rw [← List.map_flatten, List.map_map]
    rfl
  | buf rows =>
    simp only [renO, Ob.cells, List.map_flatten]
    congr 1
    apply List.map_congr_left
    intro r _
    exact renVs_eq σ r
  | arr pre n run post =>
    simp only [renO, Ob.cells, renVs_eq, List.map_append, List.map_map]
    rfl
  | mapo es c =>
    simp only [renO, Ob.cells, List.map_map]
    rfl
  | itr mo a l b => rfl

section
variable {w : World} {F : Nat → Prop} {ρ ρ' : Nat → Option Nat} {C C' : Nat → OI} {n : Nat} {σ : Nat → Nat}

mutual
theorem rep_ren (hc : ∀ o, o < n → C' (σ o) = C o ∧ ρ' (σ o) = ρ o) : ∀ (p : PV) (v : Value), scB n p = true → (RepPV w F ρ' C' (renV σ p) v ↔ RepPV w F ρ C p v)
  | .any, v, _ => by simp [RepPV, renV]
  | .d x, v, _ => by simp [RepPV, renV]
  | .nils, v, _ => by simp [RepPV, renV]
  | .ptr o c, v, hs => by
    have := hc o (by simpa [scB] using hs)
    simp only [renV, RepPV]
    rw [this.1, this.2]
  | .dp cells, v, _ => by simp [RepPV, renV]
  | .own o sz m, v, hs => by
    have := hc o (by simpa [scB] using hs)
    simp only [renV, RepPV]
    rw [this.1, this.2]
  | .eptr o m r sz c, v, hs => by
    have := hc o (by simpa [scB] using hs)
    simp only [renV, RepPV]
    rw [this.1, this.2]
  | .agg cs, v, hs => by
    simp only [renV, RepPV]
    constructor
    · rintro ⟨arr, h1, h2⟩; exact ⟨arr, h1, (reps_ren hc cs _ (by simpa [scB] using hs)).1 h2⟩
    · rintro ⟨arr, h1, h2⟩; exact ⟨arr, h1, (reps_ren hc cs _ (by simpa [scB] using hs)).2 h2⟩
  | .tup cs, v, hs => by
    simp only [renV, RepPV]
    constructor
    · rintro ⟨arr, h1, h2⟩; exact ⟨arr, h1, (rept_ren hc cs _ (by simpa [scB] using hs)).1 h2⟩
    · rintro ⟨arr, h1, h2⟩; exact ⟨arr, h1, (rept_ren hc cs _ (by simpa [scB] using hs)).2 h2⟩
  | .wag pre m run post, v, hs => by
    simp only [scB, Bool.and_eq_true] at hs
    simp only [renV, RepPV]
    constructor
    · rintro ⟨h0, arr, h1, a, b, c, h2, h3, h4, h5⟩; exact ⟨h0, arr, h1, a, b, c, h2, (reps_ren hc pre _ hs.1).1 h3, h4, (reps_ren hc post _ hs.2).1 h5⟩
    · rintro ⟨h0, arr, h1, a, b, c, h2, h3, h4, h5⟩; exact ⟨h0, arr, h1, a, b, c, h2, (reps_ren hc pre _ hs.1).2 h3, h4, (reps_ren hc post _ hs.2).2 h5⟩
  | .asl o c lo len, v, hs => by
    have := hc o (by simpa [scB] using hs)
    simp only [renV, RepPV]
    rw [this.1, this.2]
  | .rptr o c i, v, hs => by
    have := hc o (by simpa [scB] using hs)
    simp only [renV, RepPV]
    rw [this.1, this.2]
  | .sub o sz off m k, v, hs => by
    have := hc o (by simpa [scB] using hs)
    simp only [renV, RepPV]
    rw [this.1, this.2]
  | .mp o, v, hs => by
    have := hc o (by simpa [scB] using hs)
    simp only [renV, RepPV]
    rw [this.1, this.2]
theorem reps_ren (hc : ∀ o, o < n → C' (σ o) = C o ∧ ρ' (σ o) = ρ o) : ∀ (ps : List PV) (vs : List Value), scBs n ps = true → (RepPVs w F ρ' C' (renVs σ ps) vs ↔ RepPVs w F ρ C ps vs)
  | [], vs, _ => by simp [RepPVs, renVs]
  | p :: r, vs, hs => by
    simp only [scBs, Bool.and_eq_true] at hs
    simp only [renVs, RepPVs]
    constructor
    · rintro ⟨v, us, h1, h2, h3, h4⟩; exact ⟨v, us, h1, h2, (rep_ren hc p v hs.1).1 h3, (reps_ren hc r us hs.2).1 h4⟩
    · rintro ⟨v, us, h1, h2, h3, h4⟩; exact ⟨v, us, h1, h2, (rep_ren hc p v hs.1).2 h3, (reps_ren hc r us hs.2).2 h4⟩
theorem rept_ren (hc : ∀ o, o < n → C' (σ o) = C o ∧ ρ' (σ o) = ρ o) : ∀ (ps : List PV) (vs : List Value), scBs n ps = true → (RepTs w F ρ' C' (renVs σ ps) vs ↔ RepTs w F ρ C ps vs)
  | [], vs, _ => by simp [RepTs, renVs]
  | p :: r, vs, hs => by
    simp only [scBs, Bool.and_eq_true] at hs
    simp only [renVs, RepTs]
    constructor
    · rintro ⟨v, us, h1, h3, h4⟩; exact ⟨v, us, h1, (rep_ren hc p v hs.1).1 h3, (rept_ren hc r us hs.2).1 h4⟩
    · rintro ⟨v, us, h1, h3, h4⟩; exact ⟨v, us, h1, (rep_ren hc p v hs.1).2 h3, (rept_ren hc r us hs.2).2 h4⟩
end
end

theorem RepEs.ren {w : World} {F : Nat → Prop} {ρ ρ' : Nat → Option Nat} {C C' : Nat → OI} {n : Nat} {σ : Nat → Nat} (hc : ∀ o, o < n → C' (σ o) = C o ∧ ρ' (σ o) = ρ o) : ∀ {es : List (D × Nat × PV)} {l : List MapEntry}, (∀ p ∈ es.map (fun e => e.2.2), scB n p = true) →
    (RepEs w F ρ' C' (es.map fun e => (e.1, e.2.1, renV σ e.2.2)) l ↔ RepEs w F ρ C es l)
  | [], l, hs => by simp [RepEs]
  | (kk, bn, p) :: r, l, hs => by
    have hp := hs p (by simp)
    have hr : ∀ q ∈ r.map (fun e => e.2.2), scB n q = true := fun q hq => hs q (List.mem_cons_of_mem _ hq)
    simp only [RepEs, List.map_cons]
    constructor
    · rintro ⟨e, l, rfl, h1, h2, h3, h4⟩; exact ⟨e, l, rfl, h1, h2, (rep_ren hc p _ hp).1 h3, (RepEs.ren hc hr).1 h4⟩
    · rintro ⟨e, l, rfl, h1, h2, h3, h4⟩; exact ⟨e, l, rfl, h1, h2, (rep_ren hc p _ hp).2 h3, (RepEs.ren hc hr).2 h4⟩
theorem RepOb.ren {w : World} {F : Nat → Prop} {ρ ρ' : Nat → Option Nat} {C C' : Nat → OI} {n o o' : Nat} {σ : Nat → Nat} (hc : ∀ o, o < n → C' (σ o) = C o ∧ ρ' (σ o) = ρ o) (hρ : ρ' o' = ρ o) {x : Ob} (hs : scBs n x.cells = true) :
    RepOb w F ρ' C' o' (renO σ x) ↔ RepOb w F ρ C o x := by
  have pre : ∀ arr, RepPre w F ρ' C' (renO σ x).cells arr ↔ RepPre w F ρ C x.cells arr := fun arr => by
    rw [renO_cells]
    constructor
    · intro hp j p hj
      obtain ⟨v, h1, h2, h3⟩ := hp j (renV σ p) (by rw [List.getElem?_map, hj]; rfl)
      exact ⟨v, h1, h2, (rep_ren hc p v (scBs_mem hs p (List.mem_of_getElem? hj))).1 h3⟩
    · intro hp j p hj
      rw [List.getElem?_map] at hj
      obtain ⟨q, hq, rfl⟩ := Option.map_eq_some_iff.1 hj
      obtain ⟨v, h1, h2, h3⟩ := hp j q hq
      exact ⟨v, h1, h2, (rep_ren hc q v (scBs_mem hs q (List.mem_of_getElem? hq))).2 h3⟩
  cases x with
  | gone => exact Iff.rfl
  | fro rows =>
    have pr := pre
    simp only [renO, Ob.cells] at pr
    simp only [renO, RepOb, hρ, pr]
  | box cs =>
    have pr := pre
    simp only [renO, Ob.cells] at pr
    simp only [renO, RepOb, hρ, pr]
  | buf rows =>
    have pr := pre
    simp only [renO, Ob.cells] at pr
    simp only [renO, RepOb, hρ, pr, List.map_eq_nil_iff]
  | arr p m run q =>
    have pr := pre
    simp only [renO, Ob.cells] at pr
    simp only [renO, RepOb, hρ, pr]
  | mapo es c =>
    simp only [renO, RepOb, hρ, RepEs.ren hc (scBs_mem hs)]
  | itr mo a l b =>
    have : scB n (.mp mo) = true := scBs_mem hs _ (by simp [Ob.cells])
    have e := fun v => rep_ren (w := w) (F := F) hc (.mp mo) v this
    simp only [renV] at e
    simp only [renO, RepOb, hρ, e]

/-- The objects sel of S, as the callee left them. -/
def merge (σ : Nat → Nat) : Heap → List Nat → Heap → Heap
  | S, s :: sel, x :: xs => merge σ (S.set s (renO σ x)) sel xs
  | S, _, _ => S

theorem merge_length {σ : Nat → Nat} : ∀ {S : Heap} {sel : List Nat} {xs : Heap}, (merge σ S sel xs).length = S.length
  | S, [], xs => by simp [merge]
  | S, s :: sel, [] => by simp [merge]
  | S, s :: sel, x :: xs => by simp [merge, merge_length]

theorem merge_other {σ : Nat → Nat} : ∀ {S : Heap} {sel : List Nat} {xs : Heap} {o : Nat}, o ∉ sel → (merge σ S sel xs)[o]? = S[o]?
  | S, [], xs, o, _ => by simp [merge]
  | S, s :: sel, [], o, _ => by simp [merge]
  | S, s :: sel, x :: xs, o, h => by
    simp only [List.mem_cons, not_or] at h
    simp only [merge]
    rw [merge_other h.2, List.getElem?_set_ne (Ne.symm h.1)]

theorem merge_at {σ : Nat → Nat} : ∀ {S : Heap} {sel : List Nat} {xs : Heap} {j o : Nat} {x : Ob}, sel.Nodup → (∀ s ∈ sel, s < S.length) → sel[j]? = some o → xs[j]? = some x → (merge σ S sel xs)[o]? = some (renO σ x)
  | S, [], xs, j, o, x, _, _, h, _ => by simp at h
  | S, s :: sel, [], j, o, x, _, _, _, h => by simp at h
  | S, s :: sel, y :: xs, 0, o, x, hn, hl, h, hx => by
    simp at h hx
    subst h hx
    simp only [merge]
    rw [merge_other (List.nodup_cons.1 hn).1]
    simp [hl s (by simp)]
  | S, s :: sel, y :: xs, j + 1, o, x, hn, hl, h, hx => by
    simp only [merge]
    refine merge_at (List.nodup_cons.1 hn).2 (fun t ht => by simpa using hl t (by simp [ht])) (by simpa using h) (by simpa using hx)

/-- The callee's numbers: first the objects that it is handed, then those that it makes. -/
def num (sel : List Nat) (n : Nat) (j : Nat) : Nat := if h : j < sel.length then sel[j] else n + (j - sel.length)

/-- What has become of the caller's objects. -/
def after (sel : List Nat) (S S0' : Heap) : Heap := merge (num sel S.length) S sel (S0'.take sel.length) ++ (S0'.drop sel.length).map (renO (num sel S.length))

section
variable {P : Program}

theorem num_lt {sel : List Nat} {n j : Nat} (h : j < sel.length) : num sel n j = sel[j] := by simp [num, h]
theorem num_ge {sel : List Nat} {n j : Nat} (h : sel.length ≤ j) : num sel n j = n + (j - sel.length) := by simp [num]; omega

theorem after_cases {sel : List Nat} {S S0' : Heap} (hn : sel.Nodup) (hl : ∀ s ∈ sel, s < S.length) (hk : sel.length ≤ S0'.length) {o : Nat} {x : Ob} (hx : (after sel S S0')[o]? = some x) :
    (o < S.length ∧ o ∉ sel ∧ S[o]? = some x) ∨ (∃ j y, S0'[j]? = some y ∧ num sel S.length j = o ∧ x = renO (num sel S.length) y) := by
  unfold after at hx
  by_cases ho : o < S.length
  · rw [List.getElem?_append_left (by rw [merge_length]; exact ho)] at hx
    by_cases hs : o ∈ sel
    · obtain ⟨j, hj⟩ := List.getElem?_of_mem hs
      have hjl := (List.getElem?_eq_some_iff.1 hj).1
      obtain ⟨y, hy⟩ : ∃ y, S0'[j]? = some y := ⟨_, List.getElem?_eq_getElem (by omega)⟩
      rw [merge_at hn hl hj (by rw [List.getElem?_take_of_lt hjl]; exact hy)] at hx
      cases hx
      refine .inr ⟨j, y, hy, ?_, rfl⟩
      rw [num_lt hjl]
      exact (List.getElem?_eq_some_iff.1 hj).2
    · rw [merge_other hs] at hx
      exact .inl ⟨ho, hs, hx⟩
  · rw [List.getElem?_append_right (by rw [merge_length]; omega), merge_length, List.getElem?_map, List.getElem?_drop] at hx
    obtain ⟨y, hy, rfl⟩ := Option.map_eq_some_iff.1 hx
    refine .inr ⟨sel.length + (o - S.length), y, hy, ?_, rfl⟩
    rw [num_ge (by omega)]
    omega

theorem after_at {sel : List Nat} {S S0' : Heap} (hn : sel.Nodup) (hl : ∀ s ∈ sel, s < S.length) (hk : sel.length ≤ S0'.length) {j : Nat} {y : Ob} (hy : S0'[j]? = some y) :
    (after sel S S0')[num sel S.length j]? = some (renO (num sel S.length) y) := by
  unfold after
  by_cases hj : j < sel.length
  · rw [num_lt hj, List.getElem?_append_left (by rw [merge_length]; exact hl _ (List.getElem_mem hj))]
    exact merge_at hn hl (List.getElem?_eq_getElem hj) (by rw [List.getElem?_take_of_lt hj]; exact hy)
  · rw [num_ge (by omega), List.getElem?_append_right (by rw [merge_length]; omega), merge_length, List.getElem?_map, List.getElem?_drop]
    rw [show sel.length + (S.length + (j - sel.length) - S.length) = j by omega, hy]
    rfl

theorem after_other {sel : List Nat} {S S0' : Heap} {o : Nat} (ho : o < S.length) (hs : o ∉ sel) : (after sel S S0')[o]? = S[o]? := by
  unfold after
  rw [List.getElem?_append_left (by rw [merge_length]; exact ho), merge_other hs]

theorem nodup_inj {sel : List Nat} (hn : sel.Nodup) {i j : Nat} (hi : i < sel.length) (hj : j < sel.length) (h : sel[i] = sel[j]) : i = j := by
  rcases Nat.lt_trichotomy i j with h1 | h1 | h1
  · exact absurd h (List.pairwise_iff_getElem.1 hn i j hi hj h1)
  · exact h1
  · exact absurd h.symm (List.pairwise_iff_getElem.1 hn j i hj hi h1)

theorem num_inj {sel : List Nat} {n : Nat} (hn : sel.Nodup) (hl : ∀ s ∈ sel, s < n) {i j : Nat} (h : num sel n i = num sel n j) : i = j := by
  by_cases hi : i < sel.length <;> by_cases hj : j < sel.length
  · rw [num_lt hi, num_lt hj] at h
    exact nodup_inj hn hi hj h
  · rw [num_lt hi, num_ge (by omega)] at h
    have := hl _ (List.getElem_mem hi); omega
  · rw [num_ge (by omega), num_lt hj] at h
    have := hl _ (List.getElem_mem hj); omega
  · rw [num_ge (by omega), num_ge (by omega)] at h
    omega

def renR (σ : Nat → Nat) : ARes → ARes
  | .ret p => .ret (renV σ p)
  | .pan p => .pan (renV σ p)
def ARes.val : ARes → PV
  | .ret p => p
  | .pan p => p

/-- A contract over the objects S0 alone, where the caller has others. -/
theorem CallsA.frame {f : FuncId} {args0 : List PV} {S0 : Heap} {R : ARes → Heap → Prop} (h : CallsA P f args0 S0 R) (S : Heap) (sel : List Nat) (hn : sel.Nodup) (hlen : sel.length = S0.length) (hl : ∀ s ∈ sel, s < S.length)
    (hsel : ∀ j x, S0[j]? = some x → S[num sel S.length j]? = some (renO (num sel S.length) x)) (hsc : S0.all (Ob.sc S0.length) = true) (hargs : scBs S0.length args0 = true)
    (hR : ∀ r S', R r S' → S'.all (Ob.sc S'.length) = true ∧ scB S'.length r.val = true) :
    CallsA P f (renVs (num sel S.length) args0) S (fun r S' => ∃ r0 S0', R r0 S0' ∧ r = renR (num sel S.length) r0 ∧ S' = after sel S S0') := by
  refine ⟨h.1, fun w0 F0 mods F ρ w cargs hs ha => ?_⟩
  let σ := num sel S.length
  let ρ0 : Nat → Option Nat := fun j => ρ (σ j)
  have hinf : ∀ o, o < S0.length → info S (σ o) = info S0 o ∧ ρ (σ o) = ρ0 o := fun o ho => by
    have hx := List.getElem?_eq_getElem ho
    refine ⟨?_, rfl⟩
    rw [info_of (hsel o _ hx), info_of hx, renO_info]
  have lv : ∀ o b, Lives S0 ρ0 o b → Lives S ρ (σ o) b := by
    rintro o b ⟨h1, x, h2, h3⟩
    exact ⟨h1, _, hsel o x h2, by cases x <;> simp_all [renO]⟩
  have hst : St w F (fun b => ∃ o, Lives S0 ρ0 o b) F ρ0 S0 w := by
    refine ⟨?_, ?_, fun o b h1 => hs.notF _ b (lv o b h1), hs.bound, fun o b h1 => .inl ⟨o, h1⟩, Nat.le_refl _, rfl, rfl, rfl, fun _ _ _ => rfl, fun _ => Nat.le_refl _, fun _ h => h, fun _ h => .inl h⟩
    · intro o x hx
      have hsx : scBs S0.length x.cells = true := List.all_eq_true.1 hsc x (List.mem_of_getElem? hx)
      have := hs.objs _ _ (hsel o x hx)
      exact (RepOb.ren (n := S0.length) (σ := σ) hinf rfl hsx).1 this
    · intro o o' b h1 h2
      exact num_inj hn hl (hs.inj _ _ b (lv o b h1) (lv o' b h2))
  have hra : RepTs w F ρ0 (info S0) args0 cargs.toList := (rept_ren (n := S0.length) (σ := σ) hinf args0 _ hargs).1 ha
  refine (h.2 w F _ F ρ0 w cargs hst hra).mono fun en w' hen => ?_
  obtain ⟨r0, S0', F', ρ0', hr, hend, hst', hk⟩ := hen
  obtain ⟨hsc', hscr⟩ := hR r0 S0' hr
  have hk0 : sel.length ≤ S0'.length := by
    rw [hlen]
    rcases Nat.eq_zero_or_pos S0.length with h0 | h0
    · omega
    · have h1 : info S0 (S0.length - 1) ≠ .fresh := by
        rw [info_of (List.getElem?_eq_getElem (show S0.length - 1 < S0.length by omega))]
        exact Ob.info_ne _
      have := info_lt (hk.old _ h1)
      omega
  -- the caller's places behind the call
  let ρ' : Nat → Option Nat := fun o => if o < S.length then (if o ∈ sel then ρ0' (sel.idxOf o) else ρ o) else ρ0' (sel.length + (o - S.length))
  have hρ' : ∀ j, j < S0'.length → ρ' (σ j) = ρ0' j := fun j hj => by
    by_cases hjs : j < sel.length
    · have e : σ j = sel[j] := num_lt hjs
      have hm : sel[j] ∈ sel := List.getElem_mem hjs
      simp only [ρ', e, if_pos (hl _ hm), if_pos hm]
      rw [List.Nodup.idxOf_getElem hn]
    · have e : σ j = S.length + (j - sel.length) := num_ge (by omega)
      simp only [ρ', e, if_neg (show ¬ S.length + (j - sel.length) < S.length by omega)]
      congr 1; omega
  have hρo : ∀ o, o < S.length → o ∉ sel → ρ' o = ρ o := fun o ho hs => by simp only [ρ', if_pos ho, if_neg hs]
  let S' := after sel S S0'
  have hinf' : ∀ o, o < S0'.length → info S' (σ o) = info S0' o ∧ ρ' (σ o) = ρ0' o := fun o ho => by
    have hx := List.getElem?_eq_getElem ho
    refine ⟨?_, hρ' o ho⟩
    rw [info_of (after_at hn hl hk0 hx), info_of hx, renO_info]
  have hother : ∀ o, o < S.length → o ∉ sel → info S' o = info S o := fun o ho hs => by
    unfold info
    rw [show S'[o]? = S[o]? from after_other ho hs]
  have ltb : ∀ o b, Lives S ρ o b → b < w.heap.size := fun o b hl => by
    exact hs.lives_lt hl
  have hblk : ∀ o x b, o < S.length → o ∉ sel → S[o]? = some x → x.Mut → ρ o = some b → w'.heap[b]? = w.heap[b]? := fun o x b ho hns hx hg hb => by
    refine hst'.keep b (ltb o b ⟨hb, x, hx, hg⟩) ?_
    rintro ⟨j, hj⟩
    have := hs.inj _ _ b ⟨hb, x, hx, hg⟩ (lv j b hj)
    have hjl : j < sel.length := by obtain ⟨_, y, hy, _⟩ := hj; have := (List.getElem?_eq_some_iff.1 hy).1; omega
    apply hns
    rw [this]
    show num sel S.length j ∈ sel
    rw [num_lt hjl]
    exact List.getElem_mem hjl
  have hkeep : Keeps w w' F F' ρ ρ' (info S) (info S') := by
    refine ⟨hk.same, hk.sub, hk.size, ?_, ?_, ?_⟩
    · intro o ho
      have hol := info_lt ho
      by_cases hs : o ∈ sel
      · obtain ⟨j, hj⟩ := List.getElem?_of_mem hs
        have hjl := (List.getElem?_eq_some_iff.1 hj).1
        have e : σ j = o := by rw [show σ j = sel[j] from num_lt hjl]; exact (List.getElem?_eq_some_iff.1 hj).2
        rw [← e, (hinf' j (by omega)).1]
        intro hf
        have := info_lt (S := S0') (o := j)
        rw [info_of (List.getElem?_eq_getElem (show j < S0'.length by omega))] at hf
        exact Ob.info_ne _ hf
      · rw [hother o hol hs]; exact ho
    · intro o ho hx
      have hol := info_lt ho
      by_cases hs : o ∈ sel
      · obtain ⟨j, hj⟩ := List.getElem?_of_mem hs
        have hjl := (List.getElem?_eq_some_iff.1 hj).1
        have e : σ j = o := by rw [show σ j = sel[j] from num_lt hjl]; exact (List.getElem?_eq_some_iff.1 hj).2
        rw [← e, (hinf' j (by omega)).1] at hx
        have h0 : info S0 j ≠ .fresh := by rw [← (hinf j (by omega)).1, e]; exact ho
        obtain ⟨h1, h2⟩ := hk.box j h0 hx
        rw [← e, (hinf j (by omega)).1, (hinf' j (by omega)).2]
        exact ⟨h1, h2⟩
      · rw [hother o hol hs] at hx
        exact ⟨hx, hρo o hol hs⟩
    · intro o m ho hx
      have hol := info_lt ho
      by_cases hs : o ∈ sel
      · obtain ⟨j, hj⟩ := List.getElem?_of_mem hs
        have hjl := (List.getElem?_eq_some_iff.1 hj).1
        have e : σ j = o := by rw [show σ j = sel[j] from num_lt hjl]; exact (List.getElem?_eq_some_iff.1 hj).2
        rw [← e, (hinf' j (by omega)).1] at hx
        have h0 : info S0 j ≠ .fresh := by rw [← (hinf j (by omega)).1, e]; exact ho
        obtain ⟨m0, h1, h2, h3⟩ := hk.buf j m h0 hx
        rw [← e, (hinf j (by omega)).1, (hinf' j (by omega)).2]
        exact ⟨m0, h1, h2, h3⟩
      · rw [hother o hol hs] at hx
        exact ⟨m, hx, Nat.le_refl _, fun _ => hρo o hol hs⟩
  have live' : ∀ o b, Lives S' ρ' o b → (o < S.length ∧ o ∉ sel ∧ Lives S ρ o b) ∨ (∃ j, σ j = o ∧ Lives S0' ρ0' j b) := by
    rintro o b ⟨h1, x, h2, h3⟩
    rcases after_cases hn hl hk0 h2 with ⟨g1, g2, g3⟩ | ⟨j, y, g1, g2, g3⟩
    · left
      rw [hρo o g1 g2] at h1
      exact ⟨g1, g2, h1, x, g3, h3⟩
    · right
      have hjl := (List.getElem?_eq_some_iff.1 g1).1
      refine ⟨j, g2, ?_, y, g1, by rw [g3] at h3; cases y <;> first | trivial | exact h3⟩
      rw [← g2] at h1
      rw [← hρ' j hjl]
      exact h1
  have hmods : ∀ b, (∃ o, Lives S0 ρ0 o b) → mods b ∨ w0.heap.size ≤ b := fun b ⟨o, ho⟩ => hs.mine _ b (lv o b ho)
  refine ⟨renR σ r0, S', F', ρ', ⟨r0, S0', hr, rfl, rfl⟩, ?_, ?_, hkeep⟩
  · cases r0 with
    | ret p =>
      cases en with
      | returned v => exact (rep_ren (n := S0'.length) (σ := σ) hinf' p v hscr).2 hend
      | panicked c => exact hend.elim
      | outgrown => exact hend.elim
    | pan p =>
      cases en with
      | returned v => exact hend.elim
      | panicked c =>
        obtain ⟨v, rfl, hv⟩ := hend
        exact ⟨v, rfl, (rep_ren (n := S0'.length) (σ := σ) hinf' p v hscr).2 hv⟩
      | outgrown => exact hend.elim
  · refine ⟨?_, ?_, ?_, hst'.bound, ?_, Nat.le_trans hs.grow hst'.grow, hst'.os.trans hs.os, hst'.tape.trans hs.tape, hst'.output.trans hs.output, ?_, fun b => Nat.le_trans (hs.bsize b) (hst'.bsize b),
      fun b hb => hst'.f0 b (hs.f0 b hb), ?_⟩
    · intro o x hx
      rcases after_cases hn hl hk0 hx with ⟨g1, g2, g3⟩ | ⟨j, y, g1, g2, rfl⟩
      · exact (hs.objs o x g3).keeps hkeep (hρo o g1 g2) fun b hb hg => hblk o x b g1 g2 g3 hg hb
      · have hjl := (List.getElem?_eq_some_iff.1 g1).1
        have hsy : scBs S0'.length y.cells = true := List.all_eq_true.1 hsc' y (List.mem_of_getElem? g1)
        have := hst'.objs j y g1
        have hrj : ρ' o = ρ0' j := by rw [← g2]; exact hρ' j hjl
        exact (RepOb.ren (n := S0'.length) (σ := σ) hinf' hrj hsy).2 this
    · intro o o' b h1 h2
      rcases live' o b h1 with ⟨g1, g2, g3⟩ | ⟨j, g1, g2⟩ <;> rcases live' o' b h2 with ⟨g1', g2', g3'⟩ | ⟨j', g1', g2'⟩
      · exact hs.inj o o' b g3 g3'
      · exfalso
        have hb := ltb o b g3
        rcases hst'.mine j' b g2' with ⟨i, hi⟩ | hge
        · have := hs.inj _ _ b g3 (lv i b hi)
          have hil : i < sel.length := by obtain ⟨_, y, hy, _⟩ := hi; have := (List.getElem?_eq_some_iff.1 hy).1; omega
          apply g2
          rw [this]
          show num sel S.length i ∈ sel
          rw [num_lt hil]; exact List.getElem_mem hil
        · omega
      · exfalso
        have hb := ltb o' b g3'
        rcases hst'.mine j b g2 with ⟨i, hi⟩ | hge
        · have := hs.inj _ _ b g3' (lv i b hi)
          have hil : i < sel.length := by obtain ⟨_, y, hy, _⟩ := hi; have := (List.getElem?_eq_some_iff.1 hy).1; omega
          apply g2'
          rw [this]
          show num sel S.length i ∈ sel
          rw [num_lt hil]; exact List.getElem_mem hil
        · omega
      · rw [← g1, ← g1', hst'.inj j j' b g2 g2']
    · intro o b h1 hf
      rcases live' o b h1 with ⟨g1, g2, g3⟩ | ⟨j, g1, g2⟩
      · rcases hst'.fnew b hf with k1 | ⟨i, hi⟩ | k1
        · exact hs.notF o b g3 k1
        · have := hs.inj _ _ b g3 (lv i b hi)
          have hil : i < sel.length := by obtain ⟨_, y, hy, _⟩ := hi; have := (List.getElem?_eq_some_iff.1 hy).1; omega
          apply g2
          rw [this]
          show num sel S.length i ∈ sel
          rw [num_lt hil]; exact List.getElem_mem hil
        · have := ltb o b g3; omega
      · exact hst'.notF j b g2 hf
    · intro o b h1
      rcases live' o b h1 with ⟨g1, g2, g3⟩ | ⟨j, g1, g2⟩
      · exact hs.mine o b g3
      · rcases hst'.mine j b g2 with k1 | k1
        · exact hmods b k1
        · right; have := hs.grow; omega
    · intro b hb hm
      rw [hst'.keep b (by have := hs.grow; omega) ?_]
      · exact hs.keep b hb hm
      · intro hmm
        rcases hmods b hmm with k1 | k1
        · exact hm k1
        · omega
    · intro b hb
      rcases hst'.fnew b hb with k1 | k1 | k1
      · exact hs.fnew b k1
      · rcases hmods b k1 with k2 | k2
        · exact .inr (.inl k2)
        · exact .inr (.inr k2)
      · right; right; have := hs.grow; omega

end
end Go.Aw
