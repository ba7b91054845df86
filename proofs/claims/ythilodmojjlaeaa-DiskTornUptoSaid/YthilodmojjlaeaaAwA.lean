/- The values of an abstract walk, and what it means that they stand in the world. -/
import Derived.Orders
import Derived.KernelRfl
import Derived.Laws.Cells
import Derived.Laws.IdiomCopy
import Derived.Laws.AppendOwn
import Derived.Below
set_option linter.unusedVariables false
namespace Go.Aw

/-- Data that nobody changes any more. -/
inductive D where
  | b (x : Bool)
  | i (k : IntKind) (n : Int)
  | s (x : ByteArray)
  | sl (rows : List (List D))
  | nilp
  | nili
  | ifc (t : TypeId) (x : D)
  | agg (cs : List D)

/-- The cells of a value. -/
abbrev oneCell (v : Value) : Bool := v.oneCell'

mutual
def RepD (w : World) (F : Nat → Prop) : D → Value → Prop
  | .b x, v => v = .bool x
  | .i k n, v => v = .int k n
  | .s x, v => v = .string x
  | .sl rows, v => ∃ a len cap, v = .slice a len cap ∧ len = rows.length ∧ len ≤ cap ∧ cap ≤ maxLen ∧ (a = none → cap = 0) ∧
      ∀ ad, a = some ad → (rows ≠ [] → ad.spot = none) ∧ RepRows w F ad.block ad.off rows
  | .nilp, v => v = .pointer none
  | .nili, v => v = .nilIface
  | .ifc t x, v => ∃ u, v = .iface t u ∧ RepD w F x u
  | .agg cs, v => ∃ arr : Array Value, v = .agg arr ∧ RepL w F cs arr.toList
def RepL (w : World) (F : Nat → Prop) : List D → List Value → Prop
  | [], vs => vs = []
  | d :: r, vs => ∃ v us, vs = v :: us ∧ oneCell v = true ∧ RepD w F d v ∧ RepL w F r us
def RepAt (w : World) (F : Nat → Prop) (b : Nat) : Nat → List D → Prop
  | _, [] => True
  | off, d :: r => (F b ∧ ∃ v, w.cell? ⟨b, off, none⟩ = some v ∧ oneCell v = true ∧ RepD w F d v) ∧ RepAt w F b (off + 1) r
def RepRows (w : World) (F : Nat → Prop) (b : Nat) : Nat → List (List D) → Prop
  | _, [] => True
  | off, r :: rs => RepAt w F b off r ∧ RepRows w F b (off + r.length) rs
end

/-- The blocks of F are as they were. -/
def Same (F : Nat → Prop) (w w' : World) : Prop := ∀ b, F b → w'.heap[b]? = w.heap[b]?

theorem Same.cell {F : Nat → Prop} {w w' : World} (h : Same F w w') {b off : Nat} (hb : F b) : w'.cell? ⟨b, off, none⟩ = w.cell? ⟨b, off, none⟩ := by
  simp only [World.cell?, h b hb]

mutual
theorem RepD.mono {w w' : World} {F F' : Nat → Prop} (hs : Same F w w') (hf : ∀ b, F b → F' b) : ∀ (d : D) (v : Value), RepD w F d v → RepD w' F' d v
  | .b x, v, h => by simpa [RepD] using h
  | .i k n, v, h => by simpa [RepD] using h
  | .s x, v, h => by simpa [RepD] using h
  | .sl rows, v, h => by
    simp only [RepD] at h ⊢
    obtain ⟨a, len, cap, h1, h2, h3, h3', h4, h5⟩ := h
    exact ⟨a, len, cap, h1, h2, h3, h3', h4, fun ad had => ⟨(h5 ad had).1, RepRows.mono hs hf _ _ _ (h5 ad had).2⟩⟩
  | .nilp, v, h => by simpa [RepD] using h
  | .nili, v, h => by simpa [RepD] using h
  | .ifc t x, v, h => by
    simp only [RepD] at h ⊢
    obtain ⟨u, h1, h2⟩ := h
    exact ⟨u, h1, RepD.mono hs hf _ _ h2⟩
  | .agg cs, v, h => by
    simp only [RepD] at h ⊢
    obtain ⟨u, h1, h2⟩ := h
    exact ⟨u, h1, RepL.mono hs hf _ _ h2⟩
theorem RepL.mono {w w' : World} {F F' : Nat → Prop} (hs : Same F w w') (hf : ∀ b, F b → F' b) : ∀ (ds : List D) (vs : List Value), RepL w F ds vs → RepL w' F' ds vs
  | [], vs, h => by simpa [RepL] using h
  | d :: r, vs, h => by
    simp only [RepL] at h ⊢
    obtain ⟨v, us, h1, h2, h3, h4⟩ := h
    exact ⟨v, us, h1, h2, RepD.mono hs hf _ _ h3, RepL.mono hs hf _ _ h4⟩
theorem RepAt.mono {w w' : World} {F F' : Nat → Prop} (hs : Same F w w') (hf : ∀ b, F b → F' b) : ∀ (b off : Nat) (ds : List D), RepAt w F b off ds → RepAt w' F' b off ds
  | b, off, [], h => by simp [RepAt]
  | b, off, d :: r, h => by
    simp only [RepAt] at h ⊢
    obtain ⟨⟨hb, v, h1, h2, h3⟩, h4⟩ := h
    exact ⟨⟨hf b hb, v, by rw [hs.cell hb]; exact h1, h2, RepD.mono hs hf _ _ h3⟩, RepAt.mono hs hf _ _ _ h4⟩
theorem RepRows.mono {w w' : World} {F F' : Nat → Prop} (hs : Same F w w') (hf : ∀ b, F b → F' b) : ∀ (b off : Nat) (rs : List (List D)), RepRows w F b off rs → RepRows w' F' b off rs
  | b, off, [], h => by simp [RepRows]
  | b, off, r :: rs, h => by
    simp only [RepRows] at h ⊢
    exact ⟨RepAt.mono hs hf _ _ _ h.1, RepRows.mono hs hf _ _ _ h.2⟩
end

mutual
/-- What every value that is borne keeps to: no slice is longer than a Go int tells. -/
def sizedD : D → Prop
  | .sl rows => rows.length ≤ maxLen ∧ sizedR rows
  | .ifc _ x => sizedD x
  | .agg cs => sizedL cs
  | _ => True
def sizedL : List D → Prop
  | [] => True
  | d :: r => sizedD d ∧ sizedL r
def sizedR : List (List D) → Prop
  | [] => True
  | d :: r => sizedL d ∧ sizedR r
end

mutual
theorem RepD.sized {w : World} {F : Nat → Prop} : ∀ (d : D) (v : Value), RepD w F d v → sizedD d ∨ ∃ r, d = .sl r ∧ r.length ≤ maxLen ∧ ∃ b off, RepRows w F b off r
  | .b x, v, h => by simp [sizedD]
  | .i k n, v, h => by simp [sizedD]
  | .s x, v, h => by simp [sizedD]
  | .sl [], v, h => by simp [sizedD, sizedR, maxLen]
  | .sl (r :: rs), v, h => by
    simp only [RepD] at h
    obtain ⟨a, len, cap, h1, h2, h3, h3', h4, h5⟩ := h
    cases a with
    | none => have := h4 rfl; simp at h2; omega
    | some ad =>
      have := h5 ad rfl
      exact .inl (by simp only [sizedD]; exact ⟨by omega, RepRows.sized _ _ _ this.2⟩)
  | .nilp, v, h => by simp [sizedD]
  | .nili, v, h => by simp [sizedD]
  | .ifc t x, v, h => by
    simp only [RepD] at h
    obtain ⟨u, h1, h2⟩ := h
    simp only [sizedD]
    rcases RepD.sized _ _ h2 with h3 | ⟨r, rfl, h3, b, off, h4⟩
    · exact .inl h3
    · exact .inl (by simp only [sizedD]; exact ⟨h3, RepRows.sized _ _ _ h4⟩)
  | .agg cs, v, h => by
    simp only [RepD] at h
    obtain ⟨u, h1, h2⟩ := h
    exact .inl (by simp only [sizedD]; exact RepL.sized _ _ h2)
theorem RepL.sized {w : World} {F : Nat → Prop} : ∀ (ds : List D) (vs : List Value), RepL w F ds vs → sizedL ds
  | [], vs, h => by simp [sizedL]
  | d :: r, vs, h => by
    simp only [RepL] at h
    obtain ⟨v, us, h1, h2, h3, h4⟩ := h
    simp only [sizedL]
    refine ⟨?_, RepL.sized _ _ h4⟩
    rcases RepD.sized _ _ h3 with h3 | ⟨r, rfl, h3, b, off, h4⟩
    · exact h3
    · simp only [sizedD]; exact ⟨h3, RepRows.sized _ _ _ h4⟩
theorem RepAt.sized {w : World} {F : Nat → Prop} : ∀ (b off : Nat) (ds : List D), RepAt w F b off ds → sizedL ds
  | b, off, [], h => by simp [sizedL]
  | b, off, d :: r, h => by
    simp only [RepAt] at h
    obtain ⟨⟨hb, v, h1, h2, h3⟩, h4⟩ := h
    simp only [sizedL]
    refine ⟨?_, RepAt.sized _ _ _ h4⟩
    rcases RepD.sized _ _ h3 with h3 | ⟨r, rfl, h3, b, off, h4⟩
    · exact h3
    · simp only [sizedD]; exact ⟨h3, RepRows.sized _ _ _ h4⟩
theorem RepRows.sized {w : World} {F : Nat → Prop} : ∀ (b off : Nat) (rs : List (List D)), RepRows w F b off rs → sizedR rs
  | b, off, [], h => by simp [sizedR]
  | b, off, r :: rs, h => by
    simp only [RepRows] at h
    simp only [sizedR]
    exact ⟨RepAt.sized _ _ _ h.1, RepRows.sized _ _ _ h.2⟩
end

theorem RepD.sized' {w : World} {F : Nat → Prop} {d : D} {v : Value} (h : RepD w F d v) : sizedD d := by
  rcases h.sized with h3 | ⟨r, rfl, h3, b, off, h4⟩
  · exact h3
  · simp only [sizedD]; exact ⟨h3, RepRows.sized _ _ _ h4⟩

theorem RepAt.get {w : World} {F : Nat → Prop} {b : Nat} : ∀ {off : Nat} {ds : List D} {j : Nat} {d : D}, RepAt w F b off ds → ds[j]? = some d →
    F b ∧ ∃ v, w.cell? ⟨b, off + j, none⟩ = some v ∧ oneCell v = true ∧ RepD w F d v
  | off, [], j, d, h, hj => by simp at hj
  | off, x :: r, 0, d, h, hj => by
    simp only [RepAt] at h
    simp only [List.getElem?_cons_zero, Option.some.injEq] at hj
    subst hj
    simpa using h.1
  | off, x :: r, j + 1, d, h, hj => by
    simp only [RepAt] at h
    simp only [List.getElem?_cons_succ] at hj
    have := RepAt.get h.2 hj
    rwa [show off + 1 + j = off + (j + 1) by omega] at this

theorem RepAt.mk {w : World} {F : Nat → Prop} {b : Nat} : ∀ {off : Nat} {ds : List D},
    (∀ j d, ds[j]? = some d → F b ∧ ∃ v, w.cell? ⟨b, off + j, none⟩ = some v ∧ oneCell v = true ∧ RepD w F d v) → RepAt w F b off ds
  | off, [], h => by simp [RepAt]
  | off, x :: r, h => by
    simp only [RepAt]
    refine ⟨by simpa using h 0 x rfl, RepAt.mk fun j d hj => ?_⟩
    have := h (j + 1) d (by simpa using hj)
    rwa [show off + 1 + j = off + (j + 1) by omega]

theorem RepAt.drop {w : World} {F : Nat → Prop} {b off : Nat} {ds : List D} (h : RepAt w F b off ds) (n : Nat) : RepAt w F b (off + n) (ds.drop n) :=
  RepAt.mk fun j d hj => by
    rw [List.getElem?_drop] at hj
    have := RepAt.get h hj
    rwa [show off + (n + j) = off + n + j by omega] at this

theorem RepAt.append {w : World} {F : Nat → Prop} {b off : Nat} {xs ys : List D} (h : RepAt w F b off xs) (h' : RepAt w F b (off + xs.length) ys) : RepAt w F b off (xs ++ ys) :=
  RepAt.mk fun j d hj => by
    by_cases hl : j < xs.length
    · rw [List.getElem?_append_left hl] at hj
      exact RepAt.get h hj
    · rw [List.getElem?_append_right (by omega)] at hj
      have := RepAt.get h' hj
      rwa [show off + xs.length + (j - xs.length) = off + j by omega] at this

/-- All rows have that many cells. -/
def AllLen {α : Type} (sz : Nat) (rows : List (List α)) : Prop := ∀ r ∈ rows, r.length = sz

theorem RepRows.row {w : World} {F : Nat → Prop} {b sz : Nat} : ∀ {off : Nat} {rs : List (List D)} {j : Nat} {r : List D}, RepRows w F b off rs → AllLen sz rs → rs[j]? = some r →
    RepAt w F b (off + j * sz) r
  | off, [], j, r, h, _, hj => by simp at hj
  | off, x :: rs, 0, r, h, _, hj => by
    simp only [List.getElem?_cons_zero, Option.some.injEq] at hj
    subst hj
    simp only [RepRows] at h
    simpa using h.1
  | off, x :: rs, j + 1, r, h, ha, hj => by
    simp only [RepRows] at h
    simp only [List.getElem?_cons_succ] at hj
    have h1 : x.length = sz := ha x (by simp)
    have := RepRows.row (sz := sz) h.2 (fun y hy => ha y (by simp [hy])) hj
    rw [h1] at this
    rwa [show off + sz + j * sz = off + (j + 1) * sz by rw [Nat.add_mul]; omega] at this

theorem RepRows.mk {w : World} {F : Nat → Prop} {b sz : Nat} : ∀ {off : Nat} {rs : List (List D)}, AllLen sz rs → (∀ j r, rs[j]? = some r → RepAt w F b (off + j * sz) r) → RepRows w F b off rs
  | off, [], _, h => by simp [RepRows]
  | off, x :: rs, ha, h => by
    have h1 : x.length = sz := ha x (by simp)
    simp only [RepRows]
    refine ⟨by simpa using h 0 x rfl, RepRows.mk (fun y hy => ha y (by simp [hy])) fun j r hj => ?_⟩
    have := h (j + 1) r (by simpa using hj)
    rw [h1]
    rwa [show off + sz + j * sz = off + (j + 1) * sz by rw [Nat.add_mul]; omega]

theorem RepRows.flat {w : World} {F : Nat → Prop} {b : Nat} : ∀ {off : Nat} {rs : List (List D)}, RepRows w F b off rs → RepAt w F b off rs.flatten
  | off, [], h => by simp [RepAt]
  | off, x :: rs, h => by
    simp only [RepRows] at h
    rw [List.flatten_cons]
    exact RepAt.append h.1 (RepRows.flat h.2)

theorem RepRows.of_flat {w : World} {F : Nat → Prop} {b : Nat} : ∀ {off : Nat} {rs : List (List D)}, RepAt w F b off rs.flatten → RepRows w F b off rs
  | off, [], h => by simp [RepRows]
  | off, x :: rs, h => by
    rw [List.flatten_cons] at h
    simp only [RepRows]
    refine ⟨RepAt.mk fun j d hj => ?_, RepRows.of_flat (RepAt.mk fun j d hj => ?_)⟩
    · refine RepAt.get h ?_
      rw [List.getElem?_append_left (by
        rcases Nat.lt_or_ge j x.length with h' | h'
        · exact h'
        · simp [List.getElem?_eq_none h'] at hj)]
      exact hj
    · have := RepAt.get (j := x.length + j) (d := d) h (by rw [List.getElem?_append_right (by omega)]; simpa using hj)
      rwa [show off + (x.length + j) = off + x.length + j by omega] at this

theorem RepL.length {w : World} {F : Nat → Prop} : ∀ {ds : List D} {vs : List Value}, RepL w F ds vs → vs.length = ds.length
  | [], vs, h => by simp only [RepL] at h; simp [h]
  | d :: r, vs, h => by
    simp only [RepL] at h
    obtain ⟨v, us, rfl, _, _, h4⟩ := h
    simp [RepL.length h4]

theorem RepL.get {w : World} {F : Nat → Prop} : ∀ {ds : List D} {vs : List Value} {j : Nat} {d : D}, RepL w F ds vs → ds[j]? = some d → ∃ v, vs[j]? = some v ∧ oneCell v = true ∧ RepD w F d v
  | [], vs, j, d, h, hj => by simp at hj
  | x :: r, vs, 0, d, h, hj => by
    simp only [RepL] at h
    obtain ⟨v, us, rfl, h2, h3, _⟩ := h
    simp only [List.getElem?_cons_zero, Option.some.injEq] at hj
    subst hj
    exact ⟨v, rfl, h2, h3⟩
  | x :: r, vs, j + 1, d, h, hj => by
    simp only [RepL] at h
    obtain ⟨v, us, rfl, h2, h3, h4⟩ := h
    simpa using RepL.get h4 (by simpa using hj)

theorem RepL.mk {w : World} {F : Nat → Prop} : ∀ {ds : List D} {vs : List Value}, vs.length = ds.length → (∀ (j : Nat) (d : D) (v : Value), ds[j]? = some d → vs[j]? = some v → oneCell v = true ∧ RepD w F d v) → RepL w F ds vs
  | [], vs, hl, h => by simp only [RepL]; simpa using hl
  | x :: r, [], hl, h => by simp at hl
  | x :: r, v :: us, hl, h => by
    simp only [RepL]
    exact ⟨v, us, rfl, (h 0 x v rfl rfl).1, (h 0 x v rfl rfl).2, RepL.mk (by simpa using hl) fun (j : Nat) (d : D) (u : Value) hj hu => h (j + 1) d u (by simpa using hj) (by simpa using hu)⟩

end Go.Aw
