/- Pairs by rising keys: where a key stands. -/
import Derived.Test.YtjibpedeandalaaAwValid
set_option linter.unusedVariables false
set_option linter.unusedSimpArgs false
namespace Go.Aw

theorem bytesLess_irrefl : ∀ a : List UInt8, Op.bytesLess a a = false
  | [] => by simp [Op.bytesLess]
  | x :: a => by simp [Op.bytesLess, UInt8.lt_irrefl, bytesLess_irrefl a]
theorem bytesLess_trans : ∀ {a b c : List UInt8}, Op.bytesLess a b = true → Op.bytesLess b c = true → Op.bytesLess a c = true
  | [], [], c, h, _ => by simp [Op.bytesLess] at h
  | [], _ :: _, [], _, h => by simp [Op.bytesLess] at h
  | [], _ :: _, _ :: _, _, _ => by simp [Op.bytesLess]
  | _ :: _, [], c, h, _ => by simp [Op.bytesLess] at h
  | _ :: _, _ :: _, [], _, h => by simp [Op.bytesLess] at h
  | x :: a, y :: b, z :: c, h, h' => by
    simp only [Op.bytesLess, Bool.or_eq_true, decide_eq_true_eq, Bool.and_eq_true, beq_iff_eq] at h h' ⊢
    rcases h with h | ⟨rfl, h⟩ <;> rcases h' with h' | ⟨rfl, h'⟩
    · exact .inl (UInt8.lt_trans h h')
    · exact .inl h
    · exact .inl h'
    · exact .inr ⟨rfl, bytesLess_trans h h'⟩

abbrev keyLt (a b : ByteArray) : Bool := Op.bytesLess a.toList b.toList

/-- The keys rise. -/
def Rise (d : List (ByteArray × Val)) : Prop := d.Pairwise fun p q => keyLt p.1 q.1 = true

/-- How many keys stand ahead of this one. -/
def posK (d : List (ByteArray × Val)) (k : ByteArray) : Nat := (d.takeWhile fun p => keyLt p.1 k).length
theorem posK_le (d : List (ByteArray × Val)) (k : ByteArray) : posK d k ≤ d.length := (List.takeWhile_sublist _).length_le
theorem posK_iff {k : ByteArray} : ∀ {d : List (ByteArray × Val)}, Rise d → ∀ {i : Nat} (h : i < d.length), keyLt d[i].1 k = true ↔ i < posK d k
  | p :: d, hr, 0, h => by
    simp only [List.getElem_cons_zero, posK, List.takeWhile_cons]
    split <;> simp_all
  | p :: d, hr, i + 1, h => by
    obtain ⟨h1, h2⟩ := List.pairwise_cons.1 hr
    have hi : i < d.length := by simpa using h
    have ih := posK_iff (k := k) h2 hi
    simp only [List.getElem_cons_succ, posK, List.takeWhile_cons] at ih ⊢
    split
    · rw [ih]; simp
    · rename_i hp
      simp only [List.length_nil, Nat.not_lt_zero, iff_false]
      intro hc
      exact hp (bytesLess_trans (h1 _ (List.getElem_mem hi)) hc)

/-- The value with that key. -/
def findK (d : List (ByteArray × Val)) (k : ByteArray) : Option Val := (d.find? fun p => decide (p.1 = k)).map (·.2)
theorem findK_at {d : List (ByteArray × Val)} {k : ByteArray} (hr : Rise d) (h : posK d k < d.length) (he : d[posK d k].1 = k) : findK d k = some d[posK d k].2 := by
  have : d.find? (fun p => decide (p.1 = k)) = some d[posK d k] := by
    rw [List.find?_eq_some_iff_getElem]
    refine ⟨by simpa using he, posK d k, h, rfl, fun j hj => ?_⟩
    have hjl : j < d.length := by omega
    have := (posK_iff (k := k) hr hjl).2 hj
    simp only [Bool.not_eq_true', decide_eq_false_iff_not]
    intro e
    rw [e, keyLt, bytesLess_irrefl] at this
    cases this
  rw [findK, this]; rfl
theorem findK_none {d : List (ByteArray × Val)} {k : ByteArray} (hr : Rise d) (h : ∀ h : posK d k < d.length, ¬ d[posK d k].1 = k) : findK d k = none := by
  have : d.find? (fun p => decide (p.1 = k)) = none := by
    rw [List.find?_eq_none]
    intro p hp
    obtain ⟨j, hj, rfl⟩ := List.getElem_of_mem hp
    simp only [decide_eq_true_eq]
    intro e
    rcases Nat.lt_trichotomy j (posK d k) with h1 | h1 | h1
    · have := (posK_iff (k := k) hr hj).2 h1
      rw [e, keyLt, bytesLess_irrefl] at this
      cases this
    · subst h1; exact h hj e
    · have h2 : posK d k < d.length := by omega
      have h3 := List.pairwise_iff_getElem.1 hr (posK d k) j h2 hj h1
      have h3' : keyLt d[posK d k].1 k = true := by rw [e] at h3; exact h3
      have h4 := (posK_iff (k := k) hr h2).1 h3'
      omega
  rw [findK, this]; rfl

/-- Where a key stands, or -1. -/
def placeK : List (ByteArray × Val) → ByteArray → Int → Int
  | [], _, _ => -1
  | p :: d, k, i => if p.1 = k then i else placeK d k (i + 1)
theorem placeK_spec {k : ByteArray} : ∀ (d : List (ByteArray × Val)) (i : Int), (placeK d k i = -1 ∧ findK d k = none) ∨ ∃ j : Nat, ∃ h : j < d.length, placeK d k i = i + j ∧ findK d k = some d[j].2
  | [], i => .inl ⟨rfl, rfl⟩
  | p :: d, i => by
    simp only [placeK, findK, List.find?_cons]
    by_cases h : p.1 = k
    · rw [if_pos h]
      right
      exact ⟨0, by simp, by simp, by simp [h]⟩
    · rw [if_neg h]
      have : decide (p.1 = k) = false := by simpa using h
      rw [this]
      rcases placeK_spec (k := k) d (i + 1) with ⟨h1, h2⟩ | ⟨j, hj, h1, h2⟩
      · exact .inl ⟨h1, h2⟩
      · exact .inr ⟨j + 1, by simpa using hj, by rw [h1]; omega, by simpa [findK] using h2⟩

/-- What lies at a path of keys. -/
def getK : Val → List ByteArray → Option Val
  | v, [] => some v
  | v, k :: r => match findK v.dict k with
    | some x => getK x r
    | none => none

/-! What the walk tells of a value that can be written. -/
theorem walkL_mem {a : Int} : ∀ {l : List Val}, walkL l a = 0 → ∀ v ∈ l, walkV v a = 0
  | x :: l, h, v, hv => by
    simp only [walkL] at h
    split at h
    · rename_i hx
      rcases List.mem_cons.1 hv with rfl | hv
      · exact hx
      · exact walkL_mem h v hv
    · exact absurd h ‹_›
theorem walkP_mem {a : Int} : ∀ {d : List (ByteArray × Val)} {q : Option ByteArray}, walkP d q a = 0 → (∀ p ∈ d, walkV p.2 a = 0) ∧ Rise d ∧ ∀ p ∈ d, keyOk q p.1 = true
  | [], q, _ => ⟨by simp, .nil, by simp⟩
  | (k, x) :: d, q, h => by
    have e : walkP ((k, x) :: d) q a = if keyOk q k = true then (if walkV x a = 0 then walkP d (some k) a else walkV x a) else 25 := by cases q <;> rfl
    rw [e] at h
    split at h
    · rename_i hk
      split at h
      · rename_i hx
        obtain ⟨h1, h2, h3⟩ := walkP_mem h
        refine ⟨fun p hp => ?_, ?_, fun p hp => ?_⟩
        · rcases List.mem_cons.1 hp with rfl | hp
          · exact hx
          · exact h1 p hp
        · exact List.pairwise_cons.2 ⟨fun p hp => h3 p hp, h2⟩
        · rcases List.mem_cons.1 hp with rfl | hp
          · exact hk
          · have h4 := h3 p hp
            cases q with
            | none => rfl
            | some q => exact bytesLess_trans hk h4
      · exact absurd h ‹_›
    · exact absurd h (by omega)
theorem foreign_off {v : Val} (h : foreignV v = false) : (v.kind = 1 ∨ v.int = 0) ∧ (v.kind = 2 ∨ v.str = ⟨#[]⟩) ∧ (v.kind = 3 ∨ v.list = []) ∧ (v.kind = 4 ∨ v.dict = []) := by
  simp only [foreignV, Bool.or_eq_false_iff, Bool.and_eq_false_iff, bne_eq_false_iff_eq, decide_eq_false_iff_not, Nat.not_lt, Nat.le_zero, List.length_eq_zero_iff, Bool.not_eq_false'] at h
  obtain ⟨⟨⟨h1, h2⟩, h3⟩, h4⟩ := h
  refine ⟨h1, h2.imp_right fun e => ?_, h3, h4⟩
  have e : v.str.toList = [] := by simpa using e
  rw [ba_toList] at e
  have : v.str.data = #[] := by simpa using e
  cases hs : v.str
  rw [hs] at this
  simp at this
  rw [this]
/-- It can be written. -/
structure Fine (v : Val) (a : Int) : Prop where
  k1 : 1 ≤ v.kind
  k4 : v.kind ≤ 4
  f : foreignV v = false
  l : ∀ x ∈ v.list, walkV x (a + 1) = 0
  d : ∀ p ∈ v.dict, walkV p.2 (a + 1) = 0
  r : Rise v.dict
theorem walkV_rw (v : Val) (a : Int) : walkV v a = if v.kind < 1 ∨ 4 < v.kind ∨ foreignV v = true then 27 else if v.kind < 3 then 0 else if 32 ≤ a then 24 else
      if walkL v.list (a + 1) = 0 then walkP v.dict none (a + 1) else walkL v.list (a + 1) := by
  cases v; rw [walkV]; rfl
theorem fine_of {v : Val} {a : Int} (h : walkV v a = 0) : Fine v a := by
  rw [walkV_rw] at h
  split at h
  · exact absurd h (by omega)
  · rename_i hn
    have hf : foreignV v = false := by
      cases e : foreignV v with
      | false => rfl
      | true => exact absurd (.inr (.inr e)) hn
    have hk : 1 ≤ v.kind ∧ v.kind ≤ 4 := by omega
    obtain ⟨_, _, f3, f4⟩ := foreign_off hf
    split at h
    · rename_i hl
      have e3 : v.list = [] := f3.resolve_left (by omega)
      have e4 : v.dict = [] := f4.resolve_left (by omega)
      exact ⟨hk.1, hk.2, hf, by simp [e3], by simp [e4], by rw [e4]; exact .nil⟩
    · split at h
      · exact absurd h (by omega)
      · split at h
        · rename_i h0
          obtain ⟨g1, g2, _⟩ := walkP_mem h
          exact ⟨hk.1, hk.2, hf, walkL_mem h0, g1, g2⟩
        · exact absurd h ‹_›
/-- Texts as rows. -/
def rowsS (l : List ByteArray) : List (List D) := l.map fun x => [D.s x]
@[simp] theorem rowsS_length (l : List ByteArray) : (rowsS l).length = l.length := by simp [rowsS]
theorem rowsS_all (l : List ByteArray) : AllLen 1 (rowsS l) := by simp [rowsS, AllLen]
theorem rowsS_get {l : List ByteArray} {i : Nat} (h : i < l.length) : (rowsS l).getD i [] = [D.s l[i]] := by
  simp [rowsS, List.getD_eq_getElem?_getD, h]
theorem bulk_rowsS : ∀ l : List ByteArray, l.length ≤ bulkR (rowsS l)
  | [] => by simp [rowsS, bulkR]
  | x :: r => by
    have := bulk_rowsS r
    simp only [rowsS, List.map_cons, bulkR, bulkL, bulkD, List.length_cons] at this ⊢
    omega
theorem tyR_strs {P : Program} {e : TypeId} (he : P.underlying e = some .string) : ∀ {rows : List (List D)}, TyR P e rows → ∃ l : List ByteArray, rows = rowsS l
  | [], _ => ⟨[], rfl⟩
  | r :: rs, h => by
    cases h
    rename_i h1 h2
    obtain ⟨x, rfl, _⟩ := ty_str he h1
    obtain ⟨l, rfl⟩ := tyR_strs he h2
    exact ⟨x :: l, rfl⟩
theorem argT_strs {P : Program} {t e : TypeId} {N : Nat} {p : PV} (hu : P.underlying t = some (.slice e)) (he : P.underlying e = some .string) (h : ArgT P N t p) : ∃ l : List ByteArray, p = .d (.sl (rowsS l)) ∧ l.length ≤ N := by
  obtain ⟨d, h1, h2, rfl⟩ := argT_one (by rw [hu]; simp) (by rw [hu]; simp) h
  obtain ⟨rows, e1, _, hr⟩ := ty_sl hu h1
  cases e1
  obtain ⟨l, rfl⟩ := tyR_strs he hr
  exact ⟨l, rfl, by have := bulk_rowsS l; simp only [bulkD] at h2; omega⟩

def zeroV : Val := .mk 0 0 ⟨#[]⟩ [] []
/-- What Get answers. -/
def getR (v : Val) (path : List ByteArray) : Val × Int := if walkV v 0 = 0 then match getK v path with
    | some x => (x, 0)
    | none => (zeroV, 28)
  else (zeroV, walkV v 0)
theorem getK_step {u : Val} {path : List ByteArray} {i : Nat} (h : i < path.length) : getK u (path.drop i) = match findK u.dict path[i] with
    | some x => getK x (path.drop (i + 1))
    | none => none := by rw [List.drop_eq_getElem_cons h]; rfl
theorem getK_bulk : ∀ {path : List ByteArray} {v x : Val}, getK v path = some x → bulkV x ≤ bulkV v
  | [], v, x, h => by simp only [getK, Option.some.injEq] at h; subst h; exact Nat.le_refl _
  | k :: r, v, x, h => by
    simp only [getK] at h
    split at h
    · rename_i y hy
      have h1 := getK_bulk h
      unfold findK at hy
      obtain ⟨p, hp, rfl⟩ := Option.map_eq_some_iff.1 hy
      have := bulkV_dict (List.mem_of_find?_eq_some hp)
      omega
    · cases h
end Go.Aw
