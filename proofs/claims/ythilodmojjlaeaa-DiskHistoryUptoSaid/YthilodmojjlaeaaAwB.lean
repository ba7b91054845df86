/- The state of an abstract walk: slots, objects of the call's own, and what it means that a world bears them. -/
import Derived.Test.YthilodmojjlaeaaAwA
set_option linter.unusedVariables false
namespace Go.Aw

inductive PV where
  | any
  | d (x : D)
  | nils
  | ptr (o c : Nat)
  | dp (cells : List D)
  | own (o sz n : Nat)
  | eptr (o n r sz c : Nat)
  | agg (cs : List PV)
  | tup (vs : List PV)
  /-- A struct or an array: cells, a run of data, cells. -/
  | wag (pre : List PV) (n : Nat) (run : List D) (post : List PV)
  /-- A slice over an array: from the cell c + lo on. -/
  | asl (o c lo len : Nat)
  /-- A pointer into an array's run. -/
  | rptr (o c i : Nat)
  /-- A part of own rows: n of them from off on, while there are k. -/
  | sub (o sz off n k : Nat)
  | mp (o : Nat)

abbrev Env := List (Nat × PV)

def look : Env → Nat → PV
  | [], _ => .any
  | (s, v) :: r, t => if t = s then v else look r t

inductive Ob where
  | box (cs : List PV)
  | buf (rows : List (List PV))
  | gone
  /-- Rows that nobody changes any more. -/
  | fro (rows : List (List D))
  /-- Cells, a run of data, cells. -/
  | arr (pre : List PV) (n : Nat) (run : List D) (post : List PV)
  /-- A map: keys, birth stamps, values. -/
  | mapo (es : List (D × Nat × PV)) (clock : Nat)
  /-- An iterator over the map mo. -/
  | itr (mo : Nat) (since : Nat) (seen : List Nat) (last : Nat)

abbrev Heap := List Ob

def Ob.cells : Ob → List PV
  | .box cs => cs
  | .buf rows => rows.flatten
  | .gone => []
  | .fro rows => (rows.map (·.map PV.d)).flatten
  | .arr pre _ run post => pre ++ (run.map PV.d ++ post)
  | .mapo es _ => es.map fun e => e.2.2
  | .itr mo _ _ _ => [.mp mo]
/-- It may be written to. -/
def Ob.Mut : Ob → Prop
  | .gone => False
  | .fro _ => False
  | _ => True
/-- It lies in cells. -/
def Ob.Cel : Ob → Prop
  | .box _ => True
  | .buf _ => True
  | .arr _ _ _ _ => True
  | _ => False
theorem Ob.Cel.mut {x : Ob} (h : x.Cel) : x.Mut := by cases x <;> first | trivial | exact h.elim
@[simp] theorem mut_box (cs : List PV) : (Ob.box cs).Mut := trivial
@[simp] theorem mut_buf (rows : List (List PV)) : (Ob.buf rows).Mut := trivial
@[simp] theorem mut_arr (pre : List PV) (n : Nat) (run : List D) (post : List PV) : (Ob.arr pre n run post).Mut := trivial
@[simp] theorem mut_mapo (es : List (D × Nat × PV)) (n : Nat) : (Ob.mapo es n).Mut := trivial
@[simp] theorem mut_itr (mo a : Nat) (l : List Nat) (b : Nat) : (Ob.itr mo a l b).Mut := trivial
@[simp] theorem cel_box (cs : List PV) : (Ob.box cs).Cel := trivial
@[simp] theorem cel_buf (rows : List (List PV)) : (Ob.buf rows).Cel := trivial
@[simp] theorem cel_arr (pre : List PV) (n : Nat) (run : List D) (post : List PV) : (Ob.arr pre n run post).Cel := trivial

/-- What the values may know of an object. -/
inductive OI where
  | fresh
  | gone
  | box
  | buf (n : Nat)

def Ob.info : Ob → OI
  | .box _ => .box
  | .buf rows => .buf rows.length
  | .gone => .gone
  | .fro rows => .buf rows.length
  | .arr _ _ _ _ => .box
  | .mapo _ _ => .box
  | .itr _ _ _ _ => .box

def info (S : Heap) (o : Nat) : OI := match S[o]? with
  | some x => x.info
  | none => .fresh

def blockSize (w : World) (b : Nat) : Nat := match w.heap[b]? with | some (.cells c _ _) => c.size | _ => 0

mutual
def RepPV (w : World) (F : Nat → Prop) (ρ : Nat → Option Nat) (C : Nat → OI) : PV → Value → Prop
  | .any, _ => True
  | .d x, v => RepD w F x v
  | .nils, v => v = .slice none 0 0
  | .ptr o c, v => C o ≠ .fresh ∧ ∃ b, v = .pointer (some ⟨b, c, none⟩) ∧ (C o = .box → ρ o = some b)
  | .dp cells, v => ∃ b off, v = .pointer (some ⟨b, off, none⟩) ∧ RepAt w F b off cells
  | .own o sz n, v => C o ≠ .fresh ∧ ∃ a cap, v = .slice a n cap ∧ ∀ m, C o = .buf m → n ≤ m ∧ (n = m →
      (ρ o = none ∧ a = none ∧ n = 0 ∧ cap = 0) ∨ ∃ b, ρ o = some b ∧ a = some ⟨b, 0, none⟩ ∧ n ≤ cap ∧ cap ≤ maxLen ∧ cap * sz ≤ blockSize w b)
  | .eptr o n r sz c, v => C o ≠ .fresh ∧ ∃ b off, v = .pointer (some ⟨b, off, none⟩) ∧ ∀ m, C o = .buf m → n ≤ m ∧ (n = m → ρ o = some b ∧ off = r * sz + c)
  | .agg cs, v => ∃ arr : Array Value, v = .agg arr ∧ RepPVs w F ρ C cs arr.toList
  | .tup vs, v => ∃ arr : Array Value, v = .tuple arr ∧ RepTs w F ρ C vs arr.toList
  | .wag pre n run post, v => run.length = n ∧ ∃ arr : Array Value, v = .agg arr ∧ ∃ a b c, arr.toList = a ++ (b ++ c) ∧ RepPVs w F ρ C pre a ∧ RepL w F run b ∧ RepPVs w F ρ C post c
  | .asl o c lo len, v => C o ≠ .fresh ∧ ∃ b cap, v = .slice (some ⟨b, c + lo, none⟩) len cap ∧ len ≤ cap ∧ cap ≤ maxLen ∧ (C o = .box → ρ o = some b)
  | .rptr o c i, v => C o ≠ .fresh ∧ ∃ b, v = .pointer (some ⟨b, c + i, none⟩) ∧ (C o = .box → ρ o = some b)
  | .sub o sz off n k, v => C o ≠ .fresh ∧ ∃ a cap, v = .slice a n cap ∧ n ≤ cap ∧ cap ≤ maxLen ∧ ∀ m, C o = .buf m → k ≤ m ∧ (k = m → off + n ≤ k ∧ (n = 0 ∨ ∃ b, ρ o = some b ∧ a = some ⟨b, off * sz, none⟩))
  | .mp o, v => C o ≠ .fresh ∧ ∃ b, v = .map (some b) ∧ (C o = .box → ρ o = some b)
def RepPVs (w : World) (F : Nat → Prop) (ρ : Nat → Option Nat) (C : Nat → OI) : List PV → List Value → Prop
  | [], vs => vs = []
  | d :: r, vs => ∃ v us, vs = v :: us ∧ oneCell v = true ∧ RepPV w F ρ C d v ∧ RepPVs w F ρ C r us
def RepTs (w : World) (F : Nat → Prop) (ρ : Nat → Option Nat) (C : Nat → OI) : List PV → List Value → Prop
  | [], vs => vs = []
  | d :: r, vs => ∃ v us, vs = v :: us ∧ RepPV w F ρ C d v ∧ RepTs w F ρ C r us
end

mutual
def sizedP : PV → Prop
  | .d x => sizedD x
  | .dp cells => sizedL cells
  | .agg cs => sizedPs cs
  | .tup vs => sizedPs vs
  | .wag pre _ run post => sizedPs pre ∧ sizedL run ∧ sizedPs post
  | _ => True
def sizedPs : List PV → Prop
  | [] => True
  | p :: r => sizedP p ∧ sizedPs r
end

mutual
theorem RepPV.sized {w : World} {F : Nat → Prop} {ρ : Nat → Option Nat} {C : Nat → OI} : ∀ (p : PV) (v : Value), RepPV w F ρ C p v → sizedP p
  | .any, v, h => by simp [sizedP]
  | .d x, v, h => by simp only [RepPV] at h; simp only [sizedP]; exact h.sized'
  | .nils, v, h => by simp [sizedP]
  | .ptr o c, v, h => by simp [sizedP]
  | .dp cells, v, h => by
    simp only [RepPV] at h
    obtain ⟨b, off, h1, h2⟩ := h
    simp only [sizedP]
    exact RepAt.sized _ _ _ h2
  | .own o sz n, v, h => by simp [sizedP]
  | .eptr o n r sz c, v, h => by simp [sizedP]
  | .agg cs, v, h => by
    simp only [RepPV] at h
    obtain ⟨arr, h1, h2⟩ := h
    simp only [sizedP]
    exact RepPVs.sized _ _ h2
  | .tup cs, v, h => by
    simp only [RepPV] at h
    obtain ⟨arr, h1, h2⟩ := h
    simp only [sizedP]
    exact RepTs.sized _ _ h2
  | .wag pre n run post, v, h => by
    simp only [RepPV] at h
    obtain ⟨_, arr, _, a, b, c, _, h1, h2, h3⟩ := h
    simp only [sizedP]
    exact ⟨RepPVs.sized _ _ h1, RepL.sized _ _ h2, RepPVs.sized _ _ h3⟩
  | .asl o c lo len, v, h => by simp [sizedP]
  | .rptr o c i, v, h => by simp [sizedP]
  | .sub o sz off n k, v, h => by simp [sizedP]
  | .mp o, v, h => by simp [sizedP]
theorem RepPVs.sized {w : World} {F : Nat → Prop} {ρ : Nat → Option Nat} {C : Nat → OI} : ∀ (p : List PV) (v : List Value), RepPVs w F ρ C p v → sizedPs p
  | [], vs, h => by simp [sizedPs]
  | d :: r, vs, h => by
    simp only [RepPVs] at h
    obtain ⟨v, us, h1, h2, h3, h4⟩ := h
    simp only [sizedPs]
    exact ⟨RepPV.sized _ _ h3, RepPVs.sized _ _ h4⟩
theorem RepTs.sized {w : World} {F : Nat → Prop} {ρ : Nat → Option Nat} {C : Nat → OI} : ∀ (p : List PV) (v : List Value), RepTs w F ρ C p v → sizedPs p
  | [], vs, h => by simp [sizedPs]
  | d :: r, vs, h => by
    simp only [RepTs] at h
    obtain ⟨v, us, h1, h3, h4⟩ := h
    simp only [sizedPs]
    exact ⟨RepPV.sized _ _ h3, RepTs.sized _ _ h4⟩
end

/-- What a step may do to what stands for values: stable blocks stay, no block shrinks, boxes stay where they are, own rows too unless they have grown. -/
structure Keeps (w w' : World) (F F' : Nat → Prop) (ρ ρ' : Nat → Option Nat) (C C' : Nat → OI) : Prop where
  same : Same F w w'
  sub : ∀ b, F b → F' b
  size : ∀ b, blockSize w b ≤ blockSize w' b
  old : ∀ o, C o ≠ .fresh → C' o ≠ .fresh
  box : ∀ o, C o ≠ .fresh → C' o = .box → C o = .box ∧ ρ' o = ρ o
  buf : ∀ o m', C o ≠ .fresh → C' o = .buf m' → ∃ m, C o = .buf m ∧ m ≤ m' ∧ (m = m' → ρ' o = ρ o)

mutual
theorem RepPV.keeps {w w' : World} {F F' : Nat → Prop} {ρ ρ' : Nat → Option Nat} {C C' : Nat → OI} (k : Keeps w w' F F' ρ ρ' C C') : ∀ (p : PV) (v : Value), RepPV w F ρ C p v → RepPV w' F' ρ' C' p v
  | .any, v, h => by simp [RepPV]
  | .d x, v, h => by
    simp only [RepPV] at h ⊢
    exact h.mono k.same k.sub
  | .nils, v, h => by simpa [RepPV] using h
  | .ptr o c, v, h => by
    simp only [RepPV] at h ⊢
    obtain ⟨h0, b, h1, h2⟩ := h
    exact ⟨k.old o h0, b, h1, fun hc => (k.box o h0 hc).2.trans (h2 (k.box o h0 hc).1)⟩
  | .dp cells, v, h => by
    simp only [RepPV] at h ⊢
    obtain ⟨b, off, h1, h2⟩ := h
    exact ⟨b, off, h1, h2.mono k.same k.sub⟩
  | .own o sz n, v, h => by
    simp only [RepPV] at h ⊢
    obtain ⟨h0, a, cap, h1, h2⟩ := h
    refine ⟨k.old o h0, a, cap, h1, fun m' hm' => ?_⟩
    obtain ⟨m, hm, hle, heq⟩ := k.buf o m' h0 hm'
    refine ⟨by have := (h2 m hm).1; omega, fun e => ?_⟩
    have hmm : n = m := by have := (h2 m hm).1; omega
    have hr := heq (by omega)
    rcases (h2 m hm).2 hmm with ⟨e1, e2⟩ | ⟨b, e1, e2, e3, e4, e5⟩
    · exact .inl ⟨hr.trans e1, e2⟩
    · exact .inr ⟨b, hr.trans e1, e2, e3, e4, Nat.le_trans e5 (k.size b)⟩
  | .eptr o n r sz c, v, h => by
    simp only [RepPV] at h ⊢
    obtain ⟨h0, b, off, h1, h2⟩ := h
    refine ⟨k.old o h0, b, off, h1, fun m' hm' => ?_⟩
    obtain ⟨m, hm, hle, heq⟩ := k.buf o m' h0 hm'
    refine ⟨by have := (h2 m hm).1; omega, fun e => ?_⟩
    have hmm : n = m := by have := (h2 m hm).1; omega
    exact ⟨(heq (by omega)).trans ((h2 m hm).2 hmm).1, ((h2 m hm).2 hmm).2⟩
  | .agg cs, v, h => by
    simp only [RepPV] at h ⊢
    obtain ⟨u, h1, h2⟩ := h
    exact ⟨u, h1, RepPVs.keeps k _ _ h2⟩
  | .tup cs, v, h => by
    simp only [RepPV] at h ⊢
    obtain ⟨u, h1, h2⟩ := h
    exact ⟨u, h1, RepTs.keeps k _ _ h2⟩
  | .wag pre n run post, v, h => by
    simp only [RepPV] at h ⊢
    obtain ⟨h0, arr, h1, a, b, c, h2, h3, h4, h5⟩ := h
    exact ⟨h0, arr, h1, a, b, c, h2, RepPVs.keeps k _ _ h3, h4.mono k.same k.sub, RepPVs.keeps k _ _ h5⟩
  | .asl o c lo len, v, h => by
    simp only [RepPV] at h ⊢
    obtain ⟨h0, b, cap, h1, h2, h3, h4⟩ := h
    exact ⟨k.old o h0, b, cap, h1, h2, h3, fun hc => (k.box o h0 hc).2.trans (h4 (k.box o h0 hc).1)⟩
  | .rptr o c i, v, h => by
    simp only [RepPV] at h ⊢
    obtain ⟨h0, b, h1, h2⟩ := h
    exact ⟨k.old o h0, b, h1, fun hc => (k.box o h0 hc).2.trans (h2 (k.box o h0 hc).1)⟩
  | .sub o sz off n kk, v, h => by
    simp only [RepPV] at h ⊢
    obtain ⟨h0, a, cap, h1, h1', h1'', h2⟩ := h
    refine ⟨k.old o h0, a, cap, h1, h1', h1'', fun m' hm' => ?_⟩
    obtain ⟨m, hm, hle, heq⟩ := k.buf o m' h0 hm'
    refine ⟨by have := (h2 m hm).1; omega, fun e => ?_⟩
    have hmm : kk = m := by have := (h2 m hm).1; omega
    have hr := heq (by omega)
    obtain ⟨g1, g2⟩ := (h2 m hm).2 hmm
    refine ⟨g1, g2.imp_right fun ⟨b, e1, e2⟩ => ⟨b, hr.trans e1, e2⟩⟩
  | .mp o, v, h => by
    simp only [RepPV] at h ⊢
    obtain ⟨h0, b, h1, h2⟩ := h
    exact ⟨k.old o h0, b, h1, fun hc => (k.box o h0 hc).2.trans (h2 (k.box o h0 hc).1)⟩
theorem RepPVs.keeps {w w' : World} {F F' : Nat → Prop} {ρ ρ' : Nat → Option Nat} {C C' : Nat → OI} (k : Keeps w w' F F' ρ ρ' C C') : ∀ (p : List PV) (v : List Value), RepPVs w F ρ C p v → RepPVs w' F' ρ' C' p v
  | [], vs, h => by simpa [RepPVs] using h
  | d :: r, vs, h => by
    simp only [RepPVs] at h ⊢
    obtain ⟨v, us, h1, h2, h3, h4⟩ := h
    exact ⟨v, us, h1, h2, RepPV.keeps k _ _ h3, RepPVs.keeps k _ _ h4⟩
theorem RepTs.keeps {w w' : World} {F F' : Nat → Prop} {ρ ρ' : Nat → Option Nat} {C C' : Nat → OI} (k : Keeps w w' F F' ρ ρ' C C') : ∀ (p : List PV) (v : List Value), RepTs w F ρ C p v → RepTs w' F' ρ' C' p v
  | [], vs, h => by simpa [RepTs] using h
  | d :: r, vs, h => by
    simp only [RepTs] at h ⊢
    obtain ⟨v, us, h1, h3, h4⟩ := h
    exact ⟨v, us, h1, RepPV.keeps k _ _ h3, RepTs.keeps k _ _ h4⟩
end

theorem RepPVs.length {w : World} {F : Nat → Prop} {ρ : Nat → Option Nat} {C : Nat → OI} : ∀ {ds : List PV} {vs : List Value}, RepPVs w F ρ C ds vs → vs.length = ds.length
  | [], vs, h => by simp only [RepPVs] at h; simp [h]
  | d :: r, vs, h => by
    simp only [RepPVs] at h
    obtain ⟨v, us, rfl, _, _, h4⟩ := h
    simp [RepPVs.length h4]
theorem RepPVs.get {w : World} {F : Nat → Prop} {ρ : Nat → Option Nat} {C : Nat → OI} : ∀ {ds : List PV} {vs : List Value} {j : Nat} {d : PV}, RepPVs w F ρ C ds vs → ds[j]? = some d → ∃ v, vs[j]? = some v ∧ oneCell v = true ∧ RepPV w F ρ C d v
  | [], vs, j, d, h, hj => by simp at hj
  | x :: r, vs, 0, d, h, hj => by
    simp only [RepPVs] at h
    obtain ⟨v, us, rfl, h2, h3, _⟩ := h
    simp only [List.getElem?_cons_zero, Option.some.injEq] at hj
    subst hj
    exact ⟨v, rfl, h2, h3⟩
  | x :: r, vs, j + 1, d, h, hj => by
    simp only [RepPVs] at h
    obtain ⟨v, us, rfl, h2, h3, h4⟩ := h
    simpa using RepPVs.get h4 (by simpa using hj)
theorem RepPVs.mk {w : World} {F : Nat → Prop} {ρ : Nat → Option Nat} {C : Nat → OI} : ∀ {ds : List PV} {vs : List Value}, vs.length = ds.length → (∀ (j : Nat) (d : PV) (v : Value), ds[j]? = some d → vs[j]? = some v → oneCell v = true ∧ RepPV w F ρ C d v) → RepPVs w F ρ C ds vs
  | [], vs, hl, h => by simp only [RepPVs]; simpa using hl
  | x :: r, [], hl, h => by simp at hl
  | x :: r, v :: us, hl, h => by
    simp only [RepPVs]
    exact ⟨v, us, rfl, (h 0 x v rfl rfl).1, (h 0 x v rfl rfl).2, RepPVs.mk (by simpa using hl) fun (j : Nat) (d : PV) (u : Value) hj hu => h (j + 1) d u (by simpa using hj) (by simpa using hu)⟩
theorem RepTs.get {w : World} {F : Nat → Prop} {ρ : Nat → Option Nat} {C : Nat → OI} : ∀ {ds : List PV} {vs : List Value} {j : Nat} {d : PV}, RepTs w F ρ C ds vs → ds[j]? = some d → ∃ v, vs[j]? = some v ∧ RepPV w F ρ C d v
  | [], vs, j, d, h, hj => by simp at hj
  | x :: r, vs, 0, d, h, hj => by
    simp only [RepTs] at h
    obtain ⟨v, us, rfl, h3, _⟩ := h
    simp only [List.getElem?_cons_zero, Option.some.injEq] at hj
    subst hj
    exact ⟨v, rfl, h3⟩
  | x :: r, vs, j + 1, d, h, hj => by
    simp only [RepTs] at h
    obtain ⟨v, us, rfl, h3, h4⟩ := h
    simpa using RepTs.get h4 (by simpa using hj)

/-- The cells of an object lie at the head of an array. -/
def RepPre (w : World) (F : Nat → Prop) (ρ : Nat → Option Nat) (C : Nat → OI) (cs : List PV) (arr : Array Value) : Prop :=
  ∀ (j : Nat) (p : PV), cs[j]? = some p → ∃ v, arr[j]? = some v ∧ oneCell v = true ∧ RepPV w F ρ C p v

/-- The entries of a map. -/
def RepEs (w : World) (F : Nat → Prop) (ρ : Nat → Option Nat) (C : Nat → OI) : List (D × Nat × PV) → List MapEntry → Prop
  | [], es => es = []
  | (k, bn, p) :: r, es => ∃ e l, es = e :: l ∧ RepD w F k e.key ∧ e.born = bn ∧ RepPV w F ρ C p e.val ∧ RepEs w F ρ C r l
theorem RepEs.keeps {w w' : World} {F F' : Nat → Prop} {ρ ρ' : Nat → Option Nat} {C C' : Nat → OI} (k : Keeps w w' F F' ρ ρ' C C') : ∀ {es : List (D × Nat × PV)} {l : List MapEntry}, RepEs w F ρ C es l → RepEs w' F' ρ' C' es l
  | [], l, h => h
  | (kk, bn, p) :: r, l, h => by
    simp only [RepEs] at h ⊢
    obtain ⟨e, l, rfl, h1, h2, h3, h4⟩ := h
    exact ⟨e, l, rfl, h1.mono k.same k.sub, h2, h3.keeps k, h4.keeps k⟩

def RepOb (w : World) (F : Nat → Prop) (ρ : Nat → Option Nat) (C : Nat → OI) (o : Nat) (x : Ob) : Prop :=
  match x with
  | .gone => True
  | .box cs => ∃ b arr T, ρ o = some b ∧ w.heap[b]? = some (.cells arr T (0, 0)) ∧ RepPre w F ρ C cs arr
  | .buf rows => (ρ o = none ∧ rows = []) ∨ ∃ b arr T, ρ o = some b ∧ w.heap[b]? = some (.cells arr T (0, 0)) ∧ RepPre w F ρ C rows.flatten arr
  | .fro rows => (ρ o = none ∧ rows = []) ∨ ∃ b arr T, ρ o = some b ∧ w.heap[b]? = some (.cells arr T (0, 0)) ∧ F b ∧ RepPre w F ρ C (rows.map (·.map PV.d)).flatten arr
  | .arr pre n run post => run.length = n ∧ ∃ b arr T, ρ o = some b ∧ w.heap[b]? = some (.cells arr T (0, 0)) ∧ RepPre w F ρ C (pre ++ (run.map PV.d ++ post)) arr
  | .mapo es clock => ∃ b ents, ρ o = some b ∧ w.heap[b]? = some (.map ents clock) ∧ RepEs w F ρ C es ents.toList
  | .itr mo since seen last => ∃ b m, ρ o = some b ∧ w.heap[b]? = some (.mapIter m since seen.toArray last) ∧ RepPV w F ρ C (.mp mo) (.map m)

/-- An object that lives, and its block. -/
def Lives (S : Heap) (ρ : Nat → Option Nat) (o b : Nat) : Prop := ρ o = some b ∧ ∃ x, S[o]? = some x ∧ x.Mut

/-- The world bears the objects S; F: the stable blocks; since the world w0, at which F0 was stable, nothing but the blocks of 'mods' has turned. -/
structure St (w0 : World) (F0 mods : Nat → Prop) (F : Nat → Prop) (ρ : Nat → Option Nat) (S : Heap) (w : World) : Prop where
  objs : ∀ (o : Nat) (x : Ob), S[o]? = some x → RepOb w F ρ (info S) o x
  inj : ∀ o o' b, Lives S ρ o b → Lives S ρ o' b → o = o'
  notF : ∀ o b, Lives S ρ o b → ¬ F b
  bound : ∀ b, F b → b < w.heap.size
  mine : ∀ o b, Lives S ρ o b → mods b ∨ w0.heap.size ≤ b
  grow : w0.heap.size ≤ w.heap.size
  os : w.os = w0.os
  tape : w.tape = w0.tape
  output : w.output = w0.output
  keep : ∀ b, b < w0.heap.size → ¬ mods b → w.heap[b]? = w0.heap[b]?
  bsize : ∀ b, blockSize w0 b ≤ blockSize w b
  f0 : ∀ b, F0 b → F b
  fnew : ∀ b, F b → F0 b ∨ mods b ∨ w0.heap.size ≤ b

theorem St.lives_lt {w0 : World} {F0 mods F : Nat → Prop} {ρ : Nat → Option Nat} {S : Heap} {w : World} (h : St w0 F0 mods F ρ S w) {o b : Nat} (hl : Lives S ρ o b) : b < w.heap.size := by
  obtain ⟨hr, x, hx, hg⟩ := hl
  have := h.objs o x hx
  have lt : ∀ {b : Nat} {ob : Obj}, w.heap[b]? = some ob → b < w.heap.size := fun h => (Array.getElem?_eq_some_iff.1 h).1
  cases x with
  | gone => exact hg.elim
  | fro rows => exact hg.elim
  | box cs => obtain ⟨b', arr, T, h1, h2, _⟩ := this; rw [hr] at h1; cases h1; exact lt h2
  | buf rows =>
    rcases this with ⟨h1, _⟩ | ⟨b', arr, T, h1, h2, _⟩
    · rw [hr] at h1; cases h1
    · rw [hr] at h1; cases h1; exact lt h2
  | arr pre n run post => obtain ⟨_, b', arr, T, h1, h2, _⟩ := this; rw [hr] at h1; cases h1; exact lt h2
  | mapo es c => obtain ⟨b', ents, h1, h2, _⟩ := this; rw [hr] at h1; cases h1; exact lt h2
  | itr mo a l c => obtain ⟨b', m, h1, h2, _⟩ := this; rw [hr] at h1; cases h1; exact lt h2

theorem RepPre.keeps {w w' : World} {F F' : Nat → Prop} {ρ ρ' : Nat → Option Nat} {C C' : Nat → OI} (k : Keeps w w' F F' ρ ρ' C C') {cs : List PV} {arr : Array Value} (h : RepPre w F ρ C cs arr) : RepPre w' F' ρ' C' cs arr :=
  fun j p hj => let ⟨v, h1, h2, h3⟩ := h j p hj; ⟨v, h1, h2, h3.keeps k⟩

section
variable {w : World} {F : Nat → Prop} {ρ : Nat → Option Nat}
theorem RepL.pv {C : Nat → OI} : ∀ {ds : List D} {vs : List Value}, RepL w F ds vs → RepPVs w F ρ C (ds.map .d) vs
  | [], vs, h => by simpa [RepL, RepPVs] using h
  | d :: r, vs, h => by
    simp only [RepL] at h
    obtain ⟨v, us, rfl, h2, h3, h4⟩ := h
    simp only [List.map_cons, RepPVs]
    exact ⟨v, us, rfl, h2, by simpa [RepPV] using h3, RepL.pv h4⟩

theorem RepPVs.append {C : Nat → OI} : ∀ {ps qs : List PV} {vs us : List Value}, RepPVs w F ρ C ps vs → RepPVs w F ρ C qs us → RepPVs w F ρ C (ps ++ qs) (vs ++ us)
  | [], qs, vs, us, h, h' => by simp only [RepPVs] at h; subst h; simpa using h'
  | p :: ps, qs, vs, us, h, h' => by
    simp only [RepPVs] at h
    obtain ⟨v, r, rfl, h2, h3, h4⟩ := h
    simp only [List.cons_append, RepPVs]
    exact ⟨v, r ++ us, rfl, h2, h3, RepPVs.append h4 h'⟩

end
end Go.Aw
