/- The steps of a state: a new object, new stable data, a store, an append, a freeze. -/
import Derived.Test.YthilodmojjlaeaaAwB
set_option linter.unusedVariables false
namespace Go.Aw

theorem RepOb.keeps {w w' : World} {F F' : Nat → Prop} {ρ ρ' : Nat → Option Nat} {C C' : Nat → OI} (k : Keeps w w' F F' ρ ρ' C C') {o : Nat} {x : Ob} (h : RepOb w F ρ C o x)
    (hr : ρ' o = ρ o) (hb : ∀ b, ρ o = some b → x.Mut → w'.heap[b]? = w.heap[b]?) : RepOb w' F' ρ' C' o x := by
  cases x with
  | gone => trivial
  | box cs =>
    obtain ⟨b, arr, T, h1, h2, h3⟩ := h
    exact ⟨b, arr, T, hr.trans h1, (hb b h1 (by simp)).trans h2, h3.keeps k⟩
  | buf rows =>
    rcases h with ⟨h1, h2⟩ | ⟨b, arr, T, h1, h2, h3⟩
    · exact .inl ⟨hr.trans h1, h2⟩
    · exact .inr ⟨b, arr, T, hr.trans h1, (hb b h1 (by simp)).trans h2, h3.keeps k⟩
  | fro rows =>
    rcases h with ⟨h1, h2⟩ | ⟨b, arr, T, h1, h2, hF, h3⟩
    · exact .inl ⟨hr.trans h1, h2⟩
    · exact .inr ⟨b, arr, T, hr.trans h1, (k.same b hF).trans h2, k.sub b hF, h3.keeps k⟩
  | arr pre n run post =>
    obtain ⟨h0, b, arr, T, h1, h2, h3⟩ := h
    exact ⟨h0, b, arr, T, hr.trans h1, (hb b h1 (by simp)).trans h2, h3.keeps k⟩
  | mapo es c =>
    obtain ⟨b, ents, h1, h2, h3⟩ := h
    exact ⟨b, ents, hr.trans h1, (hb b h1 (by simp)).trans h2, h3.keeps k⟩
  | itr mo a l c =>
    obtain ⟨b, m, h1, h2, h3⟩ := h
    exact ⟨b, m, hr.trans h1, (hb b h1 (by simp)).trans h2, RepPV.keeps k _ _ h3⟩

theorem info_append {S : Heap} {x : Ob} {o : Nat} (h : info S o ≠ .fresh) : info (S ++ [x]) o = info S o := by
  unfold info at *
  rcases Nat.lt_or_ge o S.length with hl | hl
  · rw [List.getElem?_append_left hl]
  · simp [List.getElem?_eq_none hl] at h

theorem info_lt {S : Heap} {o : Nat} (h : info S o ≠ .fresh) : o < S.length := by
  unfold info at h
  rcases Nat.lt_or_ge o S.length with hl | hl
  · exact hl
  · simp [List.getElem?_eq_none hl] at h

theorem info_set_ne {S : Heap} {x : Ob} {o o' : Nat} (h : o' ≠ o) : info (S.set o x) o' = info S o' := by
  unfold info
  rw [List.getElem?_set_ne (Ne.symm h)]

theorem info_set {S : Heap} {x : Ob} {o : Nat} (h : o < S.length) : info (S.set o x) o = x.info := by
  unfold info
  simp [h]

theorem info_of {S : Heap} {x : Ob} {o : Nat} (h : S[o]? = some x) : info S o = x.info := by simp [info, h]

theorem Ob.info_ne (x : Ob) : x.info ≠ .fresh := by cases x <;> simp [Ob.info]

theorem info_set_old {S : Heap} {x : Ob} {o o' : Nat} (h : info S o' ≠ .fresh) : info (S.set o x) o' ≠ .fresh := by
  have hl := info_lt h
  by_cases e : o' = o
  · subst e; rw [info_set hl]; exact x.info_ne
  · rw [info_set_ne e]; exact h

def Rho (ρ : Nat → Option Nat) (o : Nat) (b : Option Nat) : Nat → Option Nat := fun i => if i = o then b else ρ i

def push (w : World) (arr : Array Value) (T : TypeId) : World := { w with heap := w.heap.push (.cells arr T) }

theorem blockSize_push (w : World) (arr : Array Value) (T : TypeId) (b : Nat) : blockSize w b ≤ blockSize (push w arr T) b := by
  unfold blockSize push
  simp only [Array.getElem?_push]
  by_cases h : b = w.heap.size
  · subst h; simp
  · rw [if_neg h]; exact Nat.le_refl _

theorem same_push (w : World) (arr : Array Value) (T : TypeId) {b : Nat} (h : b < w.heap.size) : (push w arr T).heap[b]? = w.heap[b]? := by
  simp only [push, Array.getElem?_push]
  rw [if_neg (by omega)]

theorem get_push (w : World) (arr : Array Value) (T : TypeId) : (push w arr T).heap[w.heap.size]? = some (.cells arr T (0, 0)) := by
  simp only [push, Array.getElem?_push, if_pos]

section
variable {w0 : World} {F0 mods F : Nat → Prop} {ρ : Nat → Option Nat} {S : Heap} {w : World}

theorem St.keeps_push (h : St w0 F0 mods F ρ S w) (arr : Array Value) (T : TypeId) (x : Ob) :
    Keeps w (push w arr T) F F ρ (Rho ρ S.length (some w.heap.size)) (info S) (info (S ++ [x])) where
  same := fun b hb => same_push w arr T (h.bound b hb)
  sub := fun b hb => hb
  size := blockSize_push w arr T
  old := fun o ho => by rw [info_append ho]; exact ho
  box := fun o ho hx => by
    rw [info_append ho] at hx
    exact ⟨hx, by have := info_lt ho; simp [Rho]; omega⟩
  buf := fun o m ho hx => by
    rw [info_append ho] at hx
    exact ⟨m, hx, Nat.le_refl _, fun _ => by have := info_lt ho; simp [Rho]; omega⟩

/-- A new object in a new block. -/
theorem St.push (h : St w0 F0 mods F ρ S w) (arr : Array Value) (T : TypeId) (x : Ob) (hg : x.Cel)
    (hn : ∀ pre n run post, x = .arr pre n run post → run.length = n) (hx : RepPre (Aw.push w arr T) F (Rho ρ S.length (some w.heap.size)) (info (S ++ [x])) x.cells arr) :
    St w0 F0 mods F (Rho ρ S.length (some w.heap.size)) (S ++ [x]) (Aw.push w arr T) := by
  have hk := h.keeps_push arr T x
  have live : ∀ o b, Lives (S ++ [x]) (Rho ρ S.length (some w.heap.size)) o b → (o = S.length ∧ b = w.heap.size) ∨ (o < S.length ∧ Lives S ρ o b) := by
    rintro o b ⟨h1, y, h2, h3⟩
    by_cases e : o = S.length
    · left; subst e; simp [Rho] at h1; exact ⟨rfl, h1.symm⟩
    · right
      have hl : o < S.length := by
        rcases Nat.lt_or_ge o S.length with hl | hl
        · exact hl
        · rw [List.getElem?_append_right hl] at h2
          have : o - S.length ≠ 0 := by omega
          obtain ⟨k, hk⟩ : ∃ k, o - S.length = k + 1 := ⟨o - S.length - 1, by omega⟩
          rw [hk] at h2
          simp at h2
      rw [List.getElem?_append_left hl] at h2
      simp only [Rho, if_neg e] at h1
      exact ⟨hl, h1, y, h2, h3⟩
  have lt : ∀ o b, Lives S ρ o b → b < w.heap.size := fun o b hl => h.lives_lt hl
  refine ⟨?_, ?_, ?_, ?_, ?_, ?_, h.os, h.tape, h.output, ?_, ?_, h.f0, h.fnew⟩
  · intro o y hy
    by_cases e : o = S.length
    · subst e
      simp at hy
      subst hy
      cases x with
      | gone => trivial
      | fro rows => exact hg.elim
      | mapo es c => exact hg.elim
      | itr mo a l c => exact hg.elim
      | arr pre n run post => exact ⟨hn _ _ _ _ rfl, w.heap.size, arr, T, by simp [Rho], get_push w arr T, hx⟩
      | box cs => exact ⟨w.heap.size, arr, T, by simp [Rho], get_push w arr T, hx⟩
      | buf rows => exact .inr ⟨w.heap.size, arr, T, by simp [Rho], get_push w arr T, hx⟩
    · have hl : o < S.length := by
        have := (List.getElem?_eq_some_iff.1 hy).1
        simp at this; omega
      rw [List.getElem?_append_left hl] at hy
      refine (h.objs o y hy).keeps hk (by simp [Rho, e]) fun b hb hng => same_push w arr T (lt o b ⟨hb, y, hy, hng⟩)
  · intro o o' b h1 h2
    rcases live o b h1 with ⟨e1, e2⟩ | ⟨l1, l2⟩ <;> rcases live o' b h2 with ⟨e1', e2'⟩ | ⟨l1', l2'⟩
    · omega
    · have := lt o' b l2'; omega
    · have := lt o b l2; omega
    · exact h.inj o o' b l2 l2'
  · intro o b h1 hf
    rcases live o b h1 with ⟨e1, e2⟩ | ⟨l1, l2⟩
    · have := h.bound b hf; omega
    · exact h.notF o b l2 hf
  · intro b hb; have := h.bound b hb; simp [Aw.push]; omega
  · intro o b h1
    rcases live o b h1 with ⟨e1, e2⟩ | ⟨l1, l2⟩
    · right; have := h.grow; omega
    · exact h.mine o b l2
  · have := h.grow; simp [Aw.push]; omega
  · intro b hb hm
    rw [same_push w arr T (by have := h.grow; omega)]
    exact h.keep b hb hm
  · intro b; exact Nat.le_trans (h.bsize b) (blockSize_push w arr T b)

def Plus (F : Nat → Prop) (b : Nat) : Nat → Prop := fun i => F i ∨ i = b

theorem St.keeps_data (h : St w0 F0 mods F ρ S w) (arr : Array Value) (T : TypeId) :
    Keeps w (Aw.push w arr T) F (Plus F w.heap.size) ρ ρ (info S) (info S) where
  same := fun b hb => same_push w arr T (h.bound b hb)
  sub := fun b hb => .inl hb
  size := blockSize_push w arr T
  old := fun o ho => ho
  box := fun o ho hx => ⟨hx, rfl⟩
  buf := fun o m ho hx => ⟨m, hx, Nat.le_refl _, fun _ => rfl⟩

/-- New data in a new block, which nobody will change. -/
theorem St.data (h : St w0 F0 mods F ρ S w) (arr : Array Value) (T : TypeId) : St w0 F0 mods (Plus F w.heap.size) ρ S (Aw.push w arr T) := by
  have hk := h.keeps_data arr T
  have lt : ∀ o b, Lives S ρ o b → b < w.heap.size := fun o b hl => h.lives_lt hl
  refine ⟨?_, h.inj, ?_, ?_, h.mine, ?_, h.os, h.tape, h.output, ?_, ?_, fun b hb => .inl (h.f0 b hb), ?_⟩
  · intro o y hy
    exact (h.objs o y hy).keeps hk rfl fun b hb hng => same_push w arr T (lt o b ⟨hb, y, hy, hng⟩)
  · intro o b h1 hf
    rcases hf with hf | hf
    · exact h.notF o b h1 hf
    · have := lt o b h1; omega
  · intro b hb
    rcases hb with hb | hb
    · have := h.bound b hb; simp [Aw.push]; omega
    · simp [Aw.push]; omega
  · have := h.grow; simp [Aw.push]; omega
  · intro b hb hm
    rw [same_push w arr T (by have := h.grow; omega)]
    exact h.keep b hb hm
  · intro b; exact Nat.le_trans (h.bsize b) (blockSize_push w arr T b)
  · intro b hb
    rcases hb with hb | hb
    · exact h.fnew b hb
    · right; right; have := h.grow; omega

/-- The block b has the cells arr now. -/
def setBlock (w : World) (b : Nat) (arr : Array Value) (T : TypeId) : World := { w with heap := w.heap.setIfInBounds b (.cells arr T (0, 0)) }

theorem setBlock_ne (w : World) (b : Nat) (arr : Array Value) (T : TypeId) {c : Nat} (h : c ≠ b) : (setBlock w b arr T).heap[c]? = w.heap[c]? := by
  simp only [setBlock, Array.getElem?_setIfInBounds_ne (Ne.symm h)]
theorem setBlock_eq (w : World) (b : Nat) (arr : Array Value) (T : TypeId) (h : b < w.heap.size) : (setBlock w b arr T).heap[b]? = some (.cells arr T (0, 0)) := by
  simp [setBlock, h]
theorem setBlock_size (w : World) (b : Nat) (arr : Array Value) (T : TypeId) : (setBlock w b arr T).heap.size = w.heap.size := by simp [setBlock]

theorem St.keeps_set (h : St w0 F0 mods F ρ S w) {o b : Nat} {arr arr' : Array Value} {T : TypeId} {x y : Ob} (hx : S[o]? = some x) (hg : x.Mut) (hr : ρ o = some b)
    (hb : w.heap[b]? = some (.cells arr T (0, 0))) (hs : arr.size = arr'.size)
    (hi : (x.info = y.info) ∨ ∃ m m', x.info = .buf m ∧ y.info = .buf m' ∧ m ≤ m') :
    Keeps w (setBlock w b arr' T) F F ρ ρ (info S) (info (S.set o y)) where
  same := fun c hc => setBlock_ne w b arr' T (fun e => h.notF o b ⟨hr, x, hx, hg⟩ (e ▸ hc))
  sub := fun b hb => hb
  size := fun c => by
    by_cases e : c = b
    · subst e
      simp only [blockSize, setBlock_eq w c arr' T (Array.getElem?_eq_some_iff.1 hb).1, hb]
      omega
    · simp [blockSize, setBlock_ne w b arr' T e]
  old := fun o' ho => info_set_old ho
  box := fun o' ho hx' => by
    refine ⟨?_, rfl⟩
    by_cases e : o' = o
    · subst e
      rw [info_set (List.getElem?_eq_some_iff.1 hx).1] at hx'
      rw [info_of hx]
      rcases hi with hi | ⟨m, m', h1, h2, h3⟩
      · rw [hi]; exact hx'
      · rw [h2] at hx'; cases hx'
    · rwa [info_set_ne e] at hx'
  buf := fun o' m ho hx' => by
    by_cases e : o' = o
    · subst e
      rw [info_set (List.getElem?_eq_some_iff.1 hx).1] at hx'
      rw [info_of hx]
      rcases hi with hi | ⟨m1, m2, h1, h2, h3⟩
      · exact ⟨m, hi.trans hx', Nat.le_refl _, fun _ => rfl⟩
      · rw [h2] at hx'; cases hx'; exact ⟨m1, h1, h3, fun _ => rfl⟩
    · exact ⟨m, by rwa [info_set_ne e] at hx', Nat.le_refl _, fun _ => rfl⟩

theorem lives_set {S : Heap} {ρ : Nat → Option Nat} {o : Nat} {x y : Ob} (hx : S[o]? = some x) (hg : x.Mut) {o' b : Nat} (h : Lives (S.set o y) ρ o' b) : Lives S ρ o' b := by
  obtain ⟨h1, z, h2, h3⟩ := h
  by_cases e : o' = o
  · subst e; exact ⟨h1, x, hx, hg⟩
  · rw [List.getElem?_set_ne (Ne.symm e)] at h2
    exact ⟨h1, z, h2, h3⟩

/-- Cells of an object are written. -/
theorem St.set (h : St w0 F0 mods F ρ S w) {o b : Nat} {arr arr' : Array Value} {T : TypeId} {x y : Ob} (hx : S[o]? = some x) (hg : x.Mut) (hgy : y.Cel) (hn : ∀ pre n run post, y = .arr pre n run post → run.length = n) (hr : ρ o = some b)
    (hb : w.heap[b]? = some (.cells arr T (0, 0))) (hs : arr.size = arr'.size)
    (hi : (x.info = y.info) ∨ ∃ m m', x.info = .buf m ∧ y.info = .buf m' ∧ m ≤ m')
    (hy : RepPre (setBlock w b arr' T) F ρ (info (S.set o y)) y.cells arr') : St w0 F0 mods F ρ (S.set o y) (setBlock w b arr' T) := by
  have hk := h.keeps_set (arr' := arr') hx hg hr hb hs hi
  have hlt : b < w.heap.size := (Array.getElem?_eq_some_iff.1 hb).1
  have holt := (List.getElem?_eq_some_iff.1 hx).1
  refine ⟨?_, ?_, ?_, ?_, ?_, ?_, h.os, h.tape, h.output, ?_, ?_, h.f0, h.fnew⟩
  · intro o' z hz
    by_cases e : o' = o
    · subst e
      simp [holt] at hz
      subst hz
      cases y with
      | gone => trivial
      | fro rows => exact hgy.elim
      | mapo es c => exact hgy.elim
      | itr mo a l c => exact hgy.elim
      | arr pre n run post => exact ⟨hn _ _ _ _ rfl, b, arr', T, hr, setBlock_eq w b arr' T hlt, hy⟩
      | box cs => exact ⟨b, arr', T, hr, setBlock_eq w b arr' T hlt, hy⟩
      | buf rows => exact .inr ⟨b, arr', T, hr, setBlock_eq w b arr' T hlt, hy⟩
    · rw [List.getElem?_set_ne (Ne.symm e)] at hz
      refine (h.objs o' z hz).keeps hk rfl fun c hc hng => setBlock_ne w b arr' T fun e' => ?_
      subst e'
      exact e (h.inj o' o c ⟨hc, z, hz, hng⟩ ⟨hr, x, hx, hg⟩)
  · exact fun o1 o2 c h1 h2 => h.inj o1 o2 c (lives_set hx hg h1) (lives_set hx hg h2)
  · exact fun o1 c h1 => h.notF o1 c (lives_set hx hg h1)
  · exact fun c hc => by rw [setBlock_size]; exact h.bound c hc
  · exact fun o1 c h1 => h.mine o1 c (lives_set hx hg h1)
  · rw [setBlock_size]; exact h.grow
  · intro c hc hm
    rw [setBlock_ne w b arr' T]
    · exact h.keep c hc hm
    · intro e
      subst e
      rcases h.mine o c ⟨hr, x, hx, hg⟩ with h1 | h1
      · exact hm h1
      · omega
  · exact fun c => Nat.le_trans (h.bsize c) (hk.size c)

/-- An own row that has grown into a new block. -/
theorem St.keeps_grow (h : St w0 F0 mods F ρ S w) {o : Nat} {rows rows' : List (List PV)} (hx : S[o]? = some (.buf rows)) (hm : rows.length < rows'.length) (arr : Array Value) (T : TypeId) :
    Keeps w (Aw.push w arr T) F F ρ (Rho ρ o (some w.heap.size)) (info S) (info (S.set o (.buf rows'))) where
  same := fun b hb => same_push w arr T (h.bound b hb)
  sub := fun b hb => hb
  size := blockSize_push w arr T
  old := fun o' ho => info_set_old ho
  box := fun o' ho hx' => by
    by_cases e : o' = o
    · subst e
      rw [info_set (List.getElem?_eq_some_iff.1 hx).1] at hx'
      cases hx'
    · rw [info_set_ne e] at hx'
      exact ⟨hx', by simp [Rho, e]⟩
  buf := fun o' m ho hx' => by
    by_cases e : o' = o
    · subst e
      rw [info_set (List.getElem?_eq_some_iff.1 hx).1] at hx'
      cases hx'
      exact ⟨rows.length, info_of hx, by omega, fun e => by omega⟩
    · rw [info_set_ne e] at hx'
      exact ⟨m, hx', Nat.le_refl _, fun _ => by simp [Rho, e]⟩

theorem St.grown (h : St w0 F0 mods F ρ S w) {o : Nat} {rows rows' : List (List PV)} (hx : S[o]? = some (.buf rows)) (hm : rows.length < rows'.length) (arr : Array Value) (T : TypeId)
    (hy : RepPre (Aw.push w arr T) F (Rho ρ o (some w.heap.size)) (info (S.set o (.buf rows'))) rows'.flatten arr) :
    St w0 F0 mods F (Rho ρ o (some w.heap.size)) (S.set o (.buf rows')) (Aw.push w arr T) := by
  have hk := h.keeps_grow hx hm arr T
  have holt := (List.getElem?_eq_some_iff.1 hx).1
  have lt : ∀ o b, Lives S ρ o b → b < w.heap.size := fun o b hl => h.lives_lt hl
  have live : ∀ o1 b, Lives (S.set o (.buf rows')) (Rho ρ o (some w.heap.size)) o1 b → (o1 = o ∧ b = w.heap.size) ∨ (o1 ≠ o ∧ Lives S ρ o1 b) := by
    rintro o1 b ⟨h1, y, h2, h3⟩
    by_cases e : o1 = o
    · left; subst e; simp [Rho] at h1; exact ⟨rfl, h1.symm⟩
    · right
      rw [List.getElem?_set_ne (Ne.symm e)] at h2
      simp only [Rho, if_neg e] at h1
      exact ⟨e, h1, y, h2, h3⟩
  refine ⟨?_, ?_, ?_, ?_, ?_, ?_, h.os, h.tape, h.output, ?_, ?_, h.f0, h.fnew⟩
  · intro o1 y hy'
    by_cases e : o1 = o
    · subst e
      simp [holt] at hy'
      subst hy'
      exact .inr ⟨w.heap.size, arr, T, by simp [Rho], get_push w arr T, hy⟩
    · rw [List.getElem?_set_ne (Ne.symm e)] at hy'
      exact (h.objs o1 y hy').keeps hk (by simp [Rho, e]) fun b hb hng => same_push w arr T (lt o1 b ⟨hb, y, hy', hng⟩)
  · intro o1 o2 b h1 h2
    rcases live o1 b h1 with ⟨e1, e2⟩ | ⟨l1, l2⟩ <;> rcases live o2 b h2 with ⟨e1', e2'⟩ | ⟨l1', l2'⟩
    · omega
    · have := lt o2 b l2'; omega
    · have := lt o1 b l2; omega
    · exact h.inj o1 o2 b l2 l2'
  · intro o1 b h1 hf
    rcases live o1 b h1 with ⟨e1, e2⟩ | ⟨l1, l2⟩
    · have := h.bound b hf; omega
    · exact h.notF o1 b l2 hf
  · intro b hb; have := h.bound b hb; simp [Aw.push]; omega
  · intro o1 b h1
    rcases live o1 b h1 with ⟨e1, e2⟩ | ⟨l1, l2⟩
    · right; have := h.grow; omega
    · exact h.mine o1 b l2
  · have := h.grow; simp [Aw.push]; omega
  · intro b hb hm
    rw [same_push w arr T (by have := h.grow; omega)]
    exact h.keep b hb hm
  · intro b; exact Nat.le_trans (h.bsize b) (blockSize_push w arr T b)

end
end Go.Aw
