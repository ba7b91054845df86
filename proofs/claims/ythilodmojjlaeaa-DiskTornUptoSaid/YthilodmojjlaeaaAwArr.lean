/- Operations on arrays, maps and parts of own rows. -/
import Derived.Test.YthilodmojjlaeaaAwN
import Derived.MapKept
set_option linter.unusedVariables false
set_option linter.unusedSimpArgs false
namespace Go.Aw

def pushO (w : World) (ob : Obj) : World := { w with heap := w.heap.push ob }
def setO (w : World) (b : Nat) (ob : Obj) : World := { w with heap := w.heap.setIfInBounds b ob }
def obSize : Obj → Nat
  | .cells c _ _ => c.size
  | _ => 0
theorem blockSize_of {w : World} {b : Nat} {ob : Obj} (h : w.heap[b]? = some ob) : blockSize w b = obSize ob := by
  unfold blockSize obSize
  rw [h]
  cases ob <;> rfl

section
variable {P : Program} {w0 : World} {F0 mods F : Nat → Prop} {ρ : Nat → Option Nat} {S : Heap} {w : World} {K : PV → Heap → Prop}

theorem get_pushO (w : World) (ob : Obj) : (pushO w ob).heap[w.heap.size]? = some ob := by
  simp only [pushO, Array.getElem?_push, if_pos]
theorem same_pushO (w : World) (ob : Obj) {b : Nat} (h : b < w.heap.size) : (pushO w ob).heap[b]? = w.heap[b]? := by
  simp only [pushO, Array.getElem?_push]
  rw [if_neg (by omega)]
theorem blockSize_pushO (w : World) (ob : Obj) (b : Nat) : blockSize w b ≤ blockSize (pushO w ob) b := by
  by_cases h : b < w.heap.size
  · unfold blockSize; rw [same_pushO w ob h]; exact Nat.le_refl _
  · have : w.heap[b]? = none := by simp; omega
    unfold blockSize
    rw [this]
    exact Nat.zero_le _

theorem St.keeps_pushO (h : St w0 F0 mods F ρ S w) (ob : Obj) (x : Ob) :
    Keeps w (pushO w ob) F F ρ (Rho ρ S.length (some w.heap.size)) (info S) (info (S ++ [x])) where
  same := fun b hb => same_pushO w ob (h.bound b hb)
  sub := fun b hb => hb
  size := blockSize_pushO w ob
  old := fun o ho => by rw [info_append ho]; exact ho
  box := fun o ho hx => by
    rw [info_append ho] at hx
    exact ⟨hx, by have := info_lt ho; simp [Rho]; omega⟩
  buf := fun o m ho hx => by
    rw [info_append ho] at hx
    exact ⟨m, hx, Nat.le_refl _, fun _ => by have := info_lt ho; simp [Rho]; omega⟩

/-- A new object of any kind in a new block. -/
theorem St.pushO (h : St w0 F0 mods F ρ S w) (ob : Obj) (x : Ob)
    (hx : RepOb (Aw.pushO w ob) F (Rho ρ S.length (some w.heap.size)) (info (S ++ [x])) S.length x) :
    St w0 F0 mods F (Rho ρ S.length (some w.heap.size)) (S ++ [x]) (Aw.pushO w ob) := by
  have hk := h.keeps_pushO ob x
  have live : ∀ o b, Lives (S ++ [x]) (Rho ρ S.length (some w.heap.size)) o b → (o = S.length ∧ b = w.heap.size) ∨ (o < S.length ∧ Lives S ρ o b) := by
    rintro o b ⟨h1, y, h2, h3⟩
    by_cases e : o = S.length
    · left; subst e; simp [Rho] at h1; exact ⟨rfl, h1.symm⟩
    · right
      have hl : o < S.length := by
        rcases Nat.lt_or_ge o S.length with hl | hl
        · exact hl
        · rw [List.getElem?_append_right hl] at h2
          have : o - S.length ≠ 0 := by omega
          obtain ⟨k, hk⟩ : ∃ k, o - S.length = k + 1 := ⟨o - S.length - 1, by omega⟩
          rw [hk] at h2
          simp at h2
      rw [List.getElem?_append_left hl] at h2
      simp only [Rho, if_neg e] at h1
      exact ⟨hl, h1, y, h2, h3⟩
  have lt : ∀ o b, Lives S ρ o b → b < w.heap.size := fun o b hl => h.lives_lt hl
  refine ⟨?_, ?_, ?_, ?_, ?_, ?_, h.os, h.tape, h.output, ?_, ?_, h.f0, h.fnew⟩
  · intro o y hy
    by_cases e : o = S.length
    · subst e
      simp at hy
      subst hy
      exact hx
    · have hl : o < S.length := by
        have := (List.getElem?_eq_some_iff.1 hy).1
        simp at this; omega
      rw [List.getElem?_append_left hl] at hy
      refine (h.objs o y hy).keeps hk (by simp [Rho, e]) fun b hb hng => same_pushO w ob (lt o b ⟨hb, y, hy, hng⟩)
  · intro o o' b h1 h2
    rcases live o b h1 with ⟨e1, e2⟩ | ⟨l1, l2⟩ <;> rcases live o' b h2 with ⟨e1', e2'⟩ | ⟨l1', l2'⟩
    · omega
    · have := lt o' b l2'; omega
    · have := lt o b l2; omega
    · exact h.inj o o' b l2 l2'
  · intro o b h1 hf
    rcases live o b h1 with ⟨e1, e2⟩ | ⟨l1, l2⟩
    · have := h.bound b hf; omega
    · exact h.notF o b l2 hf
  · intro b hb; have := h.bound b hb; simp [Aw.pushO]; omega
  · intro o b h1
    rcases live o b h1 with ⟨e1, e2⟩ | ⟨l1, l2⟩
    · right; have := h.grow; omega
    · exact h.mine o b l2
  · have := h.grow; simp [Aw.pushO]; omega
  · intro b hb hm
    rw [same_pushO w ob (by have := h.grow; omega)]
    exact h.keep b hb hm
  · intro b; exact Nat.le_trans (h.bsize b) (blockSize_pushO w ob b)

theorem setO_ne (w : World) (b : Nat) (ob : Obj) {c : Nat} (h : c ≠ b) : (setO w b ob).heap[c]? = w.heap[c]? := by
  simp only [setO, Array.getElem?_setIfInBounds_ne (Ne.symm h)]
theorem setO_eq (w : World) (b : Nat) (ob : Obj) (h : b < w.heap.size) : (setO w b ob).heap[b]? = some ob := by simp [setO, h]
theorem setO_size (w : World) (b : Nat) (ob : Obj) : (setO w b ob).heap.size = w.heap.size := by simp [setO]

theorem St.keeps_setO (h : St w0 F0 mods F ρ S w) {o b : Nat} {ob ob' : Obj} {x y : Ob} (hx : S[o]? = some x) (hg : x.Mut) (hr : ρ o = some b)
    (hb : w.heap[b]? = some ob) (hs : obSize ob ≤ obSize ob') (hi : x.info = y.info) :
    Keeps w (setO w b ob') F F ρ ρ (info S) (info (S.set o y)) where
  same := fun c hc => setO_ne w b ob' (fun e => h.notF o b ⟨hr, x, hx, hg⟩ (e ▸ hc))
  sub := fun b hb => hb
  size := fun c => by
    by_cases e : c = b
    · subst e
      rw [blockSize_of hb, blockSize_of (setO_eq w c ob' (Array.getElem?_eq_some_iff.1 hb).1)]
      exact hs
    · simp [blockSize, setO_ne w b ob' e]
  old := fun o' ho => info_set_old ho
  box := fun o' ho hx' => by
    refine ⟨?_, rfl⟩
    by_cases e : o' = o
    · subst e
      rw [info_set (List.getElem?_eq_some_iff.1 hx).1] at hx'
      rw [info_of hx, hi]; exact hx'
    · rwa [info_set_ne e] at hx'
  buf := fun o' m ho hx' => by
    by_cases e : o' = o
    · subst e
      rw [info_set (List.getElem?_eq_some_iff.1 hx).1] at hx'
      rw [info_of hx]
      exact ⟨m, hi.trans hx', Nat.le_refl _, fun _ => rfl⟩
    · exact ⟨m, by rwa [info_set_ne e] at hx', Nat.le_refl _, fun _ => rfl⟩

/-- An object is written. -/
theorem St.setO (h : St w0 F0 mods F ρ S w) {o b : Nat} {ob ob' : Obj} {x y : Ob} (hx : S[o]? = some x) (hg : x.Mut) (hr : ρ o = some b)
    (hb : w.heap[b]? = some ob) (hs : obSize ob ≤ obSize ob') (hi : x.info = y.info)
    (hy : RepOb (Aw.setO w b ob') F ρ (info (S.set o y)) o y) : St w0 F0 mods F ρ (S.set o y) (Aw.setO w b ob') := by
  have hk := h.keeps_setO (ob' := ob') hx hg hr hb hs hi
  have hlt : b < w.heap.size := (Array.getElem?_eq_some_iff.1 hb).1
  have holt := (List.getElem?_eq_some_iff.1 hx).1
  refine ⟨?_, ?_, ?_, ?_, ?_, ?_, h.os, h.tape, h.output, ?_, ?_, h.f0, h.fnew⟩
  · intro o' z hz
    by_cases e : o' = o
    · subst e
      simp [holt] at hz
      subst hz
      exact hy
    · rw [List.getElem?_set_ne (Ne.symm e)] at hz
      refine (h.objs o' z hz).keeps hk rfl fun c hc hng => setO_ne w b ob' fun e' => ?_
      subst e'
      exact e (h.inj o' o c ⟨hc, z, hz, hng⟩ ⟨hr, x, hx, hg⟩)
  · exact fun o1 o2 c h1 h2 => h.inj o1 o2 c (lives_set hx hg h1) (lives_set hx hg h2)
  · exact fun o1 c h1 => h.notF o1 c (lives_set hx hg h1)
  · exact fun c hc => by rw [setO_size]; exact h.bound c hc
  · exact fun o1 c h1 => h.mine o1 c (lives_set hx hg h1)
  · rw [setO_size]; exact h.grow
  · intro c hc hm
    rw [setO_ne w b ob']
    · exact h.keep c hc hm
    · intro e
      subst e
      rcases h.mine o c ⟨hr, x, hx, hg⟩ with h1 | h1
      · exact hm h1
      · omega
  · exact fun c => Nat.le_trans (h.bsize c) (hk.size c)

/-! ### Maps -/
theorem ok_makeMap (h : St w0 F0 mods F ρ S w) (t : TypeId) (hK : K (.mp S.length) (S ++ [.mapo [] 0])) :
    OpOk P (do pure (.value (← Instr.makeMap t none))) w0 F0 mods F ρ S w K := by
  have hi : info (S ++ [.mapo [] 0]) S.length = .box := by simp [info, Ob.info]
  refine ⟨_, .map (some w.heap.size), pushO w (.map #[] 0), _, _, F, _, rfl, .inl rfl, hK, ?_, h.pushO (.map #[] 0) (.mapo [] 0) ⟨_, #[], by simp [Rho], get_pushO w _, by simp [RepEs]⟩, h.keeps_pushO ..⟩
  simp only [RepPV]
  exact ⟨by rw [hi]; simp, w.heap.size, rfl, fun _ => by simp [Rho]⟩

/-- Where a number is a map's key. -/
def findE (n : Int) : List (D × Nat × PV) → Option (Nat × PV)
  | [] => none
  | (.i _ m, _, p) :: r => if n = m then some (0, p) else (findE n r).map fun x => (x.1 + 1, x.2)
  | _ :: _ => none
def intKeys (k : IntKind) (es : List (D × Nat × PV)) : Prop := ∀ e ∈ es, ∃ m, e.1 = .i k m
def mapKey (P : Program) (t : TypeId) : Option IntKind := match P.underlying t with
  | some (.map kt _) => match P.underlying kt with
    | some (.int k) => some k
    | _ => none
  | _ => none
def mapEl (P : Program) (t : TypeId) : Option TypeId := match P.underlying t with
  | some (.map _ el) => some el
  | _ => none

theorem findNow_E {C : Nat → OI} {k : IntKind} {n : Int} : ∀ {es : List (D × Nat × PV)} {l : List MapEntry} {i : Nat}, intKeys k es → RepEs w F ρ C es l →
    (findE n es = none ∧ Instr.findNow (.int k) (.int k n) l i = some none) ∨ ∃ j p e, findE n es = some (j, p) ∧ l[j]? = some e ∧ e.key = .int k n ∧ RepPV w F ρ C p e.val ∧ Instr.findNow (.int k) (.int k n) l i = some (some (i + j, e.val))
  | [], l, i, hk, h => by
    simp only [RepEs] at h
    subst h
    exact .inl ⟨rfl, rfl⟩
  | (kk, bn, p) :: r, l, i, hk, h => by
    simp only [RepEs] at h
    obtain ⟨e, l, rfl, h1, h2, h3, h4⟩ := h
    obtain ⟨m, hm⟩ := hk _ List.mem_cons_self
    simp only at hm
    subst hm
    simp only [RepD] at h1
    simp only [findE, Instr.findNow, h1, Instr.sameNow, if_true]
    by_cases hnm : n = m
    · subst hnm
      exact .inr ⟨0, p, e, by simp, rfl, h1, h3, by simp⟩
    · have : (n == m) = false := by simpa using hnm
      rw [if_neg hnm, this]
      rcases findNow_E (i := i + 1) (fun e he => hk e (List.mem_cons_of_mem _ he)) h4 with ⟨g1, g2⟩ | ⟨j, q, e', g1, g2, g3, g4, g5⟩
      · exact .inl ⟨by rw [g1]; rfl, g2⟩
      · exact .inr ⟨j + 1, q, e', by rw [g1]; rfl, by simpa using g2, g3, g4, by simp only [g5]; congr 3; omega⟩

theorem mapKey_under {t : TypeId} {k : IntKind} (h : mapKey P t = some k) : ∃ kt el, P.underlying t = some (.map kt el) ∧ P.underlying kt = some (.int k) ∧ mapEl P t = some el := by
  unfold mapKey at h
  split at h
  · rename_i kt el ht
    split at h
    · rename_i k' hk; cases h; exact ⟨kt, el, ht, hk, by simp [mapEl, ht]⟩
    · cases h
  · cases h

/-- A lookup of a number. -/
theorem ok_lookup (h : St w0 F0 mods F ρ S w) {t el : TypeId} {k : IntKind} (hk : mapKey P t = some k) (he : mapEl P t = some el) {o : Nat} {es : List (D × Nat × PV)} {clk : Nat} (hx : S[o]? = some (.mapo es clk)) (hks : intKeys k es)
    {v u : Value} (hv : RepPV w F ρ (info S) (.mp o) v) {n : Int} (hu : RepPV w F ρ (info S) (.d (.i k n)) u) {z : PV} {zv : Value} (hz : (P.info? el).bind (·.zero) = some zv) (hzr : RepPV w F ρ (info S) z zv)
    (hK : match findE n es with | some (_, p) => K (.tup [p, .d (.b true)]) S | none => K (.tup [z, .d (.b false)]) S) :
    OpOk P (do pure (.value (← Instr.lookup t v u true))) w0 F0 mods F ρ S w K := by
  obtain ⟨kt, el', ht, hkt, hel⟩ := mapKey_under hk
  rw [he] at hel
  cases hel
  simp only [RepPV, RepD] at hv hu
  obtain ⟨_, b, rfl, hb⟩ := hv
  subst hu
  obtain ⟨b', ents, h1, h2, h3⟩ := h.objs o _ hx
  rw [hb (by rw [info_of hx]; rfl)] at h1
  cases h1
  obtain ⟨i, hi, hzi⟩ := Option.bind_eq_some_iff.1 hz
  have hck : (Instr.checkKey ents.isEmpty 10000 kt (.int k n)).run P w = .ok () w := Go.MapKept.run_checkKey hkt (by simp [Go.MapKept.IsKey]) _ 9999
  have hgo : (getObj b).run P w = .ok (.map ents clk) w := by simp [getObj, Sem.run, h2]
  rcases findNow_E (n := n) (i := 0) hks h3 with ⟨g1, g2⟩ | ⟨j, p, e, g1, g2, g3, g4, g5⟩
  · rw [g1] at hK
    refine .value h (v := .tuple #[zv, .bool false]) ?_ (by simp only [RepPV, RepTs]; exact ⟨_, rfl, zv, _, rfl, hzr, _, _, rfl, by simp [RepD], rfl⟩) hK
    simp only [Instr.lookup, Sem.run_bind, run_underlying ht, Result.andThen_ok, hgo, Sem.run_pure, hck, Instr.findKey, run_underlying hkt, g2, zeroValue, typeInfo, hi, hzi]
    simp [hi, hzi]
  · rw [g1] at hK
    refine .value h (v := .tuple #[e.val, .bool true]) ?_ (by simp only [RepPV, RepTs]; exact ⟨_, rfl, _, _, rfl, g4, _, _, rfl, by simp [RepD], rfl⟩) hK
    simp [Instr.lookup, Sem.run_bind, run_underlying ht, Result.andThen_ok, hgo, Sem.run_pure, hck, Instr.findKey, run_underlying hkt, g5]

theorem RepEs.modify {C : Nat → OI} {k : IntKind} {n : Int} {p' : PV} {v' : Value} (hv : RepPV w F ρ C p' v') : ∀ {es : List (D × Nat × PV)} {l : List MapEntry} {j : Nat} {p : PV}, RepEs w F ρ C es l → findE n es = some (j, p) → intKeys k es →
    RepEs w F ρ C (es.modify j fun e => (e.1, e.2.1, p')) (l.modify j fun e => { e with key := .int k n, val := v' })
  | [], l, j, p, h, hf, hk => by simp [findE] at hf
  | (kk, bn, q) :: r, l, j, p, h, hf, hk => by
    simp only [RepEs] at h
    obtain ⟨e, l, rfl, h1, h2, h3, h4⟩ := h
    obtain ⟨m, hm⟩ := hk _ List.mem_cons_self
    simp only at hm
    subst hm
    simp only [findE] at hf
    split at hf
    · rename_i hnm
      subst hnm
      simp only [Option.some.injEq, Prod.mk.injEq] at hf
      obtain ⟨rfl, rfl⟩ := hf
      simp only [List.modify_zero_cons, RepEs]
      refine ⟨_, l, rfl, ?_, h2, hv, h4⟩
      simp only [RepD] at h1 ⊢
    · obtain ⟨⟨j', q'⟩, hj, he⟩ := Option.map_eq_some_iff.1 hf
      simp only [Prod.mk.injEq] at he
      obtain ⟨rfl, rfl⟩ := he
      simp only [List.modify_succ_cons, RepEs]
      exact ⟨e, _, rfl, h1, h2, h3, RepEs.modify hv h4 hj (fun e he => hk e (List.mem_cons_of_mem _ he))⟩
theorem RepEs.push {C : Nat → OI} {d : D} {bn : Nat} {p : PV} {e : MapEntry} (h1 : RepD w F d e.key) (h2 : e.born = bn) (h3 : RepPV w F ρ C p e.val) : ∀ {es : List (D × Nat × PV)} {l : List MapEntry}, RepEs w F ρ C es l → RepEs w F ρ C (es ++ [(d, bn, p)]) (l ++ [e])
  | [], l, h => by simp only [RepEs] at h; subst h; simp only [List.nil_append, RepEs]; exact ⟨e, [], rfl, h1, h2, h3, rfl⟩
  | (kk, b', q) :: r, l, h => by
    simp only [RepEs] at h
    obtain ⟨e', l, rfl, g1, g2, g3, g4⟩ := h
    simp only [List.cons_append, RepEs]
    exact ⟨e', _, rfl, g1, g2, g3, RepEs.push h1 h2 h3 g4⟩

/-- What a map holds behind an update. -/
def updE (k : IntKind) (n : Int) (p : PV) (es : List (D × Nat × PV)) (clk : Nat) : List (D × Nat × PV) × Nat := match findE n es with
  | some (j, _) => (es.modify j fun e => (e.1, e.2.1, p), clk)
  | none => (es ++ [(.i k n, clk, p)], clk + 1)

theorem sameBits_int (k : IntKind) (n : Int) : Instr.sameBits 10000 (.int k n) (.int k n) = true := by
  rw [show (10000 : Nat) = 9999 + 1 from rfl]
  unfold Instr.sameBits
  simp

theorem ok_mapUpdate (h : St w0 F0 mods F ρ S w) {t : TypeId} {k : IntKind} (hk : mapKey P t = some k) {o : Nat} {es : List (D × Nat × PV)} {clk : Nat} (hx : S[o]? = some (.mapo es clk)) (hks : intKeys k es)
    {v u z : Value} (hv : RepPV w F ρ (info S) (.mp o) v) {n : Int} (hu : RepPV w F ρ (info S) (.d (.i k n)) u) {p : PV} (hz : RepPV w F ρ (info S) p z)
    (hK : K .any (S.set o (.mapo (updE k n p es clk).1 (updE k n p es clk).2))) :
    OpOk P (do Instr.mapUpdate t v u z; pure .skip) w0 F0 mods F ρ S w K := by
  obtain ⟨kt, el', ht, hkt, hel⟩ := mapKey_under hk
  simp only [RepPV, RepD] at hv hu
  obtain ⟨_, b, rfl, hb⟩ := hv
  subst hu
  obtain ⟨b', ents, h1, h2, h3⟩ := h.objs o _ hx
  have hb' := hb (by rw [info_of hx]; rfl)
  rw [hb'] at h1
  cases h1
  have hck : (Instr.checkKey false 10000 kt (.int k n)).run P w = .ok () w := Go.MapKept.run_checkKey hkt (by simp [Go.MapKept.IsKey]) _ 9999
  have hgo := Go.MapKept.run_getObj_map (P := P) h2
  have fin : ∀ (es' : List (D × Nat × PV)) (clk' : Nat) (l : Array MapEntry), RepEs w F ρ (info S) es' l.toList → K .any (S.set o (.mapo es' clk')) → (Instr.mapUpdate t (.map (some b)) (.int k n) z).run P w = .ok () (setO w b (.map l clk')) →
      OpOk P (do Instr.mapUpdate t (.map (some b)) (.int k n) z; pure .skip) w0 F0 mods F ρ S w K := fun es' clk' l hl hk hr => by
    have kk : Keeps w (setO w b (.map l clk')) F F ρ ρ (info S) (info (S.set o (.mapo es' clk'))) := h.keeps_setO hx (by simp) hb' h2 (Nat.le_refl _) rfl
    refine ⟨.skip, undef, _, .any, S.set o (.mapo es' clk'), F, ρ, by simp only [Sem.run_bind, hr, Result.andThen_ok, Sem.run_pure], .inr ⟨rfl, rfl⟩, hk, by simp [RepPV], ?_, kk⟩
    exact h.setO hx (by simp) hb' h2 (Nat.le_refl _) rfl ⟨b, l, hb', setO_eq w b _ (Array.getElem?_eq_some_iff.1 h2).1, hl.keeps kk⟩
  have hso : ∀ ob : Obj, (setObj b ob).run P w = .ok () (setO w b ob) := fun ob => Go.MapKept.run_setObj_map ob h2
  rcases findNow_E (n := n) (i := 0) hks h3 with ⟨g1, g2⟩ | ⟨j, q, e, g1, g2, g3, g4, g5⟩
  · simp only [updE, g1] at hK
    refine fin _ _ (ents.push { key := .int k n, val := z, born := clk }) ?_ hK ?_
    · simpa using RepEs.push (d := .i k n) (p := p) (e := { key := .int k n, val := z, born := clk }) (by simp [RepD]) rfl hz h3
    · simp only [Instr.mapUpdate, Sem.run_bind, run_underlying ht, Result.andThen_ok, hgo, hck, Instr.findKey, run_underlying hkt, g2, Sem.run_pure, hso]
  · simp only [updE, g1] at hK
    refine fin _ _ (ents.modify j fun e => { e with key := .int k n, val := z }) ?_ hK ?_
    · rw [Array.toList_modify]
      exact RepEs.modify hz h3 g1 hks
    · have hej : ((ents[j]?).map (·.key)).getD (.int k n) = .int k n := by
        have : ents[j]? = some e := by simpa using g2
        rw [this]; simpa using g3
      simp only [Instr.mapUpdate, Sem.run_bind, run_underlying ht, Result.andThen_ok, hgo, hck, Instr.findKey, run_underlying hkt, g5, Sem.run_pure, Nat.zero_add, Instr.keyThatStays, hej, sameBits_int, if_true, hso]

theorem ok_clearMap (h : St w0 F0 mods F ρ S w) {t ty kt el : TypeId} (ht : P.underlying t = some (.map kt el)) {o : Nat} {es : List (D × Nat × PV)} {clk : Nat} (hx : S[o]? = some (.mapo es clk))
    {v : Value} (hv : RepPV w F ρ (info S) (.mp o) v) (hK : K (.tup []) (S.set o (.mapo [] clk))) :
    OpOk P (do pure (.value (← Builtin.clear_ #[t] ty #[v]))) w0 F0 mods F ρ S w K := by
  simp only [RepPV] at hv
  obtain ⟨_, b, rfl, hb⟩ := hv
  obtain ⟨b', ents, h1, h2, h3⟩ := h.objs o _ hx
  have hb' := hb (by rw [info_of hx]; rfl)
  rw [hb'] at h1
  cases h1
  have hgo := Go.MapKept.run_getObj_map (P := P) h2
  have hso : ∀ ob : Obj, (setObj b ob).run P w = .ok () (setO w b ob) := fun ob => Go.MapKept.run_setObj_map ob h2
  have kk : Keeps w (setO w b (.map #[] clk)) F F ρ ρ (info S) (info (S.set o (.mapo [] clk))) := h.keeps_setO hx (by simp) hb' h2 (Nat.le_refl _) rfl
  refine ⟨_, .tuple #[], setO w b (.map #[] clk), .tup [], S.set o (.mapo [] clk), F, ρ, ?_, .inl rfl, hK, by simp only [RepPV]; exact ⟨_, rfl, by simp [RepTs]⟩, ?_, kk⟩
  · simp [Builtin.clear_, Sem.run_bind, run_underlying ht, hgo, hso]
  · exact h.setO hx (by simp) hb' h2 (Nat.le_refl _) rfl ⟨b, #[], hb', setO_eq w b _ (Array.getElem?_eq_some_iff.1 h2).1, by simp [RepEs]⟩
end
end Go.Aw
