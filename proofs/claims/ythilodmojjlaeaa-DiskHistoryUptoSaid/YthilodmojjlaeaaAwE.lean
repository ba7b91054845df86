/- Operations on memory: load, store, field and element addresses, a struct's literal. -/
import Derived.Test.YthilodmojjlaeaaAwD
set_option linter.unusedVariables false
set_option linter.unusedSimpArgs false
namespace Go.Aw
section
variable {P : Program} {w0 : World} {F0 mods F : Nat → Prop} {ρ : Nat → Option Nat} {S : Heap} {w : World} {K : PV → Heap → Prop}

theorem run_isAgg {t : TypeId} {b : Bool} (h : aggO P t = some b) : (isAgg t).run P w = .ok b w := by
  obtain ⟨d, h1, h2⟩ := Option.map_eq_some_iff.1 h
  simp only [isAgg, Sem.run_bind, run_underlying h1, Result.andThen_ok]
  cases d <;> simp_all

theorem run_size {t : TypeId} {n : Nat} (h : szO P t = some n) : (sizeOf t).run P w = .ok n w := by
  obtain ⟨i, h1, h2⟩ := Option.map_eq_some_iff.1 h
  simp [sizeOf, typeInfo, h1, h2]

theorem run_loadVar_agg {t : TypeId} (ha : aggO P t = some true) {n : Nat} (hs : szO P t = some n) (a : Addr) (vs : List Value) (hl : vs.length = n)
    (hc : ∀ j v, vs[j]? = some v → w.cell? (a.add j) = some v) : (loadVar t a).run P w = .ok (.agg vs.toArray) w := by
  subst hl
  simp [loadVar, run_isAgg ha, run_size hs, run_loadCells_list w a vs hc]

theorem run_loadVar_one {t : TypeId} (ha : aggO P t = some false) (a : Addr) {v : Value} (hc : w.cell? a = some v) : (loadVar t a).run P w = .ok v w := by
  simp [loadVar, run_isAgg ha, hc]

theorem add_mid (b off j : Nat) : (⟨b, off, none⟩ : Addr).add j = ⟨b, off + j, none⟩ := Addr.add_lit b off j

/-- What a list of cells in memory reads as: all are there. -/
theorem cells_at {b off : Nat} {cs : List D} (h : RepAt w F b off cs) : ∃ vs : List Value, vs.length = cs.length ∧ (∀ j v, vs[j]? = some v → w.cell? ⟨b, off + j, none⟩ = some v) ∧ RepL w F cs vs := by
  induction cs generalizing off with
  | nil => exact ⟨[], rfl, fun j v h => by simp at h, by simp [RepL]⟩
  | cons d r ih =>
    simp only [RepAt] at h
    obtain ⟨⟨hb, v, h1, h2, h3⟩, h4⟩ := h
    obtain ⟨vs, e1, e2, e3⟩ := ih h4
    refine ⟨v :: vs, by simp [e1], fun j u hj => ?_, by simp only [RepL]; exact ⟨v, vs, rfl, h2, h3, e3⟩⟩
    cases j with
    | zero => simp at hj; subst hj; simpa using h1
    | succ j =>
      have := e2 j u (by simpa using hj)
      rwa [show off + 1 + j = off + (j + 1) by omega] at this

/-- The value of a struct at a pointer to data. -/
theorem ok_load_dp_agg (h : St w0 F0 mods F ρ S w) {t : TypeId} (ha : aggO P t = some true) {n : Nat} (hs : szO P t = some n) {cells : List D} {v : Value} (hv : RepPV w F ρ (info S) (.dp cells) v)
    (hl : n ≤ cells.length) (hK : K (.agg ((cells.take n).map .d)) S) : OpOk P (do pure (.value (← Instr.loadAt t v))) w0 F0 mods F ρ S w K := by
  simp only [RepPV] at hv
  obtain ⟨b, off, rfl, hat⟩ := hv
  have hat' : RepAt w F b off (cells.take n) := RepAt.mk fun j d hj => by
    rw [List.getElem?_take] at hj
    split at hj
    · exact hat.get hj
    · cases hj
  obtain ⟨vs, e1, e2, e3⟩ := cells_at hat'
  have hr := run_loadVar_agg (P := P) (w := w) ha hs ⟨b, off, none⟩ vs (by rw [e1]; simp; omega) (fun j v hj => by rw [add_mid]; exact e2 j v hj)
  refine .value h (v := .agg vs.toArray) (by simp [Instr.loadAt, Instr.sureAddr, hr]) ?_ hK
  simp only [RepPV]
  exact ⟨_, rfl, e3.pv⟩

theorem ok_load_dp_one (h : St w0 F0 mods F ρ S w) {t : TypeId} (ha : aggO P t = some false) {cells : List D} {d : D} {v : Value} (hv : RepPV w F ρ (info S) (.dp cells) v)
    (hl : cells[0]? = some d) (hK : K (.d d) S) : OpOk P (do pure (.value (← Instr.loadAt t v))) w0 F0 mods F ρ S w K := by
  simp only [RepPV] at hv
  obtain ⟨b, off, rfl, hat⟩ := hv
  obtain ⟨_, u, e1, e2, e3⟩ := hat.get hl
  have hr := run_loadVar_one (P := P) (w := w) ha ⟨b, off, none⟩ (v := u) (by simpa using e1)
  exact .value h (v := u) (by simp [Instr.loadAt, Instr.sureAddr, hr]) (by simpa [RepPV] using e3) hK

/-- The block of an object, and its cells. -/
theorem St.cells (h : St w0 F0 mods F ρ S w) {o : Nat} {x : Ob} (hx : S[o]? = some x) (hg : x.Cel) {b : Nat} (hb : ρ o = some b) :
    ∃ arr T, w.heap[b]? = some (.cells arr T (0, 0)) ∧ RepPre w F ρ (info S) x.cells arr := by
  have := h.objs o x hx
  cases x with
  | gone => exact hg.elim
  | fro rows => exact hg.elim
  | mapo es c => exact hg.elim
  | itr mo a l c => exact hg.elim
  | arr pre n run post =>
    obtain ⟨_, b', arr, T, h1, h2, h3⟩ := this
    rw [hb] at h1; cases h1
    exact ⟨arr, T, h2, h3⟩
  | box cs =>
    obtain ⟨b', arr, T, h1, h2, h3⟩ := this
    rw [hb] at h1; cases h1
    exact ⟨arr, T, h2, h3⟩
  | buf rows =>
    rcases this with ⟨h1, _⟩ | ⟨b', arr, T, h1, h2, h3⟩
    · rw [hb] at h1; cases h1
    · rw [hb] at h1; cases h1
      exact ⟨arr, T, h2, h3⟩

/-- The block of rows that nobody changes. -/
theorem St.fro (h : St w0 F0 mods F ρ S w) {o : Nat} {rows : List (List D)} (hx : S[o]? = some (.fro rows)) {b : Nat} (hb : ρ o = some b) : RepRows w F b 0 rows ∧ F b := by
  have := h.objs o _ hx
  rcases this with ⟨h1, _⟩ | ⟨b', arr, T, h1, h2, hF, h3⟩
  · rw [hb] at h1; cases h1
  · rw [hb] at h1; cases h1
    refine ⟨RepRows.of_flat (RepAt.mk fun j d hj => ⟨hF, ?_⟩), hF⟩
    obtain ⟨v, e1, e2, e3⟩ := h3 j (.d d) (by rw [← List.map_flatten, List.getElem?_map, hj]; rfl)
    exact ⟨v, by simp only [World.cell?, h2, Nat.zero_add]; exact e1, e2, by simpa [RepPV] using e3⟩

theorem RepPre.sub {C : Nat → OI} {cs : List PV} {arr : Array Value} (h : RepPre w F ρ C cs arr) (c n : Nat) (hl : c + n ≤ cs.length) :
    ∃ vs : List Value, vs.length = n ∧ (∀ j v, vs[j]? = some v → arr[c + j]? = some v) ∧ RepPVs w F ρ C ((cs.drop c).take n) vs := by
  have key : ∀ j, j < n → ∃ v, arr[c + j]? = some v ∧ oneCell v = true ∧ ∀ p, cs[c + j]? = some p → RepPV w F ρ C p v := fun j hj => by
    obtain ⟨v, h1, h2, h3⟩ := h (c + j) cs[c + j] (List.getElem?_eq_getElem (by omega))
    exact ⟨v, h1, h2, fun p hp => by rw [List.getElem?_eq_getElem (by omega)] at hp; cases hp; exact h3⟩
  refine ⟨(List.range n).map fun j => (arr[c + j]?).getD undef, by simp, fun j v hj => ?_, RepPVs.mk (by simp; omega) fun j d v hd hv => ?_⟩
  · rw [List.getElem?_map] at hj
    obtain ⟨k, hk, rfl⟩ := Option.map_eq_some_iff.1 hj
    have hk' : k = j ∧ j < n := by
      have hjn : j < n := by
        have := (List.getElem?_eq_some_iff.1 hk).1
        simpa using this
      rw [List.getElem?_range hjn] at hk
      cases hk
      exact ⟨rfl, hjn⟩
    obtain ⟨rfl, hjn⟩ := hk'
    obtain ⟨v, h1, _⟩ := key k hjn
    simp [h1]
  · have hjn : j < n := by
      have := (List.getElem?_eq_some_iff.1 hd).1
      simp at this; omega
    obtain ⟨u, h1, h2, h3⟩ := key j hjn
    rw [List.getElem?_map, List.getElem?_range hjn] at hv
    simp only [Option.map_some, h1, Option.getD_some, Option.some.injEq] at hv
    subst hv
    rw [List.getElem?_take_of_lt hjn, List.getElem?_drop] at hd
    exact ⟨h2, h3 d hd⟩

theorem cell_of {b : Nat} {arr : Array Value} {T : TypeId} {fr : Nat × Nat} (h : w.heap[b]? = some (.cells arr T fr)) (off : Nat) : w.cell? ⟨b, off, none⟩ = arr[off]? := by
  simp [World.cell?, h]

/-- A whole part of an object is loaded: n cells from c on. -/
theorem ok_load_ob_agg (h : St w0 F0 mods F ρ S w) {t : TypeId} (ha : aggO P t = some true) {n : Nat} (hs : szO P t = some n) {o b c : Nat} {x : Ob} (hx : S[o]? = some x) (hg : x.Cel) (hb : ρ o = some b)
    (hl : c + n ≤ x.cells.length) (hK : K (.agg ((x.cells.drop c).take n)) S) : OpOk P (do pure (.value (← Instr.loadAt t (.pointer (some ⟨b, c, none⟩))))) w0 F0 mods F ρ S w K := by
  obtain ⟨arr, T, e1, e2⟩ := h.cells hx hg hb
  obtain ⟨vs, f1, f2, f3⟩ := e2.sub c n hl
  have hr := run_loadVar_agg (P := P) (w := w) ha hs ⟨b, c, none⟩ vs f1 (fun j v hj => by rw [add_mid, cell_of e1]; exact f2 j v hj)
  refine .value h (v := .agg vs.toArray) (by simp [Instr.loadAt, Instr.sureAddr, hr]) ?_ hK
  simp only [RepPV]
  exact ⟨_, rfl, f3⟩

theorem ok_load_ob_one (h : St w0 F0 mods F ρ S w) {t : TypeId} (ha : aggO P t = some false) {o b c : Nat} {x : Ob} (hx : S[o]? = some x) (hg : x.Cel) (hb : ρ o = some b)
    {p : PV} (hl : x.cells[c]? = some p) (hK : K p S) : OpOk P (do pure (.value (← Instr.loadAt t (.pointer (some ⟨b, c, none⟩))))) w0 F0 mods F ρ S w K := by
  obtain ⟨arr, T, e1, e2⟩ := h.cells hx hg hb
  obtain ⟨v, f1, f2, f3⟩ := e2 c p hl
  have hr := run_loadVar_one (P := P) (w := w) ha ⟨b, c, none⟩ (v := v) (by rw [cell_of e1]; exact f1)
  exact .value h (v := v) (by simp [Instr.loadAt, Instr.sureAddr, hr]) f3 hK

theorem setRow_eq {b : Nat} {arr cs : Array Value} {T : TypeId} (h : w.heap[b]? = some (.cells arr T (0, 0))) : w.setRow b cs = setBlock w b cs T := by
  have hlt := (Array.getElem?_eq_some_iff.1 h).1
  have hv : w.heap[b] = .cells arr T (0, 0) := (Array.getElem?_eq_some_iff.1 h).2
  unfold World.setRow setBlock
  congr 1
  apply Array.ext_getElem?
  intro i
  rw [Array.getElem?_modify, Array.getElem?_setIfInBounds]
  by_cases e : b = i
  · subst e; simp [hlt, hv]
  · simp [e]

/-- The cells cs with those from c on put in the place of what lay there. -/
def splice {α : Type} (cs : List α) (c : Nat) (vs : List α) : List α := cs.take c ++ vs ++ cs.drop (c + vs.length)

theorem splice_get {α : Type} (cs : List α) (c : Nat) (vs : List α) (h : c + vs.length ≤ cs.length) (j : Nat) : (splice cs c vs)[j]? = if c ≤ j ∧ j < c + vs.length then vs[j - c]? else cs[j]? := by
  unfold splice
  by_cases h1 : j < c
  · rw [List.append_assoc, List.getElem?_append_left (by simp; omega), List.getElem?_take_of_lt h1, if_neg (by omega)]
  · by_cases h2 : j < c + vs.length
    · rw [List.getElem?_append_left (by simp; omega), List.getElem?_append_right (by simp; omega), if_pos (by omega)]
      simp [Nat.min_eq_left (show c ≤ cs.length by omega)]
    · rw [List.getElem?_append_right (by simp; omega), if_neg (by omega), List.getElem?_drop]
      congr 1
      simp [Nat.min_eq_left (show c ≤ cs.length by omega)]
      omega

theorem splice_length {α : Type} (cs : List α) (c : Nat) (vs : List α) (h : c + vs.length ≤ cs.length) : (splice cs c vs).length = cs.length := by
  simp [splice]; omega

/-- Cells of an object are written: those from c on, by vs. -/
theorem ok_store_ob (h : St w0 F0 mods F ρ S w) {t : TypeId} {n : Nat} (hs : szO P t = some n) {o b c : Nat} {x y : Ob} (hx : S[o]? = some x) (hg : x.Cel) (hgy : y.Cel) (hyn : ∀ pre n run post, y = .arr pre n run post → run.length = n) (hb : ρ o = some b) {p : PV} {ps : List PV} {v : Value}
    (hv : RepPV w F ρ (info S) p v) (hc : p.cellsOf = some ps) (hn : ps.length = n) (hl : c + n ≤ x.cells.length) (hy : y.cells = splice x.cells c ps) (hi : x.info = y.info) (hK : K .any (S.set o y)) :
    OpOk P (do Instr.storeAt t (.pointer (some ⟨b, c, none⟩)) v; pure .skip) w0 F0 mods F ρ S w K := by
  obtain ⟨arr, T, e1, e2⟩ := h.cells hx hg hb
  have hr := PV.cellsOf_rep hc hv
  have hlen : v.cells.size = n := by have := hr.length; simp at this; omega
  have hsz : x.cells.length ≤ arr.size := by
    rcases Nat.eq_zero_or_pos x.cells.length with h0 | h0
    · omega
    · obtain ⟨v, h1, _⟩ := e2 (x.cells.length - 1) x.cells[x.cells.length - 1] (List.getElem?_eq_getElem (by omega))
      have := (Array.getElem?_eq_some_iff.1 h1).1
      omega
  have hone : ∀ u ∈ v.cells.toList, u.oneCell' = true := fun u hu => by
    obtain ⟨j, hj⟩ := List.getElem?_of_mem hu
    obtain ⟨p', hp'⟩ : ∃ p', ps[j]? = some p' := by
      have h1 := (List.getElem?_eq_some_iff.1 hj).1
      exact ⟨_, List.getElem?_eq_getElem (by have := hr.length; omega)⟩
    obtain ⟨u', h1, h2, _⟩ := hr.get hp'
    rw [hj] at h1; cases h1
    exact h2
  have hst := run_storeCells_at P b c T v.cells.toList 0 arr w e1 (by simp; omega) hone
  simp only [Nat.add_zero] at hst
  rw [setRow_eq e1] at hst
  have hrun : (do Instr.storeAt t (.pointer (some ⟨b, c, none⟩)) v; pure Next.skip : Sem Next).run P w = .ok .skip (setBlock w b (arr.toList.take c ++ v.cells.toList ++ arr.toList.drop (c + v.cells.toList.length)).toArray T) := by
    simp [Instr.storeAt, Instr.sureAddr, storeVar, run_size hs, hlen] at hst ⊢
    rw [hst]
    simp
  have hsize : arr.size = (arr.toList.take c ++ v.cells.toList ++ arr.toList.drop (c + v.cells.toList.length)).toArray.size := by simp; omega
  refine ⟨_, undef, _, .any, S.set o y, F, ρ, hrun, .inr ⟨rfl, rfl⟩, hK, by simp [RepPV], ?_, h.keeps_set hx hg.mut hb e1 hsize (.inl hi)⟩
  refine h.set hx hg.mut hgy hyn hb e1 hsize (.inl hi) ?_
  have hk := h.keeps_set (arr' := (arr.toList.take c ++ v.cells.toList ++ arr.toList.drop (c + v.cells.toList.length)).toArray) (y := y) hx hg.mut hb e1 hsize (.inl hi)
  intro j q hj
  rw [hy, splice_get _ _ _ (by omega)] at hj
  have hget : ((arr.toList.take c ++ v.cells.toList ++ arr.toList.drop (c + v.cells.toList.length)).toArray)[j]? = if c ≤ j ∧ j < c + v.cells.toList.length then v.cells.toList[j - c]? else arr[j]? := by
    have := splice_get arr.toList c v.cells.toList (by simp; omega) j
    simpa [splice] using this
  split at hj
  · rename_i hcj
    obtain ⟨u, h1, h2, h3⟩ := hr.get hj
    refine ⟨u, ?_, h2, h3.keeps hk⟩
    rw [hget, if_pos (by have := hr.length; omega)]
    exact h1
  · rename_i hcj
    obtain ⟨u, h1, h2, h3⟩ := e2 j q hj
    refine ⟨u, ?_, h2, h3.keeps hk⟩
    rw [hget, if_neg (by have := hr.length; omega)]
    exact h1
end
end Go.Aw
