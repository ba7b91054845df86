/- A contract is used where more objects are about: the callee is handed some of them, under numbers of its own. -/
import Derived.Test.YthilodmojjlaeaaAwM
set_option linter.unusedVariables false
set_option linter.unusedSimpArgs false
namespace Go.Aw

mutual
def renV (σ : Nat → Nat) : PV → PV
  | .any => .any
  | .d x => .d x
  | .nils => .nils
  | .ptr o c => .ptr (σ o) c
  | .dp cells => .dp cells
  | .own o sz n => .own (σ o) sz n
  | .eptr o n r sz c => .eptr (σ o) n r sz c
  | .agg cs => .agg (renVs σ cs)
  | .tup vs => .tup (renVs σ vs)
  | .wag pre n run post => .wag (renVs σ pre) n run (renVs σ post)
  | .asl o c lo len => .asl (σ o) c lo len
  | .rptr o c i => .rptr (σ o) c i
  | .sub o sz off n k => .sub (σ o) sz off n k
  | .mp o => .mp (σ o)
def renVs (σ : Nat → Nat) : List PV → List PV
  | [] => []
  | p :: r => renV σ p :: renVs σ r
end

@[simp] theorem renVs_map_d (σ : Nat → Nat) : ∀ l : List D, renVs σ (l.map PV.d) = l.map PV.d
  | [] => rfl
  | d :: r => by simp [renVs, renV, renVs_map_d σ r]

theorem renVs_eq (σ : Nat → Nat) : ∀ l : List PV, renVs σ l = l.map (renV σ)
  | [] => rfl
  | p :: r => by simp [renVs, renVs_eq σ r]

def renO (σ : Nat → Nat) : Ob → Ob
  | .box cs => .box (renVs σ cs)
  | .buf rows => .buf (rows.map (renVs σ))
  | .gone => .gone
  | .fro rows => .fro rows
  | .arr pre n run post => .arr (renVs σ pre) n run (renVs σ post)
  | .mapo es c => .mapo (es.map fun e => (e.1, e.2.1, renV σ e.2.2)) c
  | .itr mo since seen last => .itr (σ mo) since seen last

mutual
theorem renV_nop (σ : Nat → Nat) : ∀ (p : PV), scB 0 p = true → renV σ p = p
  | .any, _ => rfl
  | .d x, _ => rfl
  | .nils, _ => rfl
  | .ptr o c, h => by simp [scB] at h
  | .dp cells, _ => rfl
  | .own o sz n, h => by simp [scB] at h
  | .eptr o n r sz c, h => by simp [scB] at h
  | .agg cs, h => by simp only [renV]; rw [renVs_nop σ cs (by simpa [scB] using h)]
  | .tup vs, h => by simp only [renV]; rw [renVs_nop σ vs (by simpa [scB] using h)]
  | .wag pre n run post, h => by
    simp only [scB, Bool.and_eq_true] at h
    simp only [renV]
    rw [renVs_nop σ pre h.1, renVs_nop σ post h.2]
  | .asl o c lo len, h => by simp [scB] at h
  | .rptr o c i, h => by simp [scB] at h
  | .sub o sz off n k, h => by simp [scB] at h
  | .mp o, h => by simp [scB] at h
theorem renVs_nop (σ : Nat → Nat) : ∀ (ps : List PV), scBs 0 ps = true → renVs σ ps = ps
  | [], _ => rfl
  | p :: r, h => by
    simp only [scBs, Bool.and_eq_true] at h
    simp only [renVs]
    rw [renV_nop σ p h.1, renVs_nop σ r h.2]
end

theorem renO_info (σ : Nat → Nat) (x : Ob) : (renO σ x).info = x.info := by cases x <;> simp [renO, Ob.info]
theorem renO_cells (σ : Nat → Nat) (x : Ob) : (renO σ x).cells = x.cells.map (renV σ) := by
  cases x with
  | box cs => simp [renO, Ob.cells, renVs_eq]
  | gone => simp [renO, Ob.cells]
  | fro rows =>
    simp only [renO, Ob.cells]
    rw [← List.map_flatten, List.map_map]
    rfl
  | buf rows =>
    simp only [renO, Ob.cells, List.map_flatten]
    congr 1
    apply List.map_congr_left
    intro r _
    exact renVs_eq σ r
  | arr pre n run post =>
    simp only [renO, Ob.cells, renVs_eq, List.map_append, List.map_map]
    rfl
  | mapo es c =>
    simp only [renO, Ob.cells, List.map_map]
    rfl
  | itr mo a l b => rfl

section
variable {w : World} {F : Nat → Prop} {ρ ρ' : Nat → Option Nat} {C C' : Nat → OI} {n : Nat} {σ : Nat → Nat}

mutual
theorem rep_ren (hc : ∀ o, o < n → C' (σ o) = C o ∧ ρ' (σ o) = ρ o) : ∀ (p : PV) (v : Value), scB n p = true → (RepPV w F ρ' C' (renV σ p) v ↔ RepPV w F ρ C p v)
  | .any, v, _ => by simp [RepPV, renV]
  | .d x, v, _ => by simp [RepPV, renV]
  | .nils, v, _ => by simp [RepPV, renV]
  | .ptr o c, v, hs => by
    have := hc o (by simpa [scB] using hs)
    simp only [renV, RepPV]
    rw [this.1, this.2]
  | .dp cells, v, _ => by simp [RepPV, renV]
  | .own o sz m, v, hs => by
    have := hc o (by simpa [scB] using hs)
    simp only [renV, RepPV]
    rw [this.1, this.2]
  | .eptr o m r sz c, v, hs => by
    have := hc o (by simpa [scB] using hs)
    simp only [renV, RepPV]
    rw [this.1, this.2]
  | .agg cs, v, hs => by
    simp only [renV, RepPV]
    constructor
    · rintro ⟨arr, h1, h2⟩; exact ⟨arr, h1, (reps_ren hc cs _ (by simpa [scB] using hs)).1 h2⟩
    · rintro ⟨arr, h1, h2⟩; exact ⟨arr, h1, (reps_ren hc cs _ (by simpa [scB] using hs)).2 h2⟩
  | .tup cs, v, hs => by
    simp only [renV, RepPV]
    constructor
    · rintro ⟨arr, h1, h2⟩; exact ⟨arr, h1, (rept_ren hc cs _ (by simpa [scB] using hs)).1 h2⟩
    · rintro ⟨arr, h1, h2⟩; exact ⟨arr, h1, (rept_ren hc cs _ (by simpa [scB] using hs)).2 h2⟩
  | .wag pre m run post, v, hs => by
    simp only [scB, Bool.and_eq_true] at hs
    simp only [renV, RepPV]
    constructor
    · rintro ⟨h0, arr, h1, a, b, c, h2, h3, h4, h5⟩; exact ⟨h0, arr, h1, a, b, c, h2, (reps_ren hc pre _ hs.1).1 h3, h4, (reps_ren hc post _ hs.2).1 h5⟩
    · rintro ⟨h0, arr, h1, a, b, c, h2, h3, h4, h5⟩; exact ⟨h0, arr, h1, a, b, c, h2, (reps_ren hc pre _ hs.1).2 h3, h4, (reps_ren hc post _ hs.2).2 h5⟩
  | .asl o c lo len, v, hs => by
    have := hc o (by simpa [scB] using hs)
    simp only [renV, RepPV]
    rw [this.1, this.2]
  | .rptr o c i, v, hs => by
    have := hc o (by simpa [scB] using hs)
    simp only [renV, RepPV]
    rw [this.1, this.2]
  | .sub o sz off m k, v, hs => by
    have := hc o (by simpa [scB] using hs)
    simp only [renV, RepPV]
    rw [this.1, this.2]
  | .mp o, v, hs => by
    have := hc o (by simpa [scB] using hs)
    simp only [renV, RepPV]
    rw [this.1, this.2]
theorem reps_ren (hc : ∀ o, o < n → C' (σ o) = C o ∧ ρ' (σ o) = ρ o) : ∀ (ps : List PV) (vs : List Value), scBs n ps = true → (RepPVs w F ρ' C' (renVs σ ps) vs ↔ RepPVs w F ρ C ps vs)
  | [], vs, _ => by simp [RepPVs, renVs]
  | p :: r, vs, hs => by
    simp only [scBs, Bool.and_eq_true] at hs
    simp only [renVs, RepPVs]
    constructor
    · rintro ⟨v, us, h1, h2, h3, h4⟩; exact ⟨v, us, h1, h2, (rep_ren hc p v hs.1).1 h3, (reps_ren hc r us hs.2).1 h4⟩
    · rintro ⟨v, us, h1, h2, h3, h4⟩; exact ⟨v, us, h1, h2, (rep_ren hc p v hs.1).2 h3, (reps_ren hc r us hs.2).2 h4⟩
theorem rept_ren (hc : ∀ o, o < n → C' (σ o) = C o ∧ ρ' (σ o) = ρ o) : ∀ (ps : List PV) (vs : List Value), scBs n ps = true → (RepTs w F ρ' C' (renVs σ ps) vs ↔ RepTs w F ρ C ps vs)
  | [], vs, _ => by simp [RepTs, renVs]
  | p :: r, vs, hs => by
    simp only [scBs, Bool.and_eq_true] at hs
    simp only [renVs, RepTs]
    constructor
    · rintro ⟨v, us, h1, h3, h4⟩; exact ⟨v, us, h1, (rep_ren hc p v hs.1).1 h3, (rept_ren hc r us hs.2).1 h4⟩
    · rintro ⟨v, us, h1, h3, h4⟩; exact ⟨v, us, h1, (rep_ren hc p v hs.1).2 h3, (rept_ren hc r us hs.2).2 h4⟩
end
end

theorem RepEs.ren {w : World} {F : Nat → Prop} {ρ ρ' : Nat → Option Nat} {C C' : Nat → OI} {n : Nat} {σ : Nat → Nat} (hc : ∀ o, o < n → C' (σ o) = C o ∧ ρ' (σ o) = ρ o) : ∀ {es : List (D × Nat × PV)} {l : List MapEntry}, (∀ p ∈ es.map (fun e => e.2.2), scB n p = true) →
    (RepEs w F ρ' C' (es.map fun e => (e.1, e.2.1, renV σ e.2.2)) l ↔ RepEs w F ρ C es l)
  | [], l, hs => by simp [RepEs]
  | (kk, bn, p) :: r, l, hs => by
    have hp := hs p (by simp)
    have hr : ∀ q ∈ r.map (fun e => e.2.2), scB n q = true := fun q hq => hs q (List.mem_cons_of_mem _ hq)
    simp only [RepEs, List.map_cons]
    constructor
    · rintro ⟨e, l, rfl, h1, h2, h3, h4⟩; exact ⟨e, l, rfl, h1, h2, (rep_ren hc p _ hp).1 h3, (RepEs.ren hc hr).1 h4⟩
    · rintro ⟨e, l, rfl, h1, h2, h3, h4⟩; exact ⟨e, l, rfl, h1, h2, (rep_ren hc p _ hp).2 h3, (RepEs.ren hc hr).2 h4⟩
theorem RepOb.ren {w : World} {F : Nat → Prop} {ρ ρ' : Nat → Option Nat} {C C' : Nat → OI} {n o o' : Nat} {σ : Nat → Nat} (hc : ∀ o, o < n → C' (σ o) = C o ∧ ρ' (σ o) = ρ o) (hρ : ρ' o' = ρ o) {x : Ob} (hs : scBs n x.cells = true) :
    RepOb w F ρ' C' o' (renO σ x) ↔ RepOb w F ρ C o x := by
  have pre : ∀ arr, RepPre w F ρ' C' (renO σ x).cells arr ↔ RepPre w F ρ C x.cells arr := fun arr => by
    rw [renO_cells]
    constructor
    · intro hp j p hj
      obtain ⟨v, h1, h2, h3⟩ := hp j (renV σ p) (by rw [List.getElem?_map, hj]; rfl)
      exact ⟨v, h1, h2, (rep_ren hc p v (scBs_mem hs p (List.mem_of_getElem? hj))).1 h3⟩
    · intro hp j p hj
      rw [List.getElem?_map] at hj
      obtain ⟨q, hq, rfl⟩ := Option.map_eq_some_iff.1 hj
      obtain ⟨v, h1, h2, h3⟩ := hp j q hq
      exact ⟨v, h1, h2, (rep_ren hc q v (scBs_mem hs q (List.mem_of_getElem? hq))).2 h3⟩
  cases x with
  | gone => exact Iff.rfl
  | fro rows =>
    have pr := pre
    simp only [renO, Ob.cells] at pr
    simp only [renO, RepOb, hρ, pr]
  | box cs =>
    have pr := pre
    simp only [renO, Ob.cells] at pr
    simp only [renO, RepOb, hρ, pr]
  | buf rows =>
    have pr := pre
    simp only [renO, Ob.cells] at pr
    simp only [renO, RepOb, hρ, pr, List.map_eq_nil_iff]
  | arr p m run q =>
    have pr := pre
    simp only [renO, Ob.cells] at pr
    simp only [renO, RepOb, hρ, pr]
  | mapo es c =>
    simp only [renO, RepOb, hρ, RepEs.ren hc (scBs_mem hs)]
  | itr mo a l b =>
    have : scB n (.mp mo) = true := scBs_mem hs _ (by simp [Ob.cells])
    have e := fun v => rep_ren (w := w) (F := F) hc (.mp mo) v this
    simp only [renV] at e
    simp only [renO, RepOb, hρ, e]

/-- The objects sel of S, as the callee left them. -/
def merge (σ : Nat → Nat) : Heap → List Nat → Heap → Heap
  | S, s :: sel, x :: xs => merge σ (S.set s (renO σ x)) sel xs
  | S, _, _ => S

theorem merge_length {σ : Nat → Nat} : ∀ {S : Heap} {sel : List Nat} {xs : Heap}, (merge σ S sel xs).length = S.length
  | S, [], xs => by simp [merge]
  | S, s :: sel, [] => by simp [merge]
  | S, s :: sel, x :: xs => by simp [merge, merge_length]

theorem merge_other {σ : Nat → Nat} : ∀ {S : Heap} {sel : List Nat} {xs : Heap} {o : Nat}, o ∉ sel → (merge σ S sel xs)[o]? = S[o]?
  | S, [], xs, o, _ => by simp [merge]
  | S, s :: sel, [], o, _ => by simp [merge]
  | S, s :: sel, x :: xs, o, h => by
    simp only [List.mem_cons, not_or] at h
    simp only [merge]
    rw [merge_other h.2, List.getElem?_set_ne (Ne.symm h.1)]

theorem merge_at {σ : Nat → Nat} : ∀ {S : Heap} {sel : List Nat} {xs : Heap} {j o : Nat} {x : Ob}, sel.Nodup → (∀ s ∈ sel, s < S.length) → sel[j]? = some o → xs[j]? = some x → (merge σ S sel xs)[o]? = some (renO σ x)
  | S, [], xs, j, o, x, _, _, h, _ => by simp at h
  | S, s :: sel, [], j, o, x, _, _, _, h => by simp at h
  | S, s :: sel, y :: xs, 0, o, x, hn, hl, h, hx => by
    simp at h hx
    subst h hx
    simp only [merge]
    rw [merge_other (List.nodup_cons.1 hn).1]
    simp [hl s (by simp)]
  | S, s :: sel, y :: xs, j + 1, o, x, hn, hl, h, hx => by
    simp only [merge]
    refine merge_at (List.nodup_cons.1 hn).2 (fun t ht => by simpa using hl t (by simp [ht])) (by simpa using h) (by simpa using hx)

/-- The callee's numbers: first the objects that it is handed, then those that it makes. -/
def num (sel : List Nat) (n : Nat) (j : Nat) : Nat := if h : j < sel.length then sel[j] else n + (j - sel.length)

/-- What has become of the caller's objects. -/
def after (sel : List Nat) (S S0' : Heap) : Heap := merge (num sel S.length) S sel (S0'.take sel.length) ++ (S0'.drop sel.length).map (renO (num sel S.length))

section
variable {P : Program}

theorem num_lt {sel : List Nat} {n j : Nat} (h : j < sel.length) : num sel n j = sel[j] := by simp [num, h]
theorem num_ge {sel : List Nat} {n j : Nat} (h : sel.length ≤ j) : num sel n j = n + (j - sel.length) := by simp [num]; omega

theorem after_cases {sel : List Nat} {S S0' : Heap} (hn : sel.Nodup) (hl : ∀ s ∈ sel, s < S.length) (hk : sel.length ≤ S0'.length) {o : Nat} {x : Ob} (hx : (after sel S S0')[o]? = some x) :
    (o < S.length ∧ o ∉ sel ∧ S[o]? = some x) ∨ (∃ j y, S0'[j]? = some y ∧ num sel S.length j = o ∧ x = renO (num sel S.length) y) := by
  unfold after at hx
  by_cases ho : o < S.length
  · rw [List.getElem?_append_left (by rw [merge_length]; exact ho)] at hx
    by_cases hs : o ∈ sel
    · obtain ⟨j, hj⟩ := List.getElem?_of_mem hs
      have hjl := (List.getElem?_eq_some_iff.1 hj).1
      obtain ⟨y, hy⟩ : ∃ y, S0'[j]? = some y := ⟨_, List.getElem?_eq_getElem (by omega)⟩
      rw [merge_at hn hl hj (by rw [List.getElem?_take_of_lt hjl]; exact hy)] at hx
      cases hx
      refine .inr ⟨j, y, hy, ?_, rfl⟩
      rw [num_lt hjl]
      exact (List.getElem?_eq_some_iff.1 hj).2
    · rw [merge_other hs] at hx
      exact .inl ⟨ho, hs, hx⟩
  · rw [List.getElem?_append_right (by rw [merge_length]; omega), merge_length, List.getElem?_map, List.getElem?_drop] at hx
    obtain ⟨y, hy, rfl⟩ := Option.map_eq_some_iff.1 hx
    refine .inr ⟨sel.length + (o - S.length), y, hy, ?_, rfl⟩
    rw [num_ge (by omega)]
    omega

theorem after_at {sel : List Nat} {S S0' : Heap} (hn : sel.Nodup) (hl : ∀ s ∈ sel, s < S.length) (hk : sel.length ≤ S0'.length) {j : Nat} {y : Ob} (hy : S0'[j]? = some y) :
    (after sel S S0')[num sel S.length j]? = some (renO (num sel S.length) y) := by
  unfold after
  by_cases hj : j < sel.length
  · rw [num_lt hj, List.getElem?_append_left (by rw [merge_length]; exact hl _ (List.getElem_mem hj))]
    exact merge_at hn hl (List.getElem?_eq_getElem hj) (by rw [List.getElem?_take_of_lt hj]; exact hy)
  · rw [num_ge (by omega), List.getElem?_append_right (by rw [merge_length]; omega), merge_length, List.getElem?_map, List.getElem?_drop]
    rw [show sel.length + (S.length + (j - sel.length) - S.length) = j by omega, hy]
    rfl

theorem after_other {sel : List Nat} {S S0' : Heap} {o : Nat} (ho : o < S.length) (hs : o ∉ sel) : (after sel S S0')[o]? = S[o]? := by
  unfold after
  rw [List.getElem?_append_left (by rw [merge_length]; exact ho), merge_other hs]

theorem nodup_inj {sel : List Nat} (hn : sel.Nodup) {i j : Nat} (hi : i < sel.length) (hj : j < sel.length) (h : sel[i] = sel[j]) : i = j := by
  rcases Nat.lt_trichotomy i j with h1 | h1 | h1
  · exact absurd h (List.pairwise_iff_getElem.1 hn i j hi hj h1)
  · exact h1
  · exact absurd h.symm (List.pairwise_iff_getElem.1 hn j i hj hi h1)

theorem num_inj {sel : List Nat} {n : Nat} (hn : sel.Nodup) (hl : ∀ s ∈ sel, s < n) {i j : Nat} (h : num sel n i = num sel n j) : i = j := by
  by_cases hi : i < sel.length <;> by_cases hj : j < sel.length
  · rw [num_lt hi, num_lt hj] at h
    exact nodup_inj hn hi hj h
  · rw [num_lt hi, num_ge (by omega)] at h
    have := hl _ (List.getElem_mem hi); omega
  · rw [num_ge (by omega), num_lt hj] at h
    have := hl _ (List.getElem_mem hj); omega
  · rw [num_ge (by omega), num_ge (by omega)] at h
    omega

def renR (σ : Nat → Nat) : ARes → ARes
  | .ret p => .ret (renV σ p)
  | .pan p => .pan (renV σ p)
def ARes.val : ARes → PV
  | .ret p => p
  | .pan p => p

/-- A contract over the objects S0 alone, where the caller has others. -/
theorem CallsA.frame {f : FuncId} {args0 : List PV} {S0 : Heap} {R : ARes → Heap → Prop} (h : CallsA P f args0 S0 R) (S : Heap) (sel : List Nat) (hn : sel.Nodup) (hlen : sel.length = S0.length) (hl : ∀ s ∈ sel, s < S.length)
    (hsel : ∀ j x, S0[j]? = some x → S[num sel S.length j]? = some (renO (num sel S.length) x)) (hsc : S0.all (Ob.sc S0.length) = true) (hargs : scBs S0.length args0 = true)
    (hR : ∀ r S', R r S' → S'.all (Ob.sc S'.length) = true ∧ scB S'.length r.val = true) :
    CallsA P f (renVs (num sel S.length) args0) S (fun r S' => ∃ r0 S0', R r0 S0' ∧ r = renR (num sel S.length) r0 ∧ S' = after sel S S0') := by
  refine ⟨h.1, fun w0 F0 mods F ρ w cargs hs ha => ?_⟩
  let σ := num sel S.length
  let ρ0 : Nat → Option Nat := fun j => ρ (σ j)
  have hinf : ∀ o, o < S0.length → info S (σ o) = info S0 o ∧ ρ (σ o) = ρ0 o := fun o ho => by
    have hx := List.getElem?_eq_getElem ho
    refine ⟨?_, rfl⟩
    rw [info_of (hsel o _ hx), info_of hx, renO_info]
  have lv : ∀ o b, Lives S0 ρ0 o b → Lives S ρ (σ o) b := by
    rintro o b ⟨h1, x, h2, h3⟩
    exact ⟨h1, _, hsel o x h2, by cases x <;> simp_all [renO]⟩
  have hst : St w F (fun b => ∃ o, Lives S0 ρ0 o b) F ρ0 S0 w := by
    refine ⟨?_, ?_, fun o b h1 => hs.notF _ b (lv o b h1), hs.bound, fun o b h1 => .inl ⟨o, h1⟩, Nat.le_refl _, rfl, rfl, rfl, fun _ _ _ => rfl, fun _ => Nat.le_refl _, fun _ h => h, fun _ h => .inl h⟩
    · intro o x hx
      have hsx : scBs S0.length x.cells = true := List.all_eq_true.1 hsc x (List.mem_of_getElem? hx)
      have := hs.objs _ _ (hsel o x hx)
      exact (RepOb.ren (n := S0.length) (σ := σ) hinf rfl hsx).1 this
    · intro o o' b h1 h2
      exact num_inj hn hl (hs.inj _ _ b (lv o b h1) (lv o' b h2))
  have hra : RepTs w F ρ0 (info S0) args0 cargs.toList := (rept_ren (n := S0.length) (σ := σ) hinf args0 _ hargs).1 ha
  refine (h.2 w F _ F ρ0 w cargs hst hra).mono fun en w' hen => ?_
  obtain ⟨r0, S0', F', ρ0', hr, hend, hst', hk⟩ := hen
  obtain ⟨hsc', hscr⟩ := hR r0 S0' hr
  have hk0 : sel.length ≤ S0'.length := by
    rw [hlen]
    rcases Nat.eq_zero_or_pos S0.length with h0 | h0
    · omega
    · have h1 : info S0 (S0.length - 1) ≠ .fresh := by
        rw [info_of (List.getElem?_eq_getElem (show S0.length - 1 < S0.length by omega))]
        exact Ob.info_ne _
      have := info_lt (hk.old _ h1)
      omega
  -- the caller's places behind the call
  let ρ' : Nat → Option Nat := fun o => if o < S.length then (if o ∈ sel then ρ0' (sel.idxOf o) else ρ o) else ρ0' (sel.length + (o - S.length))
  have hρ' : ∀ j, j < S0'.length → ρ' (σ j) = ρ0' j := fun j hj => by
    by_cases hjs : j < sel.length
    · have e : σ j = sel[j] := num_lt hjs
      have hm : sel[j] ∈ sel := List.getElem_mem hjs
      simp only [ρ', e, if_pos (hl _ hm), if_pos hm]
      rw [List.Nodup.idxOf_getElem hn]
    · have e : σ j = S.length + (j - sel.length) := num_ge (by omega)
      simp only [ρ', e, if_neg (show ¬ S.length + (j - sel.length) < S.length by omega)]
      congr 1; omega
  have hρo : ∀ o, o < S.length → o ∉ sel → ρ' o = ρ o := fun o ho hs => by simp only [ρ', if_pos ho, if_neg hs]
  let S' := after sel S S0'
  have hinf' : ∀ o, o < S0'.length → info S' (σ o) = info S0' o ∧ ρ' (σ o) = ρ0' o := fun o ho => by
    have hx := List.getElem?_eq_getElem ho
    refine ⟨?_, hρ' o ho⟩
    rw [info_of (after_at hn hl hk0 hx), info_of hx, renO_info]
  have hother : ∀ o, o < S.length → o ∉ sel → info S' o = info S o := fun o ho hs => by
    unfold info
    rw [show S'[o]? = S[o]? from after_other ho hs]
  have ltb : ∀ o b, Lives S ρ o b → b < w.heap.size := fun o b hl => by
    exact hs.lives_lt hl
  have hblk : ∀ o x b, o < S.length → o ∉ sel → S[o]? = some x → x.Mut → ρ o = some b → w'.heap[b]? = w.heap[b]? := fun o x b ho hns hx hg hb => by
    refine hst'.keep b (ltb o b ⟨hb, x, hx, hg⟩) ?_
    rintro ⟨j, hj⟩
    have := hs.inj _ _ b ⟨hb, x, hx, hg⟩ (lv j b hj)
    have hjl : j < sel.length := by obtain ⟨_, y, hy, _⟩ := hj; have := (List.getElem?_eq_some_iff.1 hy).1; omega
    apply hns
    rw [this]
    show num sel S.length j ∈ sel
    rw [num_lt hjl]
    exact List.getElem_mem hjl
  have hkeep : Keeps w w' F F' ρ ρ' (info S) (info S') := by
    refine ⟨hk.same, hk.sub, hk.size, ?_, ?_, ?_⟩
    · intro o ho
      have hol := info_lt ho
      by_cases hs : o ∈ sel
      · obtain ⟨j, hj⟩ := List.getElem?_of_mem hs
        have hjl := (List.getElem?_eq_some_iff.1 hj).1
        have e : σ j = o := by rw [show σ j = sel[j] from num_lt hjl]; exact (List.getElem?_eq_some_iff.1 hj).2
        rw [← e, (hinf' j (by omega)).1]
        intro hf
        have := info_lt (S := S0') (o := j)
        rw [info_of (List.getElem?_eq_getElem (show j < S0'.length by omega))] at hf
        exact Ob.info_ne _ hf
      · rw [hother o hol hs]; exact ho
    · intro o ho hx
      have hol := info_lt ho
      by_cases hs : o ∈ sel
      · obtain ⟨j, hj⟩ := List.getElem?_of_mem hs
        have hjl := (List.getElem?_eq_some_iff.1 hj).1
        have e : σ j = o := by rw [show σ j = sel[j] from num_lt hjl]; exact (List.getElem?_eq_some_iff.1 hj).2
        rw [← e, (hinf' j (by omega)).1] at hx
        have h0 : info S0 j ≠ .fresh := by rw [← (hinf j (by omega)).1, e]; exact ho
        obtain ⟨h1, h2⟩ := hk.box j h0 hx
        rw [← e, (hinf j (by omega)).1, (hinf' j (by omega)).2]
        exact ⟨h1, h2⟩
      · rw [hother o hol hs] at hx
        exact ⟨hx, hρo o hol hs⟩
    · intro o m ho hx
      have hol := info_lt ho
      by_cases hs : o ∈ sel
      · obtain ⟨j, hj⟩ := List.getElem?_of_mem hs
        have hjl := (List.getElem?_eq_some_iff.1 hj).1
        have e : σ j = o := by rw [show σ j = sel[j] from num_lt hjl]; exact (List.getElem?_eq_some_iff.1 hj).2
        rw [← e, (hinf' j (by omega)).1] at hx
        have h0 : info S0 j ≠ .fresh := by rw [← (hinf j (by omega)).1, e]; exact ho
        obtain ⟨m0, h1, h2, h3⟩ := hk.buf j m h0 hx
        rw [← e, (hinf j (by omega)).1, (hinf' j (by omega)).2]
        exact ⟨m0, h1, h2, h3⟩
      · rw [hother o hol hs] at hx
        exact ⟨m, hx, Nat.le_refl _, fun _ => hρo o hol hs⟩
  have live' : ∀ o b, Lives S' ρ' o b → (o < S.length ∧ o ∉ sel ∧ Lives S ρ o b) ∨ (∃ j, σ j = o ∧ Lives S0' ρ0' j b) := by
    rintro o b ⟨h1, x, h2, h3⟩
    rcases after_cases hn hl hk0 h2 with ⟨g1, g2, g3⟩ | ⟨j, y, g1, g2, g3⟩
    · left
      rw [hρo o g1 g2] at h1
      exact ⟨g1, g2, h1, x, g3, h3⟩
    · right
      have hjl := (List.getElem?_eq_some_iff.1 g1).1
      refine ⟨j, g2, ?_, y, g1, by rw [g3] at h3; cases y <;> first | trivial | exact h3⟩
      rw [← g2] at h1
      rw [← hρ' j hjl]
      exact h1
  have hmods : ∀ b, (∃ o, Lives S0 ρ0 o b) → mods b ∨ w0.heap.size ≤ b := fun b ⟨o, ho⟩ => hs.mine _ b (lv o b ho)
  refine ⟨renR σ r0, S', F', ρ', ⟨r0, S0', hr, rfl, rfl⟩, ?_, ?_, hkeep⟩
  · cases r0 with
    | ret p =>
      cases en with
      | returned v => exact (rep_ren (n := S0'.length) (σ := σ) hinf' p v hscr).2 hend
      | panicked c => exact hend.elim
      | outgrown => exact hend.elim
    | pan p =>
      cases en with
      | returned v => exact hend.elim
      | panicked c =>
        obtain ⟨v, rfl, hv⟩ := hend
        exact ⟨v, rfl, (rep_ren (n := S0'.length) (σ := σ) hinf' p v hscr).2 hv⟩
      | outgrown => exact hend.elim
  · refine ⟨?_, ?_, ?_, hst'.bound, ?_, Nat.le_trans hs.grow hst'.grow, hst'.os.trans hs.os, hst'.tape.trans hs.tape, hst'.output.trans hs.output, ?_, fun b => Nat.le_trans (hs.bsize b) (hst'.bsize b),
      fun b hb => hst'.f0 b (hs.f0 b hb), ?_⟩
    · intro o x hx
      rcases after_cases hn hl hk0 hx with ⟨g1, g2, g3⟩ | ⟨j, y, g1, g2, rfl⟩
      · exact (hs.objs o x g3).keeps hkeep (hρo o g1 g2) fun b hb hg => hblk o x b g1 g2 g3 hg hb
      · have hjl := (List.getElem?_eq_some_iff.1 g1).1
        have hsy : scBs S0'.length y.cells = true := List.all_eq_true.1 hsc' y (List.mem_of_getElem? g1)
        have := hst'.objs j y g1
        have hrj : ρ' o = ρ0' j := by rw [← g2]; exact hρ' j hjl
        exact (RepOb.ren (n := S0'.length) (σ := σ) hinf' hrj hsy).2 this
    · intro o o' b h1 h2
      rcases live' o b h1 with ⟨g1, g2, g3⟩ | ⟨j, g1, g2⟩ <;> rcases live' o' b h2 with ⟨g1', g2', g3'⟩ | ⟨j', g1', g2'⟩
      · exact hs.inj o o' b g3 g3'
      · exfalso
        have hb := ltb o b g3
        rcases hst'.mine j' b g2' with ⟨i, hi⟩ | hge
        · have := hs.inj _ _ b g3 (lv i b hi)
          have hil : i < sel.length := by obtain ⟨_, y, hy, _⟩ := hi; have := (List.getElem?_eq_some_iff.1 hy).1; omega
          apply g2
          rw [this]
          show num sel S.length i ∈ sel
          rw [num_lt hil]; exact List.getElem_mem hil
        · omega
      · exfalso
        have hb := ltb o' b g3'
        rcases hst'.mine j b g2 with ⟨i, hi⟩ | hge
        · have := hs.inj _ _ b g3' (lv i b hi)
          have hil : i < sel.length := by obtain ⟨_, y, hy, _⟩ := hi; have := (List.getElem?_eq_some_iff.1 hy).1; omega
          apply g2'
          rw [this]
          show num sel S.length i ∈ sel
          rw [num_lt hil]; exact List.getElem_mem hil
        · omega
      · rw [← g1, ← g1', hst'.inj j j' b g2 g2']
    · intro o b h1 hf
      rcases live' o b h1 with ⟨g1, g2, g3⟩ | ⟨j, g1, g2⟩
      · rcases hst'.fnew b hf with k1 | ⟨i, hi⟩ | k1
        · exact hs.notF o b g3 k1
        · have := hs.inj _ _ b g3 (lv i b hi)
          have hil : i < sel.length := by obtain ⟨_, y, hy, _⟩ := hi; have := (List.getElem?_eq_some_iff.1 hy).1; omega
          apply g2
          rw [this]
          show num sel S.length i ∈ sel
          rw [num_lt hil]; exact List.getElem_mem hil
        · have := ltb o b g3; omega
      · exact hst'.notF j b g2 hf
    · intro o b h1
      rcases live' o b h1 with ⟨g1, g2, g3⟩ | ⟨j, g1, g2⟩
      · exact hs.mine o b g3
      · rcases hst'.mine j b g2 with k1 | k1
        · exact hmods b k1
        · right; have := hs.grow; omega
    · intro b hb hm
      rw [hst'.keep b (by have := hs.grow; omega) ?_]
      · exact hs.keep b hb hm
      · intro hmm
        rcases hmods b hmm with k1 | k1
        · exact hm k1
        · omega
    · intro b hb
      rcases hst'.fnew b hb with k1 | k1 | k1
      · exact hs.fnew b k1
      · rcases hmods b k1 with k2 | k2
        · exact .inr (.inl k2)
        · exact .inr (.inr k2)
      · right; right; have := hs.grow; omega

end
end Go.Aw
