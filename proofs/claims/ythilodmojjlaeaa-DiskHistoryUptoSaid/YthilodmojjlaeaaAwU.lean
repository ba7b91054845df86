/- From a reading of the arguments to data: what a law is handed is borne by the world as well-typed data. -/
import Derived.Test.YthilodmojjlaeaaAwT
import Derived.WalkKit
import Derived.ProofKit
import Derived.OpenShut
import Derived.WideShapes
set_option linter.unusedVariables false
set_option linter.unusedSimpArgs false
namespace Go.Aw

mutual
/-- The cells of a value of a type. -/
inductive TyD (P : Program) : TypeId → List D → Prop
  | bool {t : TypeId} {x : Bool} : P.underlying t = some .bool → TyD P t [.b x]
  | int {t : TypeId} {k : IntKind} {n : Int} : P.underlying t = some (.int k) → (Lit.int k n).wf = true → TyD P t [.i k n]
  | str {t : TypeId} {x : ByteArray} : P.underlying t = some .string → x.size ≤ maxLen → TyD P t [.s x]
  | sl {t e : TypeId} {rows : List (List D)} : P.underlying t = some (.slice e) → rows.length ≤ maxLen → TyR P e rows → TyD P t [.sl rows]
  | struct {t : TypeId} {fs : Array Field} {cs : List D} : P.underlying t = some (.struct fs) → TyFs P (fs.toList.map (·.type)) cs → TyD P t cs
  | array {t e : TypeId} {n : Nat} {cs : List D} : P.underlying t = some (.array n e) → TyFs P (List.replicate n e) cs → TyD P t cs
inductive TyR (P : Program) : TypeId → List (List D) → Prop
  | nil {e : TypeId} : TyR P e []
  | cons {e : TypeId} {r : List D} {rs : List (List D)} : TyD P e r → TyR P e rs → TyR P e (r :: rs)
inductive TyFs (P : Program) : List TypeId → List D → Prop
  | nil : TyFs P [] []
  | cons {t : TypeId} {ts : List TypeId} {c cs : List D} : TyD P t c → TyFs P ts cs → TyFs P (t :: ts) (c ++ cs)
end

mutual
/-- How much data there is. -/
def bulkD : D → Nat
  | .s x => x.size + 1
  | .sl rows => bulkR rows + 1
  | .agg cs => bulkL cs
  | .ifc _ x => bulkD x + 1
  | _ => 1
def bulkL : List D → Nat
  | [] => 0
  | d :: r => bulkD d + bulkL r
def bulkR : List (List D) → Nat
  | [] => 0
  | d :: r => bulkL d + bulkR r
end

theorem bulkL_append : ∀ (a b : List D), bulkL (a ++ b) = bulkL a + bulkL b
  | [], b => by simp [bulkL]
  | x :: a, b => by simp [bulkL, bulkL_append a b]; omega

/-- A measure of readings that counts what there is. -/
structure Meas {H : Type} (μ : DataW H → Nat) : Prop where
  one : ∀ d, 1 ≤ μ d
  str : ∀ bs, bs.length + 1 ≤ μ (.lit (.string bs))
  slice : ∀ es rest, (es.map μ).sum + 1 ≤ μ (.slice es rest)
  agg : ∀ ps, (ps.map μ).sum ≤ μ (.agg ps)

def consec (P : Program) : List (TypeId × Nat) → Nat → Option Nat
  | [], off => some off
  | f :: r, off => if f.2 = off then consec P r (off + P.cellsOf f.1) else none

def fieldParts (fs : Array Field) : List (TypeId × Nat) := fs.toList.map fun f => (f.type, f.offset)
def arrayParts (P : Program) (n : Nat) (e : TypeId) : List (TypeId × Nat) := (List.range n).map fun i => (e, i * P.cellsOf e)

def goodT (P : Program) (l : List TypeId) (t : TypeId) : Bool := match P.underlying t with
  | some .bool => true
  | some (.int _) => true
  | some .string => true
  | some (.slice e) => l.contains e && decide (0 < P.cellsOf e)
  | some (.struct fs) => fs.toList.all (fun f => l.contains f.type) && consec P (fieldParts fs) 0 == some (P.cellsOf t)
  | some (.array n e) => l.contains e && consec P (arrayParts P n e) 0 == some (P.cellsOf t)
  | _ => false
def closedT (P : Program) (l : List TypeId) : Bool := l.all (goodT P l)

section
variable {H : Type} {enc : TypeId × Value → H} {P : Program} {w : World}

theorem mapM_cons_out {α β : Type} {f : α → Option β} {x : α} {l : List α} {r : List β} (h : (x :: l).mapM f = some r) : ∃ y ys, f x = some y ∧ l.mapM f = some ys ∧ r = y :: ys := by
  rw [List.mapM_cons] at h
  cases hx : f x with
  | none => simp [hx] at h
  | some y =>
    cases hl : l.mapM f with
    | none => simp [hx, hl] at h
    | some ys => simp [hx, hl] at h; exact ⟨y, ys, rfl, rfl, h.symm⟩

theorem RepL.append {F : Nat → Prop} : ∀ {a b : List D} {vs us : List Value}, RepL w F a vs → RepL w F b us → RepL w F (a ++ b) (vs ++ us)
  | [], b, vs, us, h, h' => by simp only [RepL] at h; subst h; simpa using h'
  | d :: r, b, vs, us, h, h' => by
    simp only [RepL] at h
    obtain ⟨v, us', rfl, h2, h3, h4⟩ := h
    simp only [List.cons_append, RepL]
    exact ⟨v, us' ++ us, rfl, h2, h3, RepL.append h4 h'⟩

theorem mapM_range_get {β : Type} {f : Nat → Option β} : ∀ {n : Nat} {r : List β}, (List.range n).mapM f = some r → r.length = n ∧ ∀ i, i < n → ∃ v, f i = some v ∧ r[i]? = some v := by
  have gen : ∀ (l : List Nat) (r : List β), l.mapM f = some r → r.length = l.length ∧ ∀ (j i : Nat), l[j]? = some i → ∃ v, f i = some v ∧ r[j]? = some v := by
    intro l
    induction l with
    | nil => intro r h; simp at h; subst h; simp
    | cons x l ih =>
      intro r h
      obtain ⟨y, ys, h1, h2, rfl⟩ := mapM_cons_out h
      obtain ⟨h3, h4⟩ := ih _ h2
      refine ⟨by simp [h3], fun j i hj => ?_⟩
      cases j with
      | zero => simp at hj; subst hj; exact ⟨y, h1, rfl⟩
      | succ j => simp only [List.getElem?_cons_succ] at hj ⊢; exact h4 j i hj
  intro n r h
  obtain ⟨h1, h2⟩ := gen _ _ h
  exact ⟨by simpa using h1, fun i hi => h2 i i (by simp [hi])⟩

/-- The cells that lie at an address bear what the reading of them says. -/
theorem repAt_cells {a : Addr} {n : Nat} {vs : List Value} {ds : List D} (hc : w.cells? 0 a n = some vs) (hr : RepL w (fun b => b < w.heap.size) ds vs) :
    ds.length = n ∧ (0 < n → a.spot = none) ∧ RepAt w (fun b => b < w.heap.size) a.block a.off ds := by
  unfold World.cells? at hc
  rw [if_pos (Nat.zero_le _)] at hc
  obtain ⟨h1, h2⟩ := mapM_range_get hc
  have hl : ds.length = n := by rw [← RepL.length hr]; exact h1
  have hsp : 0 < n → a.spot = none := fun hn => by
    obtain ⟨v, e1, _⟩ := h2 0 hn
    have e0 : a.add 0 = a := by simp [Addr.add]
    rw [e0] at e1
    unfold World.cell? at e1
    split at e1
    · split at e1
      · cases e1
      · rename_i hs; simpa using hs
    · cases e1
  refine ⟨hl, hsp, RepAt.mk fun j d hj => ?_⟩
  have hlt : j < n := by have := (List.getElem?_eq_some_iff.1 hj).1; omega
  obtain ⟨v, e1, e2⟩ := h2 j hlt
  have ea : a.add j = ⟨a.block, a.off + j, none⟩ := by
    have := hsp (by omega)
    obtain ⟨b, o, s⟩ := a
    simp only at this
    subst this
    exact add_mid b o j
  rw [ea] at e1
  obtain ⟨v', e3, e4, e5⟩ := RepL.get hr hj
  rw [e2] at e3
  cases e3
  refine ⟨?_, v, e1, e4, e5⟩
  unfold World.cell? at e1
  split at e1
  · rename_i hb; exact (Array.getElem?_eq_some_iff.1 hb).1
  · cases e1

theorem exists_list {α : Type} {p : Nat → α → Prop} : ∀ {n : Nat}, (∀ i, i < n → ∃ x, p i x) → ∃ l : List α, l.length = n ∧ ∀ (i : Nat) (x : α), l[i]? = some x → p i x
  | 0, _ => ⟨[], rfl, fun i x h => by simp at h⟩
  | n + 1, h => by
    obtain ⟨l, h1, h2⟩ := exists_list (n := n) fun i hi => h i (by omega)
    obtain ⟨x, hx⟩ := h n (by omega)
    refine ⟨l ++ [x], by simp [h1], fun i y hy => ?_⟩
    by_cases hlt : i < l.length
    · rw [List.getElem?_append_left hlt] at hy; exact h2 i y hy
    · rw [List.getElem?_append_right (by omega)] at hy
      have : i - l.length = 0 := by
        have := (List.getElem?_eq_some_iff.1 hy).1
        simp at this; omega
      rw [this] at hy
      simp at hy
      subst hy
      rwa [show i = n by omega]

theorem tyR_of {e : TypeId} : ∀ {rows : List (List D)}, (∀ r ∈ rows, TyD P e r) → TyR P e rows
  | [], _ => .nil
  | r :: rs, h => .cons (h r (by simp)) (tyR_of fun x hx => h x (by simp [hx]))

theorem bulkR_le {μ : DataW H → Nat} : ∀ {rows : List (List D)} {ys : List (DataW H)}, rows.length = ys.length → (∀ (i : Nat) (r : List D) (y : DataW H), rows[i]? = some r → ys[i]? = some y → bulkL r ≤ μ y) → bulkR rows ≤ (ys.map μ).sum
  | [], ys, _, _ => by simp [bulkR]
  | r :: rs, [], h, _ => by simp at h
  | r :: rs, y :: ys, h, hh => by
    have h1 := hh 0 r y rfl rfl
    have h2 := bulkR_le (rows := rs) (ys := ys) (by simpa using h) fun i r' y' hr hy => hh (i + 1) r' y' (by simpa using hr) (by simpa using hy)
    simp only [bulkR, List.map_cons, List.sum_cons]
    omega

theorem parts_rep {μ : DataW H → Nat} {F : Nat → Prop} {cs : List Value} : ∀ (parts : List (TypeId × Nat)) (off total : Nat) (ys : List (DataW H)), consec P parts off = some total → cs.length = total → parts.length = ys.length →
    (∀ (i : Nat) (f : TypeId × Nat) (y : DataW H), parts[i]? = some f → ys[i]? = some y → ∃ ds, TyD P f.1 ds ∧ RepL w F ds ((cs.drop f.2).take (P.cellsOf f.1)) ∧ bulkL ds ≤ μ y) →
    ∃ ds, TyFs P (parts.map (·.1)) ds ∧ RepL w F ds (cs.drop off) ∧ bulkL ds ≤ (ys.map μ).sum
  | [], off, total, ys, hc, hl, hn, h => by
    simp only [consec, Option.some.injEq] at hc
    refine ⟨[], .nil, ?_, by simp [bulkL]⟩
    rw [List.drop_eq_nil_of_le (by omega)]
    simp [RepL]
  | f :: r, off, total, [], hc, hl, hn, h => by simp at hn
  | f :: r, off, total, y :: ys, hc, hl, hn, h => by
    simp only [consec] at hc
    split at hc
    · rename_i ho
      obtain ⟨d1, h1, h2, h3⟩ := h 0 f y rfl rfl
      obtain ⟨d2, g1, g2, g3⟩ := parts_rep r (off + P.cellsOf f.1) total ys hc hl (by simpa using hn) fun i f' y' hf hy => h (i + 1) f' y' (by simpa using hf) (by simpa using hy)
      refine ⟨d1 ++ d2, by simp only [List.map_cons]; exact .cons h1 g1, ?_, by rw [bulkL_append]; simp only [List.map_cons, List.sum_cons]; omega⟩
      have := RepL.append h2 g2
      rw [ho] at this
      rwa [← List.drop_drop, List.take_append_drop] at this
    · cases hc

theorem trod_rep {μ : DataW H → Nat} (hμ : Meas μ) {sp : Nat → Bool} {l : List TypeId} (hl : closedT P l = true) : ∀ (fuel : Nat) (t : TypeId) (cs : List Value) (x : DataW H × List MemPlace), l.contains t = true → DataW.trod enc P w 0 sp true fuel t cs = some x →
    ∃ ds, TyD P t ds ∧ RepL w (fun b => b < w.heap.size) ds cs ∧ bulkL ds ≤ μ x.1 := by
  intro fuel
  induction fuel using Nat.strongRecOn with
  | _ fuel ih =>
    intro t cs x ht h
    have hg : goodT P l t = true := List.all_eq_true.1 hl t (by simpa using ht)
    unfold goodT at hg
    cases hu : P.underlying t with
    | none => simp [hu] at hg
    | some ds =>
      rw [hu] at hg
      cases ds <;> simp only at hg <;> try (cases hg; done)
      case bool =>
        obtain ⟨b, rfl, rfl⟩ := DataW.trod_bool hu h
        refine ⟨[.b b], .bool hu, ?_, by simp [bulkL, bulkD]; exact hμ.one _⟩
        simp only [RepL]; exact ⟨_, [], rfl, rfl, by simp [RepD], rfl⟩
      case int k =>
        obtain ⟨n, rfl, rfl, hw⟩ := DataW.trod_int hu h
        refine ⟨[.i k n], .int hu hw, ?_, by simp [bulkL, bulkD]; exact hμ.one _⟩
        simp only [RepL]; exact ⟨_, [], rfl, rfl, by simp [RepD], rfl⟩
      case string =>
        obtain ⟨s, rfl, rfl, hs⟩ := DataW.trod_string hu h
        refine ⟨[.s s], .str hu hs, ?_, ?_⟩
        · simp only [RepL]; exact ⟨_, [], rfl, rfl, by simp [RepD], rfl⟩
        · have := hμ.str s.data.toList
          have e : s.data.toList.length = s.size := by rw [Array.length_toList]; rfl
          simp only [bulkL, bulkD]
          omega
      case slice e =>
        simp only [Bool.and_eq_true, decide_eq_true_eq] at hg
        rcases DataW.trod_slice hu h with ⟨rfl, rfl⟩ | ⟨a, len, cap, elems, rest, n, rfl, rfl, rfl, hb, h1, h2, h3, h4, _, _⟩
        · refine ⟨[.sl []], .sl hu (Nat.zero_le _) .nil, ?_, by have := hμ.one (DataW.nil (H := H)); simp only [bulkL, bulkD, bulkR]; exact this⟩
          simp only [RepL]
          exact ⟨_, [], rfl, rfl, by simp only [RepD]; exact ⟨none, 0, 0, rfl, rfl, Nat.le_refl _, by unfold maxLen; omega, fun _ => rfl, fun ad had => by cases had⟩, rfl⟩
        · have each : ∀ i, i < len → ∃ row, TyD P e row ∧ (row.length = P.cellsOf e ∧ (i = 0 → a.spot = none) ∧ (a.spot = none → RepAt w (fun b => b < w.heap.size) a.block (a.off + i * P.cellsOf e) row)) ∧ ∀ y, elems[i]? = some y → bulkL row ≤ μ y.1 := by
            intro i hi
            have hy := h4 i hi
            rw [List.getElem?_eq_getElem (by omega)] at hy
            rw [Option.bind_eq_some_iff] at hy
            obtain ⟨vs, hc, hd⟩ := hy
            obtain ⟨row, r1, r2, r3⟩ := ih n (by omega) e vs _ hg.1 hd
            obtain ⟨c1, c2, c3⟩ := repAt_cells hc r2
            refine ⟨row, r1, ⟨c1, fun hi0 => ?_, fun hs => ?_⟩, fun y hy => ?_⟩
            · have := c2 hg.2
              subst hi0
              simpa [Addr.add] using this
            · obtain ⟨b, o, s⟩ := a
              simp only at hs
              subst hs
              rw [add_mid] at c3
              exact c3
            · rw [List.getElem?_eq_getElem (by omega)] at hy
              cases hy
              exact r3
          obtain ⟨rows, q1, q2⟩ := exists_list each
          have hal : AllLen (P.cellsOf e) rows := fun r hr => by
            obtain ⟨j, hj⟩ := List.getElem?_of_mem hr
            exact (q2 j r hj).2.1.1
          have hsp : rows ≠ [] → a.spot = none := fun hne => by
            cases rows with
            | nil => exact absurd rfl hne
            | cons r rs => exact (q2 0 r rfl).2.1.2.1 rfl
          refine ⟨[.sl rows], .sl hu (by omega) (tyR_of fun r hr => by obtain ⟨j, hj⟩ := List.getElem?_of_mem hr; exact (q2 j r hj).1), ?_, ?_⟩
          · simp only [RepL]
            refine ⟨_, [], rfl, rfl, ?_, rfl⟩
            simp only [RepD]
            refine ⟨some a, len, cap, rfl, q1.symm, h1, h2, (fun e => by cases e), fun ad had => ?_⟩
            cases had
            exact ⟨hsp, RepRows.mk hal fun j r hj => (q2 j r hj).2.1.2.2 (hsp fun e => by rw [e] at hj; simp at hj)⟩
          · have := hμ.slice (elems.map (·.1)) (rest.map (·.1))
            have h5 := bulkR_le (μ := μ) (rows := rows) (ys := elems.map (·.1)) (by simp [q1, h3]) fun i r y hr hy => by
              rw [List.getElem?_map, Option.map_eq_some_iff] at hy
              obtain ⟨z, hz, rfl⟩ := hy
              exact (q2 i r hr).2.2 z hz
            simp only [bulkL, bulkD]
            omega
      case struct fs =>
        simp only [Bool.and_eq_true, List.all_eq_true, beq_iff_eq] at hg
        obtain ⟨xs, n, rfl, rfl, h1, h2, h3⟩ := DataW.trod_struct hu h
        obtain ⟨ds, e1, e2, e3⟩ := parts_rep (w := w) (F := fun b => b < w.heap.size) (cs := cs) (μ := μ) (fieldParts fs) 0 _ (xs.map (·.1)) hg.2 h1 (by simp [fieldParts, h2]) fun i f y hf hy => by
          unfold fieldParts at hf
          rw [List.getElem?_map, Option.map_eq_some_iff] at hf hy
          obtain ⟨f0, hf, rfl⟩ := hf
          obtain ⟨x0, hx, rfl⟩ := hy
          have := h3 i f0 (by simpa using hf)
          rw [hx] at this
          exact ih n (by omega) _ _ _ (hg.1 f0 (List.mem_of_getElem? hf)) this
        refine ⟨ds, .struct hu (by rw [fieldParts, List.map_map] at e1; exact e1), by simpa using e2, ?_⟩
        have := hμ.agg (xs.map (·.1))
        simp only
        omega
      case array n e =>
        simp only [Bool.and_eq_true, beq_iff_eq] at hg
        obtain ⟨xs, m, rfl, rfl, h1, h2, h3⟩ := DataW.trod_array hu h
        obtain ⟨ds, e1, e2, e3⟩ := parts_rep (w := w) (F := fun b => b < w.heap.size) (cs := cs) (μ := μ) (arrayParts P n e) 0 _ (xs.map (·.1)) hg.2 h1 (by simp [arrayParts, h2]) fun i f y hf hy => by
          unfold arrayParts at hf
          rw [List.getElem?_map, Option.map_eq_some_iff] at hf hy
          obtain ⟨f0, hf, rfl⟩ := hf
          obtain ⟨x0, hx, rfl⟩ := hy
          have hi : i < n := by have := (List.getElem?_eq_some_iff.1 hf).1; simpa using this
          have hf0 : f0 = i := by rw [List.getElem?_range hi] at hf; cases hf; rfl
          subst hf0
          have := h3 _ hi
          rw [hx] at this
          exact ih m (by omega) _ _ _ hg.1 this
        refine ⟨ds, .array hu (by rw [arrayParts, List.map_map, show ((fun x : TypeId × Nat => x.1) ∘ fun i => (e, i * P.cellsOf e)) = fun _ => e from rfl, List.map_const', List.length_range] at e1; exact e1), by simpa using e2, ?_⟩
        have := hμ.agg (xs.map (·.1))
        simp only
        omega

/-- What a law is handed, one by one. -/
theorem trod_arg {μ : DataW H → Nat} (hμ : Meas μ) {sp : Nat → Bool} {l : List TypeId} (hl : closedT P l = true) {t : TypeId} {v : Value} {d : DataW H} {ps : List MemPlace} {r : Reach} {b0 : Nat} (ht : l.contains t = true) (hval : Value.okWide P w r b0 t v)
    (h : DataW.Trod enc P w 0 sp true t v d ps) : ∃ ds, TyD P t ds ∧ bulkL ds ≤ μ d ∧ RepL w (fun b => b < w.heap.size) ds v.cells.toList ∧
      ((∃ fs, P.underlying t = some (.struct fs)) ∨ (∃ n e, P.underlying t = some (.array n e)) → RepD w (fun b => b < w.heap.size) (.agg ds) v) ∧
      ((∀ fs, P.underlying t ≠ some (.struct fs)) → (∀ n e, P.underlying t ≠ some (.array n e)) → ∃ d, ds = [d] ∧ RepD w (fun b => b < w.heap.size) d v) := by
  obtain ⟨fuel, hf⟩ := h
  obtain ⟨ds, h1, h2, h3⟩ := trod_rep hμ hl fuel t _ _ ht hf
  refine ⟨ds, h1, h3, h2, fun hs => ?_, fun hs ha => ?_⟩
  · obtain ⟨cs, rfl, _⟩ : ∃ cs, v = .agg cs ∧ cs.size = P.cellsOf t := by
      unfold Value.okWide at hval
      rcases hs with ⟨fs, hu⟩ | ⟨n, e, hu⟩ <;> rw [hu] at hval <;> obtain ⟨cs, e1, e2, _⟩ := hval <;> exact ⟨cs, e1, e2⟩
    simp only [RepD]
    exact ⟨cs, rfl, h2⟩
  · have hv : v.cells = #[v] := by
      have hg : goodT P l t = true := List.all_eq_true.1 hl t (by simpa using ht)
      unfold goodT at hg
      cases hu : P.underlying t with
      | none => simp [hu] at hg
      | some k =>
        rw [hu] at hg
        cases k <;> simp only at hg <;> try (cases hg; done)
        case bool => obtain ⟨b, rfl⟩ := WideShapes.okWide_bool hu hval; rfl
        case int k => obtain ⟨b, rfl⟩ := WideShapes.okWide_int hu hval; rfl
        case string => obtain ⟨b, rfl⟩ := WideShapes.okWide_string hu hval; rfl
        case slice e => obtain ⟨a, len, cap, rfl⟩ := WideShapes.okWide_slice hu hval; rfl
        case struct fs => exact absurd hu (hs fs)
        case array n e => exact absurd hu (ha n e)
    rw [hv] at h2
    cases ds with
    | nil => simp [RepL] at h2
    | cons d r =>
      simp only [RepL] at h2
      obtain ⟨u, us, e1, e2, e3, e4⟩ := h2
      simp at e1
      obtain ⟨rfl, rfl⟩ := e1
      cases r with
      | nil => exact ⟨d, rfl, e3⟩
      | cons d' r' => simp [RepL] at e4
end
end Go.Aw
