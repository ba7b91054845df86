/- Values of chapter 2 as data. -/
import Derived.Test.YtjibpedeandalaaAwTy
set_option linter.unusedVariables false
set_option linter.unusedSimpArgs false
namespace Go.Aw

inductive Val where
  | mk (kind int : Int) (str : ByteArray) (list : List Val) (dict : List (ByteArray × Val))

namespace Val
def kind : Val → Int | .mk k _ _ _ _ => k
def int : Val → Int | .mk _ n _ _ _ => n
def str : Val → ByteArray | .mk _ _ s _ _ => s
def list : Val → List Val | .mk _ _ _ l _ => l
def dict : Val → List (ByteArray × Val) | .mk _ _ _ _ d => d
end Val

mutual
def cellsV : Val → List D
  | .mk k n s l d => [.i .i64 k, .i .i64 n, .s s, .sl (rowsV l), .sl (rowsP d)]
def rowsV : List Val → List (List D)
  | [] => []
  | v :: r => cellsV v :: rowsV r
def rowsP : List (ByteArray × Val) → List (List D)
  | [] => []
  | (k, v) :: r => (.s k :: cellsV v) :: rowsP r
end

def inI64 (n : Int) : Prop := -9223372036854775808 ≤ n ∧ n ≤ 9223372036854775807

mutual
def okV : Val → Prop
  | .mk k n s l d => inI64 k ∧ inI64 n ∧ s.size ≤ maxLen ∧ okVs l ∧ okPs d
def okVs : List Val → Prop
  | [] => True
  | v :: r => okV v ∧ okVs r
def okPs : List (ByteArray × Val) → Prop
  | [] => True
  | (k, v) :: r => (k.size ≤ maxLen ∧ okV v) ∧ okPs r
end

theorem cellsV_eq (v : Val) : cellsV v = [.i .i64 v.kind, .i .i64 v.int, .s v.str, .sl (rowsV v.list), .sl (rowsP v.dict)] := by cases v; rfl
theorem rowsV_eq : ∀ l : List Val, rowsV l = l.map cellsV
  | [] => rfl
  | v :: r => by simp only [rowsV, List.map_cons, rowsV_eq r]
theorem rowsP_eq : ∀ l : List (ByteArray × Val), rowsP l = l.map fun p => .s p.1 :: cellsV p.2
  | [] => rfl
  | (k, v) :: r => by simp only [rowsP, List.map_cons, rowsP_eq r]
@[simp] theorem rowsV_length (l : List Val) : (rowsV l).length = l.length := by simp [rowsV_eq]
@[simp] theorem rowsP_length (l : List (ByteArray × Val)) : (rowsP l).length = l.length := by simp [rowsP_eq]
@[simp] theorem cellsV_length (v : Val) : (cellsV v).length = 5 := by rw [cellsV_eq]; rfl
theorem rowsV_all (l : List Val) : AllLen 5 (rowsV l) := by simp [rowsV_eq, AllLen]
theorem rowsP_all (l : List (ByteArray × Val)) : AllLen 6 (rowsP l) := fun r hr => by
  rw [rowsP_eq] at hr
  obtain ⟨p, _, rfl⟩ := List.mem_map.1 hr
  simp
theorem rowsV_get {l : List Val} {i : Nat} (h : i < l.length) : (rowsV l).getD i [] = cellsV l[i] := by
  simp [rowsV_eq, List.getD_eq_getElem?_getD, h]
theorem rowsP_get {l : List (ByteArray × Val)} {i : Nat} (h : i < l.length) : (rowsP l).getD i [] = .s l[i].1 :: cellsV l[i].2 := by
  simp [rowsP_eq, List.getD_eq_getElem?_getD, h]
theorem rowsV_succ {l : List Val} {i : Nat} (h : i < l.length) : rowsV (l.take (i + 1)) = rowsV (l.take i) ++ [cellsV l[i]] := by
  rw [List.take_add_one, List.getElem?_eq_getElem h, rowsV_eq, rowsV_eq, List.map_append]; rfl
theorem rowsP_succ {l : List (ByteArray × Val)} {i : Nat} (h : i < l.length) : rowsP (l.take (i + 1)) = rowsP (l.take i) ++ [.s l[i].1 :: cellsV l[i].2] := by
  rw [List.take_add_one, List.getElem?_eq_getElem h, rowsP_eq, rowsP_eq, List.map_append]; rfl
theorem okVs_all : ∀ {l : List Val}, okVs l → ∀ v ∈ l, okV v
  | x :: r, h, v, hv => by
    simp only [okVs] at h
    rcases List.mem_cons.1 hv with rfl | hv
    · exact h.1
    · exact okVs_all h.2 v hv
theorem okPs_all : ∀ {l : List (ByteArray × Val)}, okPs l → ∀ p ∈ l, p.1.size ≤ maxLen ∧ okV p.2
  | (k, x) :: r, h, v, hv => by
    simp only [okPs] at h
    rcases List.mem_cons.1 hv with rfl | hv
    · exact h.1
    · exact okPs_all h.2 v hv
theorem okV_out {v : Val} (h : okV v) : inI64 v.kind ∧ inI64 v.int ∧ v.str.size ≤ maxLen ∧ okVs v.list ∧ okPs v.dict := by
  cases v; simp only [okV] at h; exact h

theorem bulkR_mem : ∀ {rows : List (List D)} {r : List D}, r ∈ rows → bulkL r ≤ bulkR rows
  | x :: rs, r, h => by
    simp only [bulkR]
    rcases List.mem_cons.1 h with rfl | h
    · omega
    · have := bulkR_mem h; omega

/-- How much a value holds. -/
def bulkV (v : Val) : Nat := bulkL (cellsV v)
theorem bulkV_eq (v : Val) : bulkV v = 1 + (1 + ((v.str.size + 1) + ((bulkR (rowsV v.list) + 1) + ((bulkR (rowsP v.dict) + 1) + 0)))) := by
  rw [bulkV, cellsV_eq]; simp only [bulkL, bulkD]
theorem bulkV_list {v x : Val} (h : x ∈ v.list) : bulkV x + 5 ≤ bulkV v := by
  have := bulkR_mem (rows := rowsV v.list) (r := cellsV x) (by rw [rowsV_eq]; exact List.mem_map.2 ⟨x, h, rfl⟩)
  rw [bulkV_eq v]
  unfold bulkV
  omega
theorem bulkP_mem {d : List (ByteArray × Val)} {p : ByteArray × Val} (h : p ∈ d) : p.1.size + 1 + bulkV p.2 ≤ bulkR (rowsP d) := by
  have := bulkR_mem (rows := rowsP d) (r := .s p.1 :: cellsV p.2) (by rw [rowsP_eq]; exact List.mem_map.2 ⟨p, h, rfl⟩)
  simp only [bulkL, bulkD] at this
  unfold bulkV
  omega
theorem bulkV_dict {v : Val} {p : ByteArray × Val} (h : p ∈ v.dict) : p.1.size + 1 + bulkV p.2 + 5 ≤ bulkV v := by
  have := bulkP_mem h
  rw [bulkV_eq v]
  omega
theorem bulkR_rowsV : ∀ l : List Val, l.length ≤ bulkR (rowsV l)
  | [] => by simp [rowsV, bulkR]
  | v :: r => by
    have h1 := bulkR_rowsV r
    have h2 := bulkV_eq v
    unfold bulkV at h2
    simp only [rowsV, bulkR, List.length_cons]
    omega
theorem bulkR_rowsP : ∀ l : List (ByteArray × Val), l.length ≤ bulkR (rowsP l)
  | [] => by simp [rowsP, bulkR]
  | (k, v) :: r => by
    have h1 := bulkR_rowsP r
    have h2 := bulkV_eq v
    unfold bulkV at h2
    simp only [rowsP, bulkR, bulkL, List.length_cons]
    omega
theorem bulkV_sizes (v : Val) : v.str.size ≤ bulkV v ∧ v.list.length ≤ bulkV v ∧ v.dict.length ≤ bulkV v := by
  have h1 := bulkR_rowsV v.list
  have h2 := bulkR_rowsP v.dict
  have h3 := bulkV_eq v
  omega

/-- The types of values in a program. -/
structure ValTys (P : Program) (tv tlv tp tlp ti ts : TypeId) : Prop where
  v : ∃ fs : Array Field, P.underlying tv = some (.struct fs) ∧ fs.toList.map (·.type) = [ti, ti, ts, tlv, tlp]
  lv : P.underlying tlv = some (.slice tv)
  p : ∃ fs : Array Field, P.underlying tp = some (.struct fs) ∧ fs.toList.map (·.type) = [ts, tv]
  lp : P.underlying tlp = some (.slice tp)
  i : P.underlying ti = some (.int .i64)
  s : P.underlying ts = some .string

theorem wf_i64 {n : Int} (h : (Lit.int .i64 n).wf = true) : inI64 n := by
  have : -9223372036854775808 ≤ n ∧ n ≤ 9223372036854775807 := by simpa [Lit.wf, IntKind.min, IntKind.max, IntKind.signed, IntKind.bits] using h
  exact this

section
variable {P : Program} {tv tlv tp tlp ti ts : TypeId}
theorem ty_vals_of (T : ValTys P tv tlv tp tlp ti ts) {n : Nat} (ih : ∀ ds, bulkL ds ≤ n → TyD P tv ds → ∃ v, ds = cellsV v ∧ okV v) : ∀ {rows : List (List D)}, bulkR rows ≤ n → TyR P tv rows → ∃ l, rows = rowsV l ∧ okVs l
  | [], _, _ => ⟨[], rfl, trivial⟩
  | r :: rs, hn, h => by
    cases h
    rename_i h1 h2
    simp only [bulkR] at hn
    obtain ⟨v, rfl, hv⟩ := ih r (by omega) h1
    obtain ⟨l, rfl, hl⟩ := ty_vals_of T ih (rows := rs) (by omega) h2
    exact ⟨v :: l, rfl, hv, hl⟩
theorem ty_prs_of (T : ValTys P tv tlv tp tlp ti ts) {n : Nat} (ih : ∀ ds, bulkL ds ≤ n → TyD P tv ds → ∃ v, ds = cellsV v ∧ okV v) : ∀ {rows : List (List D)}, bulkR rows ≤ n → TyR P tp rows → ∃ l, rows = rowsP l ∧ okPs l
  | [], _, _ => ⟨[], rfl, trivial⟩
  | r :: rs, hn, h => by
    cases h
    rename_i h1 h2
    simp only [bulkR] at hn
    obtain ⟨fs, hu, hfs⟩ := T.p
    have h3 := ty_struct hu h1
    rw [hfs] at h3
    obtain ⟨c1, r1, rfl, g1, h4⟩ := tyfs_cons h3
    obtain ⟨c2, r2, rfl, g2, h5⟩ := tyfs_cons h4
    obtain rfl := tyfs_nil h5
    obtain ⟨x, rfl, hx⟩ := ty_str T.s g1
    simp only [List.append_nil, List.cons_append, List.nil_append, bulkL, bulkD] at hn ⊢
    obtain ⟨v, rfl, hv⟩ := ih c2 (by omega) g2
    obtain ⟨l, rfl, hl⟩ := ty_prs_of T ih (rows := rs) (by omega) h2
    exact ⟨(x, v) :: l, rfl, ⟨hx, hv⟩, hl⟩
theorem ty_val (T : ValTys P tv tlv tp tlp ti ts) : ∀ (n : Nat) (ds : List D), bulkL ds ≤ n → TyD P tv ds → ∃ v, ds = cellsV v ∧ okV v := by
  intro n
  induction n with
  | zero =>
    intro ds hn h
    obtain ⟨fs, hu, hfs⟩ := T.v
    have h3 := ty_struct hu h
    rw [hfs] at h3
    obtain ⟨c1, r1, rfl, g1, h4⟩ := tyfs_cons h3
    obtain ⟨x, rfl, hx⟩ := ty_int T.i g1
    simp only [List.cons_append, List.nil_append, bulkL, bulkD] at hn
    omega
  | succ n ih =>
    intro ds hn h
    obtain ⟨fs, hu, hfs⟩ := T.v
    have h3 := ty_struct hu h
    rw [hfs] at h3
    obtain ⟨c1, r1, rfl, g1, h4⟩ := tyfs_cons h3
    obtain ⟨c2, r2, rfl, g2, h5⟩ := tyfs_cons h4
    obtain ⟨c3, r3, rfl, g3, h6⟩ := tyfs_cons h5
    obtain ⟨c4, r4, rfl, g4, h7⟩ := tyfs_cons h6
    obtain ⟨c5, r5, rfl, g5, h8⟩ := tyfs_cons h7
    obtain rfl := tyfs_nil h8
    obtain ⟨k, rfl, hk⟩ := ty_int T.i g1
    obtain ⟨m, rfl, hm⟩ := ty_int T.i g2
    obtain ⟨x, rfl, hx⟩ := ty_str T.s g3
    obtain ⟨rv, rfl, _, hrv⟩ := ty_sl T.lv g4
    obtain ⟨rp, rfl, _, hrp⟩ := ty_sl T.lp g5
    simp only [List.append_nil, List.cons_append, List.nil_append, bulkL, bulkD] at hn ⊢
    obtain ⟨l, rfl, hl⟩ := ty_vals_of T ih (rows := rv) (by omega) hrv
    obtain ⟨d, rfl, hd⟩ := ty_prs_of T ih (rows := rp) (by omega) hrp
    exact ⟨.mk k m x l d, rfl, by simp only [okV]; exact ⟨wf_i64 hk, wf_i64 hm, hx, hl, hd⟩⟩
theorem ty_prs (T : ValTys P tv tlv tp tlp ti ts) {rows : List (List D)} (h : TyR P tp rows) : ∃ l, rows = rowsP l ∧ okPs l := ty_prs_of T (ty_val T (bulkR rows)) (Nat.le_refl _) h
/-- A value in a slot. -/
def valP (v : Val) : PV := .agg ((cellsV v).map .d)
/-- The same, written out. -/
abbrev valC (v : Val) : PV := .agg [.d (.i .i64 v.kind), .d (.i .i64 v.int), .d (.s v.str), .d (.sl (rowsV v.list)), .d (.sl (rowsP v.dict))]
theorem valP_eq (v : Val) : valP v = valC v := by rw [valP, cellsV_eq]; rfl
theorem valP_fold (v : Val) : PV.agg [.d (.i .i64 v.kind), .d (.i .i64 v.int), .d (.s v.str), .d (.sl (rowsV v.list)), .d (.sl (rowsP v.dict))] = valP v := (valP_eq v).symm
theorem valP_sc (v : Val) (n : Nat) : scB n (valP v) = true := by rw [valP_eq]; rfl
theorem valP_take (v : Val) : PV.agg (List.map PV.d (List.take 5 (cellsV v))) = valP v := by rw [cellsV_eq, valP_eq]; rfl
/-- A value handed in. -/
theorem argT_val (T : ValTys P tv tlv tp tlp ti ts) {N : Nat} {p : PV} (h : ArgT P N tv p) : ∃ v, p = valP v ∧ okV v ∧ bulkV v ≤ N := by
  obtain ⟨ds, h1, h2, h3⟩ := h
  obtain ⟨v, rfl, hv⟩ := ty_val T _ ds (Nat.le_refl _) h1
  obtain ⟨fs, hu, _⟩ := T.v
  rcases h3 with ⟨rfl, _⟩ | ⟨d, _, _, h4, _⟩
  · exact ⟨v, rfl, hv, h2⟩
  · exact absurd hu (h4 fs)
end

theorem Val.ext' {a b : Val} (h1 : a.kind = b.kind) (h2 : a.int = b.int) (h3 : a.str = b.str) (h4 : a.list = b.list) (h5 : a.dict = b.dict) : a = b := by
  cases a; cases b; simp only [Val.kind, Val.int, Val.str, Val.list, Val.dict] at *; subst h1 h2 h3 h4 h5; rfl

/-- Are they the same? -/
noncomputable def eqV (a b : Val) : Bool := @decide (a = b) (Classical.propDecidable _)
theorem eqV_true {a b : Val} (h : a = b) : eqV a b = true := by simp [eqV, h]
theorem eqV_false {a b : Val} (h : ¬ a = b) : eqV a b = false := by simp [eqV, h]
theorem eqV_iff {a b : Val} : eqV a b = true ↔ a = b := by simp [eqV]
theorem eqV_not {a b : Val} : eqV a b = false ↔ ¬ a = b := by simp [eqV]
/-- A list that is the same up to i, and at i. -/
theorem take_same {α : Type} {a b : List α} {i : Nat} (ha : i < a.length) (hb : i < b.length) (h : a.take i = b.take i) (he : a[i] = b[i]) : a.take (i + 1) = b.take (i + 1) := by
  rw [List.take_add_one, List.take_add_one, h, List.getElem?_eq_getElem ha, List.getElem?_eq_getElem hb, he]
end Go.Aw
