/- The abstract machine: operations by their kind, regions, control, and what is promised of a function. -/
import Derived.Test.YthilodmojjlaeaaAwI
set_option linter.unusedVariables false
set_option linter.unusedSimpArgs false
namespace Go.Aw

inductive AExit where
  | normal
  | exit (id : Nat)
  | ret
  | panic (p : PV)

abbrev Post := AExit → Env → Heap → Prop

def put (e : Env) (d : Option Nat) (v : PV) : Env := match d with
  | some t => (t, v) :: e
  | none => e

/-- What a pointer leads to: n cells of it. -/
def loadA (P : Program) (S : Heap) (t : TypeId) (p : PV) (K : PV → Heap → Prop) : Prop := match p with
  | .dp cells => match aggO P t with
    | some true => ∃ n, szO P t = some n ∧ n ≤ cells.length ∧ K (.agg ((cells.take n).map .d)) S
    | some false => ∃ d, cells[0]? = some d ∧ K (.d d) S
    | none => False
  | .ptr o c => ∃ cs, S[o]? = some (.box cs) ∧ match aggO P t with
    | some true => ∃ n, szO P t = some n ∧ c + n ≤ cs.length ∧ K (.agg ((cs.drop c).take n)) S
    | some false => ∃ q, cs[c]? = some q ∧ K q S
    | none => False
  | .eptr o n r sz c => ∃ rows row, S[o]? = some (.buf rows) ∧ rows.length = n ∧ AllLen sz rows ∧ rows[r]? = some row ∧ match aggO P t with
    | some true => ∃ m, szO P t = some m ∧ c + m ≤ sz ∧ K (.agg ((row.drop c).take m)) S
    | some false => ∃ q, row[c]? = some q ∧ K q S
    | none => False
  | _ => False

def storeA (P : Program) (S : Heap) (t : TypeId) (p v : PV) (K : PV → Heap → Prop) : Prop := match p with
  | .ptr o c => ∃ cs ps, S[o]? = some (.box cs) ∧ v.cellsOf = some ps ∧ szO P t = some ps.length ∧ c + ps.length ≤ cs.length ∧ K .any (S.set o (.box (splice cs c ps)))
  | .eptr o n r sz c => ∃ rows row ps, S[o]? = some (.buf rows) ∧ rows.length = n ∧ AllLen sz rows ∧ rows[r]? = some row ∧ v.cellsOf = some ps ∧ szO P t = some ps.length ∧ c + ps.length ≤ sz ∧
      K .any (S.set o (.buf (rows.set r (splice row c ps))))
  | _ => False

def fieldA (P : Program) (S : Heap) (t : TypeId) (p : PV) (f : Nat) (K : PV → Heap → Prop) : Prop :=
  ∃ off ft n, flO P t f = some (off, ft) ∧ szO P ft = some n ∧ n ≠ 0 ∧ match p with
    | .dp cells => K (.dp (cells.drop off)) S
    | .ptr o c => K (.ptr o (c + off)) S
    | .eptr o m r sz c => K (.eptr o m r sz (c + off)) S
    | _ => False

def indexA (P : Program) (S : Heap) (t : TypeId) (p ix : PV) (K : PV → Heap → Prop) : Prop :=
  ∃ el sz, elO P t = some el ∧ szO P el = some sz ∧ match ix with
    | .d (.i _ i) => match p with
      | .d (.sl rows) => AllLen sz rows ∧ 0 ≤ i ∧ i < rows.length ∧ K (.dp (rows.getD i.toNat [])) S
      | .own o s n => s = sz ∧ ∃ rows, S[o]? = some (.buf rows) ∧ rows.length = n ∧ 0 ≤ i ∧ i < n ∧ K (.eptr o n i.toNat sz 0) S
      | _ => False
    | _ => False

def strA (P : Program) (t : TypeId) : Bool := match P.underlying t with
  | some .string => true
  | _ => false
def kindA (P : Program) (t : TypeId) : Option IntKind := match P.underlying t with
  | some (.int k) => some k
  | _ => none
def plainA (P : Program) (t : TypeId) : Bool := match P.underlying t with
  | some (.interface _) => false
  | some _ => true
  | none => false

def lenA (P : Program) (S : Heap) (t : TypeId) (p : PV) (K : PV → Heap → Prop) : Prop := match p with
  | .d (.s x) => strA P t = true ∧ K (.d (.i .i64 x.size)) S
  | p => (∃ el, elO P t = some el) ∧ ∃ n, lenPV p = some n ∧ K (.d (.i .i64 n)) S

/-- The rows of a slice that is appended. -/
def rowsOf (S : Heap) : PV → Option (List (List PV))
  | .nils => some []
  | .d (.sl rows) => some (rows.map (·.map .d))
  | .own o sz n => match S[o]? with
    | some (.buf rows) => if rows.length = n then some rows else none
    | _ => none
  | _ => none

def appendA (P : Program) (S : Heap) (t : TypeId) (p x : PV) (K : PV → Heap → Prop) : Prop :=
  ∃ el sz by_ zs more, elO P t = some el ∧ szO P el = some sz ∧ byO P el = some by_ ∧ zO P el = some zs ∧ zs.length = sz ∧ 0 < sz ∧ rowsOf S x = some more ∧ AllLen sz more ∧ match p with
    | .nils => (more.length * by_ ≤ 140737488355328 ∧ more.length ≤ 9223372036854775807) ∧ K (.own S.length sz more.length) (S ++ [.buf more])
    | .own o s n => s = sz ∧ ∃ rows, S[o]? = some (.buf rows) ∧ rows.length = n ∧ AllLen sz rows ∧ ((n + more.length) * by_ ≤ 140737488355328 ∧ n + more.length ≤ 9223372036854775807) ∧
        K (.own o sz (n + more.length)) (S.set o (.buf (rows ++ more)))
    | _ => False

def sliceA (P : Program) (S : Heap) (t : TypeId) (p : PV) (lo hi : Option PV) (K : PV → Heap → Prop) : Prop := match p with
  | .d (.s x) => strA P t = true ∧ ∃ m l, bndA hi x.size x.size = some m ∧ bndA lo m 0 = some l ∧ K (.d (.s (x.extract l m))) S
  | .d (.sl rows) => ∃ el sz m l, elO P t = some el ∧ szO P el = some sz ∧ AllLen sz rows ∧ bndA hi rows.length rows.length = some m ∧ bndA lo m 0 = some l ∧ K (.d (.sl ((rows.take m).drop l))) S
  | _ => False

/-- A pointer that is not nil. -/
def ptrLike : PV → Bool
  | .ptr _ _ => true
  | .dp _ => true
  | .eptr _ _ _ _ _ => true
  | _ => false

/-- An operation that is no call of a function: what K is told of. -/
def opA (P : Program) (e : Env) (S : Heap) (op : Op) (K : PV → Heap → Prop) : Prop := match op with
  | .move x => K (ev e x) S
  | .assign x => K (ev e x) S
  | .pick c a b => ∃ t, ev e c = .d (.b t) ∧ K (if t = true then ev e a else ev e b) S
  | .alloc T => ∃ cs, zO P T = some cs ∧ K (.ptr S.length 0) (S ++ [.box cs])
  | .box T v => ∃ cs, (ev e v).cellsOf = some cs ∧ K (.ptr S.length 0) (S ++ [.box cs])
  | .build T parts => ∃ pl zs cs, plO P T = some pl ∧ zO P T = some zs ∧ fillA (fun i => pl[i]?) zs (parts.toList.map fun x => (x.1, ev e x.2)) = some cs ∧ K (.agg cs) S
  | .buildSlice T len parts => ∃ el sz zs cs ds, elO P T = some el ∧ szO P el = some sz ∧ zO P el = some zs ∧ zs.length = sz ∧ 0 < sz ∧
      fillA (fun i => some (i * sz, sz)) (List.replicate len zs).flatten (parts.toList.map fun x => (x.1, ev e x.2)) = some cs ∧ len * sz ≤ 16777216 ∧ toDs cs = some ds ∧ ds.length = len * sz ∧
      K (.d (.sl (chunks sz len ds))) S
  | .load T a => loadA P S T (ev e a) K
  | .store T a v => storeA P S T (ev e a) (ev e v) K
  | .fieldAddr T x f => fieldA P S T (ev e x) f K
  | .indexAddr T x i => indexA P S T (ev e x) (ev e i) K
  | .binOp op t x y _ => ∃ d, binP P op t (isConst y) (ev e x) (ev e y) = some d ∧ K (.d d) S
  | .unOp .not t x => ∃ b, ev e x = .d (.b b) ∧ K (.d (.b (!b))) S
  | .nilCheck x => ptrLike (ev e x) = true ∧ K (ev e x) S
  | .unOp .neg t x => ∃ k n, ev e x = .d (.i k n) ∧ K (.d (.i k (k.wrap (0 - n)))) S
  | .convert s t x => match ev e x with
    | .d (.i k n) => (∃ j, kindA P s = some j) ∧ ∃ k', kindA P t = some k' ∧ K (.d (.i k' (k'.wrap n))) S
    | .d (.s y) => strA P s = true ∧ strA P t = true ∧ K (.d (.s y)) S
    | _ => False
  | .extract x i => ∃ vs p, ev e x = .tup vs ∧ vs[i]? = some p ∧ K p S
  | .index t x i => match ev e x with
    | .d (.s y) => strA P t = true ∧ match ev e i with
      | .d (.i k n) => 0 ≤ n ∧ n < y.size ∧ K (.d (.i .u8 (y.data.getD n.toNat 0).toNat)) S
      | _ => False
    | _ => False
  | .slice t x lo hi none => sliceA P S t (ev e x) (lo.map (ev e)) (hi.map (ev e)) K
  | .makeSlice t l c => ∃ el sz by_ zs k n k' m, elO P t = some el ∧ szO P el = some sz ∧ byO P el = some by_ ∧ zO P el = some zs ∧ zs.length = sz ∧ 0 < sz ∧ ev e l = .d (.i k n) ∧ ev e c = .d (.i k' m) ∧
      0 ≤ n ∧ n ≤ m ∧ by_ * m ≤ 281474976710656 ∧ m ≤ 9223372036854775807 ∧ K (.own S.length sz n.toNat) (S ++ [.buf (List.replicate n.toNat zs)])
  | .makeInterface t x => plainA P t = true ∧ ∃ d, (ev e x).toDA = some d ∧ K (.d (.ifc t d)) S
  | .call { callee := .builtin .len, args, argTypes } => match args.toList, argTypes.toList with
    | [x], [t] => lenA P S t (ev e x) K
    | _, _ => False
  | .call { callee := .builtin .append, args, argTypes } => match args.toList, argTypes.toList with
    | [p, x], [t, t'] => t' = t ∧ appendA P S t (ev e p) (ev e x) K
    | _, _ => False
  | _ => False

section
variable {P : Program} {w0 : World} {F0 mods F : Nat → Prop} {ρ : Nat → Option Nat} {S : Heap} {w : World} {K : PV → Heap → Prop}

theorem aggO_false {t : TypeId} : True := trivial

theorem ok_loadA (h : St w0 F0 mods F ρ S w) {t : TypeId} {p : PV} {v : Value} (hv : RepPV w F ρ (info S) p v) (hl : loadA P S t p K) : OpOk P (do pure (.value (← Instr.loadAt t v))) w0 F0 mods F ρ S w K := by
  cases p <;> simp only [loadA] at hl <;> try exact hl.elim
  case dp cells =>
    split at hl
    · rename_i ha
      obtain ⟨n, h1, h2, h3⟩ := hl
      exact ok_load_dp_agg h ha h1 hv h2 h3
    · rename_i ha
      obtain ⟨d, h1, h2⟩ := hl
      exact ok_load_dp_one h ha hv h1 h2
    · exact hl.elim
  case ptr o c =>
    obtain ⟨cs, hx, hl⟩ := hl
    simp only [RepPV] at hv
    obtain ⟨hfr, b, rfl, hb⟩ := hv
    have hb' := hb (by rw [info_of hx]; rfl)
    split at hl
    · rename_i ha
      obtain ⟨n, h1, h2, h3⟩ := hl
      exact ok_load_ob_agg h ha h1 hx (by simp) hb' h2 h3
    · rename_i ha
      obtain ⟨q, h1, h2⟩ := hl
      exact ok_load_ob_one h ha hx (by simp) hb' h1 h2
    · exact hl.elim
  case eptr o n r sz c =>
    obtain ⟨rows, row, hx, hn, hal, hr, hl⟩ := hl
    simp only [RepPV] at hv
    obtain ⟨hfr, b, off, rfl, hb⟩ := hv
    obtain ⟨_, hb'⟩ := hb n (by rw [info_of hx, Ob.info, hn])
    obtain ⟨hbb, rfl⟩ := hb' rfl
    have hrl : row.length = sz := hal row (List.mem_of_getElem? hr)
    have hrlt : r < rows.length := (List.getElem?_eq_some_iff.1 hr).1
    have hfl := hal.flatten
    have hle : r * sz + sz ≤ rows.length * sz := by
      have := Nat.mul_le_mul_right sz (show r + 1 ≤ rows.length by omega)
      rwa [Nat.add_mul, Nat.one_mul] at this
    split at hl
    · rename_i ha
      obtain ⟨m, h1, h2, h3⟩ := hl
      refine ok_load_ob_agg h ha h1 hx (by simp) hbb (by simp only [Ob.cells, hfl]; omega) ?_
      have : ((Ob.buf rows).cells.drop (r * sz + c)).take m = (row.drop c).take m := by
        apply List.ext_getElem?
        intro j
        simp only [Ob.cells]
        by_cases hj : j < m
        · rw [List.getElem?_take_of_lt hj, List.getElem?_take_of_lt hj, List.getElem?_drop, List.getElem?_drop, ← hal.get hr (c + j) (by omega)]
          congr 1; omega
        · rw [List.getElem?_take_eq_none (by omega), List.getElem?_take_eq_none (by omega)]
      rwa [this]
    · rename_i ha
      obtain ⟨q, h1, h2⟩ := hl
      have hc : c < sz := by have := (List.getElem?_eq_some_iff.1 h1).1; omega
      exact ok_load_ob_one h ha hx (by simp) hbb (by simp only [Ob.cells]; rw [hal.get hr c hc]; exact h1) h2
    · exact hl.elim

theorem AllLen.set {α : Type} {sz : Nat} {rows : List (List α)} (h : AllLen sz rows) {r : Nat} {row : List α} (hr : row.length = sz) : AllLen sz (rows.set r row) := fun x hx => by
  rcases List.mem_or_eq_of_mem_set hx with hx | rfl
  · exact h x hx
  · exact hr

theorem flatten_set {α : Type} {sz : Nat} {rows : List (List α)} (h : AllLen sz rows) {r : Nat} {row : List α} (hr : rows[r]? = some row) {c : Nat} {ps : List α} (hc : c + ps.length ≤ sz) :
    (rows.set r (splice row c ps)).flatten = splice rows.flatten (r * sz + c) ps := by
  have hrl : row.length = sz := h row (List.mem_of_getElem? hr)
  have hrlt : r < rows.length := (List.getElem?_eq_some_iff.1 hr).1
  have hle : r * sz + sz ≤ rows.length * sz := by
    have := Nat.mul_le_mul_right sz (show r + 1 ≤ rows.length by omega)
    rwa [Nat.add_mul, Nat.one_mul] at this
  have hsl : (splice row c ps).length = sz := by rw [splice_length _ _ _ (by omega)]; exact hrl
  have h' : AllLen sz (rows.set r (splice row c ps)) := h.set hsl
  apply List.ext_getElem?
  intro j
  rw [splice_get _ _ _ (by rw [h.flatten]; omega)]
  by_cases hj : j < rows.length * sz
  · have hpos : 0 < sz := by rcases Nat.eq_zero_or_pos sz with h0 | h0; · rw [h0] at hj; omega
                             · exact h0
    have hd : j / sz < rows.length := (Nat.div_lt_iff_lt_mul hpos).2 hj
    have hm : j % sz < sz := Nat.mod_lt _ hpos
    have hjj : j / sz * sz + j % sz = j := Nat.div_add_mod' j sz
    by_cases e : j / sz = r
    · have g1 := h'.get (i := r) (r := splice row c ps) (by simp [hrlt]) (j % sz) hm
      have g2 := h.get hr (j % sz) hm
      rw [e] at hjj
      rw [hjj] at g1 g2
      rw [g1, splice_get _ _ _ (by omega), g2]
      by_cases hcj : c ≤ j % sz ∧ j % sz < c + ps.length
      · rw [if_pos hcj, if_pos (by omega)]
        congr 1; omega
      · rw [if_neg hcj, if_neg (by omega)]
    · have g1 := h'.get (i := j / sz) (r := rows[j / sz]) (by rw [List.getElem?_set_ne (Ne.symm e)]; exact List.getElem?_eq_getElem hd) (j % sz) hm
      have g2 := h.get (i := j / sz) (r := rows[j / sz]) (List.getElem?_eq_getElem hd) (j % sz) hm
      rw [hjj] at g1 g2
      rw [g1, g2, if_neg]
      intro hcj
      apply e
      have h1 : r * sz ≤ j := by omega
      have h2 : j < (r + 1) * sz := by rw [Nat.add_mul]; omega
      have := Nat.div_lt_of_lt_mul (show j < sz * (r + 1) by rw [Nat.mul_comm]; exact h2)
      have := (Nat.le_div_iff_mul_le hpos).2 h1
      omega
  · have e1 : (rows.set r (splice row c ps)).flatten.length = rows.length * sz := by rw [h'.flatten]; simp
    rw [List.getElem?_eq_none (by omega), if_neg (by omega), List.getElem?_eq_none (by rw [h.flatten]; omega)]

theorem ok_storeA (h : St w0 F0 mods F ρ S w) {t : TypeId} {p q : PV} {v u : Value} (hv : RepPV w F ρ (info S) p v) (hu : RepPV w F ρ (info S) q u) (hl : storeA P S t p q K) :
    OpOk P (do Instr.storeAt t v u; pure .skip) w0 F0 mods F ρ S w K := by
  cases p <;> simp only [storeA] at hl <;> try exact hl.elim
  case ptr o c =>
    obtain ⟨cs, ps, hx, h1, h2, h3, h4⟩ := hl
    simp only [RepPV] at hv
    obtain ⟨hfr, b, rfl, hb⟩ := hv
    have hb' := hb (by rw [info_of hx]; rfl)
    exact ok_store_ob h (y := .box (splice cs c ps)) h2 hx (by simp) (by simp) (fun _ _ _ _ e => by cases e) hb' hu h1 rfl h3 rfl rfl h4
  case eptr o n r sz c =>
    obtain ⟨rows, row, ps, hx, hn, hal, hr, h1, h2, h3, h4⟩ := hl
    simp only [RepPV] at hv
    obtain ⟨hfr, b, off, rfl, hb⟩ := hv
    obtain ⟨_, hb'⟩ := hb n (by rw [info_of hx, Ob.info, hn])
    obtain ⟨hbb, rfl⟩ := hb' rfl
    have hrlt : r < rows.length := (List.getElem?_eq_some_iff.1 hr).1
    have hle : r * sz + sz ≤ rows.length * sz := by
      have := Nat.mul_le_mul_right sz (show r + 1 ≤ rows.length by omega)
      rwa [Nat.add_mul, Nat.one_mul] at this
    refine ok_store_ob h (y := .buf (rows.set r (splice row c ps))) h2 hx (by simp) (by simp) (fun _ _ _ _ e => by cases e) hbb hu h1 rfl (by simp only [Ob.cells, hal.flatten]; omega) ?_ (by simp [Ob.info]) h4
    simp only [Ob.cells]
    exact flatten_set hal hr h3

theorem ok_fieldA (h : St w0 F0 mods F ρ S w) {t : TypeId} {p : PV} {v : Value} {f : Nat} (hv : RepPV w F ρ (info S) p v) (hl : fieldA P S t p f K) : OpOk P (do pure (.value (← Instr.fieldAt t v f))) w0 F0 mods F ρ S w K := by
  obtain ⟨off, ft, n, h1, h2, h3, hl⟩ := hl
  cases p <;> try exact hl.elim
  case dp cells => exact ok_field_dp h h1 h2 h3 hv hl
  case ptr o c => exact ok_field_ptr h h1 h2 h3 hv hl
  case eptr o m r sz c => exact ok_field_eptr h h1 h2 h3 hv hl

theorem ok_indexA (h : St w0 F0 mods F ρ S w) {t : TypeId} {p q : PV} {v u : Value} (hv : RepPV w F ρ (info S) p v) (hu : RepPV w F ρ (info S) q u) (hl : indexA P S t p q K) :
    OpOk P (do pure (.value (← Instr.indexAt t v u))) w0 F0 mods F ρ S w K := by
  obtain ⟨el, sz, h1, h2, hl⟩ := hl
  split at hl
  · rename_i k i
    simp only [RepPV, RepD] at hu
    subst hu
    split at hl
    · obtain ⟨h3, h4, h5, h6⟩ := hl
      exact ok_index_sl h h1 h2 h3 hv h4 h5 h6
    · obtain ⟨rfl, rows, h3, h4, h5, h6, h7⟩ := hl
      exact ok_index_own h h1 h2 h3 h4 hv h5 h6 h7
    · exact hl.elim
  · exact hl.elim

theorem strA_under {t : TypeId} (h : strA P t = true) : P.underlying t = some .string := by
  unfold strA at h
  split at h
  · assumption
  · cases h

theorem kindA_under {t : TypeId} {k : IntKind} (h : kindA P t = some k) : P.underlying t = some (.int k) := by
  unfold kindA at h
  split at h
  · rename_i k' hu; cases h; exact hu
  · cases h

theorem ok_lenA (h : St w0 F0 mods F ρ S w) {t ty : TypeId} {p : PV} {v : Value} (hv : RepPV w F ρ (info S) p v) (hl : lenA P S t p K) : OpOk P (do pure (.value (← Builtin.len_ #[t] ty #[v]))) w0 F0 mods F ρ S w K := by
  unfold lenA at hl
  split at hl
  · obtain ⟨h1, h2⟩ := hl
    exact ok_len_str h (strA_under h1) hv h2
  · rename_i hns
    obtain ⟨⟨el, h1⟩, n, h2, h3⟩ := hl
    exact ok_len_slice h h1 hv hns h2 h3

theorem holds_rowsOf (h : St w0 F0 mods F ρ S w) {p : PV} {v : Value} {rows : List (List PV)} (hv : RepPV w F ρ (info S) p v) (hr : rowsOf S p = some rows) : Holds P w F ρ (info S) rows v := by
  unfold rowsOf at hr
  split at hr
  · cases hr; simp only [RepPV] at hv; subst hv; exact holds_nil
  · cases hr; exact holds_sl hv
  · split at hr
    · rename_i o sz n rows' hx
      split at hr
      · rename_i hn; cases hr; exact holds_own h hx hn hv
      · cases hr
    · cases hr
  · cases hr

/-- A nil slice may be taken for a row of the call's own, which has no block yet. -/
theorem St.adopt (h : St w0 F0 mods F ρ S w) : St w0 F0 mods F (Rho ρ S.length none) (S ++ [.buf []]) w ∧ Keeps w w F F ρ (Rho ρ S.length none) (info S) (info (S ++ [.buf []])) ∧
    ∀ sz, RepPV w F (Rho ρ S.length none) (info (S ++ [.buf []])) (.own S.length sz 0) (.slice none 0 0) := by
  have hk : Keeps w w F F ρ (Rho ρ S.length none) (info S) (info (S ++ [.buf []])) :=
    ⟨fun _ _ => rfl, fun _ h => h, fun _ => Nat.le_refl _, fun o ho => by rw [info_append ho]; exact ho,
      fun o ho hx => by
        rw [info_append ho] at hx
        exact ⟨hx, by have := info_lt ho; simp [Rho]; omega⟩,
      fun o m ho hx => by
        rw [info_append ho] at hx
        exact ⟨m, hx, Nat.le_refl _, fun _ => by have := info_lt ho; simp [Rho]; omega⟩⟩
  have live : ∀ o b, Lives (S ++ [.buf []]) (Rho ρ S.length none) o b → Lives S ρ o b := by
    rintro o b ⟨h1, y, h2, h3⟩
    by_cases e : o = S.length
    · subst e; simp [Rho] at h1
    · have hl : o < S.length := by have := (List.getElem?_eq_some_iff.1 h2).1; simp at this; omega
      rw [List.getElem?_append_left hl] at h2
      simp only [Rho, if_neg e] at h1
      exact ⟨h1, y, h2, h3⟩
  refine ⟨⟨?_, fun o o' b h1 h2 => h.inj o o' b (live o b h1) (live o' b h2), fun o b h1 => h.notF o b (live o b h1), h.bound, fun o b h1 => h.mine o b (live o b h1), h.grow, h.os, h.tape, h.output, h.keep, h.bsize, h.f0, h.fnew⟩, hk, fun sz => ?_⟩
  · intro o y hy
    by_cases e : o = S.length
    · subst e
      simp at hy
      subst hy
      exact .inl ⟨by simp [Rho], rfl⟩
    · have hl : o < S.length := by have := (List.getElem?_eq_some_iff.1 hy).1; simp at this; omega
      rw [List.getElem?_append_left hl] at hy
      exact (h.objs o y hy).keeps hk (by simp [Rho, e]) fun b _ _ => rfl
  · simp only [RepPV]
    have hinf : info (S ++ [.buf []]) S.length = .buf 0 := by simp [info, Ob.info]
    refine ⟨by rw [hinf]; simp, none, 0, rfl, fun m hm => ?_⟩
    rw [hinf] at hm
    cases hm
    exact ⟨Nat.le_refl _, fun _ => .inl (by simp [Rho])⟩

theorem Keeps.trans {w w' w'' : World} {F F' F'' : Nat → Prop} {ρ ρ' ρ'' : Nat → Option Nat} {C C' C'' : Nat → OI} (a : Keeps w w' F F' ρ ρ' C C') (b : Keeps w' w'' F' F'' ρ' ρ'' C' C'') : Keeps w w'' F F'' ρ ρ'' C C'' where
  same := fun x hx => (b.same x (a.sub x hx)).trans (a.same x hx)
  sub := fun x hx => b.sub x (a.sub x hx)
  size := fun x => Nat.le_trans (a.size x) (b.size x)
  old := fun o ho => b.old o (a.old o ho)
  box := fun o ho hx => by
    obtain ⟨h1, h2⟩ := b.box o (a.old o ho) hx
    obtain ⟨h3, h4⟩ := a.box o ho h1
    exact ⟨h3, h2.trans h4⟩
  buf := fun o m ho hx => by
    obtain ⟨m1, h1, h2, h3⟩ := b.buf o m (a.old o ho) hx
    obtain ⟨m2, h4, h5, h6⟩ := a.buf o m1 ho h1
    exact ⟨m2, h4, by omega, fun e => (h3 (by omega)).trans (h6 (by omega))⟩

theorem OpOk.after {s : Sem Next} {F' : Nat → Prop} {ρ' : Nat → Option Nat} {S' : Heap} (hk : Keeps w w F F' ρ ρ' (info S) (info S')) (h : OpOk P s w0 F0 mods F' ρ' S' w K) : OpOk P s w0 F0 mods F ρ S w K := by
  obtain ⟨nx, v, w', pv, S'', F'', ρ'', h1, h2, h3, h4, h5, h6⟩ := h
  exact ⟨nx, v, w', pv, S'', F'', ρ'', h1, h2, h3, h4, h5, hk.trans h6⟩

theorem ok_appendA (h : St w0 F0 mods F ρ S w) {t ty : TypeId} {p q : PV} {v u : Value} (hv : RepPV w F ρ (info S) p v) (hu : RepPV w F ρ (info S) q u) (hl : appendA P S t p q K) :
    OpOk P (do pure (.value (← Builtin.append_ #[t, t] ty #[v, u]))) w0 F0 mods F ρ S w K := by
  obtain ⟨el, sz, by_, zs, more, h1, h2, h3, h4, h5, h6, h7, h8, hl⟩ := hl
  have hm := holds_rowsOf (P := P) h hu h7
  split at hl
  · obtain ⟨⟨hb1, hb2⟩, hK⟩ := hl
    simp only [RepPV] at hv
    subst hv
    obtain ⟨h', hk, hr⟩ := h.adopt
    refine OpOk.after hk ?_
    have hm' : Holds P w F (Rho ρ S.length none) (info (S ++ [.buf []])) more u := by
      obtain ⟨a, c, vs, e1, e2, e3⟩ := hm
      exact ⟨a, c, vs, e1, RepPVs.keeps hk _ _ e2, e3⟩
    refine ok_append_own h' h1 h2 h3 h4 h5 h6 (o := S.length) (n := 0) (rows := []) (by simp) rfl (fun r hr => by simp at hr) (hr sz) h8 hm' (by simpa using hb1) (by simpa using hb2) ?_
    simpa using hK
  · obtain ⟨rfl, rows, hx, hn, hal, ⟨hb1, hb2⟩, hK⟩ := hl
    exact ok_append_own h h1 h2 h3 h4 h5 h6 hx hn hal hv h8 hm hb1 hb2 hK
  · exact hl.elim

theorem ok_sliceA (h : St w0 F0 mods F ρ S w) {t : TypeId} {p : PV} {v : Value} (hv : RepPV w F ρ (info S) p v) {lo hi : Option PV} {lv hv' : Option Value} (h1 : RepO w F ρ (info S) lo lv) (h2 : RepO w F ρ (info S) hi hv')
    (hl : sliceA P S t p lo hi K) : OpOk P (do pure (.value (← Instr.sliceAt t v lv hv' none))) w0 F0 mods F ρ S w K := by
  unfold sliceA at hl
  split at hl
  · obtain ⟨e0, m, l, e1, e2, e3⟩ := hl
    exact ok_slice_str h (strA_under e0) hv h1 h2 e1 e2 e3
  · obtain ⟨el, sz, m, l, e0, e1, e2, e3, e4, e5⟩ := hl
    exact ok_slice_sl h e0 e1 e2 hv h1 h2 e3 e4 e5
  · exact hl.elim

end
end Go.Aw
