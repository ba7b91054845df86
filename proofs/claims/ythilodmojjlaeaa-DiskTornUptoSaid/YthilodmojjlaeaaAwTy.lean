/- Well-typed data, opened. -/
import Derived.Test.YthilodmojjlaeaaAwBytes
set_option linter.unusedVariables false
set_option linter.unusedSimpArgs false
namespace Go.Aw
section
variable {P : Program} {t e : TypeId} {ds : List D}

theorem ty_bool (hu : P.underlying t = some .bool) (h : TyD P t ds) : ∃ b, ds = [.b b] := by
  cases h <;> rename_i h' <;> simp_all
theorem ty_int {k : IntKind} (hu : P.underlying t = some (.int k)) (h : TyD P t ds) : ∃ n, ds = [.i k n] ∧ (Lit.int k n).wf = true := by
  cases h
  case int k' n hw h' => rw [hu] at h'; cases h'; exact ⟨n, rfl, hw⟩
  all_goals (rename_i h'; first | (rw [hu] at h'; cases h'; done) | (rename_i h''; rw [hu] at h''; cases h''; done))
theorem ty_str (hu : P.underlying t = some .string) (h : TyD P t ds) : ∃ x, ds = [.s x] ∧ x.size ≤ maxLen := by
  cases h
  case str x hw h' => exact ⟨x, rfl, hw⟩
  all_goals (rename_i h'; first | (rw [hu] at h'; cases h'; done) | (rename_i h''; rw [hu] at h''; cases h''; done))
theorem ty_sl (hu : P.underlying t = some (.slice e)) (h : TyD P t ds) : ∃ rows, ds = [.sl rows] ∧ rows.length ≤ maxLen ∧ TyR P e rows := by
  cases h
  case sl e' rows hw hr h' => rw [hu] at h'; cases h'; exact ⟨rows, rfl, hw, hr⟩
  all_goals (rename_i h'; first | (rw [hu] at h'; cases h'; done) | (rename_i h''; rw [hu] at h''; cases h''; done))
theorem ty_struct {fs : Array Field} (hu : P.underlying t = some (.struct fs)) (h : TyD P t ds) : TyFs P (fs.toList.map (·.type)) ds := by
  cases h
  case struct fs' h' hr => rw [hu] at h'; cases h'; exact hr
  all_goals (rename_i h'; first | (rw [hu] at h'; cases h'; done) | (rename_i h''; rw [hu] at h''; cases h''; done))
theorem ty_array {n : Nat} (hu : P.underlying t = some (.array n e)) (h : TyD P t ds) : TyFs P (List.replicate n e) ds := by
  cases h
  case array h' hr => rw [hu] at h'; cases h'; exact hr
  all_goals (rename_i h'; first | (rw [hu] at h'; cases h'; done) | (rename_i h''; rw [hu] at h''; cases h''; done))
theorem tyfs_nil (h : TyFs P [] ds) : ds = [] := by cases h; rfl
theorem tyfs_cons {ts : List TypeId} (h : TyFs P (t :: ts) ds) : ∃ c cs, ds = c ++ cs ∧ TyD P t c ∧ TyFs P ts cs := by
  cases h
  rename_i c cs h1 h2
  exact ⟨c, cs, rfl, h1, h2⟩

theorem tyR_bytes (he : P.underlying e = some (.int .u8)) : ∀ {rows : List (List D)}, TyR P e rows → ∃ l : List UInt8, rows = rowsB l
  | [], _ => ⟨[], rfl⟩
  | r :: rs, h => by
    cases h
    rename_i h1 h2
    obtain ⟨n, rfl, hw⟩ := ty_int he h1
    obtain ⟨l, rfl⟩ := tyR_bytes he h2
    have hn : 0 ≤ n ∧ n ≤ 255 := by simpa [Lit.wf, IntKind.min, IntKind.max, IntKind.signed, IntKind.bits] using hw
    refine ⟨UInt8.ofNat n.toNat :: l, ?_⟩
    simp only [rowsB, List.map_cons]
    have : ((UInt8.ofNat n.toNat).toNat : Int) = n := by simp; omega
    rw [this]

theorem bulk_bytes : ∀ l : List UInt8, bulkR (rowsB l) = l.length
  | [] => rfl
  | b :: l => by
    have := bulk_bytes l
    simp only [rowsB, List.map_cons, bulkR, bulkL, bulkD, List.length_cons] at this ⊢
    omega

theorem ty_bytes (hu : P.underlying t = some (.slice e)) (he : P.underlying e = some (.int .u8)) (h : TyD P t ds) : ∃ l : List UInt8, ds = [.sl (rowsB l)] ∧ bulkL ds = l.length + 1 := by
  obtain ⟨rows, rfl, _, hr⟩ := ty_sl hu h
  obtain ⟨l, rfl⟩ := tyR_bytes he hr
  exact ⟨l, rfl, by simp [bulkL, bulkD, bulk_bytes]⟩

/-- An argument that is one cell. -/
theorem argT_one {N : Nat} {p : PV} (n1 : ∀ fs, P.underlying t ≠ some (.struct fs)) (n2 : ∀ n e, P.underlying t ≠ some (.array n e)) (h : ArgT P N t p) : ∃ d, TyD P t [d] ∧ bulkD d ≤ N ∧ p = .d d := by
  obtain ⟨ds, h1, h2, h3⟩ := h
  rcases h3 with ⟨_, ⟨fs, hu⟩ | ⟨n, e, hu⟩⟩ | ⟨d, rfl, rfl, _⟩
  · exact absurd hu (n1 fs)
  · exact absurd hu (n2 n e)
  · exact ⟨d, h1, by simpa [bulkL] using h2, rfl⟩

theorem argT_bytes {N : Nat} {p : PV} (hu : P.underlying t = some (.slice e)) (he : P.underlying e = some (.int .u8)) (h : ArgT P N t p) : ∃ l : List UInt8, p = bytesP l ∧ l.length ≤ N := by
  obtain ⟨d, h1, h2, rfl⟩ := argT_one (by rw [hu]; simp) (by rw [hu]; simp) h
  obtain ⟨l, e1, e2⟩ := ty_bytes hu he h1
  cases e1
  exact ⟨l, rfl, by simp [bulkD, bulk_bytes] at h2; omega⟩
theorem argT_int {N : Nat} {p : PV} {k : IntKind} (hu : P.underlying t = some (.int k)) (h : ArgT P N t p) : ∃ n, p = .d (.i k n) ∧ (Lit.int k n).wf = true := by
  obtain ⟨d, h1, h2, rfl⟩ := argT_one (by rw [hu]; simp) (by rw [hu]; simp) h
  obtain ⟨n, e1, e2⟩ := ty_int hu h1
  cases e1
  exact ⟨n, rfl, e2⟩
theorem argT_struct {N : Nat} {p : PV} {fs : Array Field} (hu : P.underlying t = some (.struct fs)) (h : ArgT P N t p) : ∃ ds, p = .agg (ds.map .d) ∧ TyFs P (fs.toList.map (·.type)) ds ∧ bulkL ds ≤ N := by
  obtain ⟨ds, h1, h2, h3⟩ := h
  rcases h3 with ⟨rfl, _⟩ | ⟨d, _, _, h4, _⟩
  · exact ⟨ds, rfl, ty_struct hu h1, h2⟩
  · exact absurd hu (h4 fs)
theorem wf_int64 {n : Int} (h : (Lit.int .i64 n).wf = true) : -9223372036854775808 ≤ n ∧ n ≤ 9223372036854775807 := by
  simpa [Lit.wf, IntKind.min, IntKind.max, IntKind.signed, IntKind.bits] using h
/-- A struct of two numbers. -/
theorem argT_int2 {N : Nat} {p : PV} {fs : Array Field} {ti : TypeId} {k : IntKind} (hu : P.underlying t = some (.struct fs)) (hf : fs.toList.map (·.type) = [ti, ti]) (hi : P.underlying ti = some (.int k)) (h : ArgT P N t p) :
    ∃ a b, p = .agg [.d (.i k a), .d (.i k b)] ∧ (Lit.int k a).wf = true ∧ (Lit.int k b).wf = true := by
  obtain ⟨ds, rfl, h1, _⟩ := argT_struct hu h
  rw [hf] at h1
  obtain ⟨c, cs, rfl, g1, g2⟩ := tyfs_cons h1
  obtain ⟨c', cs', rfl, g3, g4⟩ := tyfs_cons g2
  obtain rfl := tyfs_nil g4
  obtain ⟨a, rfl, ha⟩ := ty_int hi g1
  obtain ⟨b, rfl, hb⟩ := ty_int hi g3
  exact ⟨a, b, rfl, ha, hb⟩
theorem argsT_nil {N : Nat} {ps : List PV} (h : ArgsT P N [] ps) : ps = [] := by cases h; rfl
theorem argsT_cons {N : Nat} {ts : List TypeId} {ps : List PV} (h : ArgsT P N (t :: ts) ps) : ∃ p r, ps = p :: r ∧ ArgT P N t p ∧ ArgsT P N ts r := by
  cases h
  rename_i p r h1 h2
  exact ⟨p, r, rfl, h1, h2⟩
end
end Go.Aw
