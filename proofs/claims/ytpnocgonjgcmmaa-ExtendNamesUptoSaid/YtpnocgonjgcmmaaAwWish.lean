/- Wishes of chapter 21 as data. -/
import Derived.Test.YtpnocgonjgcmmaaAwVal
set_option linter.unusedVariables false
set_option linter.unusedSimpArgs false
namespace Go.Aw

structure Wsh where
  names : List (ByteArray × Int)
  size : Int
  queue : Int
  agent : ByteArray
  more : List (ByteArray × Val)

def rowsN (l : List (ByteArray × Int)) : List (List D) := l.map fun p => [.s p.1, .i .i64 p.2]
@[simp] theorem rowsN_length (l : List (ByteArray × Int)) : (rowsN l).length = l.length := by simp [rowsN]
theorem rowsN_all (l : List (ByteArray × Int)) : AllLen 2 (rowsN l) := fun r hr => by
  obtain ⟨p, _, rfl⟩ := List.mem_map.1 hr
  rfl
theorem rowsN_get {l : List (ByteArray × Int)} {i : Nat} (h : i < l.length) : (rowsN l).getD i [] = [.s l[i].1, .i .i64 l[i].2] := by
  simp [rowsN, List.getD_eq_getElem?_getD, h]

/-- A wish in a slot. -/
abbrev wishC (w : Wsh) : PV := .agg [.d (.sl (rowsN w.names)), .d (.i .i64 w.size), .d (.i .i64 w.queue), .d (.s w.agent), .d (.sl (rowsP w.more))]

/-- The number of a name; the name of a number. -/
noncomputable def numT (name : ByteArray) : List (ByteArray × Int) → Int × Bool
  | [] => (0, false)
  | p :: r => match @decide (p.1 = name) (Classical.propDecidable _) with
    | true => (p.2, true)
    | false => numT name r
def nameT (id : Int) : List (ByteArray × Int) → ByteArray × Bool
  | [] => (⟨#[]⟩, false)
  | p :: r => if p.2 = id then (p.1, true) else nameT id r
theorem drop_step {α : Type} {l : List α} {i : Nat} (h : i < l.length) : l.drop i = l[i] :: l.drop (i + 1) := List.drop_eq_getElem_cons h
theorem numT_hit {name : ByteArray} {p : ByteArray × Int} {r : List (ByteArray × Int)} (h : p.1 = name) : numT name (p :: r) = (p.2, true) := by simp [numT, h]
theorem numT_miss {name : ByteArray} {p : ByteArray × Int} {r : List (ByteArray × Int)} (h : ¬ p.1 = name) : numT name (p :: r) = numT name r := by simp [numT, h]
theorem nameT_hit {id : Int} {p : ByteArray × Int} {r : List (ByteArray × Int)} (h : p.2 = id) : nameT id (p :: r) = (p.1, true) := by simp [nameT, h]
theorem nameT_miss {id : Int} {p : ByteArray × Int} {r : List (ByteArray × Int)} (h : ¬ p.2 = id) : nameT id (p :: r) = nameT id r := by simp [nameT, h]
theorem Wsh.ext' {a b : Wsh} (h1 : a.names = b.names) (h2 : a.size = b.size) (h3 : a.queue = b.queue) (h4 : a.agent = b.agent) (h5 : a.more = b.more) : a = b := by
  cases a; cases b; simp only at *; subst h1 h2 h3 h4 h5; rfl
/-- Are they the same? -/
noncomputable def eqW (a b : Wsh) : Bool := @decide (a = b) (Classical.propDecidable _)
theorem eqW_true {a b : Wsh} (h : a = b) : eqW a b = true := by simp [eqW, h]
theorem eqW_false {a b : Wsh} (h : ¬ a = b) : eqW a b = false := by simp [eqW, h]

/-- The types of wishes in a program. -/
structure WishTys (P : Program) (tw tn tln tlp ti ts : TypeId) : Prop where
  w : ∃ fs : Array Field, P.underlying tw = some (.struct fs) ∧ fs.toList.map (·.type) = [tln, ti, ti, ts, tlp]
  n : ∃ fs : Array Field, P.underlying tn = some (.struct fs) ∧ fs.toList.map (·.type) = [ts, ti]
  ln : P.underlying tln = some (.slice tn)

section
variable {P : Program} {tv tlv tp tlp ti ts tw tn tln : TypeId}
theorem ty_names (T : ValTys P tv tlv tp tlp ti ts) (U : WishTys P tw tn tln tlp ti ts) : ∀ {rows : List (List D)}, TyR P tn rows → ∃ l, rows = rowsN l ∧ l.length ≤ bulkR rows
  | [], _ => ⟨[], rfl, Nat.zero_le _⟩
  | r :: rs, h => by
    cases h
    rename_i h1 h2
    obtain ⟨fs, hu, hfs⟩ := U.n
    have h3 := ty_struct hu h1
    rw [hfs] at h3
    obtain ⟨c1, r1, rfl, g1, h4⟩ := tyfs_cons h3
    obtain ⟨c2, r2, rfl, g2, h5⟩ := tyfs_cons h4
    obtain rfl := tyfs_nil h5
    obtain ⟨x, rfl, _⟩ := ty_str T.s g1
    obtain ⟨n, rfl, _⟩ := ty_int T.i g2
    obtain ⟨l, rfl, hl⟩ := ty_names T U h2
    refine ⟨(x, n) :: l, rfl, ?_⟩
    simp only [List.length_cons, bulkR, bulkL, bulkD, List.append_nil, List.cons_append, List.nil_append]
    omega

/-- A wish handed in. -/
theorem argT_wish (T : ValTys P tv tlv tp tlp ti ts) (U : WishTys P tw tn tln tlp ti ts) {N : Nat} {p : PV} (h : ArgT P N tw p) : ∃ w, p = wishC w ∧ w.names.length ≤ N ∧ bulkR (rowsP w.more) ≤ N := by
  obtain ⟨fs, hu, hfs⟩ := U.w
  obtain ⟨ds, rfl, h3, hN⟩ := argT_struct hu h
  rw [hfs] at h3
  obtain ⟨c1, r1, rfl, g1, h4⟩ := tyfs_cons h3
  obtain ⟨c2, r2, rfl, g2, h5⟩ := tyfs_cons h4
  obtain ⟨c3, r3, rfl, g3, h6⟩ := tyfs_cons h5
  obtain ⟨c4, r4, rfl, g4, h7⟩ := tyfs_cons h6
  obtain ⟨c5, r5, rfl, g5, h8⟩ := tyfs_cons h7
  obtain rfl := tyfs_nil h8
  obtain ⟨rn, rfl, _, hrn⟩ := ty_sl U.ln g1
  obtain ⟨k, rfl, _⟩ := ty_int T.i g2
  obtain ⟨m, rfl, _⟩ := ty_int T.i g3
  obtain ⟨x, rfl, _⟩ := ty_str T.s g4
  obtain ⟨rp, rfl, _, hrp⟩ := ty_sl T.lp g5
  obtain ⟨l, rfl, hl⟩ := ty_names T U hrn
  obtain ⟨d, rfl, _⟩ := ty_prs T hrp
  simp only [List.append_nil, List.cons_append, List.nil_append, bulkL, bulkD] at hN
  exact ⟨⟨l, k, m, x, d⟩, rfl, by show l.length ≤ N; omega, by show bulkR (rowsP d) ≤ N; omega⟩
theorem argT_str {t : TypeId} {N : Nat} {p : PV} (hu : P.underlying t = some .string) (h : ArgT P N t p) : ∃ x, p = .d (.s x) := by
  obtain ⟨d, h1, h2, rfl⟩ := argT_one (by rw [hu]; simp) (by rw [hu]; simp) h
  obtain ⟨x, e1, _⟩ := ty_str hu h1
  cases e1
  exact ⟨x, rfl⟩
end
end Go.Aw
