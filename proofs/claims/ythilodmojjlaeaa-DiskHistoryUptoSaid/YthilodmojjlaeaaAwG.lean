/- Plain operations: lengths, numbers, texts, struct and slice literals. -/
import Derived.Test.YthilodmojjlaeaaAwF
import Derived.Laws.StructEq
set_option linter.unusedVariables false
set_option linter.unusedSimpArgs false
namespace Go.Aw
section
variable {P : Program} {w0 : World} {F0 mods F : Nat → Prop} {ρ : Nat → Option Nat} {S : Heap} {w : World} {K : PV → Heap → Prop}

/-- The length of a value that is a slice or a string. -/
def lenPV : PV → Option Nat
  | .d (.sl rows) => some rows.length
  | .d (.s x) => some x.size
  | .nils => some 0
  | .own _ _ n => some n
  | _ => none

theorem elO_under {t e : TypeId} (h : elO P t = some e) : P.underlying t = some (.slice e) := by
  unfold elO at h
  split at h
  · rename_i e' hu'; cases h; exact hu'
  · cases h

theorem ok_len_slice (h : St w0 F0 mods F ρ S w) {t e ty : TypeId} (hu : elO P t = some e) {p : PV} {v : Value} {n : Nat} (hv : RepPV w F ρ (info S) p v) (hp : ∀ x, p ≠ .d (.s x)) (hn : lenPV p = some n)
    (hK : K (.d (.i .i64 n)) S) : OpOk P (do pure (.value (← Builtin.len_ #[t] ty #[v]))) w0 F0 mods F ρ S w K := by
  have hut := elO_under hu
  obtain ⟨a, c, rfl⟩ : ∃ a c, v = .slice a n c := by
    cases p <;> simp [lenPV] at hn
    case d x =>
      cases x <;> simp at hn
      case s x => exact absurd rfl (hp x)
      case sl rows =>
        subst hn
        simp only [RepPV, RepD] at hv
        obtain ⟨a, l, c, rfl, rfl, _⟩ := hv
        exact ⟨a, c, rfl⟩
    case nils => subst hn; simp only [RepPV] at hv; exact ⟨none, 0, hv⟩
    case own o sz m => subst hn; simp only [RepPV] at hv; obtain ⟨_, a, c, rfl, _⟩ := hv; exact ⟨a, c, rfl⟩
  exact .value h (v := .int .i64 n) (by simp [Builtin.len_, run_underlying hut, goInt]) (by simp [RepPV, RepD]) hK

theorem ok_len_str (h : St w0 F0 mods F ρ S w) {t ty : TypeId} (hu : P.underlying t = some .string) {x : ByteArray} {v : Value} (hv : RepPV w F ρ (info S) (.d (.s x)) v)
    (hK : K (.d (.i .i64 x.size)) S) : OpOk P (do pure (.value (← Builtin.len_ #[t] ty #[v]))) w0 F0 mods F ρ S w K := by
  simp only [RepPV, RepD] at hv
  subst hv
  exact .value h (v := .int .i64 x.size) (by simp [Builtin.len_, run_underlying hu, goInt]) (by simp [RepPV, RepD]) hK

/-- What a binary operation on two numbers yields: a value, or nothing that is told of. -/
def intOp (op : BinOp) (k : IntKind) (a b : Int) : Option D :=
  match op with
  | .add => some (.i k (k.wrap (a + b)))
  | .sub => some (.i k (k.wrap (a - b)))
  | .mul => some (.i k (k.wrap (a * b)))
  | .quo => if b = 0 then none else some (.i k (k.wrap (a.tdiv b)))
  | .rem => if b = 0 then none else some (.i k (a.tmod b))
  | .and => some (.i k (k.wrap ((BitVec.ofInt k.bits a &&& BitVec.ofInt k.bits b).toNat : Int)))
  | .or => some (.i k (k.wrap ((BitVec.ofInt k.bits a ||| BitVec.ofInt k.bits b).toNat : Int)))
  | .xor => some (.i k (k.wrap ((BitVec.ofInt k.bits a ^^^ BitVec.ofInt k.bits b).toNat : Int)))
  | .andNot => some (.i k (k.wrap ((BitVec.ofInt k.bits a &&& ~~~(BitVec.ofInt k.bits b)).toNat : Int)))
  | .shl => if b < 0 then none else some (.i k (k.wrap (a * 2 ^ (min b.toNat k.bits))))
  | .shr => if b < 0 then none else some (.i k (a.fdiv (2 ^ (min b.toNat k.bits))))
  | .eql => some (.b (a == b))
  | .neq => some (.b (a != b))
  | .lss => some (.b (decide (a < b)))
  | .leq => some (.b (decide (a ≤ b)))
  | .gtr => some (.b (decide (a > b)))
  | .geq => some (.b (decide (a ≥ b)))

def strOp (op : BinOp) (x y : ByteArray) : Option D :=
  match op with
  | .add => if ((x.size + y.size : Nat) : Int) > 9223372036854775807 then none else some (.s (x ++ y))
  | .eql => some (.b (x.toList == y.toList))
  | .neq => some (.b (!(x.toList == y.toList)))
  | .lss => some (.b (Op.bytesLess x.toList y.toList))
  | .leq => some (.b (Op.bytesLess x.toList y.toList || x.toList == y.toList))
  | .gtr => some (.b (!(Op.bytesLess x.toList y.toList || x.toList == y.toList)))
  | .geq => some (.b (!(Op.bytesLess x.toList y.toList)))
  | _ => none

/-- The kinds of two operands must agree, but for a shift's count. -/
def isShift : BinOp → Bool
  | .shl | .shr => true
  | _ => false

def binD (op : BinOp) : D → D → Option D
  | .i k a, .i k' b => if k = k' ∨ isShift op = true then intOp op k a b else none
  | .s x, .s y => strOp op x y
  | _, _ => none

theorem ok_bin (h : St w0 F0 mods F ρ S w) {op : BinOp} {t : TypeId} {x y : Operand} {a b d : D} {u v : Value} (ha : RepPV w F ρ (info S) (.d a) u) (hb : RepPV w F ρ (info S) (.d b) v) (hd : binD op a b = some d)
    (hK : K (.d d) S) : OpOk P (do pure (.value (← (do eqGuard op t x y u v; binOp op t u v)))) w0 F0 mods F ρ S w K := by
  cases a <;> cases b <;> simp only [binD] at hd <;> (try cases hd)
  case i.i k a k' b =>
    simp only [RepPV, RepD] at ha hb
    subst ha hb
    have hg : eqGuard op t x y (.int k a) (.int k' b) = pure () := by cases op <;> rfl
    have hrun : ∃ r, (binOp op t (.int k a) (.int k' b)).run P w = .ok r w ∧ RepD w F d r := by
      split at hd
      · rename_i hk
        cases op <;> simp only [intOp] at hd <;> (try (split at hd <;> try cases hd)) <;> (try cases hd) <;> simp [isShift] at hk <;>
          (try subst hk) <;> (refine ⟨_, ?_, by simp only [RepD]; rfl⟩) <;>
          simp_all [binOp, Op.intArith, Op.intDiv, Op.intBits, Op.intCmp, Op.shift] <;> (intro hneg; omega)
      · cases hd
    obtain ⟨r, h1, h2⟩ := hrun
    exact .value h (v := r) (by simp [hg, h1]) (by simpa [RepPV] using h2) hK
  case s.s x' y' =>
    simp only [RepPV, RepD] at ha hb
    subst ha hb
    have hg : eqGuard op t x y (.string x') (.string y') = pure () := by cases op <;> rfl
    have hrun : ∃ r, (binOp op t (.string x') (.string y')).run P w = .ok r w ∧ RepD w F d r := by
      cases op <;> simp only [strOp] at hd <;> (try (split at hd <;> try cases hd)) <;> (try cases hd) <;> (refine ⟨_, ?_, by simp only [RepD]; rfl⟩) <;>
        simp_all [binOp, Op.stringOp]
    obtain ⟨r, h1, h2⟩ := hrun
    exact .value h (v := r) (by simp [hg, h1]) (by simpa [RepPV] using h2) hK

/-! ### Equality of what is no number and no text -/

def boolA (P : Program) (t : TypeId) : Bool := match P.underlying t with
  | some .bool => true
  | _ => false
def ptrA (P : Program) (t : TypeId) : Bool := match P.underlying t with
  | some (.pointer _) => true
  | _ => false
def ifaceA (P : Program) (t : TypeId) : Bool := match P.underlying t with
  | some (.interface _) => true
  | _ => false
def sliceA' (P : Program) (t : TypeId) : Bool := match P.underlying t with
  | some (.slice _) => true
  | _ => false
def isConst : Operand → Bool
  | .const _ => true
  | _ => false

/-- Two cells of a struct that is compared. -/
def leafEq (P : Program) (t : TypeId) (p q : PV) : Option Bool := match P.underlying t, p, q with
  | some (.int _), .d (.i k a), .d (.i k' b) => match instDecidableEqIntKind k k' with
    | isTrue _ => some (a == b)
    | isFalse _ => none
  | some .string, .d (.s a), .d (.s b) => some (a.toList == b.toList)
  | some .bool, .d (.b a), .d (.b b) => some (a == b)
  | _, _, _ => none
def flatEq (P : Program) : List Field → Nat → List PV → List PV → Option Bool
  | [], _, [], [] => some true
  | f :: fs, i, x :: xs, y :: ys => match Nat.beq f.offset i, f.name == "_", aggO P f.type, leafEq P f.type x y, flatEq P fs (i + 1) xs ys with
    | true, false, some false, some a, some b => some (a && b)
    | _, _, _, _, _ => none
  | _, _, _, _ => none
def structEq (P : Program) (t : TypeId) (cs ds : List PV) : Option Bool := match P.underlying t, P.stoodInHeld t, P.eqGuardType P.depth t with
  | some (.struct fs), false, false => flatEq P fs.toList 0 cs ds
  | _, _, _ => none

theorem leafEq_run {t : TypeId} {p q : PV} {u v : Value} {b : Bool} (hp : RepPV w F ρ (info S) p u) (hq : RepPV w F ρ (info S) q v) (h : leafEq P t p q = some b) (d : Nat) : (Op.equalIn (d + 1) t u v).run P w = .ok b w := by
  unfold leafEq at h
  split at h
  · rename_i kk k a k' b' hu
    split at h
    · rename_i hk _
      subst hk
      cases h
      simp only [RepPV, RepD] at hp hq
      subst hp hq
      exact run_equalIn_int w d t k kk a b' hu
    · cases h
  · rename_i a b' hu
    cases h
    simp only [RepPV, RepD] at hp hq
    subst hp hq
    exact run_equalIn_string w d t a b' hu
  · rename_i a b' hu
    cases h
    simp only [RepPV, RepD] at hp hq
    subst hp hq
    exact run_equalIn_bool' w d t a b' hu
  · cases h

theorem run_part {t : TypeId} (ha : aggO P t = some false) {xs : Array Value} {i : Nat} {v : Value} (hv : xs[i]? = some v) : (part t xs i).run P w = .ok v w := by
  simp [part, run_isAgg ha, hv]

theorem flatEq_run {xs ys : Array Value} (d : Nat) : ∀ (fs : List Field) (i : Nat) (cs ds : List PV) (b : Bool), flatEq P fs i cs ds = some b → RepPVs w F ρ (info S) cs (xs.toList.drop i) → RepPVs w F ρ (info S) ds (ys.toList.drop i) →
    (Op.eqFields (d + 1) xs ys fs).run P w = .ok b w
  | [], i, [], [], b, h, _, _ => by simp only [flatEq, Option.some.injEq] at h; subst h; simp [Op.eqFields]
  | f :: fs, i, x :: cs, y :: ds, b, h, hx, hy => by
    simp only [flatEq] at h
    split at h
    · rename_i r1 r2 h1 h2 h3 h4 h5
      cases h
      have hoff := Nat.eq_of_beq_eq_true h1
      have hname : f.name ≠ "_" := by simpa using h2
      simp only [RepPVs] at hx hy
      obtain ⟨u, us, e1, _, e2, e3⟩ := hx
      obtain ⟨v, vs, g1, _, g2, g3⟩ := hy
      have hu : xs[i]? = some u := by
        have := congrArg (fun l => l[0]?) e1
        simpa using this
      have hv : ys[i]? = some v := by
        have := congrArg (fun l => l[0]?) g1
        simpa using this
      have eu : xs.toList.drop (i + 1) = us := by rw [← List.drop_drop, e1]; rfl
      have ev : ys.toList.drop (i + 1) = vs := by rw [← List.drop_drop, g1]; rfl
      have ih := flatEq_run d fs (i + 1) cs ds r2 h5 (by rw [eu]; exact e3) (by rw [ev]; exact g3)
      have hl := leafEq_run e2 g2 h4 d
      simp only [Op.eqFields]
      rw [if_pos hname]
      rw [← hoff] at hu hv
      simp only [Sem.run_bind, run_part h3 hu, run_part h3 hv, Result.andThen_ok, hl]
      cases r1 with
      | true => simpa using ih
      | false => simp
    · cases h
  | [], i, _ :: _, _, b, h, _, _ => by simp [flatEq] at h
  | [], i, [], _ :: _, b, h, _, _ => by simp [flatEq] at h
  | _ :: _, i, [], _, b, h, _, _ => by simp [flatEq] at h
  | _ :: _, i, _ :: _, [], b, h, _, _ => by simp [flatEq] at h

def eqP (P : Program) (t : TypeId) (yc : Bool) (p q : PV) : Option Bool := match q with
  | .d (.b b) => match p, boolA P t with
    | .d (.b a), true => some (a == b)
    | _, _ => none
  | .d .nilp => match p, ptrA P t with
    | .d .nilp, true => some true
    | .ptr _ _, true => some false
    | .dp _, true => some false
    | .eptr _ _ _ _ _, true => some false
    | _, _ => none
  | .d .nili => match p, ifaceA P t, yc with
    | .d .nili, true, true => some true
    | .d (.ifc _ _), true, _ => some false
    | _, _, _ => none
  | .nils => match p, sliceA' P t with
    | .nils, true => some true
    | .d (.sl (_ :: _)), true => some false
    | _, _ => none
  | .agg ds => match p with
    | .agg cs => structEq P t cs ds
    | _ => none
  | _ => none

theorem run_equal (t : TypeId) (u v : Value) {w : World} {ds : TypeDesc} (hu : P.underlying t = some ds) {r : Result Bool} (h : ∀ d, (Op.equalIn (d + 1) t u v).run P w = r) : (Op.equal t u v).run P w = r := h 9999

theorem eqP_rep {t : TypeId} {yc : Bool} {p q : PV} {b : Bool} {u v : Value} (hp : RepPV w F ρ (info S) p u) (hq : RepPV w F ρ (info S) q v) (h : eqP P t yc p q = some b) (op : BinOp) (hop : op = .eql ∨ op = .neq) {x y : Operand} (hy : yc = true → isConst y = true) :
    (do eqGuard op t x y u v; binOp op t u v : Sem Value).run P w = .ok (.bool (if op = .eql then b else !b)) w := by
  unfold eqP at h
  split at h
  · rename_i c
    split at h
    · rename_i a ht
      cases h
      simp only [RepPV, RepD] at hp hq
      subst hp hq
      have hu : P.underlying t = some .bool := by unfold boolA at ht; split at ht <;> simp_all
      have hr := run_equal (P := P) (w := w) t (.bool a) (.bool c) hu (r := .ok (a == c) w) (fun d => by simp [Op.equalIn, run_underlying hu])
      rcases hop with rfl | rfl <;> simp [eqGuard, binOp, hr]
    · cases h
  · have key : ∀ (u' : Option Addr) (b' : Bool), u = .pointer u' → b' = u'.isNone → P.underlying t = P.underlying t → ptrA P t = true → (do eqGuard op t x y u v; binOp op t u v : Sem Value).run P w = .ok (.bool (if op = .eql then b' else !b')) w := by
      intro u' b' e1 e2 _ ht
      simp only [RepPV, RepD] at hq
      subst e1 hq
      obtain ⟨el, hu⟩ : ∃ el, P.underlying t = some (.pointer el) := by unfold ptrA at ht; split at ht <;> simp_all
      have hr := run_equal (P := P) (w := w) t (.pointer u') (.pointer none) hu (r := .ok b' w) (fun d => by cases u' <;> simp [Op.equalIn, run_underlying hu, e2])
      rcases hop with rfl | rfl <;> simp [eqGuard, binOp, hr]
    split at h
    · rename_i ht; cases h; simp only [RepPV, RepD] at hp; exact key none true hp rfl rfl ht
    · rename_i o c ht; cases h; simp only [RepPV] at hp; obtain ⟨_, bb, e1, _⟩ := hp; exact key _ false e1 rfl rfl ht
    · rename_i cells ht; cases h; simp only [RepPV] at hp; obtain ⟨bb, off, e1, _⟩ := hp; exact key _ false e1 rfl rfl ht
    · rename_i o n r sz c ht; cases h; simp only [RepPV] at hp; obtain ⟨_, bb, off, e1, _⟩ := hp; exact key _ false e1 rfl rfl ht
    · cases h
  · simp only [RepPV, RepD] at hq
    subst hq
    split at h
    · have ht : ifaceA P t = true := by assumption
      cases h
      simp only [RepPV, RepD] at hp
      subst hp
      obtain ⟨ms, hu⟩ : ∃ ms, P.underlying t = some (.interface ms) := by unfold ifaceA at ht; split at ht <;> simp_all
      have hr := run_equal (P := P) (w := w) t .nilIface .nilIface hu (r := .ok true w) (fun d => by simp [Op.equalIn, run_underlying hu])
      obtain ⟨c, rfl⟩ : ∃ c, y = .const c := by have := hy rfl; cases y <;> simp [isConst] at this; exact ⟨_, rfl⟩
      rcases hop with rfl | rfl <;> simp [eqGuard, binOp, hr]
    · rename_i tx d ht
      cases h
      simp only [RepPV, RepD] at hp
      obtain ⟨z, rfl, _⟩ := hp
      obtain ⟨ms, hu⟩ : ∃ ms, P.underlying t = some (.interface ms) := by unfold ifaceA at ht; split at ht <;> simp_all
      have hr := run_equal (P := P) (w := w) t (.iface tx z) .nilIface hu (r := .ok false w) (fun d => by simp [Op.equalIn, run_underlying hu])
      rcases hop with rfl | rfl <;> simp [eqGuard, binOp, hr]
    · cases h
  · simp only [RepPV] at hq
    subst hq
    split at h
    · rename_i ht
      cases h
      simp only [RepPV] at hp
      subst hp
      obtain ⟨el, hu⟩ : ∃ el, P.underlying t = some (.slice el) := by unfold sliceA' at ht; split at ht <;> simp_all
      have hr := run_equal (P := P) (w := w) t (.slice none 0 0) (.slice none 0 0) hu (r := .ok true w) (fun d => by simp [Op.equalIn, run_underlying hu])
      rcases hop with rfl | rfl <;> simp [eqGuard, binOp, hr]
    · rename_i r rs ht
      cases h
      simp only [RepPV, RepD] at hp
      obtain ⟨a, len, cap, rfl, e1, e2, e3, e4, _⟩ := hp
      obtain ⟨ad, rfl⟩ : ∃ ad, a = some ad := by
        cases a with
        | none => have := e4 rfl; simp at e1; omega
        | some ad => exact ⟨ad, rfl⟩
      obtain ⟨el, hu⟩ : ∃ el, P.underlying t = some (.slice el) := by unfold sliceA' at ht; split at ht <;> simp_all
      have hr := run_equal (P := P) (w := w) t (.slice (some ad) len cap) (.slice none 0 0) hu (r := .ok false w) (fun d => by simp [Op.equalIn, run_underlying hu])
      rcases hop with rfl | rfl <;> simp [eqGuard, binOp, hr]
    · cases h
  · rename_i ds
    split at h
    · rename_i cs
      simp only [RepPV] at hp hq
      obtain ⟨xs, rfl, hx⟩ := hp
      obtain ⟨ys, rfl, hy⟩ := hq
      unfold structEq at h
      split at h
      · rename_i fs hu hst hg
        have hfs : P.fieldsOf t = fs := by unfold Program.fieldsOf; rw [hu]
        have hr : (Op.equalIn 10000 t (.agg xs) (.agg ys)).run P w = .ok b w := by
          rw [show (10000 : Nat) = 9998 + 1 + 1 from rfl, run_equalIn_struct w (9998 + 1) t xs ys (by rw [hfs]; exact hu) hst, hfs]
          exact flatEq_run 9998 fs.toList 0 cs ds b h (by simpa using hx) (by simpa using hy)
        rcases hop with rfl | rfl
        · rw [Sem.run_bind, run_eqGuard_agg w .eql t x y xs ys hg, Result.andThen_ok, run_eql_struct, hr]; rfl
        · rw [Sem.run_bind, run_eqGuard_agg w .neq t x y xs ys hg, Result.andThen_ok, run_neq_struct, hr]; rfl
      · cases h
    · cases h
  · cases h

/-- A binary operation, told of. -/
def binP (P : Program) (op : BinOp) (t : TypeId) (yc : Bool) (p q : PV) : Option D := match op with
  | .eql => match eqP P t yc p q with
    | some b => some (.b b)
    | none => match p, q with
      | .d a, .d b => binD .eql a b
      | _, _ => none
  | .neq => match eqP P t yc p q with
    | some b => some (.b (!b))
    | none => match p, q with
      | .d a, .d b => binD .neq a b
      | _, _ => none
  | op => match p, q with
    | .d a, .d b => binD op a b
    | _, _ => none

theorem binP_cases {op : BinOp} {t : TypeId} {yc : Bool} {p q : PV} {d : D} (h : binP P op t yc p q = some d) : (∃ b, (op = .eql ∨ op = .neq) ∧ eqP P t yc p q = some b ∧ d = .b (if op = .eql then b else !b)) ∨ ∃ a b, p = .d a ∧ q = .d b ∧ binD op a b = some d := by
  have key : ∀ op, (match p, q with | .d a, .d b => binD op a b | _, _ => none : Option D) = some d → ∃ a b, p = .d a ∧ q = .d b ∧ binD op a b = some d := by
    intro op h
    split at h
    · exact ⟨_, _, rfl, rfl, h⟩
    · cases h
  unfold binP at h
  split at h
  · split at h
    · rename_i b hb; cases h; exact .inl ⟨b, .inl rfl, hb, rfl⟩
    · exact .inr (key _ h)
  · split at h
    · rename_i b hb; cases h; exact .inl ⟨b, .inr rfl, hb, rfl⟩
    · exact .inr (key _ h)
  · exact .inr (key _ h)

theorem ok_binP (h : St w0 F0 mods F ρ S w) {op : BinOp} {t : TypeId} {x y : Operand} {p q : PV} {d : D} {u v : Value} (hp : RepPV w F ρ (info S) p u) (hq : RepPV w F ρ (info S) q v) {yc : Bool} (hy : yc = true → isConst y = true) (hd : binP P op t yc p q = some d)
    (hK : K (.d d) S) : OpOk P (do pure (.value (← (do eqGuard op t x y u v; binOp op t u v)))) w0 F0 mods F ρ S w K := by
  rcases binP_cases hd with ⟨b, hop, h1, rfl⟩ | ⟨a, b, rfl, rfl, h1⟩
  · have hr := eqP_rep (x := x) hp hq h1 op hop hy
    exact .value h (v := .bool (if op = .eql then b else !b)) (by rw [Sem.run_bind, hr]; rfl) (by simp [RepPV, RepD]) hK
  · exact ok_bin h hp hq h1 hK

/-- A slice against nil, where it is not known whether there is one: either answer may come, but rows are never nil. -/
theorem nil_rep {t : TypeId} {u : Value} {n : Nat} {p : PV} (hp : RepPV w F ρ (info S) p u) (ht : sliceA' P t = true) (hn : lenPV p = some n) (hs : ∀ x, p ≠ .d (.s x)) (op : BinOp) (hop : op = .eql ∨ op = .neq) {x y : Operand} :
    ∃ b, (b = true → n = 0 ∨ ∃ o sz, p = .own o sz n) ∧ (p = .nils → b = true) ∧ (do eqGuard op t x y u (.slice none 0 0); binOp op t u (.slice none 0 0) : Sem Value).run P w = .ok (.bool (if op = .eql then b else !b)) w := by
  obtain ⟨el, hu⟩ : ∃ el, P.underlying t = some (.slice el) := by unfold sliceA' at ht; split at ht <;> simp_all
  obtain ⟨a, c, rfl, hz, hni⟩ : ∃ a c, u = .slice a n c ∧ (a = none → n = 0 ∨ ∃ o sz, p = .own o sz n) ∧ (p = .nils → a = none) := by
    cases p <;> simp [lenPV] at hn
    case d x =>
      cases x <;> simp at hn
      case s x => exact absurd rfl (hs x)
      case sl rows =>
        subst hn
        simp only [RepPV, RepD] at hp
        obtain ⟨a, l, c, rfl, rfl, h1, h2, h3, _⟩ := hp
        exact ⟨a, c, rfl, fun e => .inl (by have := h3 e; omega), by simp⟩
    case nils => subst hn; simp only [RepPV] at hp; exact ⟨none, 0, hp, fun _ => .inl rfl, fun _ => rfl⟩
    case own o sz m => subst hn; simp only [RepPV] at hp; obtain ⟨_, a, c, rfl, _⟩ := hp; exact ⟨a, c, rfl, fun _ => .inr ⟨o, sz, rfl⟩, by simp⟩
  have hr := run_equal (P := P) (w := w) t (.slice a n c) (.slice none 0 0) hu (r := .ok a.isNone w) (fun d => by cases a <;> simp [Op.equalIn, run_underlying hu])
  refine ⟨a.isNone, fun e => hz (by simpa using e), fun e => by rw [hni e]; rfl, ?_⟩
  rcases hop with rfl | rfl <;> simp [eqGuard, binOp, hr]

theorem ok_not (h : St w0 F0 mods F ρ S w) {b : Bool} {v : Value} (hv : RepPV w F ρ (info S) (.d (.b b)) v) (hK : K (.d (.b (!b))) S) :
    OpOk P (do pure (.value (← Op.unary .not v))) w0 F0 mods F ρ S w K := by
  simp only [RepPV, RepD] at hv
  subst hv
  exact .value h (v := .bool (!b)) (by simp [Op.unary]) (by simp [RepPV, RepD]) hK

theorem ok_neg (h : St w0 F0 mods F ρ S w) {k : IntKind} {n : Int} {v : Value} (hv : RepPV w F ρ (info S) (.d (.i k n)) v) (hK : K (.d (.i k (k.wrap (0 - n)))) S) :
    OpOk P (do pure (.value (← Op.unary .neg v))) w0 F0 mods F ρ S w K := by
  simp only [RepPV, RepD] at hv
  subst hv
  exact .value h (v := .int k (k.wrap (0 - n))) (by simp [Op.unary, Op.intArith]) (by simp [RepPV, RepD]) hK

/-- Numbers from kind to kind. -/
theorem ok_conv_int (h : St w0 F0 mods F ρ S w) {s t : TypeId} {k j k' : IntKind} {n : Int} {v : Value} (hs : P.underlying s = some (.int j)) (ht : P.underlying t = some (.int k')) (hv : RepPV w F ρ (info S) (.d (.i k n)) v)
    (hK : K (.d (.i k' (k'.wrap n))) S) : OpOk P (do pure (.value (← convert s t v))) w0 F0 mods F ρ S w K := by
  simp only [RepPV, RepD] at hv
  subst hv
  exact .value h (v := .int k' (k'.wrap n)) (by simp [convert, run_underlying hs, run_underlying ht, Conv.intToInt]) (by simp [RepPV, RepD]) hK

theorem ok_conv_str (h : St w0 F0 mods F ρ S w) {s t : TypeId} {x : ByteArray} {v : Value} (hs : P.underlying s = some .string) (ht : P.underlying t = some .string) (hv : RepPV w F ρ (info S) (.d (.s x)) v)
    (hK : K (.d (.s x)) S) : OpOk P (do pure (.value (← convert s t v))) w0 F0 mods F ρ S w K := by
  simp only [RepPV, RepD] at hv
  subst hv
  exact .value h (v := .string x) (by simp [convert, run_underlying hs, run_underlying ht]) (by simp [RepPV, RepD]) hK

theorem ok_extract (h : St w0 F0 mods F ρ S w) {vs : List PV} {i : Nat} {p : PV} {v : Value} (hv : RepPV w F ρ (info S) (.tup vs) v) (hi : vs[i]? = some p) (hK : K p S) :
    OpOk P (do pure (.value (← Instr.extract v i))) w0 F0 mods F ρ S w K := by
  simp only [RepPV] at hv
  obtain ⟨arr, rfl, ht⟩ := hv
  obtain ⟨u, h1, h2⟩ := ht.get hi
  have h1' : arr[i]? = some u := by simpa using h1
  exact .value h (v := u) (by simp [Instr.extract, h1']) h2 hK

/-- A byte of a string. -/
theorem ok_index_str (h : St w0 F0 mods F ρ S w) {t : TypeId} (hu : P.underlying t = some .string) {x : ByteArray} {k : IntKind} {i : Int} {v : Value} (hv : RepPV w F ρ (info S) (.d (.s x)) v) (h0 : 0 ≤ i) (h1 : i < x.size)
    (hK : K (.d (.i .u8 (x.data.getD i.toNat 0).toNat)) S) : OpOk P (do pure (.value (← Instr.index t v (.int k i)))) w0 F0 mods F ρ S w K := by
  simp only [RepPV, RepD] at hv
  subst hv
  have hlt : i.toNat < x.size := by omega
  have hg : x[i.toNat]? = some (x.data.getD i.toNat 0) := by
    have : i.toNat < x.data.size := hlt
    simp [getElem?_pos, hlt, this, ByteArray.getElem_eq_getElem_data]
  exact .value h (v := .int .u8 (x.data.getD i.toNat 0).toNat) (by simp [Instr.index, asIntOf, run_underlying hu, h0, hg]) (by simp [RepPV, RepD]) hK

theorem ok_iface (h : St w0 F0 mods F ρ S w) {t : TypeId} {d : TypeDesc} (hu : P.underlying t = some d) (hd : ∀ ms, d ≠ .interface ms) {p : PV} {x : D} {v : Value} (hv : RepPV w F ρ (info S) p v) (hp : p.toDA = some x)
    (hK : K (.d (.ifc t x)) S) : OpOk P (do pure (.value (← Instr.makeInterface t v))) w0 F0 mods F ρ S w K := by
  have hr := PV.toDA_rep hp hv
  refine .value h (v := .iface t v) ?_ (by simp only [RepPV, RepD]; exact ⟨v, rfl, hr⟩) hK
  cases d <;> simp_all [Instr.makeInterface, run_underlying hu]

end
end Go.Aw
