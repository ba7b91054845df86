/- The abstract walk, part 2 of 3. -/
import Derived.Test.YthilodmojjlaeaaAwPack1
import Derived.MapKept
import Derived.Laws.CopyRow
import Derived.Maps.RangeRun
/- A region whose order is drawn: one walk in the order of the text serves every order, where what may meet is ordered by the region's own edges. -/
set_option linter.unusedVariables false
set_option linter.unusedSimpArgs false
namespace Go.Aw

/-- A literal of constant bytes. -/
def litB : List (Nat × Operand) → Bool
  | [] => false
  | [(_, .const (.int .u8 _))] => true
  | (_, .const (.int .u8 _)) :: r => litB r
  | _ => false
/-- Reads or writes objects; only reads them. -/
def isWr : Op → Bool
  | .buildSlice _ _ parts => litB parts.toList
  | .convert s t _ => Nat.beq s t
  | .alloc _ | .box .. | .store .. | .makeSlice .. | .mapUpdate .. | .insert .. | .entryStore .. | .makeMap .. | .range .. | .next .. | .mapEntry .. | .makeFunc .. => true
  | .call { callee := .builtin .len, .. } => false
  | .call { callee := .builtin .min, .. } => false
  | .call { callee := .builtin .max, .. } => false
  | .call _ => true
  | _ => false
def isRd : Op → Bool
  | .load .. | .indexAddr .. | .lookup .. | .entry .. | .slice _ _ (some _) _ _ | .slice _ _ _ (some _) _ => true
  | _ => false

def tmpsOf (o : Oper) : List Nat := o.op.operands.toList.filterMap fun | .tmp t => some t | _ => none
def guardSlot (ops : Array Oper) (o : Oper) : List Nat := match o.guard with
  | some (j, _) => ((ops[j]?).bind (·.dst)).toList
  | none => []
def namesOf (ops : Array Oper) (o : Oper) : List Nat := tmpsOf o ++ guardSlot ops o ++ o.dst.toList

def masks (ops : Array Oper) : List Nat :=
  ops.toList.foldl (init := []) fun acc o => acc ++ [o.after.toList.foldl (fun m e => if Region.binds .any e then m ||| 2 ^ e.on ||| acc.getD e.on 0 else m) 0]

/-- A j i: j stands ahead of i by the edges. -/
def ancOk (ops : Array Oper) (A : Nat → Nat → Bool) : Bool :=
  (List.range ops.size).all fun i => match ops[i]? with
    | none => true
    | some o => (o.after.toList.all fun e => !Region.binds .any e || decide (e.on < i)) &&
        (List.range ops.size).all fun j => !A j i || o.after.toList.any fun e => Region.binds .any e && (e.on == j || A j e.on)

def rwAt (ops : Array Oper) (pl : List Nat) (i : Nat) : Bool := match ops[i]? with
  | some o => (isWr o.op || isRd o.op) && !pl.contains i
  | none => false
def wrAt (ops : Array Oper) (pl : List Nat) (i : Nat) : Bool := match ops[i]? with
  | some o => isWr o.op && !pl.contains i
  | none => false
def dstAt (ops : Array Oper) (i : Nat) : Option Nat := (ops[i]?).bind (·.dst)
def meetB (ops : Array Oper) (pl : List Nat) (i j : Nat) : Bool := match ops[i]?, ops[j]? with
  | some a, some b => (match a.dst with | some d => (namesOf ops b).contains d | none => false) || (wrAt ops pl i && rwAt ops pl j)
  | _, _ => false

/-- The look at a region: whatever may meet is ordered; what is in pl writes nothing. -/
def drawChk (ops : Array Oper) (pl : List Nat) : Bool :=
  let ms := masks ops
  let A : Nat → Nat → Bool := fun j i => (ms.getD i 0).testBit j
  ancOk ops A && ((List.range ops.size).all fun i => (List.range i).all fun j => !(meetB ops pl i j || meetB ops pl j i) || A j i)

/-- An operation told of by the worlds: one value, one state; where it neither reads nor writes objects, in every state. -/
def SemF (P : Program) (e : Env) (S : Heap) (o : Oper) (K : PV → Heap → Prop) : Prop :=
  ∃ p S', SemOp P e S o (fun v s => v = p ∧ s = S') ∧ (isWr o.op = false → S' = S) ∧ (isWr o.op = false → isRd o.op = false → ∀ S2, SemOp P e S2 o (fun v s => v = p ∧ s = S2)) ∧ K p S'

/-- An operation that yields one value, and leaves one state. -/
def execF0 (P : Program) (e : Env) (S : Heap) (o : Oper) (K : PV → Heap → Prop) : Prop := match o.op with
  | .call { callee := .value (.func f), args, argTypes } => ∃ p S', CallsA P f (args.toList.map (ev e)) S (fun r s => r = .ret p ∧ s = S') ∧ K p S'
  | .panic _ => False
  | op => opA P e S op K
def execF (P : Program) (e : Env) (S : Heap) (o : Oper) (K : PV → Heap → Prop) : Prop := execF0 P e S o K ∨ SemF P e S o K

def stepF (P : Program) (ops : Array Oper) (pl : List Nat) (i : Nat) (o : Oper) (K : Env → Heap → Prop) (e : Env) (S : Heap) : Prop := match o.guard with
  | none => if pl.contains i then ∃ p, (∀ S2, execF P e S2 o (fun v s => v = p ∧ s = S2)) ∧ K (put e o.dst p) S else execF P e S o (fun v => K (put e o.dst v))
  | some (j, want) => match (ops[j]?).bind (·.dst) with
    | some t => (look e t = .tup [] ∧ K (put e o.dst (.tup [])) S) ∨ ∃ b, look e t = .d (.b b) ∧
        (b = want → if pl.contains i then ∃ p, (∀ S2, execF P ((t, .d (.b want)) :: e) S2 o (fun v s => v = p ∧ s = S2)) ∧ K (put ((t, .d (.b want)) :: e) o.dst p) S
          else execF P ((t, .d (.b want)) :: e) S o (fun v => K (put ((t, .d (.b want)) :: e) o.dst v))) ∧
        (b = !want → K (put ((t, .d (.b (!want))) :: e) o.dst (.tup [])) S)
    | none => False

def opsF (P : Program) (ops : Array Oper) (pl : List Nat) (Q : Env → Heap → Prop) : List Nat → Env → Heap → Prop
  | [] => Q
  | i :: r => fun e S => match ops[i]? with
    | none => opsF P ops pl Q r e S
    | some o => stepF P ops pl i o (opsF P ops pl Q r) e S

section
variable {P : Program}

theorem loadA_point {S : Heap} {t : TypeId} {p : PV} {K : PV → Heap → Prop} (h : loadA P S t p K) : ∃ v, (∀ K' : PV → Heap → Prop, K' v S → loadA P S t p K') ∧ K v S := by
  unfold loadA at h
  split at h
  · rename_i cells
    split at h
    · rename_i ha; obtain ⟨n, h1, h2, h3⟩ := h; exact ⟨_, fun K' hK => by simp only [loadA, ha]; exact ⟨n, h1, h2, hK⟩, h3⟩
    · rename_i ha; obtain ⟨n, h1, h2⟩ := h; exact ⟨_, fun K' hK => by simp only [loadA, ha]; exact ⟨n, h1, hK⟩, h2⟩
    · exact h.elim
  · obtain ⟨cs, h0, h⟩ := h
    split at h
    · rename_i ha; obtain ⟨n, h1, h2, h3⟩ := h; exact ⟨_, fun K' hK => by simp only [loadA, ha]; exact ⟨cs, h0, n, h1, h2, hK⟩, h3⟩
    · rename_i ha; obtain ⟨n, h1, h2⟩ := h; exact ⟨_, fun K' hK => by simp only [loadA, ha]; exact ⟨cs, h0, n, h1, hK⟩, h2⟩
    · exact h.elim
  · obtain ⟨rows, row, g1, g2, g3, g4, h⟩ := h
    split at h
    · rename_i ha; obtain ⟨n, h1, h2, h3⟩ := h; exact ⟨_, fun K' hK => by simp only [loadA, ha]; exact ⟨rows, row, g1, g2, g3, g4, n, h1, h2, hK⟩, h3⟩
    · rename_i ha; obtain ⟨n, h1, h2⟩ := h; exact ⟨_, fun K' hK => by simp only [loadA, ha]; exact ⟨rows, row, g1, g2, g3, g4, n, h1, hK⟩, h2⟩
    · exact h.elim
  · exact h.elim

theorem storeA_point {S : Heap} {t : TypeId} {p q : PV} {K : PV → Heap → Prop} (h : storeA P S t p q K) : ∃ v S', (∀ K' : PV → Heap → Prop, K' v S' → storeA P S t p q K') ∧ K v S' := by
  unfold storeA at h
  split at h
  · obtain ⟨cs, ps, h1, h2, h3, h4, h5⟩ := h; exact ⟨_, _, fun K' hK => by simp only [storeA]; exact ⟨cs, ps, h1, h2, h3, h4, hK⟩, h5⟩
  · obtain ⟨rows, row, ps, h1, h2, h3, h4, h5, h6, h7, h8⟩ := h; exact ⟨_, _, fun K' hK => by simp only [storeA]; exact ⟨rows, row, ps, h1, h2, h3, h4, h5, h6, h7, hK⟩, h8⟩
  · exact h.elim

theorem fieldA_point {S : Heap} {t : TypeId} {p : PV} {f : Nat} {K : PV → Heap → Prop} (h : fieldA P S t p f K) : ∃ v, (∀ S2 (K' : PV → Heap → Prop), K' v S2 → fieldA P S2 t p f K') ∧ K v S := by
  obtain ⟨off, ft, n, h1, h2, h3, h⟩ := h
  split at h
  · exact ⟨_, fun S2 K' hK => ⟨off, ft, n, h1, h2, h3, hK⟩, h⟩
  · exact ⟨_, fun S2 K' hK => ⟨off, ft, n, h1, h2, h3, hK⟩, h⟩
  · exact ⟨_, fun S2 K' hK => ⟨off, ft, n, h1, h2, h3, hK⟩, h⟩
  · exact h.elim

theorem indexA_point {S : Heap} {t : TypeId} {p q : PV} {K : PV → Heap → Prop} (h : indexA P S t p q K) : ∃ v, (∀ K' : PV → Heap → Prop, K' v S → indexA P S t p q K') ∧ K v S := by
  obtain ⟨el, sz, h1, h2, h⟩ := h
  split at h
  · split at h
    · obtain ⟨g1, g2, g3, g4⟩ := h; exact ⟨_, fun K' hK => ⟨el, sz, h1, h2, g1, g2, g3, hK⟩, g4⟩
    · obtain ⟨rfl, rows, g1, g2, g3, g4, g5⟩ := h; exact ⟨_, fun K' hK => ⟨el, _, h1, h2, rfl, rows, g1, g2, g3, g4, hK⟩, g5⟩
    · exact h.elim
  · exact h.elim

theorem lenA_point {S : Heap} {t : TypeId} {p : PV} {K : PV → Heap → Prop} (h : lenA P S t p K) : ∃ v, (∀ S2 (K' : PV → Heap → Prop), K' v S2 → lenA P S2 t p K') ∧ K v S := by
  unfold lenA at h
  split at h
  · obtain ⟨h1, h2⟩ := h; exact ⟨_, fun S2 K' hK => by simp only [lenA]; exact ⟨h1, hK⟩, h2⟩
  · rename_i hp
    obtain ⟨h1, n, h2, h3⟩ := h
    refine ⟨_, fun S2 K' hK => ?_, h3⟩
    unfold lenA
    split
    · exact absurd rfl (hp _)
    · exact ⟨h1, n, h2, hK⟩

theorem appendA_point {S : Heap} {t : TypeId} {p q : PV} {K : PV → Heap → Prop} (h : appendA P S t p q K) : ∃ v S', (∀ K' : PV → Heap → Prop, K' v S' → appendA P S t p q K') ∧ K v S' := by
  obtain ⟨el, sz, by_, zs, more, h1, h2, h3, h4, h5, h6, h7, h8, h⟩ := h
  split at h
  · obtain ⟨g1, g2⟩ := h; exact ⟨_, _, fun K' hK => ⟨el, sz, by_, zs, more, h1, h2, h3, h4, h5, h6, h7, h8, g1, hK⟩, g2⟩
  · obtain ⟨rfl, rows, g1, g2, g3, g4, g5⟩ := h; exact ⟨_, _, fun K' hK => ⟨el, _, by_, zs, more, h1, h2, h3, h4, h5, h6, h7, h8, rfl, rows, g1, g2, g3, g4, hK⟩, g5⟩
  · exact h.elim

theorem sliceA_point {S : Heap} {t : TypeId} {p : PV} {lo hi : Option PV} {K : PV → Heap → Prop} (h : sliceA P S t p lo hi K) : ∃ v, (∀ S2 (K' : PV → Heap → Prop), K' v S2 → sliceA P S2 t p lo hi K') ∧ K v S := by
  unfold sliceA at h
  split at h
  · obtain ⟨h0, m, l, h1, h2, h3⟩ := h; exact ⟨_, fun S2 K' hK => by simp only [sliceA]; exact ⟨h0, m, l, h1, h2, hK⟩, h3⟩
  · obtain ⟨el, sz, m, l, h0, h1, h2, h3, h4, h5⟩ := h; exact ⟨_, fun S2 K' hK => by simp only [sliceA]; exact ⟨el, sz, m, l, h0, h1, h2, h3, h4, hK⟩, h5⟩
  · exact h.elim

/-- What an operation comes to, told at one point; those that neither read nor write objects come to it in every state. -/
theorem opA_point {e : Env} {S : Heap} {op : Op} {K : PV → Heap → Prop} (h : opA P e S op K) : ∃ v S', (∀ K' : PV → Heap → Prop, K' v S' → opA P e S op K') ∧ K v S' ∧ (isWr op = false → S' = S) ∧
    (isWr op = false → isRd op = false → ∀ S2 (K' : PV → Heap → Prop), K' v S2 → opA P e S2 op K') := by
  cases op <;> try (simp only [opA] at h; done)
  case move x => exact ⟨_, _, fun K' hK => hK, h, fun _ => rfl, fun _ _ S2 K' hK => hK⟩
  case assign x => exact ⟨_, _, fun K' hK => hK, h, fun _ => rfl, fun _ _ S2 K' hK => hK⟩
  case pick c a b => obtain ⟨t, h1, h2⟩ := h; exact ⟨_, _, fun K' hK => ⟨t, h1, hK⟩, h2, fun _ => rfl, fun _ _ S2 K' hK => ⟨t, h1, hK⟩⟩
  case alloc T => obtain ⟨cs, h1, h2⟩ := h; exact ⟨_, _, fun K' hK => ⟨cs, h1, hK⟩, h2, by simp [isWr], by simp [isWr]⟩
  case box T v => obtain ⟨cs, h1, h2⟩ := h; exact ⟨_, _, fun K' hK => ⟨cs, h1, hK⟩, h2, by simp [isWr], by simp [isWr]⟩
  case build T parts => obtain ⟨pl, zs, cs, h1, h2, h3, h4⟩ := h; exact ⟨_, _, fun K' hK => ⟨pl, zs, cs, h1, h2, h3, hK⟩, h4, fun _ => rfl, fun _ _ S2 K' hK => ⟨pl, zs, cs, h1, h2, h3, hK⟩⟩
  case buildSlice T len parts =>
    obtain ⟨el, sz, zs, cs, ds, h1, h2, h3, h4, h5, h6, h7, h8, h9, h10⟩ := h
    exact ⟨_, _, fun K' hK => ⟨el, sz, zs, cs, ds, h1, h2, h3, h4, h5, h6, h7, h8, h9, hK⟩, h10, fun _ => rfl, fun _ _ S2 K' hK => ⟨el, sz, zs, cs, ds, h1, h2, h3, h4, h5, h6, h7, h8, h9, hK⟩⟩
  case load T x => obtain ⟨v, h1, h2⟩ := loadA_point h; exact ⟨v, _, h1, h2, fun _ => rfl, by simp [isRd]⟩
  case store T x y => obtain ⟨v, S', h1, h2⟩ := storeA_point h; exact ⟨v, S', h1, h2, by simp [isWr], by simp [isWr]⟩
  case fieldAddr T x f => obtain ⟨v, h1, h2⟩ := fieldA_point h; exact ⟨v, _, h1 S, h2, fun _ => rfl, fun _ _ => h1⟩
  case indexAddr T x i => obtain ⟨v, h1, h2⟩ := indexA_point h; exact ⟨v, _, h1, h2, fun _ => rfl, by simp [isRd]⟩
  case binOp op t x y yt => obtain ⟨d, h1, h2⟩ := h; exact ⟨_, _, fun K' hK => ⟨d, h1, hK⟩, h2, fun _ => rfl, fun _ _ S2 K' hK => ⟨d, h1, hK⟩⟩
  case nilCheck x => obtain ⟨h1, h2⟩ := h; exact ⟨_, _, fun K' hK => ⟨h1, hK⟩, h2, fun _ => rfl, fun _ _ S2 K' hK => ⟨h1, hK⟩⟩
  case unOp op t x =>
    cases op <;> try (simp only [opA] at h; done)
    case not => obtain ⟨b, h1, h2⟩ := h; exact ⟨_, _, fun K' hK => ⟨b, h1, hK⟩, h2, fun _ => rfl, fun _ _ S2 K' hK => ⟨b, h1, hK⟩⟩
    case neg => obtain ⟨k, n, h1, h2⟩ := h; exact ⟨_, _, fun K' hK => ⟨k, n, h1, hK⟩, h2, fun _ => rfl, fun _ _ S2 K' hK => ⟨k, n, h1, hK⟩⟩
  case convert s t x =>
    simp only [opA] at h
    split at h
    · rename_i k n hk; obtain ⟨h1, k', h2, h3⟩ := h; exact ⟨_, _, fun K' hK => by simp only [opA, hk]; exact ⟨h1, k', h2, hK⟩, h3, fun _ => rfl, fun _ _ S2 K' hK => by simp only [opA, hk]; exact ⟨h1, k', h2, hK⟩⟩
    · rename_i y hk; obtain ⟨h1, h2, h3⟩ := h; exact ⟨_, _, fun K' hK => by simp only [opA, hk]; exact ⟨h1, h2, hK⟩, h3, fun _ => rfl, fun _ _ S2 K' hK => by simp only [opA, hk]; exact ⟨h1, h2, hK⟩⟩
    · exact h.elim
  case extract x i => obtain ⟨vs, p, h1, h2, h3⟩ := h; exact ⟨_, _, fun K' hK => ⟨vs, p, h1, h2, hK⟩, h3, fun _ => rfl, fun _ _ S2 K' hK => ⟨vs, p, h1, h2, hK⟩⟩
  case index t x i =>
    simp only [opA] at h
    split at h
    · rename_i y hk
      obtain ⟨h1, h⟩ := h
      split at h
      · rename_i k n hn; obtain ⟨h2, h3, h4⟩ := h
        exact ⟨_, _, fun K' hK => by simp only [opA, hk, hn]; exact ⟨h1, h2, h3, hK⟩, h4, fun _ => rfl, fun _ _ S2 K' hK => by simp only [opA, hk, hn]; exact ⟨h1, h2, h3, hK⟩⟩
      · exact h.elim
    · exact h.elim
  case slice t x lo hi mx =>
    cases mx with
    | none => obtain ⟨v, h1, h2⟩ := sliceA_point h; exact ⟨v, _, h1 S, h2, fun _ => rfl, fun _ _ => h1⟩
    | some m => simp only [opA] at h
  case makeSlice t l c =>
    obtain ⟨el, sz, by_, zs, k, n, k', m, h1, h2, h3, h4, h5, h6, h7, h8, h9, h10, h11, h12, h13⟩ := h
    exact ⟨_, _, fun K' hK => ⟨el, sz, by_, zs, k, n, k', m, h1, h2, h3, h4, h5, h6, h7, h8, h9, h10, h11, h12, hK⟩, h13, by simp [isWr], by simp [isWr]⟩
  case makeInterface t x => obtain ⟨h1, d, h2, h3⟩ := h; exact ⟨_, _, fun K' hK => ⟨h1, d, h2, hK⟩, h3, fun _ => rfl, fun _ _ S2 K' hK => ⟨h1, d, h2, hK⟩⟩
  case call c =>
    obtain ⟨callee, args, argTypes⟩ := c
    cases callee with
    | value f => simp only [opA] at h
    | invoke r m => simp only [opA] at h
    | builtin b =>
      cases b <;> simp only [opA] at h
      case len =>
        split at h
        · rename_i x t hx ht
          obtain ⟨v, h1, h2⟩ := lenA_point h
          exact ⟨v, _, fun K' hK => by simp only [opA, hx, ht]; exact h1 S K' hK, h2, fun _ => rfl, fun _ _ S2 K' hK => by simp only [opA, hx, ht]; exact h1 S2 K' hK⟩
        · exact h.elim
      case append =>
        split at h
        · rename_i p x t t' hx ht
          obtain ⟨h0, h⟩ := h
          obtain ⟨v, S', h1, h2⟩ := appendA_point h
          exact ⟨v, S', fun K' hK => by simp only [opA, hx, ht]; exact ⟨h0, h1 K' hK⟩, h2, by simp [isWr], by simp [isWr]⟩
        · exact h.elim
end
end Go.Aw

/- Every order of a region comes to what the text's order comes to. -/
set_option linter.unusedVariables false
set_option linter.unusedSimpArgs false
namespace Go.Aw
section
variable {P : Program}

theorem ev_congr {e e' : Env} {x : Operand} (h : ∀ t, x = .tmp t → look e t = look e' t) : ev e x = ev e' x := by
  cases x with
  | tmp t => exact h t rfl
  | const v => rfl
  | global g => rfl
  | func f => rfl

/-- An operation looks at its operands alone. -/
theorem opA_congr {e e' : Env} {S : Heap} {op : Op} {K : PV → Heap → Prop} (h : ∀ x ∈ op.operands, ev e x = ev e' x) (hl : opA P e S op K) : opA P e' S op K := by
  have pairs : ∀ l : List (Nat × Operand), (∀ x ∈ l.map (·.2), ev e x = ev e' x) → (l.map fun x => (x.1, ev e x.2)) = (l.map fun x => (x.1, ev e' x.2)) := fun l hl =>
    List.map_congr_left fun x hx => by rw [hl x.2 (List.mem_map.2 ⟨x, hx, rfl⟩)]
  have opt : ∀ o : Option Operand, (∀ x ∈ o.toArray, ev e x = ev e' x) → o.map (ev e) = o.map (ev e') := fun o ho => by
    cases o with
    | none => rfl
    | some x => simp [ho x (by simp)]
  cases op <;> try (simp only [opA] at hl; done)
  case call c =>
    obtain ⟨callee, args, argTypes⟩ := c
    cases callee with
    | value f => simp only [opA] at hl
    | invoke r m => simp only [opA] at hl
    | builtin b =>
      have ha : ∀ x ∈ args.toList, ev e x = ev e' x := fun x hx => h x (by simp [Op.operands, Call.operands]; simpa using hx)
      cases b <;> simp only [opA] at hl
      case len =>
        split at hl
        · rename_i x t hx ht
          simp only [opA, hx, ht]
          rw [← ha x (by simp [hx])]; exact hl
        · exact hl.elim
      case append =>
        split at hl
        · rename_i p x t t' hx ht
          simp only [opA, hx, ht]
          rw [← ha p (by simp [hx]), ← ha x (by simp [hx])]; exact hl
        · exact hl.elim
  all_goals simp only [Op.operands] at h
  case move x => simp only [opA] at hl ⊢; rw [← h x (by simp)]; exact hl
  case assign x => simp only [opA] at hl ⊢; rw [← h x (by simp)]; exact hl
  case pick c a b => simp only [opA] at hl ⊢; rw [← h c (by simp), ← h a (by simp), ← h b (by simp)]; exact hl
  case alloc T => exact hl
  case box T v => simp only [opA] at hl ⊢; rw [← h v (by simp)]; exact hl
  case build T parts => simp only [opA] at hl ⊢; rw [← pairs parts.toList (fun x hx => h x (by simpa using hx))]; exact hl
  case buildSlice T len parts => simp only [opA] at hl ⊢; rw [← pairs parts.toList (fun x hx => h x (by simpa using hx))]; exact hl
  case load T x => simp only [opA] at hl ⊢; rw [← h x (by simp)]; exact hl
  case store T x y => simp only [opA] at hl ⊢; rw [← h x (by simp), ← h y (by simp)]; exact hl
  case fieldAddr T x f => simp only [opA] at hl ⊢; rw [← h x (by simp)]; exact hl
  case indexAddr T x i => simp only [opA] at hl ⊢; rw [← h x (by simp), ← h i (by simp)]; exact hl
  case binOp op t x y yt => simp only [opA] at hl ⊢; rw [← h x (by simp), ← h y (by simp)]; exact hl
  case nilCheck x => simp only [opA] at hl ⊢; rw [← h x (by simp)]; exact hl
  case unOp op t x => cases op <;> simp only [opA] at hl ⊢ <;> (rw [← h x (by simp)]; exact hl)
  case convert s t x => simp only [opA] at hl ⊢; rw [← h x (by simp)]; exact hl
  case extract x i => simp only [opA] at hl ⊢; rw [← h x (by simp)]; exact hl
  case index t x i => simp only [opA] at hl ⊢; rw [← h x (by simp), ← h i (by simp)]; exact hl
  case slice t x lo hi mx =>
    cases mx with
    | none =>
      simp only [opA] at hl ⊢
      rw [← h x (by simp), ← opt lo (fun y hy => h y (by simp at hy ⊢; simp [hy])), ← opt hi (fun y hy => h y (by simp at hy ⊢; simp [hy]))]; exact hl
    | some m => simp only [opA] at hl
  case makeSlice t l c => simp only [opA] at hl ⊢; rw [← h l (by simp), ← h c (by simp)]; exact hl
  case makeInterface t x => simp only [opA] at hl ⊢; rw [← h x (by simp)]; exact hl

theorem mem_tmpsOf {o : Oper} {t : Nat} : t ∈ tmpsOf o ↔ Operand.tmp t ∈ o.op.operands := by
  unfold tmpsOf
  rw [List.mem_filterMap]
  constructor
  · rintro ⟨x, hx, he⟩
    cases x <;> simp at he
    subst he
    simpa using hx
  · intro h
    exact ⟨.tmp t, by simpa using h, rfl⟩

theorem SemOp.congr {e e' : Env} {S : Heap} {o : Oper} {K : PV → Heap → Prop} (h' : ∀ x ∈ o.op.operands, ev e x = ev e' x) (hl : SemOp P e S o K) : SemOp P e' S o K :=
  fun w0 F0 mods F ρ w a hs he => hl w0 F0 mods F ρ w a hs fun x hx => by rw [h' x hx]; exact he x hx
theorem OpOk.mono {s : Sem Next} {w0 : World} {F0 mods F : Nat → Prop} {ρ : Nat → Option Nat} {S : Heap} {w : World} {K K' : PV → Heap → Prop} (h : OpOk P s w0 F0 mods F ρ S w K) (hk : ∀ v s, K v s → K' v s) : OpOk P s w0 F0 mods F ρ S w K' := by
  obtain ⟨nx, v, w', pv, S', F', ρ', h1, h2, h3, h4⟩ := h
  exact ⟨nx, v, w', pv, S', F', ρ', h1, h2, hk _ _ h3, h4⟩
theorem SemOp.mono {e : Env} {S : Heap} {o : Oper} {K K' : PV → Heap → Prop} (h : SemOp P e S o K) (hk : ∀ v s, K v s → K' v s) : SemOp P e S o K' :=
  fun w0 F0 mods F ρ w a hs he => (h w0 F0 mods F ρ w a hs he).mono hk

theorem execF_congr {e e' : Env} {S : Heap} {o : Oper} {K : PV → Heap → Prop} (h : ∀ t ∈ tmpsOf o, look e t = look e' t) (hl : execF P e S o K) : execF P e' S o K := by
  have h' : ∀ x ∈ o.op.operands, ev e x = ev e' x := fun x hx => ev_congr fun t ht => h t (mem_tmpsOf.2 (ht ▸ hx))
  rcases hl with hl | hl
  · refine Or.inl ?_
    unfold execF0 at hl ⊢
    split at hl
    · rename_i f args argTypes hop
      have : args.toList.map (ev e) = args.toList.map (ev e') := List.map_congr_left fun x hx => h' x (by rw [hop]; simp [Op.operands, Call.operands]; right; simpa using hx)
      rwa [← this]
    · exact hl.elim
    · exact opA_congr h' hl
  · obtain ⟨p, S', h1, h2, h3, h4⟩ := hl
    exact Or.inr ⟨p, S', h1.congr h', h2, fun a b S2 => (h3 a b S2).congr h', h4⟩

theorem execF_point {e : Env} {S : Heap} {o : Oper} {K : PV → Heap → Prop} (h : execF P e S o K) : ∃ v S', (∀ K' : PV → Heap → Prop, K' v S' → execF P e S o K') ∧ K v S' ∧ (isWr o.op = false → S' = S) ∧
    (isWr o.op = false → isRd o.op = false → ∀ S2 (K' : PV → Heap → Prop), K' v S2 → execF P e S2 o K') := by
  rcases h with h | h
  · unfold execF0 at h
    split at h
    · rename_i f args argTypes hop
      obtain ⟨p, S', h1, h2⟩ := h
      exact ⟨p, S', fun K' hK => Or.inl (by simp only [execF0, hop]; exact ⟨p, S', h1, hK⟩), h2, by simp [hop, isWr], by simp [hop, isWr]⟩
    · exact h.elim
    · rename_i hne1 hne2
      obtain ⟨v, S', h1, h2, h3, h4⟩ := opA_point h
      have key : ∀ (S2 : Heap) (K' : PV → Heap → Prop), opA P e S2 o.op K' → execF P e S2 o K' := fun S2 K' hK => by
        refine Or.inl ?_
        unfold execF0
        split
        · rename_i f args argTypes hop; exact absurd hop (hne1 f args argTypes)
        · rename_i x hop; exact absurd hop (hne2 x)
        · exact hK
      exact ⟨v, S', fun K' hK => key _ _ (h1 K' hK), h2, h3, fun a b S2 K' hK => key _ _ (h4 a b S2 K' hK)⟩
  · obtain ⟨p, S', h1, h2, h3, h4⟩ := h
    exact ⟨p, S', fun K' hK => Or.inr ⟨p, S', h1, h2, h3, hK⟩, h4, h2, fun a b S2 K' hK => Or.inr ⟨p, S2, h3 a b S2, fun _ => rfl, h3, hK⟩⟩

theorem opA_mono {e : Env} {S : Heap} {op : Op} {K K' : PV → Heap → Prop} (h : opA P e S op K) (hk : ∀ v s, K v s → K' v s) : opA P e S op K' := by
  obtain ⟨v, S', h1, h2, _, _⟩ := opA_point h
  exact h1 K' (hk _ _ h2)

theorem execA_of_opA {e : Env} {S : Heap} {o : Oper} {K : PV → Heap → Prop} {QP : PV → Heap → Prop} (h : opA P e S o.op K) : execA P e S o K QP := by
  refine Or.inl ?_
  unfold execA0
  split
  · rename_i f args argTypes hop; rw [hop] at h; simp only [opA] at h
  · rename_i x hop; rw [hop] at h; simp only [opA] at h
  · exact h

/-- From a point to what the walk in the world asks. -/
theorem execA_of_F {e : Env} {S : Heap} {o : Oper} {K : PV → Heap → Prop} {QP : PV → Heap → Prop} (h : execF P e S o K) : execA P e S o K QP := by
  rcases h with h | h
  case inr =>
    obtain ⟨p, S', h1, h2, h3, h4⟩ := h
    exact Or.inr (Or.inr (Or.inr (Or.inl (h1.mono fun v s hv => by obtain ⟨rfl, rfl⟩ := hv; exact h4))))
  by_cases hc : ∃ f args argTypes, o.op = .call { callee := .value (.func f), args := args, argTypes := argTypes }
  · obtain ⟨f, args, argTypes, hop⟩ := hc
    simp only [execF0, hop] at h
    refine Or.inl ?_
    simp only [execA0, hop]
    obtain ⟨p, S', h1, h2⟩ := h
    exact ⟨_, h1, fun r s hr => by obtain ⟨rfl, rfl⟩ := hr; exact fun _ => h2⟩
  · unfold execF0 at h
    split at h
    · rename_i f args argTypes hop; exact absurd ⟨f, args, argTypes, hop⟩ hc
    · exact h.elim
    · exact execA_of_opA h
end
end Go.Aw

/- Every order of a region comes to what the text's order comes to: the proof. -/
set_option linter.unusedVariables false
set_option linter.unusedSimpArgs false
namespace Go.Aw

/-- The value of the last one that is chosen and done. -/
def lastN {α : Type} (sel : Nat → Bool) (L : Nat → Bool) (val : Nat → α) (base : α) : Nat → α
  | 0 => base
  | i + 1 => if L i && sel i then val i else lastN sel L val base i

theorem lastN_lex {α : Type} {sel L : Nat → Bool} {val : Nat → α} {base : α} {i : Nat} : ∀ {m : Nat}, i ≤ m → (∀ j, j < m → sel j = true → (L j = true ↔ j < i)) →
    lastN sel L val base m = lastN sel (fun _ => true) val base i
  | 0, hi, h => by
    have : i = 0 := by omega
    subst this; rfl
  | m + 1, hi, h => by
    by_cases e : i = m + 1
    · subst e
      have key : ∀ k, k ≤ m + 1 → lastN sel L val base k = lastN sel (fun _ => true) val base k := by
        intro k
        induction k with
        | zero => intro _; rfl
        | succ k ih =>
          intro hk
          simp only [lastN]
          rw [ih (by omega)]
          cases hs : sel k with
          | false => simp
          | true => have := (h k (by omega) hs).2 (by omega); simp [this]
      exact key _ (Nat.le_refl _)
    · have hl : ¬ (L m && sel m) = true := by
        intro hc
        simp only [Bool.and_eq_true] at hc
        have := (h m (by omega) hc.2).1 hc.1
        omega
      simp only [lastN]
      rw [if_neg hl]
      exact lastN_lex (by omega) fun j hj => h j (by omega)

theorem lastN_done {α : Type} {sel L L' : Nat → Bool} {val : Nat → α} {base : α} {i : Nat} (hL : ∀ j, L' j = (L j || j == i)) (hs : sel i = true) : ∀ {m : Nat}, i < m → (∀ j, j < m → i < j → sel j = true → L j = false) →
    lastN sel L' val base m = val i
  | 0, hi, h => by omega
  | m + 1, hi, h => by
    simp only [lastN]
    by_cases e : i = m
    · subst e
      rw [if_pos (by simp [hL, hs])]
    · rw [if_neg ?_, lastN_done hL hs (by omega) fun j hj => h j (by omega)]
      simp only [hL, Bool.and_eq_true, Bool.or_eq_true, beq_iff_eq]
      rintro ⟨h1 | h1, h2⟩
      · have := h m (by omega) (by omega) h2; simp_all
      · omega

theorem lastN_same {α : Type} {sel L L' : Nat → Bool} {val : Nat → α} {base : α} {i : Nat} (hL : ∀ j, L' j = (L j || j == i)) (hs : sel i = false) : ∀ {m : Nat}, lastN sel L' val base m = lastN sel L val base m
  | 0 => rfl
  | m + 1 => by
    simp only [lastN]
    rw [lastN_same hL hs]
    by_cases e : m = i
    · subst e; simp [hs]
    · simp [hL, e]

theorem lastN_none {α : Type} {sel L : Nat → Bool} {val : Nat → α} {base : α} (hL : ∀ j, L j = false) : ∀ m, lastN sel L val base m = base
  | 0 => rfl
  | m + 1 => by
    simp only [lastN]
    rw [hL m, lastN_none hL m]
    simp

theorem getD_replicate_false (n i : Nat) : (Array.replicate n false).getD i false = false := by
  rw [Array.getD_eq_getD_getElem?, Array.getElem?_replicate]
  split <;> rfl

section
variable {P : Program}

/-- The text's order, step by step: the slots and the objects ahead of each. -/
structure Lex (P : Program) (ops : Array Oper) (pl : List Nat) (E : Nat → Env) (H : Nat → Heap) : Prop where
  step : ∀ i o, ops[i]? = some o → stepF P ops pl i o (fun e' S' => e' = E (i + 1) ∧ S' = H (i + 1)) (E i) (H i)
  other : ∀ i t, dstAt ops i ≠ some t → look (E (i + 1)) t = look (E i) t
  keep : ∀ i, wrAt ops pl i = false → H (i + 1) = H i

theorem look_put_ne {e : Env} {d : Option Nat} {v : PV} {t : Nat} (h : d ≠ some t) : look (put e d v) t = look e t := by
  cases d with
  | none => rfl
  | some s =>
    simp only [put, look]
    rw [if_neg (fun e => h (by rw [e]))]

theorem stepF_point {ops : Array Oper} {pl : List Nat} {i : Nat} {o : Oper} (ho : ops[i]? = some o) {K : Env → Heap → Prop} {e : Env} {S : Heap} (h : stepF P ops pl i o K e S) :
    ∃ e' S', stepF P ops pl i o (fun x y => x = e' ∧ y = S') e S ∧ K e' S' ∧ (∀ t, o.dst ≠ some t → look e' t = look e t) ∧ (wrAt ops pl i = false → S' = S) := by
  have hwr : ¬ pl.contains i = true → wrAt ops pl i = false → isWr o.op = false := fun hn h => by
    simp only [wrAt, ho] at h
    cases hw : isWr o.op with
    | false => rfl
    | true => rw [hw] at h; simp at h hn; exact absurd h hn
  unfold stepF at h
  split at h
  · rename_i hg
    split at h
    · rename_i hp
      obtain ⟨p, h1, h2⟩ := h
      refine ⟨_, S, ?_, h2, fun t ht => look_put_ne ht, fun _ => rfl⟩
      unfold stepF
      rw [hg]
      simp only
      rw [if_pos hp]
      exact ⟨p, h1, by simp⟩
    · rename_i hp
      obtain ⟨v, S', h1, h2, h3, _⟩ := execF_point h
      refine ⟨_, S', ?_, h2, fun t ht => look_put_ne ht, fun h => h3 (hwr hp h)⟩
      unfold stepF
      rw [hg]
      simp only
      rw [if_neg hp]
      exact h1 _ ⟨rfl, rfl⟩
  · rename_i j want hg
    split at h
    · rename_i t ht
      rcases h with ⟨hnp, h⟩ | ⟨b, hb, h1, h2⟩
      · refine ⟨_, S, ?_, h, fun s hs => look_put_ne hs, fun _ => rfl⟩
        unfold stepF
        rw [hg]
        simp only [ht]
        exact .inl ⟨hnp, by simp⟩
      have hlook : ∀ c, b = c → ∀ s, look ((t, PV.d (.b c)) :: e) s = look e s := fun c hc s => by
        simp only [look]
        by_cases hs : s = t
        · subst hs; rw [if_pos rfl, hb, hc]
        · rw [if_neg hs]
      by_cases hbw : b = want
      · have h1 := h1 hbw
        split at h1
        · rename_i hp
          obtain ⟨p, g1, g2⟩ := h1
          refine ⟨_, S, ?_, g2, fun s hs => (look_put_ne hs).trans (hlook _ hbw s), fun _ => rfl⟩
          unfold stepF
          rw [hg]
          simp only [ht]
          refine .inr ⟨b, hb, fun _ => ?_, fun hn => ?_⟩
          · rw [if_pos hp]; exact ⟨p, g1, by simp⟩
          · rw [hbw] at hn; cases want <;> simp at hn
        · rename_i hp
          obtain ⟨v, S', g1, g2, g3, _⟩ := execF_point h1
          refine ⟨_, S', ?_, g2, fun s hs => (look_put_ne hs).trans (hlook _ hbw s), fun h => g3 (hwr hp h)⟩
          unfold stepF
          rw [hg]
          simp only [ht]
          refine .inr ⟨b, hb, fun _ => ?_, fun hn => ?_⟩
          · rw [if_neg hp]; exact g1 _ ⟨rfl, rfl⟩
          · rw [hbw] at hn; cases want <;> simp at hn
      · have hbn : b = !want := by cases b <;> cases want <;> simp_all
        refine ⟨_, S, ?_, h2 hbn, fun s hs => (look_put_ne hs).trans (hlook _ hbn s), fun _ => rfl⟩
        unfold stepF
        rw [hg]
        simp only [ht]
        exact .inr ⟨b, hb, fun he => absurd he hbw, fun _ => by simp⟩
    · exact h.elim

/-- The whole list, cut into its steps. -/
theorem lex_of {ops : Array Oper} {pl : List Nat} {Q : Env → Heap → Prop} : ∀ (m i : Nat) (e : Env) (S : Heap), i + m = ops.size → opsF P ops pl Q (List.range' i m) e S →
    ∃ (E : Nat → Env) (H : Nat → Heap), E i = e ∧ H i = S ∧ (∀ k, i ≤ k → ∀ o, ops[k]? = some o → stepF P ops pl k o (fun e' S' => e' = E (k + 1) ∧ S' = H (k + 1)) (E k) (H k)) ∧
      (∀ k, i ≤ k → ∀ t, dstAt ops k ≠ some t → look (E (k + 1)) t = look (E k) t) ∧ (∀ k, i ≤ k → wrAt ops pl k = false → H (k + 1) = H k) ∧ Q (E ops.size) (H ops.size)
  | 0, i, e, S, hm, h => by
    refine ⟨fun _ => e, fun _ => S, rfl, rfl, fun k hk o ho => ?_, fun k hk t _ => rfl, fun k hk _ => rfl, h⟩
    have := (Array.getElem?_eq_some_iff.1 ho).1
    omega
  | m + 1, i, e, S, hm, h => by
    have hlt : i < ops.size := by omega
    have ho : ops[i]? = some ops[i] := Array.getElem?_eq_getElem hlt
    simp only [List.range'_succ, opsF, ho] at h
    obtain ⟨e', S', h1, h2, h3, h4⟩ := stepF_point ho h
    obtain ⟨E, H, g1, g2, g3, g4, g5, g6⟩ := lex_of m (i + 1) e' S' (by omega) h2
    refine ⟨fun k => if k = i then e else E k, fun k => if k = i then S else H k, by simp, by simp, fun k hk o hok => ?_, fun k hk t ht => ?_, fun k hk hw => ?_, by show Q (if ops.size = i then e else E ops.size) (if ops.size = i then S else H ops.size); rw [if_neg (by omega), if_neg (by omega)]; exact g6⟩
    · by_cases e1 : k = i
      · subst e1
        rw [ho] at hok; cases hok
        simp only [if_true, if_neg (show ¬ k + 1 = k by omega), g1, g2]
        exact h1
      · simp only [if_neg e1, if_neg (show ¬ k + 1 = i by omega)]
        exact g3 k (by omega) o hok
    · by_cases e1 : k = i
      · subst e1
        simp only [if_true, if_neg (show ¬ k + 1 = k by omega), g1]
        exact h3 t (by simpa [dstAt, ho] using ht)
      · simp only [if_neg e1, if_neg (show ¬ k + 1 = i by omega)]
        exact g4 k (by omega) t ht
    · by_cases e1 : k = i
      · subst e1
        simp only [if_true, if_neg (show ¬ k + 1 = k by omega), g2]
        exact h4 hw
      · simp only [if_neg e1, if_neg (show ¬ k + 1 = i by omega)]
        exact g5 k (by omega) hw

/-- The slots as they stand when the operations L have been carried out. -/
def envL (ops : Array Oper) (E : Nat → Env) (L : Nat → Bool) : Nat → Env
  | 0 => E 0
  | i + 1 => if L i = true then put (envL ops E L i) (dstAt ops i) (look (E (i + 1)) ((dstAt ops i).getD 0)) else envL ops E L i

def selT (ops : Array Oper) (t : Nat) (i : Nat) : Bool := decide (dstAt ops i = some t)

theorem look_envL {ops : Array Oper} {E : Nat → Env} {L : Nat → Bool} {t : Nat} : ∀ m, look (envL ops E L m) t = lastN (selT ops t) L (fun i => look (E (i + 1)) t) (look (E 0) t) m
  | 0 => rfl
  | m + 1 => by
    have ih := look_envL (ops := ops) (E := E) (L := L) (t := t) m
    simp only [envL, lastN, selT, Bool.and_eq_true, decide_eq_true_eq]
    by_cases hL : L m = true
    · rw [if_pos hL]
      by_cases hd : dstAt ops m = some t
      · rw [if_pos ⟨hL, hd⟩, hd]
        simp [put, look]
      · rw [if_neg (fun h => hd h.2), look_put_ne hd]
        exact ih
    · rw [if_neg hL, if_neg (fun h => hL h.1)]
      exact ih

theorem look_lex {ops : Array Oper} {E : Nat → Env} (hother : ∀ i t, dstAt ops i ≠ some t → look (E (i + 1)) t = look (E i) t) (t : Nat) : ∀ i, lastN (selT ops t) (fun _ => true) (fun i => look (E (i + 1)) t) (look (E 0) t) i = look (E i) t
  | 0 => rfl
  | i + 1 => by
    simp only [lastN, selT, Bool.true_and]
    by_cases h : dstAt ops i = some t
    · rw [if_pos (by simp [h])]
    · rw [if_neg (by simpa using h), hother i t h]
      exact look_lex hother t i

def heapL (ops : Array Oper) (pl : List Nat) (H : Nat → Heap) (L : Nat → Bool) (m : Nat) : Heap := lastN (wrAt ops pl) L (fun i => H (i + 1)) (H 0) m

theorem heap_lex {ops : Array Oper} {pl : List Nat} {H : Nat → Heap} (hkeep : ∀ i, wrAt ops pl i = false → H (i + 1) = H i) : ∀ i, lastN (wrAt ops pl) (fun _ => true) (fun i => H (i + 1)) (H 0) i = H i
  | 0 => rfl
  | i + 1 => by
    simp only [lastN, Bool.true_and]
    by_cases h : wrAt ops pl i = true
    · rw [if_pos h]
    · rw [if_neg h, hkeep i (by simpa using h)]
      exact heap_lex hkeep i

theorem Inv.look {G : Ghost} {e e' : Env} {S : Heap} {a : Act} {w : World} (h : Inv G e S a w) (hl : ∀ t, look e' t = look e t) : Inv G e' S a w := by
  obtain ⟨F, ρ, hi⟩ := h
  exact ⟨F, ρ, hi.st, fun t => by rw [hl t]; exact hi.env t, hi.keeps, hi.nt, hi.defers⟩

theorem anc_listed {ops : Array Oper} {A : Nat → Nat → Bool} (hA : ancOk ops A = true) {L : Nat → Bool} (hdown : ∀ i o, ops[i]? = some o → L i = true → ∀ e ∈ o.after, Region.binds .any e = true → L e.on = true) :
    ∀ (i j : Nat), j < ops.size → A j i = true → (∀ o, ops[i]? = some o → ∀ e ∈ o.after, Region.binds .any e = true → L e.on = true) → i < ops.size → L j = true := by
  intro i
  induction i using Nat.strongRecOn with
  | _ i ih =>
    intro j hj haj hdeps hi
    have ho : ops[i]? = some ops[i] := Array.getElem?_eq_getElem hi
    have h1 := List.all_eq_true.1 hA i (List.mem_range.2 hi)
    rw [ho] at h1
    simp only [Bool.and_eq_true] at h1
    have h2 := List.all_eq_true.1 h1.2 j (List.mem_range.2 hj)
    simp only [haj, Bool.not_true, Bool.false_or] at h2
    obtain ⟨e, he, h3⟩ := List.any_eq_true.1 h2
    simp only [Bool.and_eq_true, Bool.or_eq_true, beq_iff_eq] at h3
    have hea : e ∈ ops[i].after := by simpa using he
    have hlt : e.on < i := by
      have := List.all_eq_true.1 h1.1 e he
      simp only [h3.1, Bool.not_true, Bool.false_or, decide_eq_true_eq] at this
      exact this
    have hl := hdeps _ ho e hea h3.1
    rcases h3.2 with h4 | h4
    · rw [← h4]; exact hl
    · exact ih e.on hlt j hj h4 (fun o' ho' e' he' hb' => hdown e.on o' ho' hl e' he' hb') (by omega)

/-- The look's own word: two that may meet are ordered. -/
theorem chk_meet {ops : Array Oper} {pl : List Nat} {A : Nat → Nat → Bool} (h : ((List.range ops.size).all fun i => (List.range i).all fun j => !(meetB ops pl i j || meetB ops pl j i) || A j i) = true) {i j : Nat} (hi : i < ops.size) (hj : j < ops.size)
    (hm : meetB ops pl i j = true ∨ meetB ops pl j i = true) (hne : i ≠ j) : (j < i ∧ A j i = true) ∨ (i < j ∧ A i j = true) := by
  rcases Nat.lt_or_ge j i with hlt | hge
  · left
    have := List.all_eq_true.1 (List.all_eq_true.1 h i (List.mem_range.2 hi)) j (List.mem_range.2 hlt)
    rcases hm with hm | hm <;> simp [hm] at this <;> exact ⟨hlt, this⟩
  · right
    have hlt : i < j := by omega
    have := List.all_eq_true.1 (List.all_eq_true.1 h j (List.mem_range.2 hj)) i (List.mem_range.2 hlt)
    rcases hm with hm | hm <;> simp [hm] at this <;> exact ⟨hlt, this⟩

theorem draw_sound {k nt id : Nat} {ops : Array Oper} {Q : Post} {e : Env} {S : Heap} (pl : List Nat) (hm : P.follows .mixedOrders = true) (hc : drawChk ops pl = true) (hd : ops.all (dstOk nt) = true)
    (h : opsF P ops pl (Q .normal) (List.range ops.size) e S) : DrawA P k nt id ops Q e S := by
  intro G a w hk hn hi
  simp only [drawChk, Bool.and_eq_true] at hc
  obtain ⟨hA, hmeet⟩ := hc
  rw [List.range_eq_range'] at h
  obtain ⟨E, H, hE0, hH0, hstep0, hother0, hkeep0, hQ⟩ := lex_of ops.size 0 e S (by omega) h
  have hstep := fun i => hstep0 i (Nat.zero_le i)
  have hother := fun i => hother0 i (Nat.zero_le i)
  have hkeep := fun i => hkeep0 i (Nat.zero_le i)
  refine wp_region_any hm ?_
  have key : ∀ (fuel : Nat) (listed : Array Bool) (a : Act) (w : World), listed.size = ops.size → (∀ i o, ops[i]? = some o → listed.getD i false = true → ∀ e ∈ o.after, Region.binds .any e = true → listed.getD e.on false = true) →
      Inv G (envL ops E (fun i => listed.getD i false) ops.size) (heapL ops pl H (fun i => listed.getD i false) ops.size) a w →
      ((List.range ops.size).filter (fun i => !listed.getD i false)).length ≤ fuel → wpAny P .any ops (liftQ G Q) fuel listed a w := by
    intro fuel
    induction fuel with
    | zero =>
      intro listed a w hsz hdown hinv hcnt
      have hall : ∀ i, i < ops.size → listed.getD i false = true := fun i hi => by
        cases hL : listed.getD i false with
        | true => rfl
        | false =>
          have : i ∈ (List.range ops.size).filter (fun i => !listed.getD i false) := by rw [List.mem_filter]; exact ⟨List.mem_range.2 hi, by rw [hL]; rfl⟩
          have := List.length_pos_of_mem this
          omega
      refine ⟨?_, ?_⟩
      · refine List.eq_nil_iff_forall_not_mem.2 fun i hi => ?_
        obtain ⟨h1, o, h2, _⟩ := mem_ready.1 hi
        have hlt := (Array.getElem?_eq_some_iff.1 h2).1
        have := hall i hlt
        simp [hsz, hlt] at h1 this
        rw [h1] at this; cases this
      · refine ⟨E ops.size, H ops.size, hQ, ?_⟩
        have e1 : heapL ops pl H (fun i => listed.getD i false) ops.size = H ops.size := by
          rw [← heap_lex hkeep ops.size]
          exact lastN_lex (Nat.le_refl _) fun j hj _ => ⟨fun _ => hj, fun _ => hall j hj⟩
        rw [e1] at hinv
        refine hinv.look fun t => ?_
        rw [look_envL, ← look_lex hother t ops.size]
        exact (lastN_lex (Nat.le_refl _) fun j hj _ => ⟨fun _ => hj, fun _ => hall j hj⟩).symm
    | succ fuel ih =>
      intro listed a w hsz hdown hinv hcnt
      let L : Nat → Bool := fun i => listed.getD i false
      refine ⟨fun hnil => ?_, fun i hi => ?_⟩
      · -- nothing is ready: all is done
        have hall : ∀ i, i < ops.size → L i = true := by
          intro i
          induction i using Nat.strongRecOn with
          | _ i ihi =>
            intro hi
            cases hL : L i with
            | true => rfl
            | false =>
              have ho : ops[i]? = some ops[i] := Array.getElem?_eq_getElem hi
              have : i ∈ Region.ready .any ops listed := mem_ready.2 ⟨by simp only [L] at hL; simp [hsz, hi] at hL ⊢; exact hL, _, ho, fun e he hb => by
                have h1 := List.all_eq_true.1 hA i (List.mem_range.2 hi)
                rw [ho] at h1
                simp only [Bool.and_eq_true] at h1
                have := List.all_eq_true.1 h1.1 e (by simpa using he)
                simp only [hb, Bool.not_true, Bool.false_or, decide_eq_true_eq] at this
                exact ihi e.on this (by omega)⟩
              rw [hnil] at this; cases this
        refine ⟨E ops.size, H ops.size, hQ, ?_⟩
        have e1 : heapL ops pl H (fun i => listed.getD i false) ops.size = H ops.size := by
          rw [← heap_lex hkeep ops.size]
          exact lastN_lex (Nat.le_refl _) fun j hj _ => ⟨fun _ => hj, fun _ => hall j hj⟩
        rw [e1] at hinv
        refine hinv.look fun t => ?_
        rw [look_envL, ← look_lex hother t ops.size]
        exact (lastN_lex (Nat.le_refl _) fun j hj _ => ⟨fun _ => hj, fun _ => hall j hj⟩).symm
      · obtain ⟨hun, o, ho, hdeps⟩ := mem_ready.1 hi
        have hlt := (Array.getElem?_eq_some_iff.1 ho).1
        have hun' : L i = false := by simp only [L]; simp [hsz, hlt] at hun ⊢; exact hun
        -- who may meet i has been done just if it stands ahead of it
        have hord : ∀ j, j < ops.size → j ≠ i → (meetB ops pl i j = true ∨ meetB ops pl j i = true) → (L j = true ↔ j < i) := by
          intro j hj hne hmj
          rcases chk_meet hmeet hlt hj hmj (Ne.symm hne) with ⟨h1, h2⟩ | ⟨h1, h2⟩
          · refine ⟨fun _ => h1, fun _ => ?_⟩
            exact anc_listed hA (L := L) hdown i j hj h2 (fun o' ho' => by rw [ho] at ho'; cases ho'; exact hdeps) hlt
          · refine ⟨fun hLj => ?_, fun hji => by omega⟩
            have oj : ops[j]? = some ops[j] := Array.getElem?_eq_getElem hj
            have := anc_listed hA (L := L) hdown j i hlt h2 (fun o' ho' e' he' hb' => hdown j o' ho' hLj e' he' hb') hj
            rw [hun'] at this; cases this
        have hdsti : dstAt ops i = o.dst := by simp [dstAt, ho]
        have hwri : ¬ pl.contains i = true → wrAt ops pl i = isWr o.op := fun hn => by
          simp only [wrAt, ho]
          cases hc : pl.contains i with
          | false => simp
          | true => exact absurd hc hn
        have hwrp : pl.contains i = true → wrAt ops pl i = false := fun hn => by simp only [wrAt, ho, hn]; simp
        -- a slot that i names holds what it holds in the text's order
        have hslot : ∀ t ∈ namesOf ops o, t ∉ o.dst.toList → look (envL ops E L ops.size) t = look (E i) t := by
          intro t ht hnd
          rw [look_envL, ← look_lex hother t i]
          refine lastN_lex (Nat.le_of_lt hlt) fun j hj hs => ?_
          have hs' : dstAt ops j = some t := by simpa [selT] using hs
          refine hord j hj (fun e => ?_) (.inr ?_)
          · subst e; rw [hdsti] at hs'; exact hnd (by simp [hs'])
          · have oj : ops[j]? = some ops[j] := Array.getElem?_eq_getElem hj
            have hdj : ops[j].dst = some t := by simpa [dstAt, oj] using hs'
            simp only [meetB, oj, ho, hdj, Bool.or_eq_true]
            left
            simpa using ht
        have hslot' : ∀ t ∈ tmpsOf o ++ guardSlot ops o, look (envL ops E L ops.size) t = look (E i) t := by
          intro t ht
          by_cases hd' : t ∈ o.dst.toList
          · -- the slot is i's own: read ahead of being written
            have hdt : o.dst = some t := by simpa using hd'
            rw [look_envL, ← look_lex hother t i]
            refine lastN_lex (Nat.le_of_lt hlt) fun j hj hs => ?_
            have hs' : dstAt ops j = some t := by simpa [selT] using hs
            by_cases e : j = i
            · subst e; rw [hun']; simp
            · refine hord j hj e (.inr ?_)
              have oj : ops[j]? = some ops[j] := Array.getElem?_eq_getElem hj
              have hdj : ops[j].dst = some t := by simpa [dstAt, oj] using hs'
              simp only [meetB, oj, ho, hdj, Bool.or_eq_true]
              left
              simp [namesOf, hdt]
          · exact hslot t (by unfold namesOf; exact List.mem_append_left _ ht) hd'
        -- the objects, for who reads or writes them
        have hheap : rwAt ops pl i = true → heapL ops pl H L ops.size = H i := by
          intro hrw
          unfold heapL
          rw [← heap_lex hkeep i]
          refine lastN_lex (Nat.le_of_lt hlt) fun j hj hs => ?_
          by_cases e : j = i
          · subst e; rw [hun']; simp
          · refine hord j hj e (.inr ?_)
            have oj : ops[j]? = some ops[j] := Array.getElem?_eq_getElem hj
            simp only [meetB, oj, ho, Bool.or_eq_true]
            right
            simp [hs, hrw]
        let L' : Nat → Bool := fun j => (listed.setIfInBounds i true).getD j false
        have hL' : ∀ j, L' j = (L j || j == i) := by
          intro j
          simp only [L', L]
          by_cases e : j = i
          · subst e; simp [hsz, hlt]
          · simp [Array.getElem?_setIfInBounds_ne (Ne.symm e), e]
        -- behind it
        have hafterE : ∀ t, look (envL ops E L' ops.size) t = if o.dst = some t then look (E (i + 1)) t else look (envL ops E L ops.size) t := by
          intro t
          rw [look_envL, look_envL]
          by_cases hdt : o.dst = some t
          · rw [if_pos hdt]
            refine lastN_done hL' (by simp [selT, hdsti, hdt]) hlt fun j hj hij hs => ?_
            have hs' : dstAt ops j = some t := by simpa [selT] using hs
            have hj' := (hord j hj (by omega) (.inr (by
              have oj : ops[j]? = some ops[j] := Array.getElem?_eq_getElem hj
              have hdj : ops[j].dst = some t := by simpa [dstAt, oj] using hs'
              simp only [meetB, oj, ho, hdj, Bool.or_eq_true]
              left
              simp [namesOf, hdt])))
            cases hLj : L j with
            | false => rfl
            | true => have := hj'.1 hLj; omega
          · rw [if_neg hdt]
            exact lastN_same hL' (by simp [selT, hdsti, hdt])
        have hafterH : heapL ops pl H L' ops.size = if wrAt ops pl i = true then H (i + 1) else heapL ops pl H L ops.size := by
          unfold heapL
          by_cases hw : wrAt ops pl i = true
          · rw [if_pos hw]
            refine lastN_done hL' hw hlt fun j hj hij hs => ?_
            have hj' := hord j hj (by omega) (.inr (by
              have oj : ops[j]? = some ops[j] := Array.getElem?_eq_getElem hj
              simp only [meetB, oj, ho, Bool.or_eq_true]
              right
              have hw2 := hw
              simp only [wrAt, ho, Bool.and_eq_true] at hw2
              have hr : rwAt ops pl i = true := by simp only [rwAt, ho, hw2.1, hw2.2]; rfl
              simp [hs, hr]))
            cases hLj : L j with
            | false => rfl
            | true => have := hj'.1 hLj; omega
          · rw [if_neg hw]
            exact lastN_same hL' (by simpa using hw)
        -- one step, where the world stands
        have hone : ∀ (e1 e2 : Env) (v : PV) (S' : Heap), (∀ t ∈ tmpsOf o, look e1 t = look e2 t) → True := fun _ _ _ _ _ => trivial
        have htmps : ∀ t ∈ tmpsOf o, look (E i) t = look (envL ops E L ops.size) t := fun t ht => (hslot' t (List.mem_append_left _ ht)).symm
        have trans : ∀ (e1 e2 : Env), (∀ t ∈ tmpsOf o, look e1 t = look e2 t) → ∀ (v : PV) (S' : Heap),
            (if pl.contains i then (∀ S2, execF P e1 S2 o (fun x y => x = v ∧ y = S2)) ∧ S' = H i else execF P e1 (H i) o (fun x y => x = v ∧ y = S')) →
            ∀ (K : PV → Heap → Prop) (QP : PV → Heap → Prop), K v (if wrAt ops pl i = true then S' else heapL ops pl H L ops.size) → execA P e2 (heapL ops pl H L ops.size) o K QP := by
          intro e1 e2 he v S' hv K QP hK
          split at hv
          · rename_i hp
            obtain ⟨h1, rfl⟩ := hv
            rw [if_neg (by rw [hwrp hp]; simp)] at hK
            obtain ⟨v', S'', g1, ⟨rfl, rfl⟩, _⟩ := execF_point (h1 (heapL ops pl H L ops.size))
            exact execA_of_F (execF_congr he (g1 K hK))
          · rename_i hp
            obtain ⟨v', S'', g1, ⟨rfl, rfl⟩, g3, g4⟩ := execF_point hv
            by_cases hrw : rwAt ops pl i = true
            · have hh := hheap hrw
              rw [hh]
              refine execA_of_F (execF_congr he (g1 K ?_))
              by_cases hw : wrAt ops pl i = true
              · rwa [if_pos hw] at hK
              · rw [if_neg hw, hh] at hK
                rw [g3 (by rw [hwri hp] at hw; simpa using hw)]; exact hK
            · have hrw' : isWr o.op = false ∧ isRd o.op = false := by
                have hpf : pl.contains i = false := by simpa using hp
                simp only [rwAt, ho, hpf, Bool.not_false, Bool.and_true, Bool.or_eq_true, not_or] at hrw
                exact ⟨by simpa using hrw.1, by simpa using hrw.2⟩
              rw [if_neg (by rw [hwri hp, hrw'.1]; simp)] at hK
              exact execA_of_F (execF_congr he (g4 hrw'.1 hrw'.2 (heapL ops pl H L ops.size) K hK))
        have hput : ∀ (e1 e2 : Env) (v : PV), put e1 o.dst v = E (i + 1) → (∀ t, look e2 t = look (envL ops E L ops.size) t) → ∀ t, look (envL ops E L' ops.size) t = look (put e2 o.dst v) t := by
          intro e1 e2 v hv he2 t
          rw [hafterE t]
          cases hdo : o.dst with
          | none => simp [put, he2]
          | some d =>
            by_cases e : t = d
            · subst e
              rw [hdo] at hv
              rw [if_pos rfl, ← hv]
              simp [put, look]
            · rw [if_neg (by simpa using fun h => e h.symm)]
              simp only [put, look, if_neg e, he2]
        have hS' : ∀ S', S' = H (i + 1) → (if wrAt ops pl i = true then S' else heapL ops pl H L ops.size) = heapL ops pl H L' ops.size := by
          rintro S' rfl; rw [hafterH]
        have hstepA : stepA P ops o (fun e' S' => (∀ t, look (envL ops E L' ops.size) t = look e' t) ∧ S' = heapL ops pl H L' ops.size) Q (envL ops E L ops.size) (heapL ops pl H L ops.size) := by
          have hs := hstep i o ho
          unfold stepF at hs
          unfold stepA
          split at hs
          · rename_i hg
            simp only [hg]
            split at hs
            · rename_i hp
              obtain ⟨p, h1, h2, h3⟩ := hs
              refine trans _ _ htmps p (H i) (by rw [if_pos hp]; exact ⟨h1, rfl⟩) _ _ ?_
              exact ⟨hput _ _ p h2 (fun _ => rfl), hS' _ h3⟩
            · rename_i hp
              obtain ⟨v, S', h1, ⟨h2, h3⟩, _⟩ := execF_point hs
              refine trans _ _ htmps v S' (by rw [if_neg hp]; exact h1 _ ⟨rfl, rfl⟩) _ _ ?_
              exact ⟨hput _ _ v h2 (fun _ => rfl), hS' _ h3⟩
          · rename_i j want hg
            split at hs
            · rename_i t ht
              have hgt : t ∈ guardSlot ops o := by simp [guardSlot, hg, ht]
              rcases hs with ⟨hnp, g2, g3⟩ | ⟨b, hb, h1, h2⟩
              · have hbL : look (envL ops E L ops.size) t = .tup [] := by rw [hslot' t (List.mem_append_right _ hgt)]; exact hnp
                simp only [hg, ht]
                refine Or.inl ⟨hbL, hput _ _ (.tup []) g2 (fun _ => rfl), ?_⟩
                rw [hafterH]
                by_cases hw : wrAt ops pl i = true
                · rw [if_pos hw, ← g3]
                  simp only [wrAt, ho, Bool.and_eq_true] at hw
                  exact hheap (by simp only [rwAt, ho, hw.1, hw.2]; simp)
                · rw [if_neg hw]
              have hbL : look (envL ops E L ops.size) t = .d (.b b) := by rw [hslot' t (List.mem_append_right _ hgt)]; exact hb
              have hlk : ∀ c, b = c → ∀ (e0 : Env), look e0 t = .d (.b b) → ∀ s, look ((t, PV.d (.b c)) :: e0) s = look e0 s := fun c hc e0 he0 s => by
                simp only [look]
                by_cases hs : s = t
                · subst hs; rw [if_pos rfl, he0, hc]
                · rw [if_neg hs]
              simp only [hg, ht]
              refine Or.inr ⟨b, hbL, fun hbw => ?_, fun hbn => ?_⟩
              · have h1 := h1 hbw
                have he : ∀ s ∈ tmpsOf o, look ((t, PV.d (.b want)) :: E i) s = look ((t, PV.d (.b want)) :: envL ops E L ops.size) s := fun s hs => by
                  rw [hlk _ hbw _ hb, hlk _ hbw _ hbL]; exact htmps s hs
                split at h1
                · rename_i hp
                  obtain ⟨p, g1, g2, g3⟩ := h1
                  refine trans _ _ he p (H i) (by rw [if_pos hp]; exact ⟨g1, rfl⟩) _ _ ?_
                  exact ⟨hput _ _ p g2 (hlk _ hbw _ hbL), hS' _ g3⟩
                · rename_i hp
                  obtain ⟨v, S', g1, ⟨g2, g3⟩, _⟩ := execF_point h1
                  refine trans _ _ he v S' (by rw [if_neg hp]; exact g1 _ ⟨rfl, rfl⟩) _ _ ?_
                  exact ⟨hput _ _ v g2 (hlk _ hbw _ hbL), hS' _ g3⟩
              · obtain ⟨g2, g3⟩ := h2 hbn
                refine ⟨hput _ _ (.tup []) g2 (hlk _ hbn _ hbL), ?_⟩
                rw [hafterH]
                by_cases hw : wrAt ops pl i = true
                · rw [if_pos hw, ← g3]
                  simp only [wrAt, ho, Bool.and_eq_true] at hw
                  exact hheap (by simp only [rwAt, ho, hw.1, hw.2]; simp)
                · rw [if_neg hw]
            · exact hs.elim
        refine stepA_sound hinv ho (by
            have := Array.all_eq_true_iff_forall_mem.1 hd o (Array.mem_of_getElem? ho)
            rw [hn]; exact this) hstepA fun e' S' a' w' hke hi' => ?_
        obtain ⟨hke1, rfl⟩ := hke
        refine ih (listed.setIfInBounds i true) a' w' (by simpa using hsz) ?_ (hi'.look hke1) ?_
        · intro j oj hoj hLj e' he' hb'
          have h1 : L' j = true := hLj
          rw [hL'] at h1
          have h2 : L' e'.on = true := by
            rw [hL']
            simp only [Bool.or_eq_true, beq_iff_eq] at h1 ⊢
            rcases h1 with h1 | h1
            · exact .inl (hdown j oj hoj h1 e' he' hb')
            · subst h1
              rw [ho] at hoj; cases hoj
              exact .inl (hdeps e' he' hb')
          exact h2
        · have hsub : (List.range ops.size).filter (fun j => !L' j) = ((List.range ops.size).filter (fun j => !L j)).filter (fun j => !(j == i)) := by
            rw [List.filter_filter]
            apply List.filter_congr
            intro j _
            rw [hL']
            cases L j <;> cases hji : (j == i) <;> rfl
          have hmem : i ∈ (List.range ops.size).filter (fun j => !L j) := by rw [List.mem_filter]; exact ⟨List.mem_range.2 hlt, by rw [hun']; rfl⟩
          show ((List.range ops.size).filter (fun j => !L' j)).length ≤ fuel
          rw [hsub]
          have : (((List.range ops.size).filter (fun j => !L j)).filter (fun j => !(j == i))).length < ((List.range ops.size).filter (fun j => !L j)).length :=
            List.length_filter_lt_length_iff_exists.2 ⟨i, hmem, by simp⟩
          have hc2 : ((List.range ops.size).filter (fun j => !L j)).length ≤ fuel + 1 := hcnt
          omega
  refine key ops.size _ a _ (by simp) (fun i o ho hL => ?_) ?_ ?_
  · have h0 : (Array.replicate ops.size false).getD i false = false := getD_replicate_false _ _
    rw [h0] at hL; cases hL
  · have hno : ∀ j, (Array.replicate ops.size false).getD j false = false := fun j => getD_replicate_false _ _
    have e1 : heapL ops pl H (fun i => (Array.replicate ops.size false).getD i false) ops.size = S := by
      unfold heapL
      rw [lastN_none hno, hH0]
    rw [e1]
    have hi' : Inv G e S a { w with drawn := w.drawn + 1 } := by
      obtain ⟨F, ρ, hi⟩ := hi
      have hkp : Keeps w { w with drawn := w.drawn + 1 } F F ρ ρ (info S) (info S) := keeps_heap (w := w) (w' := { w with drawn := w.drawn + 1 }) rfl F ρ (info S)
      exact ⟨F, ρ, hi.st.drew, fun t => (hi.env t).keeps hkp, hi.keeps.trans hkp, hi.nt, hi.defers⟩
    refine hi'.look fun t => ?_
    rw [look_envL]
    rw [lastN_none hno, hE0]
  · exact Nat.le_trans (List.length_filter_le _ _) (by simp)
end
end Go.Aw

/- Operations on arrays, maps and parts of own rows. -/
set_option linter.unusedVariables false
set_option linter.unusedSimpArgs false
namespace Go.Aw

def pushO (w : World) (ob : Obj) : World := { w with heap := w.heap.push ob }
def setO (w : World) (b : Nat) (ob : Obj) : World := { w with heap := w.heap.setIfInBounds b ob }
def obSize : Obj → Nat
  | .cells c _ _ => c.size
  | _ => 0
theorem blockSize_of {w : World} {b : Nat} {ob : Obj} (h : w.heap[b]? = some ob) : blockSize w b = obSize ob := by
  unfold blockSize obSize
  rw [h]
  cases ob <;> rfl

section
variable {P : Program} {w0 : World} {F0 mods F : Nat → Prop} {ρ : Nat → Option Nat} {S : Heap} {w : World} {K : PV → Heap → Prop}

theorem get_pushO (w : World) (ob : Obj) : (pushO w ob).heap[w.heap.size]? = some ob := by
  simp only [pushO, Array.getElem?_push, if_pos]
theorem same_pushO (w : World) (ob : Obj) {b : Nat} (h : b < w.heap.size) : (pushO w ob).heap[b]? = w.heap[b]? := by
  simp only [pushO, Array.getElem?_push]
  rw [if_neg (by omega)]
theorem blockSize_pushO (w : World) (ob : Obj) (b : Nat) : blockSize w b ≤ blockSize (pushO w ob) b := by
  by_cases h : b < w.heap.size
  · unfold blockSize; rw [same_pushO w ob h]; exact Nat.le_refl _
  · have : w.heap[b]? = none := by simp; omega
    unfold blockSize
    rw [this]
    exact Nat.zero_le _

theorem St.keeps_pushO (h : St w0 F0 mods F ρ S w) (ob : Obj) (x : Ob) :
    Keeps w (pushO w ob) F F ρ (Rho ρ S.length (some w.heap.size)) (info S) (info (S ++ [x])) where
  same := fun b hb => same_pushO w ob (h.bound b hb)
  sub := fun b hb => hb
  size := blockSize_pushO w ob
  old := fun o ho => by rw [info_append ho]; exact ho
  box := fun o ho hx => by
    rw [info_append ho] at hx
    exact ⟨hx, by have := info_lt ho; simp [Rho]; omega⟩
  buf := fun o m ho hx => by
    rw [info_append ho] at hx
    exact ⟨m, hx, Nat.le_refl _, fun _ => by have := info_lt ho; simp [Rho]; omega⟩

/-- A new object of any kind in a new block. -/
theorem St.pushO (h : St w0 F0 mods F ρ S w) (ob : Obj) (x : Ob)
    (hx : RepOb (Aw.pushO w ob) F (Rho ρ S.length (some w.heap.size)) (info (S ++ [x])) S.length x) :
    St w0 F0 mods F (Rho ρ S.length (some w.heap.size)) (S ++ [x]) (Aw.pushO w ob) := by
  have hk := h.keeps_pushO ob x
  have live : ∀ o b, Lives (S ++ [x]) (Rho ρ S.length (some w.heap.size)) o b → (o = S.length ∧ b = w.heap.size) ∨ (o < S.length ∧ Lives S ρ o b) := by
    rintro o b ⟨h1, y, h2, h3⟩
    by_cases e : o = S.length
    · left; subst e; simp [Rho] at h1; exact ⟨rfl, h1.symm⟩
    · right
      have hl : o < S.length := by
        rcases Nat.lt_or_ge o S.length with hl | hl
        · exact hl
        · rw [List.getElem?_append_right hl] at h2
          have : o - S.length ≠ 0 := by omega
          obtain ⟨k, hk⟩ : ∃ k, o - S.length = k + 1 := ⟨o - S.length - 1, by omega⟩
          rw [hk] at h2
          simp at h2
      rw [List.getElem?_append_left hl] at h2
      simp only [Rho, if_neg e] at h1
      exact ⟨hl, h1, y, h2, h3⟩
  have lt : ∀ o b, Lives S ρ o b → b < w.heap.size := fun o b hl => h.lives_lt hl
  refine ⟨?_, ?_, ?_, ?_, ?_, ?_, h.os, h.tape, h.output, ?_, ?_, h.f0, h.fnew⟩
  · intro o y hy
    by_cases e : o = S.length
    · subst e
      simp at hy
      subst hy
      exact hx
    · have hl : o < S.length := by
        have := (List.getElem?_eq_some_iff.1 hy).1
        simp at this; omega
      rw [List.getElem?_append_left hl] at hy
      refine (h.objs o y hy).keeps hk (by simp [Rho, e]) fun b hb hng => same_pushO w ob (lt o b ⟨hb, y, hy, hng⟩)
  · intro o o' b h1 h2
    rcases live o b h1 with ⟨e1, e2⟩ | ⟨l1, l2⟩ <;> rcases live o' b h2 with ⟨e1', e2'⟩ | ⟨l1', l2'⟩
    · omega
    · have := lt o' b l2'; omega
    · have := lt o b l2; omega
    · exact h.inj o o' b l2 l2'
  · intro o b h1 hf
    rcases live o b h1 with ⟨e1, e2⟩ | ⟨l1, l2⟩
    · have := h.bound b hf; omega
    · exact h.notF o b l2 hf
  · intro b hb; have := h.bound b hb; simp [Aw.pushO]; omega
  · intro o b h1
    rcases live o b h1 with ⟨e1, e2⟩ | ⟨l1, l2⟩
    · right; have := h.grow; omega
    · exact h.mine o b l2
  · have := h.grow; simp [Aw.pushO]; omega
  · intro b hb hm
    rw [same_pushO w ob (by have := h.grow; omega)]
    exact h.keep b hb hm
  · intro b; exact Nat.le_trans (h.bsize b) (blockSize_pushO w ob b)

theorem setO_ne (w : World) (b : Nat) (ob : Obj) {c : Nat} (h : c ≠ b) : (setO w b ob).heap[c]? = w.heap[c]? := by
  simp only [setO, Array.getElem?_setIfInBounds_ne (Ne.symm h)]
theorem setO_eq (w : World) (b : Nat) (ob : Obj) (h : b < w.heap.size) : (setO w b ob).heap[b]? = some ob := by simp [setO, h]
theorem setO_size (w : World) (b : Nat) (ob : Obj) : (setO w b ob).heap.size = w.heap.size := by simp [setO]

theorem St.keeps_setO (h : St w0 F0 mods F ρ S w) {o b : Nat} {ob ob' : Obj} {x y : Ob} (hx : S[o]? = some x) (hg : x.Mut) (hr : ρ o = some b)
    (hb : w.heap[b]? = some ob) (hs : obSize ob ≤ obSize ob') (hi : x.info = y.info) :
    Keeps w (setO w b ob') F F ρ ρ (info S) (info (S.set o y)) where
  same := fun c hc => setO_ne w b ob' (fun e => h.notF o b ⟨hr, x, hx, hg⟩ (e ▸ hc))
  sub := fun b hb => hb
  size := fun c => by
    by_cases e : c = b
    · subst e
      rw [blockSize_of hb, blockSize_of (setO_eq w c ob' (Array.getElem?_eq_some_iff.1 hb).1)]
      exact hs
    · simp [blockSize, setO_ne w b ob' e]
  old := fun o' ho => info_set_old ho
  box := fun o' ho hx' => by
    refine ⟨?_, rfl⟩
    by_cases e : o' = o
    · subst e
      rw [info_set (List.getElem?_eq_some_iff.1 hx).1] at hx'
      rw [info_of hx, hi]; exact hx'
    · rwa [info_set_ne e] at hx'
  buf := fun o' m ho hx' => by
    by_cases e : o' = o
    · subst e
      rw [info_set (List.getElem?_eq_some_iff.1 hx).1] at hx'
      rw [info_of hx]
      exact ⟨m, hi.trans hx', Nat.le_refl _, fun _ => rfl⟩
    · exact ⟨m, by rwa [info_set_ne e] at hx', Nat.le_refl _, fun _ => rfl⟩

/-- An object is written. -/
theorem St.setO (h : St w0 F0 mods F ρ S w) {o b : Nat} {ob ob' : Obj} {x y : Ob} (hx : S[o]? = some x) (hg : x.Mut) (hr : ρ o = some b)
    (hb : w.heap[b]? = some ob) (hs : obSize ob ≤ obSize ob') (hi : x.info = y.info)
    (hy : RepOb (Aw.setO w b ob') F ρ (info (S.set o y)) o y) : St w0 F0 mods F ρ (S.set o y) (Aw.setO w b ob') := by
  have hk := h.keeps_setO (ob' := ob') hx hg hr hb hs hi
  have hlt : b < w.heap.size := (Array.getElem?_eq_some_iff.1 hb).1
  have holt := (List.getElem?_eq_some_iff.1 hx).1
  refine ⟨?_, ?_, ?_, ?_, ?_, ?_, h.os, h.tape, h.output, ?_, ?_, h.f0, h.fnew⟩
  · intro o' z hz
    by_cases e : o' = o
    · subst e
      simp [holt] at hz
      subst hz
      exact hy
    · rw [List.getElem?_set_ne (Ne.symm e)] at hz
      refine (h.objs o' z hz).keeps hk rfl fun c hc hng => setO_ne w b ob' fun e' => ?_
      subst e'
      exact e (h.inj o' o c ⟨hc, z, hz, hng⟩ ⟨hr, x, hx, hg⟩)
  · exact fun o1 o2 c h1 h2 => h.inj o1 o2 c (lives_set hx hg h1) (lives_set hx hg h2)
  · exact fun o1 c h1 => h.notF o1 c (lives_set hx hg h1)
  · exact fun c hc => by rw [setO_size]; exact h.bound c hc
  · exact fun o1 c h1 => h.mine o1 c (lives_set hx hg h1)
  · rw [setO_size]; exact h.grow
  · intro c hc hm
    rw [setO_ne w b ob']
    · exact h.keep c hc hm
    · intro e
      subst e
      rcases h.mine o c ⟨hr, x, hx, hg⟩ with h1 | h1
      · exact hm h1
      · omega
  · exact fun c => Nat.le_trans (h.bsize c) (hk.size c)

/-! ### Maps -/
theorem ok_makeMap (h : St w0 F0 mods F ρ S w) (t : TypeId) (hK : K (.mp S.length) (S ++ [.mapo [] 0])) :
    OpOk P (do pure (.value (← Instr.makeMap t none))) w0 F0 mods F ρ S w K := by
  have hi : info (S ++ [.mapo [] 0]) S.length = .box := by simp [info, Ob.info]
  refine ⟨_, .map (some w.heap.size), pushO w (.map #[] 0), _, _, F, _, rfl, .inl rfl, hK, ?_, h.pushO (.map #[] 0) (.mapo [] 0) ⟨_, #[], by simp [Rho], get_pushO w _, by simp [RepEs]⟩, h.keeps_pushO ..⟩
  simp only [RepPV]
  exact ⟨by rw [hi]; simp, w.heap.size, rfl, fun _ => by simp [Rho]⟩

/-- Where a number is a map's key. -/
def findE (n : Int) : List (D × Nat × PV) → Option (Nat × PV)
  | [] => none
  | (.i _ m, _, p) :: r => if n = m then some (0, p) else (findE n r).map fun x => (x.1 + 1, x.2)
  | _ :: _ => none
def intKeys (k : IntKind) (es : List (D × Nat × PV)) : Prop := ∀ e ∈ es, ∃ m, e.1 = .i k m
def mapKey (P : Program) (t : TypeId) : Option IntKind := match P.underlying t with
  | some (.map kt _) => match P.underlying kt with
    | some (.int k) => some k
    | _ => none
  | _ => none
def mapEl (P : Program) (t : TypeId) : Option TypeId := match P.underlying t with
  | some (.map _ el) => some el
  | _ => none

theorem findNow_E {C : Nat → OI} {k : IntKind} {n : Int} : ∀ {es : List (D × Nat × PV)} {l : List MapEntry} {i : Nat}, intKeys k es → RepEs w F ρ C es l →
    (findE n es = none ∧ Instr.findNow (.int k) (.int k n) l i = some none) ∨ ∃ j p e, findE n es = some (j, p) ∧ l[j]? = some e ∧ e.key = .int k n ∧ RepPV w F ρ C p e.val ∧ Instr.findNow (.int k) (.int k n) l i = some (some (i + j, e.val))
  | [], l, i, hk, h => by
    simp only [RepEs] at h
    subst h
    exact .inl ⟨rfl, rfl⟩
  | (kk, bn, p) :: r, l, i, hk, h => by
    simp only [RepEs] at h
    obtain ⟨e, l, rfl, h1, h2, h3, h4⟩ := h
    obtain ⟨m, hm⟩ := hk _ List.mem_cons_self
    simp only at hm
    subst hm
    simp only [RepD] at h1
    simp only [findE, Instr.findNow, h1, Instr.sameNow, if_true]
    by_cases hnm : n = m
    · subst hnm
      exact .inr ⟨0, p, e, by simp, rfl, h1, h3, by simp⟩
    · have : (n == m) = false := by simpa using hnm
      rw [if_neg hnm, this]
      rcases findNow_E (i := i + 1) (fun e he => hk e (List.mem_cons_of_mem _ he)) h4 with ⟨g1, g2⟩ | ⟨j, q, e', g1, g2, g3, g4, g5⟩
      · exact .inl ⟨by rw [g1]; rfl, g2⟩
      · exact .inr ⟨j + 1, q, e', by rw [g1]; rfl, by simpa using g2, g3, g4, by simp only [g5]; congr 3; omega⟩

theorem mapKey_under {t : TypeId} {k : IntKind} (h : mapKey P t = some k) : ∃ kt el, P.underlying t = some (.map kt el) ∧ P.underlying kt = some (.int k) ∧ mapEl P t = some el := by
  unfold mapKey at h
  split at h
  · rename_i kt el ht
    split at h
    · rename_i k' hk; cases h; exact ⟨kt, el, ht, hk, by simp [mapEl, ht]⟩
    · cases h
  · cases h

/-- A lookup of a number. -/
theorem ok_lookup (h : St w0 F0 mods F ρ S w) {t el : TypeId} {k : IntKind} (hk : mapKey P t = some k) (he : mapEl P t = some el) {o : Nat} {es : List (D × Nat × PV)} {clk : Nat} (hx : S[o]? = some (.mapo es clk)) (hks : intKeys k es)
    {v u : Value} (hv : RepPV w F ρ (info S) (.mp o) v) {n : Int} (hu : RepPV w F ρ (info S) (.d (.i k n)) u) {z : PV} {zv : Value} (hz : (P.info? el).bind (·.zero) = some zv) (hzr : RepPV w F ρ (info S) z zv)
    (hK : match findE n es with | some (_, p) => K (.tup [p, .d (.b true)]) S | none => K (.tup [z, .d (.b false)]) S) :
    OpOk P (do pure (.value (← Instr.lookup t v u true))) w0 F0 mods F ρ S w K := by
  obtain ⟨kt, el', ht, hkt, hel⟩ := mapKey_under hk
  rw [he] at hel
  cases hel
  simp only [RepPV, RepD] at hv hu
  obtain ⟨_, b, rfl, hb⟩ := hv
  subst hu
  obtain ⟨b', ents, h1, h2, h3⟩ := h.objs o _ hx
  rw [hb (by rw [info_of hx]; rfl)] at h1
  cases h1
  obtain ⟨i, hi, hzi⟩ := Option.bind_eq_some_iff.1 hz
  have hck : (Instr.checkKey ents.isEmpty 10000 kt (.int k n)).run P w = .ok () w := Go.MapKept.run_checkKey hkt (by simp [Go.MapKept.IsKey]) _ 9999
  have hgo : (getObj b).run P w = .ok (.map ents clk) w := by simp [getObj, Sem.run, h2]
  rcases findNow_E (n := n) (i := 0) hks h3 with ⟨g1, g2⟩ | ⟨j, p, e, g1, g2, g3, g4, g5⟩
  · rw [g1] at hK
    refine .value h (v := .tuple #[zv, .bool false]) ?_ (by simp only [RepPV, RepTs]; exact ⟨_, rfl, zv, _, rfl, hzr, _, _, rfl, by simp [RepD], rfl⟩) hK
    simp only [Instr.lookup, Sem.run_bind, run_underlying ht, Result.andThen_ok, hgo, Sem.run_pure, hck, Instr.findKey, run_underlying hkt, g2, zeroValue, typeInfo, hi, hzi]
    simp [hi, hzi]
  · rw [g1] at hK
    refine .value h (v := .tuple #[e.val, .bool true]) ?_ (by simp only [RepPV, RepTs]; exact ⟨_, rfl, _, _, rfl, g4, _, _, rfl, by simp [RepD], rfl⟩) hK
    simp [Instr.lookup, Sem.run_bind, run_underlying ht, Result.andThen_ok, hgo, Sem.run_pure, hck, Instr.findKey, run_underlying hkt, g5]

theorem RepEs.modify {C : Nat → OI} {k : IntKind} {n : Int} {p' : PV} {v' : Value} (hv : RepPV w F ρ C p' v') : ∀ {es : List (D × Nat × PV)} {l : List MapEntry} {j : Nat} {p : PV}, RepEs w F ρ C es l → findE n es = some (j, p) → intKeys k es →
    RepEs w F ρ C (es.modify j fun e => (e.1, e.2.1, p')) (l.modify j fun e => { e with key := .int k n, val := v' })
  | [], l, j, p, h, hf, hk => by simp [findE] at hf
  | (kk, bn, q) :: r, l, j, p, h, hf, hk => by
    simp only [RepEs] at h
    obtain ⟨e, l, rfl, h1, h2, h3, h4⟩ := h
    obtain ⟨m, hm⟩ := hk _ List.mem_cons_self
    simp only at hm
    subst hm
    simp only [findE] at hf
    split at hf
    · rename_i hnm
      subst hnm
      simp only [Option.some.injEq, Prod.mk.injEq] at hf
      obtain ⟨rfl, rfl⟩ := hf
      simp only [List.modify_zero_cons, RepEs]
      refine ⟨_, l, rfl, ?_, h2, hv, h4⟩
      simp only [RepD] at h1 ⊢
    · obtain ⟨⟨j', q'⟩, hj, he⟩ := Option.map_eq_some_iff.1 hf
      simp only [Prod.mk.injEq] at he
      obtain ⟨rfl, rfl⟩ := he
      simp only [List.modify_succ_cons, RepEs]
      exact ⟨e, _, rfl, h1, h2, h3, RepEs.modify hv h4 hj (fun e he => hk e (List.mem_cons_of_mem _ he))⟩
theorem RepEs.push {C : Nat → OI} {d : D} {bn : Nat} {p : PV} {e : MapEntry} (h1 : RepD w F d e.key) (h2 : e.born = bn) (h3 : RepPV w F ρ C p e.val) : ∀ {es : List (D × Nat × PV)} {l : List MapEntry}, RepEs w F ρ C es l → RepEs w F ρ C (es ++ [(d, bn, p)]) (l ++ [e])
  | [], l, h => by simp only [RepEs] at h; subst h; simp only [List.nil_append, RepEs]; exact ⟨e, [], rfl, h1, h2, h3, rfl⟩
  | (kk, b', q) :: r, l, h => by
    simp only [RepEs] at h
    obtain ⟨e', l, rfl, g1, g2, g3, g4⟩ := h
    simp only [List.cons_append, RepEs]
    exact ⟨e', _, rfl, g1, g2, g3, RepEs.push h1 h2 h3 g4⟩

/-- What a map holds behind an update. -/
def updE (k : IntKind) (n : Int) (p : PV) (es : List (D × Nat × PV)) (clk : Nat) : List (D × Nat × PV) × Nat := match findE n es with
  | some (j, _) => (es.modify j fun e => (e.1, e.2.1, p), clk)
  | none => (es ++ [(.i k n, clk, p)], clk + 1)

theorem sameBits_int (k : IntKind) (n : Int) : Instr.sameBits 10000 (.int k n) (.int k n) = true := by
  rw [show (10000 : Nat) = 9999 + 1 from rfl]
  unfold Instr.sameBits
  simp

theorem ok_mapUpdate (h : St w0 F0 mods F ρ S w) {t : TypeId} {k : IntKind} (hk : mapKey P t = some k) {o : Nat} {es : List (D × Nat × PV)} {clk : Nat} (hx : S[o]? = some (.mapo es clk)) (hks : intKeys k es)
    {v u z : Value} (hv : RepPV w F ρ (info S) (.mp o) v) {n : Int} (hu : RepPV w F ρ (info S) (.d (.i k n)) u) {p : PV} (hz : RepPV w F ρ (info S) p z)
    (hK : K .any (S.set o (.mapo (updE k n p es clk).1 (updE k n p es clk).2))) :
    OpOk P (do Instr.mapUpdate t v u z; pure .skip) w0 F0 mods F ρ S w K := by
  obtain ⟨kt, el', ht, hkt, hel⟩ := mapKey_under hk
  simp only [RepPV, RepD] at hv hu
  obtain ⟨_, b, rfl, hb⟩ := hv
  subst hu
  obtain ⟨b', ents, h1, h2, h3⟩ := h.objs o _ hx
  have hb' := hb (by rw [info_of hx]; rfl)
  rw [hb'] at h1
  cases h1
  have hck : (Instr.checkKey false 10000 kt (.int k n)).run P w = .ok () w := Go.MapKept.run_checkKey hkt (by simp [Go.MapKept.IsKey]) _ 9999
  have hgo := Go.MapKept.run_getObj_map (P := P) h2
  have fin : ∀ (es' : List (D × Nat × PV)) (clk' : Nat) (l : Array MapEntry), RepEs w F ρ (info S) es' l.toList → K .any (S.set o (.mapo es' clk')) → (Instr.mapUpdate t (.map (some b)) (.int k n) z).run P w = .ok () (setO w b (.map l clk')) →
      OpOk P (do Instr.mapUpdate t (.map (some b)) (.int k n) z; pure .skip) w0 F0 mods F ρ S w K := fun es' clk' l hl hk hr => by
    have kk : Keeps w (setO w b (.map l clk')) F F ρ ρ (info S) (info (S.set o (.mapo es' clk'))) := h.keeps_setO hx (by simp) hb' h2 (Nat.le_refl _) rfl
    refine ⟨.skip, undef, _, .any, S.set o (.mapo es' clk'), F, ρ, by simp only [Sem.run_bind, hr, Result.andThen_ok, Sem.run_pure], .inr ⟨rfl, rfl⟩, hk, by simp [RepPV], ?_, kk⟩
    exact h.setO hx (by simp) hb' h2 (Nat.le_refl _) rfl ⟨b, l, hb', setO_eq w b _ (Array.getElem?_eq_some_iff.1 h2).1, hl.keeps kk⟩
  have hso : ∀ ob : Obj, (setObj b ob).run P w = .ok () (setO w b ob) := fun ob => Go.MapKept.run_setObj_map ob h2
  rcases findNow_E (n := n) (i := 0) hks h3 with ⟨g1, g2⟩ | ⟨j, q, e, g1, g2, g3, g4, g5⟩
  · simp only [updE, g1] at hK
    refine fin _ _ (ents.push { key := .int k n, val := z, born := clk }) ?_ hK ?_
    · simpa using RepEs.push (d := .i k n) (p := p) (e := { key := .int k n, val := z, born := clk }) (by simp [RepD]) rfl hz h3
    · simp only [Instr.mapUpdate, Sem.run_bind, run_underlying ht, Result.andThen_ok, hgo, hck, Instr.findKey, run_underlying hkt, g2, Sem.run_pure, hso]
  · simp only [updE, g1] at hK
    refine fin _ _ (ents.modify j fun e => { e with key := .int k n, val := z }) ?_ hK ?_
    · rw [Array.toList_modify]
      exact RepEs.modify hz h3 g1 hks
    · have hej : ((ents[j]?).map (·.key)).getD (.int k n) = .int k n := by
        have : ents[j]? = some e := by simpa using g2
        rw [this]; simpa using g3
      simp only [Instr.mapUpdate, Sem.run_bind, run_underlying ht, Result.andThen_ok, hgo, hck, Instr.findKey, run_underlying hkt, g5, Sem.run_pure, Nat.zero_add, Instr.keyThatStays, hej, sameBits_int, if_true, hso]

theorem ok_clearMap (h : St w0 F0 mods F ρ S w) {t ty kt el : TypeId} (ht : P.underlying t = some (.map kt el)) {o : Nat} {es : List (D × Nat × PV)} {clk : Nat} (hx : S[o]? = some (.mapo es clk))
    {v : Value} (hv : RepPV w F ρ (info S) (.mp o) v) (hK : K (.tup []) (S.set o (.mapo [] clk))) :
    OpOk P (do pure (.value (← Builtin.clear_ #[t] ty #[v]))) w0 F0 mods F ρ S w K := by
  simp only [RepPV] at hv
  obtain ⟨_, b, rfl, hb⟩ := hv
  obtain ⟨b', ents, h1, h2, h3⟩ := h.objs o _ hx
  have hb' := hb (by rw [info_of hx]; rfl)
  rw [hb'] at h1
  cases h1
  have hgo := Go.MapKept.run_getObj_map (P := P) h2
  have hso : ∀ ob : Obj, (setObj b ob).run P w = .ok () (setO w b ob) := fun ob => Go.MapKept.run_setObj_map ob h2
  have kk : Keeps w (setO w b (.map #[] clk)) F F ρ ρ (info S) (info (S.set o (.mapo [] clk))) := h.keeps_setO hx (by simp) hb' h2 (Nat.le_refl _) rfl
  refine ⟨_, .tuple #[], setO w b (.map #[] clk), .tup [], S.set o (.mapo [] clk), F, ρ, ?_, .inl rfl, hK, by simp only [RepPV]; exact ⟨_, rfl, by simp [RepTs]⟩, ?_, kk⟩
  · simp [Builtin.clear_, Sem.run_bind, run_underlying ht, hgo, hso]
  · exact h.setO hx (by simp) hb' h2 (Nat.le_refl _) rfl ⟨b, #[], hb', setO_eq w b _ (Array.getElem?_eq_some_iff.1 h2).1, by simp [RepEs]⟩
end
end Go.Aw

/- Operations on arrays, parts of own rows, copy. -/
set_option linter.unusedVariables false
set_option linter.unusedSimpArgs false
namespace Go.Aw
section
variable {P : Program} {w0 : World} {F0 mods F : Nat → Prop} {ρ : Nat → Option Nat} {S : Heap} {w : World} {K : PV → Heap → Prop}

theorem RepPVs.split {C : Nat → OI} : ∀ {ps qs : List PV} {vs : List Value}, RepPVs w F ρ C (ps ++ qs) vs → ∃ a b, vs = a ++ b ∧ RepPVs w F ρ C ps a ∧ RepPVs w F ρ C qs b
  | [], qs, vs, h => ⟨[], vs, rfl, by simp [RepPVs], h⟩
  | p :: ps, qs, vs, h => by
    simp only [List.cons_append, RepPVs] at h
    obtain ⟨v, us, rfl, h1, h2, h3⟩ := h
    obtain ⟨a, b, rfl, g1, g2⟩ := RepPVs.split h3
    exact ⟨v :: a, b, rfl, by simp only [RepPVs]; exact ⟨v, a, rfl, h1, h2, g1⟩, g2⟩
theorem RepPVs.data {C : Nat → OI} : ∀ {ds : List D} {vs : List Value}, RepPVs w F ρ C (ds.map .d) vs → RepL w F ds vs
  | [], vs, h => by simpa [RepPVs, RepL] using h
  | d :: r, vs, h => by
    simp only [List.map_cons, RepPVs] at h
    obtain ⟨v, us, rfl, h1, h2, h3⟩ := h
    simp only [RepL]
    exact ⟨v, us, rfl, h1, by simpa [RepPV] using h2, RepPVs.data h3⟩
theorem wag_of {C : Nat → OI} {pre post : List PV} {run : List D} {n : Nat} (hn : run.length = n) {arr : Array Value} (h : RepPVs w F ρ C (pre ++ (run.map .d ++ post)) arr.toList) : RepPV w F ρ C (.wag pre n run post) (.agg arr) := by
  obtain ⟨a, x, e1, h1, h2⟩ := RepPVs.split h
  obtain ⟨b, c, rfl, h3, h4⟩ := RepPVs.split h2
  simp only [RepPV]
  exact ⟨hn, arr, rfl, a, b, c, e1, h1, h3.data, h4⟩

/-- New variables with a run of data. -/
theorem ok_allocArr (h : St w0 F0 mods F ρ S w) {T : TypeId} {pre post : List PV} {run : List D} {n : Nat} (hz : zO P T = some (pre ++ (run.map .d ++ post))) (hn : run.length = n) (hK : K (.ptr S.length 0) (S ++ [.arr pre n run post])) :
    OpOk P (do pure (.value (← Instr.alloc T true (.tuple #[])))) w0 F0 mods F ρ S w K := by
  obtain ⟨i, z, hi, hzi, hr⟩ := zO_rep (w := w) (F := F) (ρ := ρ) (C := info S) hz
  have hi' : info (S ++ [.arr pre n run post]) S.length = .box := by simp [info, Ob.info]
  refine ⟨_, .pointer (some ⟨w.heap.size, 0, none⟩), push w z.cells T, _, _, F, _, ?_, .inl rfl, hK, ?_, h.push z.cells T (.arr pre n run post) (by simp) (fun _ _ _ _ e => by cases e; exact hn) (rep_new h hr rfl), h.keeps_push ..⟩
  · simp [Instr.alloc, zeroValue, typeInfo, hi, hzi, newVar, newRow]
    rfl
  · simp only [RepPV]
    exact ⟨by rw [hi']; simp, w.heap.size, rfl, fun _ => by simp [Rho]⟩
theorem ok_boxArr (h : St w0 F0 mods F ρ S w) {T : TypeId} {pre post : List PV} {run : List D} {n : Nat} {v : Value} (hv : RepPV w F ρ (info S) (.wag pre n run post) v) (hK : K (.ptr S.length 0) (S ++ [.arr pre n run post])) :
    OpOk P (do pure (.value (← Instr.box T v))) w0 F0 mods F ρ S w K := by
  have hr := PV.cellsOf_rep (p := .wag pre n run post) rfl hv
  have hn : run.length = n := by simp only [RepPV] at hv; exact hv.1
  have hi' : info (S ++ [.arr pre n run post]) S.length = .box := by simp [info, Ob.info]
  refine ⟨_, .pointer (some ⟨w.heap.size, 0, none⟩), push w v.cells T, _, _, F, _, ?_, .inl rfl, hK, ?_, h.push v.cells T (.arr pre n run post) (by simp) (fun _ _ _ _ e => by cases e; exact hn) (rep_new h hr rfl), h.keeps_push ..⟩
  · simp [Instr.box, newVar, newRow]
    rfl
  · simp only [RepPV]
    exact ⟨by rw [hi']; simp, w.heap.size, rfl, fun _ => by simp [Rho]⟩

theorem arr_len (h : St w0 F0 mods F ρ S w) {o n : Nat} {pre post : List PV} {run : List D} (hx : S[o]? = some (.arr pre n run post)) : run.length = n := (h.objs o _ hx).1
theorem arr_place (h : St w0 F0 mods F ρ S w) {o n c : Nat} {pre post : List PV} {run : List D} (hx : S[o]? = some (.arr pre n run post)) {v : Value} (hv : RepPV w F ρ (info S) (.ptr o c) v) : ∃ b, v = .pointer (some ⟨b, c, none⟩) ∧ ρ o = some b := by
  simp only [RepPV] at hv
  obtain ⟨_, b, rfl, hb⟩ := hv
  exact ⟨b, rfl, hb (by rw [info_of hx]; rfl)⟩

/-- The whole is stored. -/
theorem ok_storeArr (h : St w0 F0 mods F ρ S w) {t : TypeId} {o n n' : Nat} {pre post pre' post' : List PV} {run run' : List D} (hx : S[o]? = some (.arr pre n run post)) (h1 : pre'.length = pre.length) (h2 : n' = n) (h3 : post'.length = post.length)
    (hs : szO P t = some (pre'.length + (n' + post'.length))) {v u : Value} (hv : RepPV w F ρ (info S) (.ptr o 0) v) (hu : RepPV w F ρ (info S) (.wag pre' n' run' post') u) (hK : K .any (S.set o (.arr pre' n' run' post'))) :
    OpOk P (do Instr.storeAt t v u; pure .skip) w0 F0 mods F ρ S w K := by
  obtain ⟨b, rfl, hb⟩ := arr_place h hx hv
  have hn := arr_len h hx
  have hn' : run'.length = n' := by simp only [RepPV] at hu; exact hu.1
  refine ok_store_ob (y := .arr pre' n' run' post') h hs hx (by simp) (by simp) (fun _ _ _ _ e => by cases e; exact hn') hb hu rfl (by simp; omega) (by simp [Ob.cells]; omega) ?_ rfl hK
  simp only [Ob.cells, splice, List.take_zero, List.nil_append]
  rw [List.drop_eq_nil_of_le (by simp; omega)]
  simp
/-- A cell ahead of the run is stored. -/
theorem ok_storeArrPre (h : St w0 F0 mods F ρ S w) {t : TypeId} {o n c : Nat} {pre post : List PV} {run : List D} (hx : S[o]? = some (.arr pre n run post)) (hs : szO P t = some 1) {p : PV} (hc : p.cellsOf = some [p]) (hl : c < pre.length)
    {v u : Value} (hv : RepPV w F ρ (info S) (.ptr o c) v) (hu : RepPV w F ρ (info S) p u) (hK : K .any (S.set o (.arr (pre.set c p) n run post))) :
    OpOk P (do Instr.storeAt t v u; pure .skip) w0 F0 mods F ρ S w K := by
  obtain ⟨b, rfl, hb⟩ := arr_place h hx hv
  have hn := arr_len h hx
  refine ok_store_ob (y := .arr (pre.set c p) n run post) h hs hx (by simp) (by simp) (fun _ _ _ _ e => by cases e; exact hn) hb hu hc rfl (by simp [Ob.cells]; omega) ?_ rfl hK
  apply List.ext_getElem?
  intro j
  rw [splice_get _ _ _ (by simp [Ob.cells]; omega)]
  simp only [Ob.cells, List.length_singleton]
  by_cases hj : j < pre.length
  · rw [List.getElem?_append_left (by simpa using hj), List.getElem?_set]
    by_cases e : c = j
    · subst e; simp [hj]
    · rw [if_neg e, if_neg (by omega), List.getElem?_append_left hj]
  · rw [if_neg (by omega)]
    have e1 : (pre.set c p ++ (run.map PV.d ++ post))[j]? = (run.map PV.d ++ post)[j - pre.length]? := by rw [List.getElem?_append_right (by simp; omega), List.length_set]
    have e2 : (pre ++ (run.map PV.d ++ post))[j]? = (run.map PV.d ++ post)[j - pre.length]? := List.getElem?_append_right (by omega)
    rw [e1, e2]
/-- A number in the run is stored. -/
theorem ok_storeRun (h : St w0 F0 mods F ρ S w) {t : TypeId} {o n c i : Nat} {pre post : List PV} {run : List D} (hx : S[o]? = some (.arr pre n run post)) (hs : szO P t = some 1) {d : D} (hc : PV.cellsOf (.d d) = some [.d d]) (hl : c = pre.length) (hi : i < n)
    {v u : Value} (hv : RepPV w F ρ (info S) (.rptr o c i) v) (hu : RepPV w F ρ (info S) (.d d) u) (hK : K .any (S.set o (.arr pre n (run.set i d) post))) :
    OpOk P (do Instr.storeAt t v u; pure .skip) w0 F0 mods F ρ S w K := by
  simp only [RepPV] at hv
  obtain ⟨_, b, rfl, hb⟩ := hv
  have hb := hb (by rw [info_of hx]; rfl)
  have hn := arr_len h hx
  refine ok_store_ob (y := .arr pre n (run.set i d) post) h hs hx (by simp) (by simp) (fun _ _ _ _ e => by cases e; simpa using hn) hb hu hc rfl (by simp [Ob.cells]; omega) ?_ rfl hK
  subst hl
  apply List.ext_getElem?
  intro j
  rw [splice_get _ _ _ (by simp [Ob.cells]; omega)]
  simp only [Ob.cells, List.length_singleton]
  by_cases hj : j < pre.length
  · rw [if_neg (by omega), List.getElem?_append_left hj, List.getElem?_append_left hj]
  · have e1 : ∀ r : List D, (pre ++ (r.map PV.d ++ post))[j]? = (r.map PV.d ++ post)[j - pre.length]? := fun r => List.getElem?_append_right (by omega)
    rw [e1, e1]
    by_cases hj2 : j - pre.length < n
    · have e2 : ∀ r : List D, r.length = n → (r.map PV.d ++ post)[j - pre.length]? = (r[j - pre.length]?).map PV.d := fun r hr => by rw [List.getElem?_append_left (by simp; omega), List.getElem?_map]
      rw [e2 _ hn, e2 _ (by simpa using hn), List.getElem?_set]
      by_cases e : i = j - pre.length
      · rw [if_pos e, if_pos (by omega), if_pos (by omega)]
        have : j - (pre.length + i) = 0 := by omega
        rw [this]; rfl
      · rw [if_neg e, if_neg (by omega)]
    · have e2 : ∀ r : List D, r.length = n → (r.map PV.d ++ post)[j - pre.length]? = post[j - pre.length - n]? := fun r hr => by rw [List.getElem?_append_right (by simp; omega)]; congr 1; simp; omega
      rw [if_neg (by omega), e2 _ hn, e2 _ (by simpa using hn)]

/-- The whole is loaded. -/
theorem ok_loadArr (h : St w0 F0 mods F ρ S w) {t : TypeId} (ha : aggO P t = some true) {o n : Nat} {pre post : List PV} {run : List D} (hx : S[o]? = some (.arr pre n run post)) (hs : szO P t = some (pre.length + (n + post.length)))
    {v : Value} (hv : RepPV w F ρ (info S) (.ptr o 0) v) (hK : K (.wag pre n run post) S) :
    OpOk P (do pure (.value (← Instr.loadAt t v))) w0 F0 mods F ρ S w K := by
  obtain ⟨b, rfl, hb⟩ := arr_place h hx hv
  have hn := arr_len h hx
  obtain ⟨arr, T, e1, e2⟩ := h.cells hx (by simp) hb
  obtain ⟨vs, f1, f2, f3⟩ := e2.sub 0 (pre.length + (n + post.length)) (by simp [Ob.cells]; omega)
  have hr := run_loadVar_agg (P := P) (w := w) ha hs ⟨b, 0, none⟩ vs f1 (fun j v hj => by rw [add_mid, cell_of e1]; exact f2 j v hj)
  refine .value h (v := .agg vs.toArray) (by simp [Instr.loadAt, Instr.sureAddr, hr]) ?_ hK
  refine wag_of hn ?_
  rw [List.drop_zero, List.take_of_length_le (by simp [Ob.cells]; omega)] at f3
  exact f3
/-- The run is loaded. -/
theorem ok_loadRun (h : St w0 F0 mods F ρ S w) {t : TypeId} (ha : aggO P t = some true) {o n c : Nat} {pre post : List PV} {run : List D} (hx : S[o]? = some (.arr pre n run post)) (hc : c = pre.length) (hs : szO P t = some n)
    {v : Value} (hv : RepPV w F ρ (info S) (.ptr o c) v) (hK : K (.wag [] n run []) S) :
    OpOk P (do pure (.value (← Instr.loadAt t v))) w0 F0 mods F ρ S w K := by
  obtain ⟨b, rfl, hb⟩ := arr_place h hx hv
  have hn := arr_len h hx
  subst hc
  obtain ⟨arr, T, e1, e2⟩ := h.cells hx (by simp) hb
  obtain ⟨vs, f1, f2, f3⟩ := e2.sub pre.length n (by simp [Ob.cells]; omega)
  have hr := run_loadVar_agg (P := P) (w := w) ha hs ⟨b, pre.length, none⟩ vs f1 (fun j v hj => by rw [add_mid, cell_of e1]; exact f2 j v hj)
  refine .value h (v := .agg vs.toArray) (by simp [Instr.loadAt, Instr.sureAddr, hr]) ?_ hK
  refine wag_of hn ?_
  simp only [Ob.cells, List.drop_left] at f3
  rw [List.take_append_of_le_length (by simp; omega), List.take_of_length_le (by simp; omega)] at f3
  simpa using f3
/-- A cell beside the run, or in it, is loaded. -/
theorem ok_loadArrCell (h : St w0 F0 mods F ρ S w) {t : TypeId} (ha : aggO P t = some false) {o n c : Nat} {pre post : List PV} {run : List D} (hx : S[o]? = some (.arr pre n run post)) {p : PV}
    (hp : (c < pre.length ∧ pre[c]? = some p) ∨ (pre.length + n ≤ c ∧ post[c - (pre.length + n)]? = some p)) {v : Value} (hv : RepPV w F ρ (info S) (.ptr o c) v) (hK : K p S) :
    OpOk P (do pure (.value (← Instr.loadAt t v))) w0 F0 mods F ρ S w K := by
  obtain ⟨b, rfl, hb⟩ := arr_place h hx hv
  have hn := arr_len h hx
  refine ok_load_ob_one h ha hx (by simp) hb (p := p) ?_ hK
  simp only [Ob.cells]
  rcases hp with ⟨h1, h2⟩ | ⟨h1, h2⟩
  · rw [List.getElem?_append_left h1]; exact h2
  · rw [List.getElem?_append_right (by omega), List.getElem?_append_right (by simp; omega)]
    rw [← h2]; congr 1; simp; omega
theorem ok_loadRptr (h : St w0 F0 mods F ρ S w) {t : TypeId} (ha : aggO P t = some false) {o n c i : Nat} {pre post : List PV} {run : List D} (hx : S[o]? = some (.arr pre n run post)) (hc : c = pre.length) (hi : i < n)
    {v : Value} (hv : RepPV w F ρ (info S) (.rptr o c i) v) {d : D} (hd : run[i]? = some d) (hK : K (.d d) S) :
    OpOk P (do pure (.value (← Instr.loadAt t v))) w0 F0 mods F ρ S w K := by
  simp only [RepPV] at hv
  obtain ⟨_, b, rfl, hb⟩ := hv
  have hb := hb (by rw [info_of hx]; rfl)
  have hn := arr_len h hx
  refine ok_load_ob_one h ha hx (by simp) hb (p := .d d) ?_ hK
  subst hc
  simp only [Ob.cells]
  rw [List.getElem?_append_right (by omega), List.getElem?_append_left (by simp; omega), List.getElem?_map]
  rw [show pre.length + i - pre.length = i by omega, hd]; rfl

/-- Types with a long array of bytes in them: cells ahead of it, its length, cells behind it. -/
def wideF (P : Program) : List Field → Option (Nat × Nat)
  | [] => none
  | f :: fs => match P.underlying f.type with
    | some (.array n _) => match Nat.ble 17 n with
      | true => some (f.offset, n)
      | false => wideF P fs
    | _ => wideF P fs
def wideO (P : Program) (t : TypeId) : Option (Nat × Nat × Nat) := match P.underlying t with
  | some (.array n _) => match Nat.ble 17 n with
    | true => some (0, n, 0)
    | false => none
  | some (.struct fs) => match wideF P fs.toList with
    | some (a, n) => match szO P t with
      | some s => some (a, n, s - a - n)
      | none => none
    | none => none
  | _ => none
def arO (P : Program) (t : TypeId) : Option (Nat × TypeId) := match P.underlying t with
  | some (.array n e) => some (n, e)
  | _ => none
theorem arO_under {t e : TypeId} {n : Nat} (h : arO P t = some (n, e)) : P.underlying t = some (.array n e) := by
  unfold arO at h
  split at h
  · rename_i n' e' hu; cases h; exact hu
  · cases h

/-- A slice of an array. -/
theorem ok_sliceArr (h : St w0 F0 mods F ρ S w) {t e : TypeId} {n : Nat} (hu : arO P t = some (n, e)) (hs : szO P e = some 1) (hmx : n ≤ maxLen) {o c : Nat} {v : Value} (hv : RepPV w F ρ (info S) (.ptr o c) v)
    {lo hi : Option PV} {lv hv' : Option Value} (h1 : RepO w F ρ (info S) lo lv) (h2 : RepO w F ρ (info S) hi hv') {l m : Nat} (e2 : bndA hi n n = some m) (e1 : bndA lo m 0 = some l) (hl : l < n)
    (hK : K (.asl o c l (m - l)) S) : OpOk P (do pure (.value (← Instr.sliceAt t v lv hv' none))) w0 F0 mods F ρ S w K := by
  simp only [RepPV] at hv
  obtain ⟨hf, b, rfl, hb⟩ := hv
  obtain ⟨hr, hlm, hml⟩ := run_bounds (P := P) (w := w) (S := S) false (Nat.le_refl n) h1 h2 e2 e1
  refine .value h (v := .slice (some ⟨b, c + l, none⟩) (m - l) (n - l)) ?_ ?_ hK
  · simp only [Instr.sliceAt, Sem.run_bind, run_underlying (arO_under hu), Result.andThen_ok, Instr.sureAddr, Sem.run_pure, hr, run_size hs]
    rw [if_neg (by omega), Nat.mul_one, add_mid]
  · simp only [RepPV]
    exact ⟨hf, b, n - l, rfl, by omega, by omega, hb⟩
/-- A part of own rows. -/
theorem ok_sliceOwn (h : St w0 F0 mods F ρ S w) {t e : TypeId} (hu : elO P t = some e) {sz : Nat} (hs : szO P e = some sz) {o n : Nat} {rows : List (List PV)} (hx : S[o]? = some (.buf rows)) (hn : rows.length = n) {v : Value} (hv : RepPV w F ρ (info S) (.own o sz n) v)
    {lo hi : Option PV} {lv hv' : Option Value} (h1 : RepO w F ρ (info S) lo lv) (h2 : RepO w F ρ (info S) hi hv') {l m : Nat} (e2 : bndA hi n n = some m) (e1 : bndA lo m 0 = some l)
    (hK : K (.sub o sz l (m - l) n) S) : OpOk P (do pure (.value (← Instr.sliceAt t v lv hv' none))) w0 F0 mods F ρ S w K := by
  have hi' : info S o = .buf n := by rw [info_of hx, Ob.info, hn]
  simp only [RepPV] at hv
  obtain ⟨hf, a, cap, rfl, h3⟩ := hv
  have hut := elO_under hu
  have hcap : n ≤ cap ∧ cap ≤ maxLen := by
    rcases (h3 n hi').2 rfl with ⟨_, _, g1, g2⟩ | ⟨b, _, _, g3, g4, _⟩
    · subst g1; subst g2; exact ⟨Nat.le_refl _, by unfold maxLen; omega⟩
    · exact ⟨g3, g4⟩
  obtain ⟨hr, hlm, hml⟩ := run_bounds (P := P) (w := w) (S := S) true hcap.1 h1 h2 e2 e1
  refine .value h (v := .slice (if cap = l then a else a.map (·.add (l * sz))) (m - l) (cap - l)) ?_ ?_ hK
  · simp [Instr.sliceAt, Instr.slice, run_underlying hut, hr, run_size hs]
  · simp only [RepPV]
    refine ⟨hf, _, cap - l, rfl, by omega, by omega, fun m' hm' => ?_⟩
    rw [hi'] at hm'
    cases hm'
    refine ⟨Nat.le_refl _, fun _ => ⟨by omega, ?_⟩⟩
    by_cases hz : m - l = 0
    · exact .inl hz
    · right
      rcases (h3 n hi').2 rfl with ⟨_, _, g1, g2⟩ | ⟨b, g1, g2, g3, g4, _⟩
      · omega
      · refine ⟨b, g1, ?_⟩
        rw [if_neg (by omega), g2, Option.map_some, add_mid, Nat.zero_add]
/-- A part of a part. -/
theorem ok_sliceSub (h : St w0 F0 mods F ρ S w) {t e : TypeId} (hu : elO P t = some e) {sz : Nat} (hs : szO P e = some sz) {o off n k : Nat} {v : Value} (hv : RepPV w F ρ (info S) (.sub o sz off n k) v)
    {lo hi : Option PV} {lv hv' : Option Value} (h1 : RepO w F ρ (info S) lo lv) (h2 : RepO w F ρ (info S) hi hv') {l m : Nat} (e2 : bndA hi n n = some m) (e1 : bndA lo m 0 = some l)
    (hK : K (.sub o sz (off + l) (m - l) k) S) : OpOk P (do pure (.value (← Instr.sliceAt t v lv hv' none))) w0 F0 mods F ρ S w K := by
  simp only [RepPV] at hv
  obtain ⟨hf, a, cap, rfl, g1, g2, h3⟩ := hv
  have hut := elO_under hu
  obtain ⟨hr, hlm, hml⟩ := run_bounds (P := P) (w := w) (S := S) true g1 h1 h2 e2 e1
  refine .value h (v := .slice (if cap = l then a else a.map (·.add (l * sz))) (m - l) (cap - l)) ?_ ?_ hK
  · simp [Instr.sliceAt, Instr.slice, run_underlying hut, hr, run_size hs]
  · simp only [RepPV]
    refine ⟨hf, _, cap - l, rfl, by omega, by omega, fun m' hm' => ⟨(h3 m' hm').1, fun e => ?_⟩⟩
    obtain ⟨k1, k2⟩ := (h3 m' hm').2 e
    refine ⟨by omega, ?_⟩
    by_cases hz : m - l = 0
    · exact .inl hz
    · right
      rcases k2 with k2 | ⟨b, k2, k3⟩
      · omega
      · refine ⟨b, k2, ?_⟩
        rw [if_neg (by omega), k3, Option.map_some, add_mid, Nat.add_mul]

/-! ### What slices hold -/
theorem holds_asl (h : St w0 F0 mods F ρ S w) {o c lo len n : Nat} {pre post : List PV} {run : List D} (hx : S[o]? = some (.arr pre n run post)) (hc : c = pre.length) (hl : lo + len ≤ n) {v : Value} (hv : RepPV w F ρ (info S) (.asl o c lo len) v) :
    Holds P w F ρ (info S) ((((run.drop lo).take len).map fun d => [d]).map (·.map .d)) v := by
  simp only [RepPV] at hv
  obtain ⟨_, b, cap, rfl, g1, g2, hb⟩ := hv
  have hb := hb (by rw [info_of hx]; rfl)
  have hn := arr_len h hx
  subst hc
  obtain ⟨arr, T, e1, e2⟩ := h.cells hx (by simp) hb
  obtain ⟨vs, f1, f2, f3⟩ := e2.sub (pre.length + lo) len (by simp [Ob.cells]; omega)
  have hcells : ((Ob.arr pre n run post).cells.drop (pre.length + lo)).take len = ((run.drop lo).take len).map .d := by
    simp only [Ob.cells]
    rw [← List.drop_drop, List.drop_left, List.drop_append_of_le_length (by simp; omega), List.take_append_of_le_length (by simp; omega)]
    simp
  rw [hcells] at f3
  refine ⟨some ⟨b, pre.length + lo, none⟩, cap, vs, ?_, ?_, (fun h => by cases h), fun ad had j u hj => ?_⟩
  · congr 1; simp; omega
  · have : ((((run.drop lo).take len).map fun d => [d]).map (·.map PV.d)).flatten = ((run.drop lo).take len).map .d := by
      induction (run.drop lo).take len with
      | nil => rfl
      | cons d r ih => simp only [List.map_cons, List.flatten_cons, ih]; rfl
    rw [this]; exact f3
  · cases had
    rw [add_mid, cell_of e1]
    exact f2 j u hj
theorem holds_sub (h : St w0 F0 mods F ρ S w) {o sz off n k : Nat} {rows : List (List PV)} (hx : S[o]? = some (.buf rows)) (hk : rows.length = k) (ha : AllLen sz rows) (hl : off + n ≤ k) {v : Value} (hv : RepPV w F ρ (info S) (.sub o sz off n k) v) :
    Holds P w F ρ (info S) ((rows.drop off).take n) v := by
  have hi' : info S o = .buf k := by rw [info_of hx, Ob.info, hk]
  simp only [RepPV] at hv
  obtain ⟨_, a, cap, rfl, g1, g2, h3⟩ := hv
  have hlen : ((rows.drop off).take n).length = n := by simp; omega
  rcases ((h3 k hi').2 rfl).2 with h0 | ⟨b, hb, rfl⟩
  · subst h0
    refine ⟨a, cap, [], by simp, by simp [RepPVs], fun _ => by simp, fun _ _ j u hj => by simp at hj⟩
  obtain ⟨arr, T, e1, e2⟩ := h.cells hx (by simp) hb
  have hfl : (Ob.buf rows).cells.length = k * sz := by simp only [Ob.cells]; rw [ha.flatten, hk]
  obtain ⟨vs, f1, f2, f3⟩ := e2.sub (off * sz) (n * sz) (by rw [hfl, ← Nat.add_mul]; exact Nat.mul_le_mul_right _ hl)
  have hcells : ((Ob.buf rows).cells.drop (off * sz)).take (n * sz) = ((rows.drop off).take n).flatten := by
    simp only [Ob.cells]
    have key : ∀ (rs : List (List PV)) (j : Nat), AllLen sz rs → j ≤ rs.length → rs.flatten.drop (j * sz) = (rs.drop j).flatten ∧ rs.flatten.take (j * sz) = (rs.take j).flatten := by
      intro rs j hrs hj
      have e : rs = rs.take j ++ rs.drop j := (List.take_append_drop j rs).symm
      have hl1 : (rs.take j).flatten.length = j * sz := by
        rw [AllLen.flatten (fun r hr => hrs r (List.mem_of_mem_take hr)), List.length_take, Nat.min_eq_left hj]
      have e2 : rs.flatten = (rs.take j).flatten ++ (rs.drop j).flatten := by rw [← List.flatten_append, ← e]
      constructor
      · rw [e2, ← hl1, List.drop_left]
      · rw [e2, ← hl1, List.take_left]
    rw [(key rows off ha (by omega)).1, (key (rows.drop off) n (fun r hr => ha r (List.mem_of_mem_drop hr)) (by simp; omega)).2]
  rw [hcells] at f3
  refine ⟨some ⟨b, off * sz, none⟩, cap, vs, by rw [hlen], f3, (fun h => by cases h), fun ad had j u hj => ?_⟩
  cases had
  rw [add_mid, cell_of e1]
  exact f2 j u hj

theorem ok_appendH (h : St w0 F0 mods F ρ S w) {t ty el : TypeId} {p : PV} {v u : Value} {sz by_ : Nat} {zs : List PV} {more : List (List PV)} (h1 : elO P t = some el) (h2 : szO P el = some sz) (h3 : byO P el = some by_) (h4 : zO P el = some zs) (h5 : zs.length = sz) (h6 : 0 < sz)
    (hv : RepPV w F ρ (info S) p v) (hm : Holds P w F ρ (info S) more u) (h8 : AllLen sz more) (hl : match p with
      | .nils => (more.length * by_ ≤ 140737488355328 ∧ more.length ≤ 9223372036854775807) ∧ K (.own S.length sz more.length) (S ++ [.buf more])
      | .own o s n => s = sz ∧ ∃ rows, S[o]? = some (.buf rows) ∧ rows.length = n ∧ AllLen sz rows ∧ ((n + more.length) * by_ ≤ 140737488355328 ∧ n + more.length ≤ 9223372036854775807) ∧
          K (.own o sz (n + more.length)) (S.set o (.buf (rows ++ more)))
      | _ => False) :
    OpOk P (do pure (.value (← Builtin.append_ #[t, t] ty #[v, u]))) w0 F0 mods F ρ S w K := by
  cases p
  case nils =>
    obtain ⟨⟨hb1, hb2⟩, hK⟩ := hl
    simp only [RepPV] at hv
    subst hv
    obtain ⟨h', hk, hr⟩ := h.adopt
    refine OpOk.after hk ?_
    have hm' : Holds P w F (Rho ρ S.length none) (info (S ++ [.buf []])) more u := by
      obtain ⟨a, c, vs, e1, e2, e3⟩ := hm
      exact ⟨a, c, vs, e1, RepPVs.keeps hk _ _ e2, e3⟩
    refine ok_append_own h' h1 h2 h3 h4 h5 h6 (o := S.length) (n := 0) (rows := []) (by simp) rfl (fun r hr => by simp at hr) (hr sz) h8 hm' (by simpa using hb1) (by simpa using hb2) ?_
    simpa using hK
  case own o s n =>
    obtain ⟨rfl, rows, hx, hn, hal, ⟨hb1, hb2⟩, hK⟩ := hl
    exact ok_append_own h h1 h2 h3 h4 h5 h6 hx hn hal hv h8 hm hb1 hb2 hK
  all_goals exact hl.elim

/-! ### copy -/
/-- Cells of an object are written, from a list of values. -/
theorem ok_copyH (h : St w0 F0 mods F ρ S w) {t t' ty el : TypeId} (h1 : elO P t = some el) (h2 : szO P el = some 1) {o b c dLen dCap : Nat} {x y : Ob} (hx : S[o]? = some x) (hg : x.Cel) (hgy : y.Cel) (hyn : ∀ pre n run post, y = .arr pre n run post → run.length = n) (hb : ρ o = some b)
    {rows : List (List PV)} (ha : AllLen 1 rows) {u : Value} (hm : Holds P w F ρ (info S) rows u) (hl : c + min rows.length dLen ≤ x.cells.length) (hy : y.cells = splice x.cells c (rows.take (min rows.length dLen)).flatten) (hi : x.info = y.info)
    (hK : K (.d (.i .i64 ((min rows.length dLen : Nat) : Int))) (S.set o y)) :
    OpOk P (do pure (.value (← Builtin.copy_ #[t, t'] ty #[.slice (some ⟨b, c, none⟩) dLen dCap, u]))) w0 F0 mods F ρ S w K := by
  obtain ⟨arr, T, e1, e2⟩ := h.cells hx hg hb
  obtain ⟨a, c', vs, rfl, hr0, hn0, hv0⟩ := hm
  have hlv : vs.length = rows.length := by have := hr0.length; rw [ha.flatten] at this; omega
  let m := min rows.length dLen
  let cs := vs.take m
  have hcs : cs.length = m := by simp only [cs, m, List.length_take, hlv]; omega
  have hr : RepPVs w F ρ (info S) (rows.take m).flatten cs := by
    have hfl : rows.flatten = (rows.take m).flatten ++ (rows.drop m).flatten := by rw [← List.flatten_append, List.take_append_drop]
    rw [hfl] at hr0
    obtain ⟨a', b', e, g1, g2⟩ := RepPVs.split hr0
    have hl1 : a'.length = m := by have := g1.length; rw [AllLen.flatten (fun r hr => ha r (List.mem_of_mem_take hr))] at this; simp at this; omega
    have : cs = a' := by simp only [cs]; rw [e, ← hl1, List.take_left]
    rw [this]; exact g1
  have hsz : x.cells.length ≤ arr.size := by
    rcases Nat.eq_zero_or_pos x.cells.length with h0 | h0
    · omega
    · obtain ⟨v, h1, _⟩ := e2 (x.cells.length - 1) x.cells[x.cells.length - 1] (List.getElem?_eq_getElem (by omega))
      have := (Array.getElem?_eq_some_iff.1 h1).1
      omega
  have hone := ones hr
  have hst := run_storeCells_at P b c T cs 0 arr w e1 (by rw [hcs]; omega) hone
  simp only [Nat.add_zero] at hst
  rw [setRow_eq e1] at hst
  have hfc : (Builtin.firstCells 1 m (.slice a rows.length c')).run P w = .ok cs.toArray w := by
    cases a with
    | none =>
      have : rows = [] := hn0 rfl
      have h0 : cs = [] := List.eq_nil_of_length_eq_zero (by rw [hcs]; simp only [m, this]; simp)
      rw [run_firstCells_none, h0]
    | some ad => exact run_firstCells_some w 1 m ad _ _ cs (by rw [hcs]; omega) (fun j v hj => hv0 ad rfl j v (by simp only [cs] at hj; rw [List.getElem?_take] at hj; split at hj <;> first | exact hj | cases hj))
  have hrun : (Builtin.copy_ #[t, t'] ty #[.slice (some ⟨b, c, none⟩) dLen dCap, .slice a rows.length c']).run P w = .ok (goInt m) (setBlock w b (arr.toList.take c ++ cs ++ arr.toList.drop (c + cs.length)).toArray T) := by
    have hmin : Nat.min rows.length dLen = m := rfl
    simp [Builtin.copy_, run_underlying (elO_under h1), Builtin.lenOf, run_size h2, hmin, hfc, hst]
  have hsize : arr.size = (arr.toList.take c ++ cs ++ arr.toList.drop (c + cs.length)).toArray.size := by simp; omega
  refine ⟨_, goInt m, _, .d (.i .i64 m), S.set o y, F, ρ, by simp only [Sem.run_bind, hrun, Result.andThen_ok, Sem.run_pure], .inl rfl, hK, by simp [RepPV, RepD, goInt], ?_, h.keeps_set hx hg.mut hb e1 hsize (.inl hi)⟩
  refine h.set hx hg.mut hgy hyn hb e1 hsize (.inl hi) ?_
  have hk := h.keeps_set (arr' := (arr.toList.take c ++ cs ++ arr.toList.drop (c + cs.length)).toArray) (y := y) hx hg.mut hb e1 hsize (.inl hi)
  have hfl : (rows.take m).flatten.length = m := by rw [← hr.length, hcs]
  intro j q hj
  rw [hy, splice_get _ _ _ (by have := hfl; simp only [m] at this; omega)] at hj
  have hget : ((arr.toList.take c ++ cs ++ arr.toList.drop (c + cs.length)).toArray)[j]? = if c ≤ j ∧ j < c + cs.length then cs[j - c]? else arr[j]? := by
    have := splice_get arr.toList c cs (by simp; omega) j
    simpa [splice] using this
  split at hj
  · rename_i hcj
    obtain ⟨u, h1, h2, h3⟩ := hr.get hj
    refine ⟨u, ?_, h2, h3.keeps hk⟩
    rw [hget, if_pos (by simp only [m] at hfl hcs; omega)]
    exact h1
  · rename_i hcj
    obtain ⟨u, h1, h2, h3⟩ := e2 j q hj
    refine ⟨u, ?_, h2, h3.keeps hk⟩
    rw [hget, if_neg (by simp only [m] at hfl hcs; omega)]
    exact h1
end
end Go.Aw

/- The abstract machine in a form that is carried out by reduction: it stops at a branch, a call, a loop, a bound. -/
set_option linter.unusedVariables false
set_option linter.unusedSimpArgs false
namespace Go.Aw

/-- A branch: reduction stops here. -/
inductive Br (b : Bool) (X Y : Prop) : Prop
  | mk (t : b = true → X) (f : b = false → Y) : Br b X Y

theorem Br.t {X Y : Prop} (h : X) : Br true X Y := ⟨(fun _ => h), (fun h => by cases h)⟩
theorem Br.f {X Y : Prop} (h : Y) : Br false X Y := ⟨(fun h => by cases h), (fun _ => h)⟩

/-- A condition: reduction stops here. -/
inductive Cd (c X : Prop) : Prop
  | mk (hc : c) (hx : X) : Cd c X

def forceD (d : D) (k : D → Prop) : Prop := k d
def forceP (p : PV) (k : PV → Prop) : Prop := match p with
  | .any => k .any
  | .d x => k (.d x)
  | .nils => k .nils
  | .ptr o c => k (.ptr o c)
  | .dp cells => k (.dp cells)
  | .own o sz n => k (.own o sz n)
  | .eptr o n r sz c => k (.eptr o n r sz c)
  | .agg cs => k (.agg cs)
  | .tup vs => k (.tup vs)
  | .wag pre n run post => k (.wag pre n run post)
  | .asl o c lo len => k (.asl o c lo len)
  | .rptr o c i => k (.rptr o c i)
  | .sub o sz off n m => k (.sub o sz off n m)
  | .mp o => k (.mp o)
def forceL {α : Type} (l : List α) (k : List α → Prop) : Prop := match l with
  | [] => k []
  | x :: r => forceL r fun r' => k (x :: r')
def forcePs (l : List PV) (k : List PV → Prop) : Prop := match l with
  | [] => k []
  | p :: r => forceP p fun p' => forcePs r fun r' => k (p' :: r')
def forceOb (x : Ob) (k : Ob → Prop) : Prop := match x with
  | .box cs => forcePs cs fun cs => k (.box cs)
  | .buf rows => k (.buf rows)
  | .gone => k .gone
  | .fro rows => k (.fro rows)
  | .arr pre n run post => forcePs pre fun pre => forcePs post fun post => k (.arr pre n run post)
  | .mapo es c => k (.mapo es c)
  | .itr mo since seen last => k (.itr mo since seen last)
def forceH (l : Heap) (k : Heap → Prop) : Prop := match l with
  | [] => k []
  | x :: r => forceOb x fun x' => forceH r fun r' => k (x' :: r')

def forceDs (l : List D) (k : List D → Prop) : Prop := match l with
  | [] => k []
  | d :: r => forceD d fun d' => forceDs r fun r' => k (d' :: r')
def forceRR (l : List (List D)) (k : List (List D) → Prop) : Prop := match l with
  | [] => k []
  | d :: r => forceDs d fun d' => forceRR r fun r' => k (d' :: r')

theorem forceD_iff (d : D) (k : D → Prop) : forceD d k ↔ k d := Iff.rfl
theorem forceDs_iff (l : List D) (k : List D → Prop) : forceDs l k ↔ k l := by
  induction l generalizing k with
  | nil => rfl
  | cons x r ih => exact (forceD_iff x _).trans (ih _)
theorem forceRR_iff (l : List (List D)) (k : List (List D) → Prop) : forceRR l k ↔ k l := by
  induction l generalizing k with
  | nil => rfl
  | cons x r ih => exact (forceDs_iff x _).trans (ih _)
theorem forceP_iff (p : PV) (k : PV → Prop) : forceP p k ↔ k p := by
  cases p
  case d x => exact forceD_iff x fun d => k (.d d)
  all_goals rfl
theorem forceL_iff {α : Type} (l : List α) (k : List α → Prop) : forceL l k ↔ k l := by
  induction l generalizing k with
  | nil => rfl
  | cons x r ih => exact ih _
theorem forcePs_iff (l : List PV) (k : List PV → Prop) : forcePs l k ↔ k l := by
  induction l generalizing k with
  | nil => rfl
  | cons x r ih => exact (forceP_iff x _).trans (ih _)
theorem forceOb_iff (x : Ob) (k : Ob → Prop) : forceOb x k ↔ k x := by
  cases x
  case box cs => exact forcePs_iff cs fun cs => k (.box cs)
  case arr pre n run post => exact (forcePs_iff pre _).trans (forcePs_iff post fun post => k (.arr pre n run post))
  all_goals rfl
theorem forceH_iff (l : Heap) (k : Heap → Prop) : forceH l k ↔ k l := by
  induction l generalizing k with
  | nil => rfl
  | cons x r ih => exact (forceOb_iff _ _).trans (ih _)

/-- A number that is written out. -/
def forceN (n : Nat) (k : Nat → Prop) : Prop := match Nat.beq n 1 with
  | true => k 1
  | false => match Nat.beq n 8 with
    | true => k 8
    | false => match Nat.beq n 16 with
      | true => k 16
      | false => match Nat.beq n 24 with
        | true => k 24
        | false => match Nat.beq n 2 with
          | true => k 2
          | false => match Nat.beq n 4 with
            | true => k 4
            | false => match Nat.beq n 32 with
              | true => k 32
              | false => match Nat.beq n 3 with
                | true => k 3
                | false => match Nat.beq n 5 with
                  | true => k 5
                  | false => match Nat.beq n 6 with
                    | true => k 6
                    | false => match Nat.beq n 7 with
                      | true => k 7
                      | false => match Nat.beq n 9 with
                        | true => k 9
                        | false => match Nat.beq n 10 with
                          | true => k 10
                          | false => match Nat.beq n 12 with
                            | true => k 12
                            | false => match Nat.beq n 40 with
                              | true => k 40
                              | false => match Nat.beq n 48 with
                                | true => k 48
                                | false => match Nat.beq n 56 with
                                  | true => k 56
                                  | false => match Nat.beq n 64 with
                                    | true => k 64
                                    | false => match Nat.beq n 72 with
                                      | true => k 72
                                      | false => match Nat.beq n 80 with
                                        | true => k 80
                                        | false => match Nat.beq n 88 with
                                          | true => k 88
                                          | false => match Nat.beq n 96 with
                                            | true => k 96
                                            | false => match Nat.beq n 104 with
                                              | true => k 104
                                              | false => match Nat.beq n 112 with
                                                | true => k 112
                                                | false => match Nat.beq n 120 with
                                                  | true => k 120
                                                  | false => match Nat.beq n 128 with
                                                    | true => k 128
                                                    | false => k n
def forceO (n : Nat) (k : Nat → Prop) : Prop := match Nat.beq n 0 with
  | true => k 0
  | false => match Nat.beq n 1 with
    | true => k 1
    | false => match Nat.beq n 2 with
      | true => k 2
      | false => match Nat.beq n 3 with
        | true => k 3
        | false => match Nat.beq n 4 with
          | true => k 4
          | false => match Nat.beq n 5 with
            | true => k 5
            | false => match Nat.beq n 6 with
              | true => k 6
              | false => match Nat.beq n 7 with
                | true => k 7
                | false => match Nat.beq n 8 with
                  | true => k 8
                  | false => match Nat.beq n 9 with
                    | true => k 9
                    | false => match Nat.beq n 10 with
                      | true => k 10
                      | false => match Nat.beq n 11 with
                        | true => k 11
                        | false => match Nat.beq n 12 with
                          | true => k 12
                          | false => match Nat.beq n 13 with
                            | true => k 13
                            | false => match Nat.beq n 14 with
                              | true => k 14
                              | false => match Nat.beq n 15 with
                                | true => k 15
                                | false => match Nat.beq n 16 with
                                  | true => k 16
                                  | false => k n
theorem forceN_iff (n : Nat) (k : Nat → Prop) : forceN n k ↔ k n := by
  have b : ∀ m, Nat.beq n m = true → n = m := fun m h => Nat.eq_of_beq_eq_true h
  unfold forceN
  repeat' split
  all_goals first | (rename_i h; rw [b _ h]) | rfl
theorem forceO_iff (n : Nat) (k : Nat → Prop) : forceO n k ↔ k n := by
  have b : ∀ m, Nat.beq n m = true → n = m := fun m h => Nat.eq_of_beq_eq_true h
  unfold forceO
  repeat' split
  all_goals first | (rename_i h; rw [b _ h]) | rfl

def loadW (Z : Prop) (P : Program) (S : Heap) (t : TypeId) (p : PV) (K : PV → Heap → Prop) : Prop := match p with
  | .dp cells => match aggO P t with
    | some true => match szO P t with
      | some n => forceN n fun n => Cd (n ≤ cells.length) (K (.agg ((cells.take n).map .d)) S)
      | none => Z
    | some false => match cells with
      | d :: _ => K (.d d) S
      | [] => Z
    | none => Z
  | .ptr o c => match S[o]? with
    | some (.box cs) => match aggO P t with
      | some true => match szO P t with
        | some n => match Nat.ble (c + n) cs.length with
          | true => forcePs ((cs.drop c).take n) fun ps => K (.agg ps) S
          | false => Z
        | none => Z
      | some false => match cs[c]? with
        | some q => forceP q fun q => K q S
        | none => Z
      | none => Z
    | _ => Z
  | .eptr o n r sz c => match S[o]? with
    | some (.buf rows) => Cd (rows.length = n ∧ AllLen sz rows ∧ r < n) (match aggO P t with
      | some true => match szO P t with
        | some m => Cd (c + m ≤ sz) (K (.agg (((rows.getD r []).drop c).take m)) S)
        | none => Z
      | some false => Cd (c < sz) (K ((rows.getD r []).getD c .any) S)
      | none => Z)
    | _ => Z
  | _ => Z

def storeW (Z : Prop) (P : Program) (S : Heap) (t : TypeId) (p v : PV) (K : PV → Heap → Prop) : Prop := match p with
  | .ptr o c => match S[o]?, v.cellsOf, szO P t with
    | some (.box cs), some ps, some n => match Nat.beq ps.length n && Nat.ble (c + n) cs.length with
      | true => forceH (S.set o (.box (splice cs c ps))) fun S' => K .any S'
      | false => Z
    | _, _, _ => Z
  | .eptr o n r sz c => match S[o]?, v.cellsOf, szO P t with
    | some (.buf rows), some ps, some m => Cd ((rows.length = n ∧ AllLen sz rows ∧ r < n) ∧ ps.length = m ∧ c + m ≤ sz) (forceH (S.set o (.buf (rows.set r (splice (rows.getD r []) c ps)))) fun S' => K .any S')
    | _, _, _ => Z
  | _ => Z

def fieldW (Z : Prop) (P : Program) (S : Heap) (t : TypeId) (p : PV) (f : Nat) (K : PV → Heap → Prop) : Prop := match flO P t f with
  | some (off, ft) => match szO P ft with
    | some (_ + 1) => match p with
      | .dp cells => forceO off fun off => K (.dp (cells.drop off)) S
      | .ptr o c => forceO (c + off) fun c' => K (.ptr o c') S
      | .eptr o m r sz c => forceO (c + off) fun c' => K (.eptr o m r sz c') S
      | _ => Z
    | _ => Z
  | none => Z

def indexW (Z : Prop) (P : Program) (S : Heap) (t : TypeId) (p ix : PV) (K : PV → Heap → Prop) : Prop := match elO P t with
  | some el => match szO P el with
    | some sz => match ix with
      | .d (.i _ i) => match p with
        | .d (.sl rows) => forceN sz fun sz => Cd (AllLen sz rows ∧ 0 ≤ i ∧ i < rows.length) (K (.dp (rows.getD i.toNat [])) S)
        | .own o s n => match S[o]? with
          | some (.buf rows) => Cd (s = sz ∧ rows.length = n ∧ 0 ≤ i ∧ i < n) (K (.eptr o n i.toNat sz 0) S)
          | _ => Z
        | _ => Z
      | _ => Z
    | none => Z
  | none => Z

def lenW (Z : Prop) (P : Program) (S : Heap) (t : TypeId) (p : PV) (K : PV → Heap → Prop) : Prop := match p with
  | .d (.s x) => match strA P t with
    | true => K (.d (.i .i64 x.size)) S
    | false => Z
  | .d (.sl rows) => match elO P t with
    | some _ => K (.d (.i .i64 rows.length)) S
    | none => Z
  | .nils => match elO P t with
    | some _ => K (.d (.i .i64 (0 : Nat))) S
    | none => Z
  | .own _ _ n => match elO P t with
    | some _ => K (.d (.i .i64 n)) S
    | none => Z
  | _ => Z

def appendW (Z : Prop) (P : Program) (S : Heap) (t : TypeId) (p x : PV) (K : PV → Heap → Prop) : Prop := match elO P t with
  | some el => match szO P el, byO P el, zO P el with
    | some sz, some by_, some zs => match (match x with | .own _ _ _ => none | x => rowsOf S x) with
      | some more => match p with
        | .nils => match Nat.beq zs.length sz && Nat.blt 0 sz with
          | true => forceN sz fun sz => forceN by_ fun by_ => Cd (AllLen sz more ∧ more.length * by_ ≤ 140737488355328 ∧ more.length ≤ 9223372036854775807) (forceH (S ++ [.buf more]) fun S' => forceO S.length fun o => K (.own o sz more.length) S')
          | false => Z
        | .own o s n => match S[o]? with
          | some (.buf rows) => match Nat.beq zs.length sz && Nat.blt 0 sz && Nat.beq s sz with
            | true => forceN sz fun sz => forceN by_ fun by_ => Cd (AllLen sz more ∧ rows.length = n ∧ AllLen sz rows ∧ (n + more.length) * by_ ≤ 140737488355328 ∧ n + more.length ≤ 9223372036854775807)
              (forceH (S.set o (.buf (rows ++ more))) fun S' => K (.own o sz (n + more.length)) S')
            | false => Z
          | _ => Z
        | _ => Z
      | none => Z
    | _, _, _ => Z
  | none => Z

def bndW (Z : Prop) (o : Option PV) (y dflt : Nat) (k : Nat → Prop) : Prop := match o with
  | none => k dflt
  | some (.d (.i _ n)) => Cd (0 ≤ n ∧ n ≤ y) (k n.toNat)
  | _ => Z

def sliceW (Z : Prop) (P : Program) (S : Heap) (t : TypeId) (p : PV) (lo hi : Option PV) (K : PV → Heap → Prop) : Prop := match p with
  | .d (.s x) => match strA P t with
    | true => bndW Z hi x.size x.size fun m => bndW Z lo m 0 fun l => K (.d (.s (x.extract l m))) S
    | false => Z
  | .d (.sl rows) => match elO P t with
    | some el => match szO P el with
      | some sz => forceN sz fun sz => Cd (AllLen sz rows) (bndW Z hi rows.length rows.length fun m => bndW Z lo m 0 fun l => K (.d (.sl ((rows.take m).drop l))) S)
      | none => Z
    | none => Z
  | _ => Z

/-- A binary operation: where it may not be carried out, the bar stands as a condition. -/
def binW (Z : Prop) (op : BinOp) (x y : D) (k : D → Prop) : Prop := match x, y with
  | .i kx a, .i ky b => match op with
    | .shl => Cd (0 ≤ b) (k (.i kx (kx.wrap (a * 2 ^ (min b.toNat kx.bits)))))
    | .shr => Cd (0 ≤ b) (k (.i kx (a.fdiv (2 ^ (min b.toNat kx.bits)))))
    | op => match instDecidableEqIntKind kx ky with
      | isFalse _ => Z
      | isTrue _ => match op with
        | .add => k (.i kx (kx.wrap (a + b)))
        | .sub => k (.i kx (kx.wrap (a - b)))
        | .mul => k (.i kx (kx.wrap (a * b)))
        | .quo => Cd (b ≠ 0) (k (.i kx (kx.wrap (a.tdiv b))))
        | .rem => Cd (b ≠ 0) (k (.i kx (a.tmod b)))
        | .eql => k (.b (a == b))
        | .neq => k (.b (a != b))
        | .lss => k (.b (decide (a < b)))
        | .leq => k (.b (decide (a ≤ b)))
        | .gtr => k (.b (decide (a > b)))
        | .geq => k (.b (decide (a ≥ b)))
        | .and => k (.i kx (kx.wrap ((BitVec.ofInt kx.bits a &&& BitVec.ofInt kx.bits b).toNat : Int)))
        | .or => k (.i kx (kx.wrap ((BitVec.ofInt kx.bits a ||| BitVec.ofInt kx.bits b).toNat : Int)))
        | .xor => k (.i kx (kx.wrap ((BitVec.ofInt kx.bits a ^^^ BitVec.ofInt kx.bits b).toNat : Int)))
        | .andNot => k (.i kx (kx.wrap ((BitVec.ofInt kx.bits a &&& ~~~(BitVec.ofInt kx.bits b)).toNat : Int)))
        | _ => Z
  | .s a, .s b => match op with
    | .add => Cd (a.size + b.size ≤ 9223372036854775807) (k (.s (a ++ b)))
    | .eql => k (.b (a.toList == b.toList))
    | .neq => k (.b (!(a.toList == b.toList)))
    | .lss => k (.b (Op.bytesLess a.toList b.toList))
    | .leq => k (.b (Op.bytesLess a.toList b.toList || a.toList == b.toList))
    | .gtr => k (.b (!(Op.bytesLess a.toList b.toList || a.toList == b.toList)))
    | .geq => k (.b (!(Op.bytesLess a.toList b.toList)))
    | _ => Z
  | _, _ => Z

theorem binW_D {op : BinOp} {x y : D} {k : D → Prop} (h : binW False op x y k) : ∃ d, binD op x y = some d ∧ k d := by
  cases x <;> cases y <;> simp only [binW] at h
  case i.i kx a ky b =>
    cases op <;> simp only at h <;> (try split at h) <;> (try exact h.elim) <;> first
      | (rename_i hk _; subst hk; exact ⟨_, by simp [binD, intOp], h⟩)
      | (rename_i hk _; subst hk; obtain ⟨hc, hk'⟩ := h; exact ⟨_, by simp [binD, intOp, hc], hk'⟩)
      | (obtain ⟨hc, hk'⟩ := h; refine ⟨_, ?_, hk'⟩; simp only [binD, isShift, or_true, if_true, intOp]; rw [if_neg (by omega)])
  case s.s a b =>
    cases op <;> simp only at h
    case add => obtain ⟨hc, hk⟩ := h; refine ⟨_, ?_, hk⟩; simp only [binD, strOp]; rw [if_neg (by omega)]
    all_goals exact ⟨_, rfl, h⟩

/-- A struct's cells compared; that the struct is of such cells is a condition of its own. -/
def flatEqW (P : Program) : List Field → List PV → List PV → Option Bool
  | [], [], [] => some true
  | f :: fs, x :: xs, y :: ys => match leafEq P f.type x y, flatEqW P fs xs ys with
    | some a, some b => some (a && b)
    | _, _ => none
  | _, _, _ => none
def flatOk (P : Program) : List Field → Nat → Bool
  | [], _ => true
  | f :: fs, i => Nat.beq f.offset i && !(f.name == "_") && (match aggO P f.type with | some false => true | _ => false) && flatOk P fs (i + 1)
def structOk (P : Program) (t : TypeId) : Bool := match P.underlying t with
  | some (.struct fs) => !P.stoodInHeld t && !P.eqGuardType P.depth t && flatOk P fs.toList 0
  | _ => false
def structW (Z : Prop) (P : Program) (t : TypeId) (cs ds : List PV) (k : Bool → Prop) : Prop := match P.underlying t with
  | some (.struct fs) => match flatEqW P fs.toList cs ds with
    | some b => Cd (structOk P t = true) (k b)
    | none => Z
  | _ => Z
theorem flatEqW_ok {P : Program} : ∀ {fs : List Field} {i : Nat} {cs ds : List PV} {b : Bool}, flatEqW P fs cs ds = some b → flatOk P fs i = true → flatEq P fs i cs ds = some b
  | [], i, [], [], b, h, _ => h
  | f :: fs, i, x :: xs, y :: ys, b, h, ho => by
    simp only [flatEqW] at h
    simp only [flatOk, Bool.and_eq_true, Bool.not_eq_true'] at ho
    obtain ⟨⟨⟨h1, h2⟩, h3⟩, h4⟩ := ho
    split at h
    · rename_i a b' ha hb
      cases h
      have h3' : aggO P f.type = some false := by split at h3 <;> simp_all
      simp only [flatEq, h1, h2, h3', ha, flatEqW_ok hb h4]
    · cases h
  | [], i, _ :: _, _, b, h, _ => by simp [flatEqW] at h
  | [], i, [], _ :: _, b, h, _ => by simp [flatEqW] at h
  | _ :: _, i, [], _, b, h, _ => by simp [flatEqW] at h
  | _ :: _, i, _ :: _, [], b, h, _ => by simp [flatEqW] at h
theorem structW_ok {P : Program} {t : TypeId} {cs ds : List PV} {k : Bool → Prop} (h : structW False P t cs ds k) : ∃ b, structEq P t cs ds = some b ∧ k b := by
  unfold structW at h
  split at h
  · rename_i fs hu
    split at h
    · rename_i b hb
      obtain ⟨ho, hk⟩ := h
      unfold structOk at ho
      rw [hu] at ho
      simp only [Bool.and_eq_true, Bool.not_eq_true'] at ho
      refine ⟨b, ?_, hk⟩
      unfold structEq
      rw [hu, ho.1.1, ho.1.2]
      exact flatEqW_ok hb ho.2
    · exact h.elim
  · exact h.elim

/-- Carried out on what there is. -/
def binPW (Z : Prop) (P : Program) (op : BinOp) (t : TypeId) (yc : Bool) (p q : PV) (k : D → Prop) : Prop := match p, q with
  | .d (.i kx a), .d (.i ky b) => binW Z op (.i kx a) (.i ky b) k
  | .d (.s a), .d (.s b) => binW Z op (.s a) (.s b) k
  | .agg cs, .agg ds => match op with
    | .eql => structW Z P t cs ds fun b => k (.b b)
    | .neq => structW Z P t cs ds fun b => k (.b (!b))
    | _ => Z
  | p, q => match op with
    | .eql => match eqP P t yc p q with
      | some b => k (.b b)
      | none => Z
    | .neq => match eqP P t yc p q with
      | some b => k (.b (!b))
      | none => Z
    | _ => Z

theorem binPW_D {P : Program} {op : BinOp} {t : TypeId} {yc : Bool} {p q : PV} {k : D → Prop} (h : binPW False P op t yc p q k) : ∃ d, binP P op t yc p q = some d ∧ k d := by
  unfold binPW at h
  split at h
  · rename_i kx a ky b
    obtain ⟨d, h1, h2⟩ := binW_D h
    refine ⟨d, ?_, h2⟩
    unfold binP
    split <;> simp_all [eqP]
  · rename_i a b
    obtain ⟨d, h1, h2⟩ := binW_D h
    refine ⟨d, ?_, h2⟩
    unfold binP
    split <;> simp_all [eqP]
  · rename_i cs ds
    split at h
    · obtain ⟨b, h1, h2⟩ := structW_ok h
      exact ⟨_, by simp only [binP, eqP, h1], h2⟩
    · obtain ⟨b, h1, h2⟩ := structW_ok h
      exact ⟨_, by simp only [binP, eqP, h1], h2⟩
    · exact h.elim
  · split at h
    · split at h
      · rename_i b hb; exact ⟨_, by simp only [binP, hb], h⟩
      · exact h.elim
    · split at h
      · rename_i b hb; exact ⟨_, by simp only [binP, hb], h⟩
      · exact h.elim
    · exact h.elim

def opW (Z : Prop) (P : Program) (e : Env) (S : Heap) (op : Op) (K : PV → Heap → Prop) : Prop := match op with
  | .move x => forceP (ev e x) fun v => K v S
  | .assign x => forceP (ev e x) fun v => K v S
  | .pick c a b => match ev e c with
    | .d (.b t) => Br t (forceP (ev e a) fun v => K v S) (forceP (ev e b) fun v => K v S)
    | _ => Z
  | .alloc T => match wideO P T with
    | some _ => Z
    | none => match zO P T with
      | some cs => forceH (S ++ [.box cs]) fun S' => forceO S.length fun o => K (.ptr o 0) S'
      | none => Z
  | .box T v => match wideO P T with
   | some _ => Z
   | none => match (ev e v).cellsOf with
    | some cs => forceH (S ++ [.box cs]) fun S' => forceO S.length fun o => K (.ptr o 0) S'
    | none => Z
  | .build T parts => match wideO P T with
   | some _ => Z
   | none => match plO P T, zO P T with
    | some pl, some zs => match fillA (fun i => pl[i]?) zs (parts.toList.map fun x => (x.1, ev e x.2)) with
      | some cs => forcePs cs fun cs => K (.agg cs) S
      | none => Z
    | _, _ => Z
  | .buildSlice T len parts => match elO P T with
    | some el => match wideO P el with
     | some _ => Z
     | none => match szO P el, zO P el with
      | some sz, some zs => match fillA (fun i => some (i * sz, sz)) (List.replicate len zs).flatten (parts.toList.map fun x => (x.1, ev e x.2)) with
        | some cs => match toDs cs with
          | some ds => match Nat.beq zs.length sz && Nat.blt 0 sz && Nat.ble (len * sz) 16777216 && Nat.beq ds.length (len * sz) with
            | true => forceRR (chunks sz len ds) fun rows => K (.d (.sl rows)) S
            | false => Z
          | none => Z
        | none => Z
      | _, _ => Z
    | none => Z
  | .load T a => match wideO P T with
    | some _ => Z
    | none => loadW Z P S T (ev e a) K
  | .store T a v => storeW Z P S T (ev e a) (ev e v) K
  | .fieldAddr T x f => fieldW Z P S T (ev e x) f K
  | .indexAddr T x i => indexW Z P S T (ev e x) (ev e i) K
  | .binOp op t x y _ => binPW Z P op t (isConst y) (ev e x) (ev e y) fun d => K (.d d) S
  | .unOp .not t x => match ev e x with
    | .d (.b b) => K (.d (.b (!b))) S
    | _ => Z
  | .nilCheck x => match ptrLike (ev e x) with
    | true => forceP (ev e x) fun v => K v S
    | false => Z
  | .unOp .neg t x => match ev e x with
    | .d (.i k n) => K (.d (.i k (k.wrap (0 - n)))) S
    | _ => Z
  | .convert s t x => match ev e x with
    | .d (.i k n) => match kindA P s, kindA P t with
      | some _, some k' => K (.d (.i k' (k'.wrap n))) S
      | _, _ => Z
    | .d (.s y) => match strA P s, strA P t with
      | true, true => K (.d (.s y)) S
      | _, _ => Z
    | _ => Z
  | .extract x i => match ev e x with
    | .tup vs => match vs[i]? with
      | some p => forceP p fun p => K p S
      | none => Z
    | _ => Z
  | .index t x i => match ev e x, ev e i, strA P t with
    | .d (.s y), .d (.i k n), true => Cd (0 ≤ n ∧ n < y.size) (K (.d (.i .u8 (y.data.getD n.toNat 0).toNat)) S)
    | _, _, _ => Z
  | .slice t x lo hi none => sliceW Z P S t (ev e x) (lo.map (ev e)) (hi.map (ev e)) K
  | .makeSlice t l c => match elO P t with
    | some el => match szO P el, byO P el, zO P el with
      | some sz, some by_, some zs => match ev e l, ev e c with
        | .d (.i k n), .d (.i k' m) => match Nat.beq zs.length sz && Nat.blt 0 sz with
          | true => forceN sz fun sz => forceN by_ fun by_ => Cd (0 ≤ n ∧ n ≤ m ∧ (by_ : Int) * m ≤ 281474976710656 ∧ m ≤ 9223372036854775807) (forceH (S ++ [.buf (List.replicate n.toNat zs)]) fun S' => forceO S.length fun o => K (.own o sz n.toNat) S')
          | false => Z
        | _, _ => Z
      | _, _, _ => Z
    | none => Z
  | .makeInterface t x => match plainA P t with
    | true => match (ev e x).toDA with
      | some d => K (.d (.ifc t d)) S
      | none => Z
    | false => Z
  | .call { callee := .builtin .len, args, argTypes } => match args.toList, argTypes.toList with
    | [x], [t] => lenW Z P S t (ev e x) K
    | _, _ => Z
  | .call { callee := .builtin .append, args, argTypes } => match args.toList, argTypes.toList with
    | [p, x], [t, t'] => match Nat.decEq t' t with
      | isTrue _ => appendW Z P S t (ev e p) (ev e x) K
      | isFalse _ => Z
    | _, _ => Z
  | _ => Z

section
variable {P : Program}

theorem bndW_A {o : Option PV} {y d : Nat} {k : Nat → Prop} (h : bndW False o y d k) : ∃ m, bndA o y d = some m ∧ k m := by
  unfold bndW at h
  split at h
  · exact ⟨_, rfl, h⟩
  · obtain ⟨hc, hk⟩ := h; exact ⟨_, by simp only [bndA]; rw [if_pos hc], hk⟩
  · exact h.elim

theorem loadW_A {S : Heap} {t : TypeId} {p : PV} {K : PV → Heap → Prop} (h : loadW False P S t p K) : loadA P S t p K := by
  unfold loadW at h
  split at h
  · split at h
    · rename_i ha
      split at h
      · rename_i n hs; obtain ⟨hc, hk⟩ := (forceN_iff _ _).1 h; simp only [loadA, ha]; exact ⟨n, hs, hc, hk⟩
      · exact h.elim
    · rename_i ha
      split at h
      · simp only [loadA, ha]; exact ⟨_, rfl, h⟩
      · exact h.elim
    · exact h.elim
  · split at h
    · rename_i cs hx
      split at h
      · rename_i ha
        split at h
        · rename_i n hs
          split at h
          · rename_i hb; simp only [loadA, ha]; exact ⟨cs, hx, n, hs, Nat.le_of_ble_eq_true hb, (forcePs_iff _ (fun ps => K (.agg ps) S)).1 h⟩
          · exact h.elim
        · exact h.elim
      · rename_i ha
        split at h
        · rename_i q hq; simp only [loadA, ha]; exact ⟨cs, hx, q, hq, (forceP_iff _ _).1 h⟩
        · exact h.elim
      · exact h.elim
    · exact h.elim
  · rename_i o n r sz c
    split at h
    · rename_i rows hx
      obtain ⟨⟨h1, h2, h3⟩, h⟩ := h
      have hr : rows[r]? = some (rows.getD r []) := by simp [List.getD_eq_getElem?_getD, List.getElem?_eq_getElem (show r < rows.length by omega)]
      have hl : (rows.getD r []).length = sz := h2 _ (List.mem_of_getElem? hr)
      split at h
      · rename_i ha
        split at h
        · rename_i m hs; obtain ⟨hc, hk⟩ := h; simp only [loadA, ha]; exact ⟨rows, _, hx, h1, h2, hr, m, hs, hc, hk⟩
        · exact h.elim
      · rename_i ha
        obtain ⟨hc, hk⟩ := h
        simp only [loadA, ha]
        refine ⟨rows, _, hx, h1, h2, hr, (rows.getD r []).getD c .any, ?_, hk⟩
        have hlt : c < (rows.getD r []).length := by omega
        rw [List.getD_eq_getElem?_getD (l := rows.getD r []), List.getElem?_eq_getElem hlt]
        rfl
      · exact h.elim
    · exact h.elim
  · exact h.elim

theorem storeW_A {S : Heap} {t : TypeId} {p v : PV} {K : PV → Heap → Prop} (h : storeW False P S t p v K) : storeA P S t p v K := by
  unfold storeW at h
  split at h
  · split at h
    · rename_i cs ps n hx hp hs
      split at h
      case h_2 => exact h.elim
      rename_i hbb
      simp only [Bool.and_eq_true] at hbb
      have h1 := Nat.eq_of_beq_eq_true hbb.1
      have h2 := Nat.le_of_ble_eq_true hbb.2
      subst h1
      exact ⟨cs, ps, hx, hp, hs, h2, (forceH_iff _ _).1 h⟩
    · exact h.elim
  · rename_i o n r sz c
    split at h
    · rename_i rows ps m hx hp hs
      obtain ⟨⟨⟨h1, h2, h3⟩, h4, h5⟩, h⟩ := h
      subst h4
      have hr : rows[r]? = some (rows.getD r []) := by simp [List.getD_eq_getElem?_getD, List.getElem?_eq_getElem (show r < rows.length by omega)]
      exact ⟨rows, _, ps, hx, h1, h2, hr, hp, hs, h5, (forceH_iff _ _).1 h⟩
    · exact h.elim
  · exact h.elim

theorem opW_A {e : Env} {S : Heap} {op : Op} {K : PV → Heap → Prop} (h : opW False P e S op K) : opA P e S op K := by
  unfold opW at h
  split at h
  · exact (forceP_iff _ _).1 h
  · exact (forceP_iff _ _).1 h
  · split at h
    · rename_i t ht
      obtain ⟨h1, h2⟩ := h
      refine ⟨t, ht, ?_⟩
      cases t with
      | true => simpa using (forceP_iff _ _).1 (h1 rfl)
      | false => simpa using (forceP_iff _ _).1 (h2 rfl)
    · exact h.elim
  · split at h
    · exact h.elim
    split at h
    · rename_i cs hz; exact ⟨cs, hz, (forceO_iff _ _).1 ((forceH_iff _ _).1 h)⟩
    · exact h.elim
  · split at h
    · exact h.elim
    split at h
    · rename_i cs hz; exact ⟨cs, hz, (forceO_iff _ _).1 ((forceH_iff _ _).1 h)⟩
    · exact h.elim
  · split at h
    · exact h.elim
    split at h
    · rename_i pl zs hp hz
      split at h
      · rename_i cs hf; exact ⟨pl, zs, cs, hp, hz, hf, (forcePs_iff cs (fun cs => K (.agg cs) S)).1 h⟩
      · exact h.elim
    · exact h.elim
  · split at h
    · rename_i el he
      split at h
      · exact h.elim
      split at h
      · rename_i sz zs hs hz
        split at h
        · rename_i cs hf
          split at h
          · rename_i ds hd
            split at h
            case h_2 => exact h.elim
            rename_i hbb
            simp only [Bool.and_eq_true] at hbb
            have h1 := Nat.eq_of_beq_eq_true hbb.1.1.1
            have h2 : 0 < sz := by have := hbb.1.1.2; simpa [Nat.blt_eq] using this
            have h3 := Nat.le_of_ble_eq_true hbb.1.2
            have h4 := Nat.eq_of_beq_eq_true hbb.2
            exact ⟨el, sz, zs, cs, ds, he, hs, hz, h1, h2, hf, h3, hd, h4, (forceRR_iff _ (fun rows => K (.d (.sl rows)) S)).1 h⟩
          · exact h.elim
        · exact h.elim
      · exact h.elim
    · exact h.elim
  · split at h
    · exact h.elim
    exact loadW_A h
  · exact storeW_A h
  · unfold fieldW at h
    split at h
    · rename_i off ft hf
      split at h
      · rename_i n hs
        split at h
        · rename_i hx; simp only [opA, fieldA]; exact ⟨off, ft, n + 1, hf, hs, by omega, by rw [hx]; first | exact h | exact (forceO_iff _ _).1 h⟩
        · rename_i hx; simp only [opA, fieldA]; exact ⟨off, ft, n + 1, hf, hs, by omega, by rw [hx]; first | exact h | exact (forceO_iff _ _).1 h⟩
        · rename_i hx; simp only [opA, fieldA]; exact ⟨off, ft, n + 1, hf, hs, by omega, by rw [hx]; first | exact h | exact (forceO_iff _ _).1 h⟩
        · exact h.elim
      · exact h.elim
    · exact h.elim
  · unfold indexW at h
    split at h
    · rename_i el he
      split at h
      · rename_i sz hs
        split at h
        · rename_i k i hi
          split at h
          · rename_i rows hx
            obtain ⟨⟨h1, h2, h3⟩, h⟩ := (forceN_iff _ _).1 h
            simp only [opA, indexA]
            refine ⟨el, sz, he, hs, ?_⟩
            rw [hi, hx]
            exact ⟨h1, h2, h3, h⟩
          · rename_i o s n hx
            split at h
            · rename_i rows ho
              obtain ⟨⟨h1, h2, h3, h4⟩, h⟩ := h
              simp only [opA, indexA]
              refine ⟨el, sz, he, hs, ?_⟩
              rw [hi, hx]
              exact ⟨h1, rows, ho, h2, h3, h4, h⟩
            · exact h.elim
          · exact h.elim
        · exact h.elim
      · exact h.elim
    · exact h.elim
  · exact binPW_D h
  · split at h
    · rename_i b hb; exact ⟨b, hb, h⟩
    · exact h.elim
  · split at h
    · rename_i hp; exact ⟨hp, (forceP_iff _ _).1 h⟩
    · exact h.elim
  · split at h
    · rename_i k n hb; exact ⟨k, n, hb, h⟩
    · exact h.elim
  · split at h
    · rename_i k n hx
      split at h
      · rename_i j k' h1 h2; simp only [opA, hx]; exact ⟨⟨j, h1⟩, k', h2, h⟩
      · exact h.elim
    · rename_i y hx
      split at h
      · rename_i h1 h2; simp only [opA, hx]; exact ⟨h1, h2, h⟩
      · exact h.elim
    · exact h.elim
  · split at h
    · rename_i vs hx
      split at h
      · rename_i p hp; exact ⟨vs, p, hx, hp, (forceP_iff _ _).1 h⟩
      · exact h.elim
    · exact h.elim
  · split at h
    · rename_i y k n hx hi hs
      obtain ⟨⟨h1, h2⟩, h⟩ := h
      simp only [opA, hx, hi]
      exact ⟨hs, h1, h2, h⟩
    · exact h.elim
  · unfold sliceW at h
    split at h
    · rename_i y hx
      split at h
      · rename_i hs
        obtain ⟨m, h1, h⟩ := bndW_A h
        obtain ⟨l, h2, h⟩ := bndW_A h
        simp only [opA, sliceA, hx]
        exact ⟨hs, m, l, h1, h2, h⟩
      · exact h.elim
    · rename_i rows hx
      split at h
      · rename_i el he
        split at h
        · rename_i sz hs
          obtain ⟨h0, h⟩ := (forceN_iff _ _).1 h
          obtain ⟨m, h1, h⟩ := bndW_A h
          obtain ⟨l, h2, h⟩ := bndW_A h
          simp only [opA, sliceA, hx]
          exact ⟨el, sz, m, l, he, hs, h0, h1, h2, h⟩
        · exact h.elim
      · exact h.elim
    · exact h.elim
  · split at h
    · rename_i el he
      split at h
      · rename_i sz by_ zs hs hb hz
        split at h
        · rename_i k n k' m h1 h2
          split at h
          · rename_i hbb
            simp only [Bool.and_eq_true] at hbb
            have g1 := Nat.eq_of_beq_eq_true hbb.1
            have g2 : 0 < sz := by have := hbb.2; simpa [Nat.blt_eq] using this
            obtain ⟨⟨g3, g4, g5, g6⟩, h⟩ := (forceN_iff _ _).1 ((forceN_iff _ _).1 h)
            exact ⟨el, sz, by_, zs, k, n, k', m, he, hs, hb, hz, g1, g2, h1, h2, g3, g4, g5, g6, (forceO_iff _ _).1 ((forceH_iff _ _).1 h)⟩
          · exact h.elim
        · exact h.elim
      · exact h.elim
    · exact h.elim
  · split at h
    · rename_i hp
      split at h
      · rename_i d hd; exact ⟨hp, d, hd, h⟩
      · exact h.elim
    · exact h.elim
  · split at h
    · rename_i x t hx ht
      simp only [opA, hx, ht]
      unfold lenW at h
      split at h
      · rename_i y hy
        split at h
        · rename_i hs; simp only [lenA, hy]; exact ⟨hs, h⟩
        · exact h.elim
      · rename_i rows hy
        split at h
        · rename_i el he; simp only [lenA, hy]; exact ⟨⟨el, he⟩, _, rfl, h⟩
        · exact h.elim
      · rename_i hy
        split at h
        · rename_i el he; simp only [lenA, hy]; exact ⟨⟨el, he⟩, _, rfl, h⟩
        · exact h.elim
      · rename_i hy
        split at h
        · rename_i el he; simp only [lenA, hy]; exact ⟨⟨el, he⟩, _, rfl, h⟩
        · exact h.elim
      · exact h.elim
    · exact h.elim
  · split at h
    · rename_i p x t t' hx ht
      split at h
      · rename_i heq _
        simp only [opA, hx, ht]
        refine ⟨heq, ?_⟩
        unfold appendW at h
        split at h
        · rename_i el he
          split at h
          · rename_i sz by_ zs hs hb hz
            split at h
            · rename_i more hmore'
              have hmore : rowsOf S (ev e x) = some more := by
                split at hmore'
                · cases hmore'
                · exact hmore'
              split at h
              · rename_i hp
                split at h
                case h_2 => exact h.elim
                rename_i hbb
                simp only [Bool.and_eq_true] at hbb
                have h1 := Nat.eq_of_beq_eq_true hbb.1
                have h2 : 0 < sz := by have := hbb.2; simpa [Nat.blt_eq] using this
                obtain ⟨⟨h3, h4, h5⟩, h⟩ := (forceN_iff _ _).1 ((forceN_iff _ _).1 h)
                refine ⟨el, sz, by_, zs, more, he, hs, hb, hz, h1, h2, hmore, h3, ?_⟩
                rw [hp]
                exact ⟨⟨h4, h5⟩, (forceO_iff _ _).1 ((forceH_iff _ _).1 h)⟩
              · rename_i o s n hp
                split at h
                · rename_i rows ho
                  split at h
                  case h_2 => exact h.elim
                  rename_i hbb
                  simp only [Bool.and_eq_true] at hbb
                  have h1 := Nat.eq_of_beq_eq_true hbb.1.1
                  have h2 : 0 < sz := by have := hbb.1.2; simpa [Nat.blt_eq] using this
                  have h4 := Nat.eq_of_beq_eq_true hbb.2
                  obtain ⟨⟨h3, h5, h6, h7, h8⟩, h⟩ := (forceN_iff _ _).1 ((forceN_iff _ _).1 h)
                  refine ⟨el, sz, by_, zs, more, he, hs, hb, hz, h1, h2, hmore, h3, ?_⟩
                  rw [hp]
                  exact ⟨h4, rows, ho, h5, h6, ⟨h7, h8⟩, (forceH_iff _ _).1 h⟩
                · exact h.elim
              · exact h.elim
            · exact h.elim
          · exact h.elim
        · exact h.elim
      · exact h.elim
    · exact h.elim
  · exact h.elim
theorem opW_Z {Z : Prop} {e : Env} {S : Heap} {op : Op} {K : PV → Heap → Prop} (h : opW Z P e S op K) : opA P e S op K ∨ Z := by
  by_cases hz : Z
  · exact .inr hz
  · have : Z = False := propext ⟨hz, False.elim⟩
    subst this
    exact .inl (opW_A h)
end
end Go.Aw

/- More operations, told of by the worlds: rows of the call's own become data, type assertions, bytes and strings. -/
set_option linter.unusedVariables false
set_option linter.unusedSimpArgs false
namespace Go.Aw

/-- An operation at these operands, in each world that bears the state. -/
def SemV (P : Program) (vs : List PV) (S : Heap) (o : Oper) (K : PV → Heap → Prop) : Prop :=
  ∀ (w0 : World) (F0 mods F : Nat → Prop) (ρ : Nat → Option Nat) (w : World) (a : Act), St w0 F0 mods F ρ S w → RepTs w F ρ (info S) vs (o.op.operands.toList.map a.eval) →
    OpOk P (execOp a.eval o) w0 F0 mods F ρ S w K
/-- A call whose function shows in the worlds alone. -/
def SemVE (P : Program) (vs : List PV) (S : Heap) (o : Oper) (f : FuncId) (as : List PV) : Prop :=
  ∀ (F : Nat → Prop) (ρ : Nat → Option Nat) (w : World) (a : Act), RepTs w F ρ (info S) vs (o.op.operands.toList.map a.eval) →
    ∃ cargs : Array Value, (execOp a.eval o).run P w = .ok (.enter f cargs) w ∧ RepTs w F ρ (info S) as cargs.toList
/-- What an operation comes to: one value, one state. -/
def OpPt (P : Program) (vs : List PV) (S : Heap) (o : Oper) (p : PV) (S' : Heap) : Prop := SemV P vs S o (fun v s => v = p ∧ s = S')
theorem OpPt.to {P : Program} {vs : List PV} {S S' : Heap} {o : Oper} {p : PV} {K : PV → Heap → Prop} (h : OpPt P vs S o p S') (k : K p S') : SemV P vs S o K :=
  fun w0 F0 mods F ρ w a hs he => (h w0 F0 mods F ρ w a hs he).mono fun v s hv => by obtain ⟨rfl, rfl⟩ := hv; exact k

/-- Rows as data: reduction stops here. -/
inductive PubRows (rows : List (List PV)) (n : Nat) (k : List (List D) → Prop) : Prop
  | mk (ds : List (List D)) (hn : rows.length = n) (h : toRows rows = some ds) (hk : k ds)
/-- Rows as bytes: reduction stops here. -/
inductive BytesQ (rows : List (List D)) (k : List UInt8 → Prop) : Prop
  | mk (l : List UInt8) (h : rows = l.map fun b => [D.i .u8 b.toNat]) (hk : k l)

section
variable {P : Program} {w0 : World} {F0 mods F : Nat → Prop} {ρ : Nat → Option Nat} {S : Heap} {w : World}

theorem toRows_len {rows : List (List PV)} {ds : List (List D)} (h : toRows rows = some ds) : ds.length = rows.length := (toRows_spec h).2
theorem toDs_map : ∀ {ps : List PV} {ds : List D}, toDs ps = some ds → ps.length = ds.length
  | [], ds, h => by simp only [toDs, Option.some.injEq] at h; subst h; rfl
  | p :: r, ds, h => by
    simp only [toDs] at h
    split at h
    · rename_i d ds' e1 e2; cases h; simp [toDs_map e2]
    · cases h

/-- Rows of the call's own that nobody changes from now on. -/
theorem St.fix (h : St w0 F0 mods F ρ S w) {o : Nat} {rows : List (List PV)} {ds : List (List D)} (hx : S[o]? = some (.buf rows)) (hd : toRows rows = some ds) :
    ∃ F', St w0 F0 mods F' ρ (S.set o (.fro ds)) w ∧ Keeps w w F F' ρ ρ (info S) (info (S.set o (.fro ds))) := by
  have hl := (List.getElem?_eq_some_iff.1 hx).1
  obtain ⟨e1, e2⟩ := toRows_spec hd
  have hinf : info (S.set o (.fro ds)) = info S := by
    funext o'
    by_cases e : o' = o
    · subst e; rw [info_set hl, info_of hx]; simp [Ob.info, e2]
    · rw [info_set_ne e]
  have lv : ∀ o' c, Lives (S.set o (.fro ds)) ρ o' c → Lives S ρ o' c ∧ o' ≠ o := by
    rintro o' c ⟨h1, y, h2, h3⟩
    by_cases e : o' = o
    · subst e; rw [List.getElem?_set_self hl] at h2; cases h2; exact h3.elim
    · rw [List.getElem?_set_ne (Ne.symm e)] at h2
      exact ⟨⟨h1, y, h2, h3⟩, e⟩
  rw [hinf]
  have hobj := h.objs o _ hx
  rcases hobj with ⟨g1, rfl⟩ | ⟨b, arr, T, g1, g2, g3⟩
  · have hds : ds = [] := List.eq_nil_of_length_eq_zero (by simpa using e2)
    subst hds
    refine ⟨F, ⟨?_, fun o1 o2 c h1 h2 => h.inj o1 o2 c (lv _ _ h1).1 (lv _ _ h2).1, fun o1 c h1 => h.notF o1 c (lv _ _ h1).1, h.bound, fun o1 c h1 => h.mine o1 c (lv _ _ h1).1, h.grow, h.os, h.tape, h.output, h.keep, h.bsize, h.f0, h.fnew⟩, Keeps.refl ..⟩
    intro o' y hy
    rw [hinf]
    by_cases e : o' = o
    · subst e; rw [List.getElem?_set_self hl] at hy; cases hy; exact .inl ⟨g1, rfl⟩
    · rw [List.getElem?_set_ne (Ne.symm e)] at hy; exact h.objs o' y hy
  · have hk : Keeps w w F (Plus F b) ρ ρ (info S) (info S) :=
      ⟨fun _ _ => rfl, fun _ h => .inl h, fun _ => Nat.le_refl _, fun _ h => h, fun _ _ h => ⟨h, rfl⟩, fun _ m _ h => ⟨m, h, Nat.le_refl _, fun _ => rfl⟩⟩
    have hme : Lives S ρ o b := ⟨g1, _, hx, trivial⟩
    refine ⟨Plus F b, ⟨?_, fun o1 o2 c h1 h2 => h.inj o1 o2 c (lv _ _ h1).1 (lv _ _ h2).1, fun o1 c h1 hf => ?_, fun c hc => ?_, fun o1 c h1 => h.mine o1 c (lv _ _ h1).1, h.grow, h.os, h.tape, h.output, h.keep, h.bsize,
      fun c hc => .inl (h.f0 c hc), fun c hc => ?_⟩, hk⟩
    · intro o' y hy
      rw [hinf]
      by_cases e : o' = o
      · subst e; rw [List.getElem?_set_self hl] at hy; cases hy
        refine .inr ⟨b, arr, T, g1, g2, .inr rfl, fun j p hj => ?_⟩
        have hat := RepPre.toDs (F := F) (F' := Plus F b) (ρ := ρ) (C := info S) (fun x hx => .inl hx) (.inr rfl) 0 g2 (fun j p hj => by simpa using g3 j p hj) e1
        rw [← List.map_flatten, List.getElem?_map] at hj
        obtain ⟨d, hd', rfl⟩ := Option.map_eq_some_iff.1 hj
        obtain ⟨_, v, k1, k2, k3⟩ := hat.get hd'
        refine ⟨v, by have := k1; rw [cell_of g2] at this; simpa using this, k2, by simpa [RepPV] using k3⟩
      · rw [List.getElem?_set_ne (Ne.symm e)] at hy
        exact (h.objs o' y hy).keeps hk rfl fun _ _ _ => rfl
    · obtain ⟨h2, h3⟩ := lv _ _ h1
      rcases hf with hf | hf
      · exact h.notF o1 c h2 hf
      · subst hf; exact h3 (h.inj o1 o c h2 hme)
    · rcases hc with hc | hc
      · exact h.bound c hc
      · subst hc; exact h.lives_lt hme
    · rcases hc with hc | hc
      · exact h.fnew c hc
      · subst hc; exact .inr (h.mine o c hme)

/-- A slice of rows that nobody changes is data. -/
theorem fro_rep (h : St w0 F0 mods F ρ S w) {o sz n : Nat} {ds : List (List D)} (hx : S[o]? = some (.fro ds)) (hn : ds.length = n) {v : Value} (hv : RepPV w F ρ (info S) (.own o sz n) v) : RepD w F (.sl ds) v := by
  simp only [RepPV] at hv
  obtain ⟨hfr, a, cap, rfl, h2⟩ := hv
  have hi : info S o = .buf n := by rw [info_of hx, Ob.info, hn]
  simp only [RepD]
  rcases (h2 n hi).2 rfl with ⟨g1, rfl, rfl, rfl⟩ | ⟨b, g1, rfl, g3, g4, g5⟩
  · exact ⟨none, 0, 0, rfl, by omega, Nat.le_refl _, by unfold maxLen; omega, fun _ => rfl, fun ad had => by cases had⟩
  · refine ⟨_, n, cap, rfl, by omega, g3, g4, (fun e => by cases e), fun ad had => ?_⟩
    cases had
    exact ⟨fun _ => rfl, (h.fro hx g1).1⟩

/-- Rows of the call's own, as data from now on. -/
theorem freeze_own (h : St w0 F0 mods F ρ S w) {o sz n : Nat} {rows : List (List PV)} {ds : List (List D)} (hx : S[o]? = some (.buf rows)) (hn : rows.length = n) (hd : toRows rows = some ds) {v : Value} (hv : RepPV w F ρ (info S) (.own o sz n) v) :
    ∃ F', St w0 F0 mods F' ρ (S.set o (.fro ds)) w ∧ Keeps w w F F' ρ ρ (info S) (info (S.set o (.fro ds))) ∧ RepD w F' (.sl ds) v := by
  obtain ⟨F', h1, h2⟩ := h.fix hx hd
  have hl := (List.getElem?_eq_some_iff.1 hx).1
  exact ⟨F', h1, h2, fro_rep h1 (by simp [hl]) (by rw [toRows_len hd, hn]) (hv.keeps h2)⟩

theorem reps_one {C : Nat → OI} {p : PV} {l : List Value} (h : RepTs w F ρ C [p] l) : ∃ v, l = [v] ∧ RepPV w F ρ C p v := by
  simp only [RepTs] at h
  obtain ⟨v, us, rfl, h1, rfl⟩ := h
  exact ⟨v, rfl, h1⟩
theorem reps_two {C : Nat → OI} {p q : PV} {l : List Value} (h : RepTs w F ρ C [p, q] l) : ∃ v u, l = [v, u] ∧ RepPV w F ρ C p v ∧ RepPV w F ρ C q u := by
  simp only [RepTs] at h
  obtain ⟨v, us, rfl, h1, u, us', rfl, h2, rfl⟩ := h
  exact ⟨v, u, rfl, h1, h2⟩
theorem reps_three {C : Nat → OI} {p q r : PV} {l : List Value} (h : RepTs w F ρ C [p, q, r] l) : ∃ v u t, l = [v, u, t] ∧ RepPV w F ρ C p v ∧ RepPV w F ρ C q u ∧ RepPV w F ρ C r t := by
  simp only [RepTs] at h
  obtain ⟨v, us, rfl, h1, u, us', rfl, h2, t, us'', rfl, h3, rfl⟩ := h
  exact ⟨v, u, t, rfl, h1, h2, h3⟩

theorem plainA_under {t : TypeId} (h : plainA P t = true) : ∃ d, P.underlying t = some d ∧ ∀ ms, d ≠ .interface ms := by
  unfold plainA at h
  split at h
  · cases h
  · rename_i d hn hd
    exact ⟨d, hd, fun ms e => by subst e; exact hn _ rfl⟩
  · cases h

/-- Own rows into an interface: they are data from now on. -/
theorem pt_ifcOwn {t ty : TypeId} {x : Operand} {dst : Option Tmp} {pos : String} {after : Array Edge} {g : Option (Nat × Bool)} {o sz n : Nat} {rows : List (List PV)} {ds : List (List D)} (hp : plainA P t = true) (hx : S[o]? = some (.buf rows)) (hn : rows.length = n) (hd : toRows rows = some ds) :
    OpPt P [.own o sz n] S ⟨dst, .makeInterface t x, ty, pos, after, g⟩ (.d (.ifc t (.sl ds))) (S.set o (.fro ds)) := by
  intro w0 F0 mods F ρ w a hs he
  obtain ⟨v, e1, e2⟩ := reps_one he
  simp only [Op.operands, List.map_cons, List.map_nil, List.cons.injEq, and_true] at e1
  obtain ⟨F', h1, h2, h3⟩ := freeze_own hs hx hn hd e2
  obtain ⟨d, hu, hni⟩ := plainA_under hp
  refine ⟨_, .iface t v, w, _, _, F', ρ, ?_, .inl rfl, ⟨rfl, rfl⟩, ?_, h1, h2⟩
  · simp only [execOp, e1, Instr.makeInterface, Sem.run_bind, run_underlying hu, Result.andThen_ok]
    cases d <;> first | rfl | exact absurd rfl (hni _)
  · simp only [RepPV, RepD]; exact ⟨v, rfl, h3⟩

/-- Rows that nobody changes, into an interface. -/
theorem pt_ifcFro {t ty : TypeId} {x : Operand} {dst : Option Tmp} {pos : String} {after : Array Edge} {g : Option (Nat × Bool)} {o sz n : Nat} {ds : List (List D)} (hp : plainA P t = true) (hx : S[o]? = some (.fro ds)) (hn : ds.length = n) :
    OpPt P [.own o sz n] S ⟨dst, .makeInterface t x, ty, pos, after, g⟩ (.d (.ifc t (.sl ds))) S := by
  intro w0 F0 mods F ρ w a hs he
  obtain ⟨v, e1, e2⟩ := reps_one he
  simp only [Op.operands, List.map_cons, List.map_nil, List.cons.injEq, and_true] at e1
  have h3 := fro_rep hs hx hn e2
  obtain ⟨d, hu, hni⟩ := plainA_under hp
  refine .value hs (v := .iface t v) ?_ (by simp only [RepPV, RepD]; exact ⟨v, rfl, h3⟩) ⟨rfl, rfl⟩
  simp only [execOp, e1, Instr.makeInterface, Sem.run_bind, run_underlying hu, Result.andThen_ok]
  cases d <;> first | rfl | exact absurd rfl (hni _)
/-- An element of rows that nobody changes. -/
theorem pt_indexFro {t el ty : TypeId} {x y : Operand} {dst : Option Tmp} {pos : String} {after : Array Edge} {g : Option (Nat × Bool)} {o s n sz : Nat} {k : IntKind} {i : Int} {ds : List (List D)} (he0 : elO P t = some el) (hsz : szO P el = some sz)
    (hx : S[o]? = some (.fro ds)) (hn : ds.length = n) (ha : AllLen sz ds) (h0 : 0 ≤ i) (h1 : i < n) :
    OpPt P [.own o s n, .d (.i k i)] S ⟨dst, .indexAddr t x y, ty, pos, after, g⟩ (.dp (ds.getD i.toNat [])) S := by
  intro w0 F0 mods F ρ w a hs he
  obtain ⟨v, u, e1, e2, e3⟩ := reps_two he
  simp only [Op.operands, List.map_cons, List.map_nil, List.cons.injEq, and_true] at e1
  have h3 : RepPV w F ρ (info S) (.d (.sl ds)) v := by simp only [RepPV]; exact fro_rep hs hx hn e2
  have := ok_indexA (P := P) (K := fun v s => v = .dp (ds.getD i.toNat []) ∧ s = S) hs (t := t) h3 e3 ⟨el, sz, he0, hsz, ha, h0, by omega, rfl, rfl⟩
  simpa only [execOp, e1.1, e1.2] using this

/-- The lesser of two numbers; the greater. -/
theorem pt_min {ty : TypeId} {x y : Operand} {args : Array Operand} (ha : args.toList = [x, y]) {ts : Array TypeId} {dst : Option Tmp} {pos : String} {after : Array Edge} {g : Option (Nat × Bool)} {k k' : IntKind} {a b : Int} :
    OpPt P [.d (.i k a), .d (.i k' b)] S ⟨dst, .call ⟨.builtin .min, args, ts⟩, ty, pos, after, g⟩ (.d (.i k (if b < a then b else a))) S := by
  intro w0 F0 mods F ρ w ac hs he
  obtain ⟨v, u, e1, e2, e3⟩ := reps_two he
  obtain ⟨al⟩ := args
  simp only at ha
  subst ha
  simp only [Op.operands, Call.operands, Array.toList_append, List.nil_append, List.map_cons, List.map_nil, List.cons.injEq, and_true] at e1
  simp only [RepPV, RepD] at e2 e3
  subst e2 e3
  refine .value hs (v := .int k (if b < a then b else a)) ?_ (by simp [RepPV, RepD]) ⟨rfl, rfl⟩
  simp [execOp, resolve, invoke, builtin, Builtin.min_, Builtin.min2, e1]
theorem pt_max {ty : TypeId} {x y : Operand} {args : Array Operand} (ha : args.toList = [x, y]) {ts : Array TypeId} {dst : Option Tmp} {pos : String} {after : Array Edge} {g : Option (Nat × Bool)} {k k' : IntKind} {a b : Int} :
    OpPt P [.d (.i k a), .d (.i k' b)] S ⟨dst, .call ⟨.builtin .max, args, ts⟩, ty, pos, after, g⟩ (.d (.i k (if b > a then b else a))) S := by
  intro w0 F0 mods F ρ w ac hs he
  obtain ⟨v, u, e1, e2, e3⟩ := reps_two he
  obtain ⟨al⟩ := args
  simp only at ha
  subst ha
  simp only [Op.operands, Call.operands, Array.toList_append, List.nil_append, List.map_cons, List.map_nil, List.cons.injEq, and_true] at e1
  simp only [RepPV, RepD] at e2 e3
  subst e2 e3
  refine .value hs (v := .int k (if b > a then b else a)) ?_ (by simp [RepPV, RepD]) ⟨rfl, rfl⟩
  simp [execOp, resolve, invoke, builtin, Builtin.max_, Builtin.max2, e1]

def z0 (P : Program) (t : TypeId) : Option PV := ((P.info? t).bind (·.zero)).map cst

/-- A type assertion to a concrete type, with ok. -/
theorem pt_assert {xt at_ ty : TypeId} {x : Operand} {dst : Option Tmp} {pos : String} {after : Array Edge} {g : Option (Nat × Bool)} {t : TypeId} {d : D} {p : PV} (hp : plainA P at_ = true)
    (h : (t = at_ ∧ p = .tup [.d d, .d (.b true)]) ∨ (t ≠ at_ ∧ ∃ z, z0 P at_ = some z ∧ p = .tup [z, .d (.b false)])) :
    OpPt P [.d (.ifc t d)] S ⟨dst, .typeAssert x xt at_ true, ty, pos, after, g⟩ p S := by
  intro w0 F0 mods F ρ w a hs he
  obtain ⟨v, e1, e2⟩ := reps_one he
  simp only [Op.operands, List.map_cons, List.map_nil, List.cons.injEq, and_true] at e1
  simp only [RepPV, RepD] at e2
  obtain ⟨u, rfl, e2⟩ := e2
  obtain ⟨ds, hu, hni⟩ := plainA_under hp
  rcases h with ⟨rfl, rfl⟩ | ⟨hne, z, hz, rfl⟩
  · refine .value hs (v := .tuple #[u, .bool true]) ?_ (by simp only [RepPV, RepTs]; exact ⟨_, rfl, u, _, rfl, e2, _, _, rfl, by simp [RepD], rfl⟩) ⟨rfl, rfl⟩
    simp only [execOp, e1, Instr.typeAssert, Sem.run_bind, run_underlying hu, Result.andThen_ok]
    cases ds <;> first | (simp; done) | exact absurd rfl (hni _)
  · obtain ⟨zv, hzv, rfl⟩ := Option.map_eq_some_iff.1 hz
    obtain ⟨i, hi, hzi⟩ := Option.bind_eq_some_iff.1 hzv
    refine .value hs (v := .tuple #[zv, .bool false]) ?_ (by simp only [RepPV, RepTs]; exact ⟨_, rfl, zv, _, rfl, cst_rep zv, _, _, rfl, by simp [RepD], rfl⟩) ⟨rfl, rfl⟩
    simp only [execOp, e1, Instr.typeAssert, Sem.run_bind, run_underlying hu, Result.andThen_ok]
    cases ds <;> first | (simp [hne, zeroValue, typeInfo, hi, hzi]; done) | exact absurd rfl (hni _)
theorem pt_assertNil {xt at_ ty : TypeId} {x : Operand} {dst : Option Tmp} {pos : String} {after : Array Edge} {g : Option (Nat × Bool)} {z : PV} (hp : plainA P at_ = true) (hz : z0 P at_ = some z) :
    OpPt P [.d .nili] S ⟨dst, .typeAssert x xt at_ true, ty, pos, after, g⟩ (.tup [z, .d (.b false)]) S := by
  intro w0 F0 mods F ρ w a hs he
  obtain ⟨v, e1, e2⟩ := reps_one he
  simp only [Op.operands, List.map_cons, List.map_nil, List.cons.injEq, and_true] at e1
  simp only [RepPV, RepD] at e2
  subst e2
  obtain ⟨ds, hu, hni⟩ := plainA_under hp
  obtain ⟨zv, hzv, rfl⟩ := Option.map_eq_some_iff.1 hz
  obtain ⟨i, hi, hzi⟩ := Option.bind_eq_some_iff.1 hzv
  refine .value hs (v := .tuple #[zv, .bool false]) ?_ (by simp only [RepPV, RepTs]; exact ⟨_, rfl, zv, _, rfl, cst_rep zv, _, _, rfl, by simp [RepD], rfl⟩) ⟨rfl, rfl⟩
  simp only [execOp, e1, Instr.typeAssert, Sem.run_bind, run_underlying hu, Result.andThen_ok]
  cases ds <;> first | (simp [zeroValue, typeInfo, hi, hzi]; done) | exact absurd rfl (hni _)
end

/-- Arguments that are handed on as data: rows of the call's own are not changed any more. -/
inductive FrzL : Heap → List PV → List PV → Heap → Prop
  | nil {S : Heap} : FrzL S [] [] S
  | keep {S S' : Heap} {p : PV} {r r' : List PV} (t : FrzL S r r' S') : FrzL S (p :: r) (p :: r') S'
  | own {S S' : Heap} {o sz n : Nat} {rows : List (List PV)} {r r' : List PV} (ds : List (List D)) (hx : S[o]? = some (.buf rows)) (hn : rows.length = n) (hd : toRows rows = some ds) (t : FrzL (S.set o (.fro ds)) r r' S') : FrzL S (.own o sz n :: r) (.d (.sl ds) :: r') S'
  | fro {S S' : Heap} {o sz n : Nat} {ds : List (List D)} {r r' : List PV} (hx : S[o]? = some (.fro ds)) (hn : ds.length = n) (t : FrzL S r r' S') : FrzL S (.own o sz n :: r) (.d (.sl ds) :: r') S'
  | nils {S S' : Heap} {r r' : List PV} (t : FrzL S r r' S') : FrzL S (.nils :: r) (.d (.sl []) :: r') S'
  | agg {S S1 S' : Heap} {cs cs' r r' : List PV} (c : FrzL S cs cs' S1) (t : FrzL S1 r r' S') : FrzL S (.agg cs :: r) (.agg cs' :: r') S'

theorem FrzL.cells {S S' : Heap} {as bs : List PV} (h : FrzL S as bs S') : ∀ {w0 w : World} {F0 mods F : Nat → Prop} {ρ : Nat → Option Nat} {vs : List Value}, St w0 F0 mods F ρ S w → RepPVs w F ρ (info S) as vs →
    ∃ F', St w0 F0 mods F' ρ S' w ∧ Keeps w w F F' ρ ρ (info S) (info S') ∧ RepPVs w F' ρ (info S') bs vs := by
  induction h with
  | nil => intro w0 w F0 mods F ρ vs hs hr; exact ⟨F, hs, Keeps.refl .., hr⟩
  | keep t ih =>
    intro w0 w F0 mods F ρ vs hs hr
    simp only [RepPVs] at hr
    obtain ⟨v, us, rfl, h0, h1, h2⟩ := hr
    obtain ⟨F', g1, g2, g3⟩ := ih hs h2
    exact ⟨F', g1, g2, by simp only [RepPVs]; exact ⟨v, us, rfl, h0, h1.keeps g2, g3⟩⟩
  | own ds hx hn hd t ih =>
    intro w0 w F0 mods F ρ vs hs hr
    simp only [RepPVs] at hr
    obtain ⟨v, us, rfl, h0, h1, h2⟩ := hr
    obtain ⟨F1, k1, k2, k3⟩ := freeze_own hs hx hn hd h1
    obtain ⟨F', g1, g2, g3⟩ := ih k1 (RepPVs.keeps k2 _ _ h2)
    refine ⟨F', g1, k2.trans g2, ?_⟩
    simp only [RepPVs]
    refine ⟨v, us, rfl, h0, ?_, g3⟩
    simp only [RepPV]
    exact k3.mono g2.same g2.sub
  | fro hx hn t ih =>
    intro w0 w F0 mods F ρ vs hs hr
    simp only [RepPVs] at hr
    obtain ⟨v, us, rfl, h0, h1, h2⟩ := hr
    have k3 := fro_rep hs hx hn h1
    obtain ⟨F', g1, g2, g3⟩ := ih hs h2
    refine ⟨F', g1, g2, ?_⟩
    simp only [RepPVs]
    refine ⟨v, us, rfl, h0, ?_, g3⟩
    simp only [RepPV]
    exact k3.mono g2.same g2.sub
  | nils t ih =>
    intro w0 w F0 mods F ρ vs hs hr
    simp only [RepPVs] at hr
    obtain ⟨v, us, rfl, h0, h1, h2⟩ := hr
    obtain ⟨F', g1, g2, g3⟩ := ih hs h2
    exact ⟨F', g1, g2, by simp only [RepPVs]; exact ⟨v, us, rfl, h0, PVLe.nils.rep (h1.keeps g2), g3⟩⟩
  | agg c t ihc iht =>
    intro w0 w F0 mods F ρ vs hs hr
    simp only [RepPVs] at hr
    obtain ⟨v, us, rfl, h0, h1, h2⟩ := hr
    simp only [RepPV] at h1
    obtain ⟨arr, rfl, _⟩ := h1
    simp [Value.oneCell'] at h0
theorem FrzL.rep {S S' : Heap} {as bs : List PV} (h : FrzL S as bs S') : ∀ {w0 w : World} {F0 mods F : Nat → Prop} {ρ : Nat → Option Nat} {vs : List Value}, St w0 F0 mods F ρ S w → RepTs w F ρ (info S) as vs →
    ∃ F', St w0 F0 mods F' ρ S' w ∧ Keeps w w F F' ρ ρ (info S) (info S') ∧ RepTs w F' ρ (info S') bs vs := by
  induction h with
  | nil => intro w0 w F0 mods F ρ vs hs hr; exact ⟨F, hs, Keeps.refl .., hr⟩
  | keep t ih =>
    intro w0 w F0 mods F ρ vs hs hr
    simp only [RepTs] at hr
    obtain ⟨v, us, rfl, h1, h2⟩ := hr
    obtain ⟨F', g1, g2, g3⟩ := ih hs h2
    exact ⟨F', g1, g2, by simp only [RepTs]; exact ⟨v, us, rfl, h1.keeps g2, g3⟩⟩
  | own ds hx hn hd t ih =>
    intro w0 w F0 mods F ρ vs hs hr
    simp only [RepTs] at hr
    obtain ⟨v, us, rfl, h1, h2⟩ := hr
    obtain ⟨F1, k1, k2, k3⟩ := freeze_own hs hx hn hd h1
    obtain ⟨F', g1, g2, g3⟩ := ih k1 (RepTs.keeps k2 _ _ h2)
    refine ⟨F', g1, k2.trans g2, ?_⟩
    simp only [RepTs]
    refine ⟨v, us, rfl, ?_, g3⟩
    simp only [RepPV]
    exact k3.mono g2.same g2.sub
  | fro hx hn t ih =>
    intro w0 w F0 mods F ρ vs hs hr
    simp only [RepTs] at hr
    obtain ⟨v, us, rfl, h1, h2⟩ := hr
    have k3 := fro_rep hs hx hn h1
    obtain ⟨F', g1, g2, g3⟩ := ih hs h2
    refine ⟨F', g1, g2, ?_⟩
    simp only [RepTs]
    refine ⟨v, us, rfl, ?_, g3⟩
    simp only [RepPV]
    exact k3.mono g2.same g2.sub
  | nils t ih =>
    intro w0 w F0 mods F ρ vs hs hr
    simp only [RepTs] at hr
    obtain ⟨v, us, rfl, h1, h2⟩ := hr
    obtain ⟨F', g1, g2, g3⟩ := ih hs h2
    exact ⟨F', g1, g2, by simp only [RepTs]; exact ⟨v, us, rfl, PVLe.nils.rep (h1.keeps g2), g3⟩⟩
  | agg c t ihc iht =>
    intro w0 w F0 mods F ρ vs hs hr
    simp only [RepTs] at hr
    obtain ⟨v, us, rfl, h1, h2⟩ := hr
    simp only [RepPV] at h1
    obtain ⟨arr, rfl, h1⟩ := h1
    obtain ⟨F1, k1, k2, k3⟩ := FrzL.cells c hs h1
    obtain ⟨F', g1, g2, g3⟩ := iht k1 (RepTs.keeps k2 _ _ h2)
    refine ⟨F', g1, k2.trans g2, ?_⟩
    simp only [RepTs]
    refine ⟨_, us, rfl, ?_, g3⟩
    simp only [RepPV]
    exact ⟨arr, rfl, RepPVs.keeps g2 _ _ k3⟩

section
variable {P : Program} {w0 : World} {F0 mods F : Nat → Prop} {ρ : Nat → Option Nat} {S : Heap} {w : World}
theorem SemV.frz {vs vs' : List PV} {S' : Heap} {o : Oper} {K : PV → Heap → Prop} (fz : FrzL S vs vs' S') (h : SemV P vs' S' o K) : SemV P vs S o K := fun w0 F0 mods F ρ w a hs he => by
  obtain ⟨F', g1, g2, g3⟩ := fz.rep hs he
  obtain ⟨nx, v, w', pv, S1, F1, ρ1, h1, h2, h3, h4, h5, h6⟩ := h w0 F0 mods F' ρ w a g1 g3
  exact ⟨nx, v, w', pv, S1, F1, ρ1, h1, h2, h3, h4, h5, g2.trans h6⟩
theorem parts_zip {C : Nat → OI} {a : Act} : ∀ {parts : List (Nat × Operand)} {vs : List PV}, RepTs w F ρ C vs ((parts.map (·.2)).map a.eval) → Parts w F ρ C ((parts.map (·.1)).zip vs) (parts.map fun x => (x.1, a.eval x.2))
  | [], vs, h => by
    cases vs with
    | nil => exact .nil
    | cons p r => simp only [RepTs] at h; obtain ⟨_, _, e, _⟩ := h; simp at e
  | x :: l, vs, h => by
    cases vs with
    | nil => simp [RepTs] at h
    | cons p r =>
      simp only [RepTs, List.map_cons] at h
      obtain ⟨v, us, e, h1, h2⟩ := h
      cases e
      exact .cons h1 (parts_zip h2)
end
/-- A slice literal of these values: data in a new block. -/
def litW (P : Program) (vs : List PV) (S : Heap) (T : TypeId) (len : Nat) (parts : Array (Nat × Operand)) (K : PV → Heap → Prop) : Prop := match elO P T with
  | some el => match szO P el, zO P el with
    | some sz, some zs => match fillA (fun i => some (i * sz, sz)) (List.replicate len zs).flatten ((parts.toList.map (·.1)).zip vs) with
      | some cs => match toDs cs with
        | some ds => match Nat.beq zs.length sz && Nat.blt 0 sz && Nat.ble (len * sz) 16777216 && Nat.beq ds.length (len * sz) with
          | true => forceRR (chunks sz len ds) fun rows => K (.d (.sl rows)) S
          | false => False
        | none => False
      | none => False
    | _, _ => False
  | none => False
theorem litW_pt {P : Program} {vs : List PV} {S : Heap} {T : TypeId} {len : Nat} {parts : Array (Nat × Operand)} {K : PV → Heap → Prop} {o : Oper} (ho : o.op = .buildSlice T len parts) (h : litW P vs S T len parts K) : SemV P vs S o K := by
  unfold litW at h
  split at h
  · rename_i el he
    split at h
    · rename_i sz zs hs hz
      split at h
      · rename_i cs hf
        split at h
        · rename_i ds hd
          split at h
          case h_2 => exact h.elim
          rename_i hbb
          simp only [Bool.and_eq_true] at hbb
          have h1 := Nat.eq_of_beq_eq_true hbb.1.1.1
          have h2 : 0 < sz := by have := hbb.1.1.2; simpa [Nat.blt_eq] using this
          have h3 := Nat.le_of_ble_eq_true hbb.1.2
          have h4 := Nat.eq_of_beq_eq_true hbb.2
          have hk := (forceRR_iff _ (fun rows => K (.d (.sl rows)) S)).1 h
          intro w0 F0 mods F ρ w a hst hre
          simp only [ho, Op.operands] at hre
          have hp := parts_zip hre
          simp only [execOp, ho]
          generalize hq : Array.map _ parts = q
          exact ok_buildSlice hst he hs hz h1 h2 (parts := q) (by rw [← hq, Array.toList_map]; exact hp) hf h3 hd h4 hk
        · exact h.elim
      · exact h.elim
    · exact h.elim
  · exact h.elim

def forcePPs' (l : List (List PV)) (k : List (List PV) → Prop) : Prop := match l with
  | [] => k []
  | p :: r => forcePs p fun p' => forcePPs' r fun r' => k (p' :: r')
theorem forcePPs'_iff (l : List (List PV)) (k : List (List PV) → Prop) : forcePPs' l k ↔ k l := by
  induction l generalizing k with
  | nil => rfl
  | cons x r ih => exact (forcePs_iff x _).trans (ih _)
/-- A slice literal of these values: an object. -/
def ownV (P : Program) (vs : List PV) (S : Heap) (T : TypeId) (len : Nat) (parts : Array (Nat × Operand)) (K : PV → Heap → Prop) : Prop := match elO P T with
  | some el => match szO P el, zO P el with
    | some sz, some zs => match fillA (fun i => some (i * sz, sz)) (List.replicate len zs).flatten ((parts.toList.map (·.1)).zip vs) with
      | some cs => match Nat.beq zs.length sz && Nat.blt 0 sz && Nat.ble (len * sz) 16777216 && Nat.beq cs.length (len * sz) with
        | true => forceN sz fun sz => forcePPs' (chunks sz len cs) fun rows => forceH (S ++ [.buf rows]) fun S' => forceO S.length fun o => K (.own o sz len) S'
        | false => False
      | none => False
    | _, _ => False
  | none => False
theorem ownV_pt {P : Program} {vs : List PV} {S : Heap} {T : TypeId} {len : Nat} {parts : Array (Nat × Operand)} {K : PV → Heap → Prop} {o : Oper} (ho : o.op = .buildSlice T len parts) (h : ownV P vs S T len parts K) : ∃ p S', OpPt P vs S o p S' ∧ K p S' := by
  unfold ownV at h
  split at h
  · rename_i el he
    split at h
    · rename_i sz zs hs hz
      split at h
      · rename_i cs hf
        split at h
        case h_2 => exact h.elim
        rename_i hbb
        simp only [Bool.and_eq_true] at hbb
        have h1 := Nat.eq_of_beq_eq_true hbb.1.1.1
        have h2 : 0 < sz := by have := hbb.1.1.2; simpa [Nat.blt_eq] using this
        have h3 := Nat.le_of_ble_eq_true hbb.1.2
        have h4 := Nat.eq_of_beq_eq_true hbb.2
        have hk := (forceO_iff _ _).1 ((forceH_iff _ _).1 ((forcePPs'_iff _ _).1 ((forceN_iff _ _).1 h)))
        refine ⟨_, _, ?_, hk⟩
        intro w0 F0 mods F ρ w a hst hre
        simp only [ho, Op.operands] at hre
        have hp := parts_zip hre
        simp only [execOp, ho]
        generalize hq : Array.map _ parts = q
        exact ok_buildOwn hst he hs hz h1 h2 (parts := q) (by rw [← hq, Array.toList_map]; exact hp) hf h3 h4 ⟨rfl, rfl⟩
      · exact h.elim
    · exact h.elim
  · exact h.elim

end Go.Aw

/- Going through a map. -/
set_option linter.unusedVariables false
set_option linter.unusedSimpArgs false
namespace Go.Aw
section
variable {P : Program} {w0 : World} {F0 mods F : Nat → Prop} {ρ : Nat → Option Nat} {S : Heap} {w : World} {K : PV → Heap → Prop}

theorem RepEs.mem {C : Nat → OI} : ∀ {es : List (D × Nat × PV)} {l : List MapEntry}, RepEs w F ρ C es l → ∀ e ∈ l, ∃ x ∈ es, RepD w F x.1 e.key ∧ e.born = x.2.1 ∧ RepPV w F ρ C x.2.2 e.val
  | [], l, h, e, he => by simp only [RepEs] at h; subst h; simp at he
  | (k, bn, p) :: r, l, h, e, he => by
    simp only [RepEs] at h
    obtain ⟨e', l, rfl, h1, h2, h3, h4⟩ := h
    rcases List.mem_cons.1 he with rfl | he
    · exact ⟨_, List.mem_cons_self, h1, h2, h3⟩
    · obtain ⟨x, hx, g⟩ := RepEs.mem h4 e he
      exact ⟨x, List.mem_cons_of_mem _ hx, g⟩
theorem RepEs.mem' {C : Nat → OI} : ∀ {es : List (D × Nat × PV)} {l : List MapEntry}, RepEs w F ρ C es l → ∀ x ∈ es, ∃ e ∈ l, RepD w F x.1 e.key ∧ e.born = x.2.1 ∧ RepPV w F ρ C x.2.2 e.val
  | [], l, h, x, hx => by simp at hx
  | (k, bn, p) :: r, l, h, x, hx => by
    simp only [RepEs] at h
    obtain ⟨e', l, rfl, h1, h2, h3, h4⟩ := h
    rcases List.mem_cons.1 hx with rfl | hx
    · exact ⟨e', List.mem_cons_self, h1, h2, h3⟩
    · obtain ⟨e, he, g⟩ := RepEs.mem' h4 x hx
      exact ⟨e, List.mem_cons_of_mem _ he, g⟩
theorem RepEs.borns {C : Nat → OI} : ∀ {es : List (D × Nat × PV)} {l : List MapEntry}, RepEs w F ρ C es l → l.map (·.born) = es.map fun x => x.2.1
  | [], l, h => by simp only [RepEs] at h; subst h; rfl
  | (k, bn, p) :: r, l, h => by
    simp only [RepEs] at h
    obtain ⟨e', l, rfl, h1, h2, h3, h4⟩ := h
    simp [h2, RepEs.borns h4]

theorem map_at (h : St w0 F0 mods F ρ S w) {o : Nat} {es : List (D × Nat × PV)} {clk : Nat} (hx : S[o]? = some (.mapo es clk)) {b : Nat} (hb : info S o = .box → ρ o = some b) : ∃ ents : Array MapEntry, w.heap[b]? = some (.map ents clk) ∧ RepEs w F ρ (info S) es ents.toList := by
  obtain ⟨b', ents, h1, h2, h3⟩ := h.objs o _ hx
  rw [hb (by rw [info_of hx]; rfl)] at h1
  cases h1
  exact ⟨ents, h2, h3⟩

theorem ok_range (h : St w0 F0 mods F ρ S w) {t kt el : TypeId} (ht : P.underlying t = some (.map kt el)) {mo : Nat} {es : List (D × Nat × PV)} {clk : Nat} (hx : S[mo]? = some (.mapo es clk)) {v : Value} (hv : RepPV w F ρ (info S) (.mp mo) v)
    (hK : K (.ptr S.length 0) (S ++ [.itr mo clk [] clk])) : OpOk P (do pure (.value (← Instr.range t v))) w0 F0 mods F ρ S w K := by
  simp only [RepPV] at hv
  obtain ⟨hf, b, rfl, hb⟩ := hv
  obtain ⟨ents, h2, h3⟩ := map_at h hx hb
  have hi : info (S ++ [.itr mo clk [] clk]) S.length = .box := by simp [info, Ob.info]
  have kk := h.keeps_pushO (.mapIter (some b) clk #[] clk) (.itr mo clk [] clk)
  refine ⟨_, .pointer (some ⟨w.heap.size, 0, none⟩), pushO w (.mapIter (some b) clk #[] clk), _, _, F, _, ?_, .inl rfl, hK, ?_, h.pushO (.mapIter (some b) clk #[] clk) (.itr mo clk [] clk) ⟨w.heap.size, some b, by simp [Rho], get_pushO w _, ?_⟩, kk⟩
  · simp only [Instr.range, Sem.run_bind, run_underlying ht, Result.andThen_ok, MapKept.run_getObj_map h2, Sem.run_pure]
    rfl
  · simp only [RepPV]
    exact ⟨by rw [hi]; simp, w.heap.size, rfl, fun _ => by simp [Rho]⟩
  · exact RepPV.keeps kk (.mp mo) _ (by simp only [RepPV]; exact ⟨hf, b, rfl, hb⟩)

theorem ok_next (h : St w0 F0 mods F ρ S w) {ty : TypeId} {o mo since last : Nat} {seen : List Nat} {es : List (D × Nat × PV)} {clk : Nat} (hx : S[o]? = some (.itr mo since seen last)) (hm : S[mo]? = some (.mapo es clk)) (hold : ∀ x ∈ es, x.2.1 < since) (hsc : since ≤ last)
    {v : Value} (hv : RepPV w F ρ (info S) (.ptr o 0) v) (over : (∀ x ∈ es, x.2.1 ∈ seen) → K (.tup [.d (.b false)]) S) (step : ∀ x ∈ es, x.2.1 ∉ seen → K (.tup [.d (.b true), .d x.1, x.2.2]) (S.set o (.itr mo since (seen ++ [x.2.1]) clk))) :
    OpOk P (do pure (.value (← Instr.next v false ty))) w0 F0 mods F ρ S w K := by
  simp only [RepPV] at hv
  obtain ⟨_, r, rfl, hr⟩ := hv
  have hr := hr (by rw [info_of hx]; rfl)
  obtain ⟨r', m, g1, g2, g3⟩ := h.objs o _ hx
  rw [hr] at g1
  cases g1
  simp only [RepPV] at g3
  obtain ⟨hf, b, hmb, hb⟩ := g3
  cases hmb
  obtain ⟨ents, h2, h3⟩ := map_at h hm hb
  have hold' : ∀ x ∈ ents.toList, x.born < since := fun e he => by
    obtain ⟨x, hx, _, e2, _⟩ := h3.mem e he
    rw [e2]; exact hold x hx
  have hmemF : ∀ e : MapEntry, e ∈ (leftOf ents seen.toArray).toList ↔ e ∈ ents.toList ∧ e.born ∉ seen := fun e => by
    simp [leftOf]
  rcases run_next_at (P := P) w ty r b since last seen.toArray ents clk g2 h2 hold' hsc with ⟨hs, hrun⟩ | ⟨e, he, w1, hw1, hrun⟩
  · refine .value h (v := .tuple #[.bool false]) (by simp only [Sem.run_bind, hrun, Result.andThen_ok, Sem.run_pure]) (by simp only [RepPV, RepTs]; exact ⟨_, rfl, _, _, rfl, by simp [RepD], rfl⟩) (over fun x hx => ?_)
    obtain ⟨e, he, _, e2, _⟩ := h3.mem' x hx
    apply Classical.byContradiction
    intro hn
    have : e ∈ (leftOf ents seen.toArray).toList := (hmemF e).2 ⟨he, by rw [e2]; exact hn⟩
    have h0 : (leftOf ents seen.toArray).toList = [] := by
      rw [Array.eq_empty_of_size_eq_zero hs]
    rw [h0] at this
    simp at this
  · obtain ⟨he1, he2⟩ := (hmemF e).1 he
    obtain ⟨x, hxe, k1, k2, k3⟩ := h3.mem e he1
    have hst1 : St w0 F0 mods F ρ S w1 := by rcases hw1 with rfl | rfl <;> first | exact h | exact h.drew
    have hh1 : w1.heap = w.heap := by rcases hw1 with rfl | rfl <;> rfl
    have kk1 : Keeps w w1 F F ρ ρ (info S) (info S) := keeps_heap hh1 F ρ (info S)
    have hr1 : w1.heap[r]? = some (.mapIter (some b) since seen.toArray last) := by rw [hh1]; exact g2
    have kk : Keeps w1 (setO w1 r (.mapIter (some b) since (seen ++ [x.2.1]).toArray clk)) F F ρ ρ (info S) (info (S.set o (.itr mo since (seen ++ [x.2.1]) clk))) := hst1.keeps_setO hx (by simp) hr hr1 (Nat.le_refl _) rfl
    have hpush : seen.toArray.push e.born = (seen ++ [x.2.1]).toArray := by rw [k2]; simp
    rw [hpush] at hrun
    refine ⟨_, .tuple #[.bool true, e.key, e.val], setO w1 r (.mapIter (some b) since (seen ++ [x.2.1]).toArray clk), _, _, F, ρ, by simp only [Sem.run_bind, hrun, Result.andThen_ok, Sem.run_pure]; rfl, .inl rfl, step x hxe (by rw [← k2]; exact he2), ?_, ?_, kk1.trans kk⟩
    · simp only [RepPV, RepTs]
      exact ⟨_, rfl, _, _, rfl, by simp [RepD], _, _, rfl, k1.mono (kk1.trans kk).same (kk1.trans kk).sub, _, _, rfl, k3.keeps (kk1.trans kk), rfl⟩
    · refine hst1.setO hx (by simp) hr hr1 (Nat.le_refl _) rfl ⟨r, some b, hr, setO_eq w1 r _ (Array.getElem?_eq_some_iff.1 hr1).1, ?_⟩
      exact RepPV.keeps (kk1.trans kk) (.mp mo) _ (by simp only [RepPV]; exact ⟨hf, b, rfl, hb⟩)

theorem ok_entry (h : St w0 F0 mods F ρ S w) {o mo since last : Nat} {seen : List Nat} {es : List (D × Nat × PV)} {x : D × Nat × PV} (hx : S[o]? = some (.itr mo since (seen ++ [x.2.1]) last)) (hm : S[mo]? = some (.mapo es last)) (hxe : x ∈ es) (hn : (es.map fun x => x.2.1).Nodup)
    {v : Value} (hv : RepPV w F ρ (info S) (.ptr o 0) v) (hK : K (.tup [.d x.1, x.2.2]) S) :
    OpOk P (do pure (.value (← Instr.entry v))) w0 F0 mods F ρ S w K := by
  simp only [RepPV] at hv
  obtain ⟨_, r, rfl, hr⟩ := hv
  have hr := hr (by rw [info_of hx]; rfl)
  obtain ⟨r', m, g1, g2, g3⟩ := h.objs o _ hx
  rw [hr] at g1
  cases g1
  simp only [RepPV] at g3
  obtain ⟨hf, b, hmb, hb⟩ := g3
  cases hmb
  obtain ⟨ents, h2, h3⟩ := map_at h hm hb
  obtain ⟨e, he, k1, k2, k3⟩ := h3.mem' x hxe
  have g2' : w.heap[r]? = some (.mapIter (some b) since (seen.toArray.push e.born) last) := by rw [g2, k2]; simp
  have hrun := run_entry_at (P := P) w r b since seen.toArray ents last e g2' h2 he (by rw [h3.borns]; exact hn)
  refine .value h (v := .tuple #[e.key, e.val]) (by simp only [Sem.run_bind, hrun, Result.andThen_ok, Sem.run_pure]) ?_ hK
  simp only [RepPV, RepTs]
  exact ⟨_, rfl, _, _, rfl, k1, _, _, rfl, k3, rfl⟩
end
end Go.Aw

/- Operations on arrays, maps and parts, carried out by reduction. -/
set_option linter.unusedVariables false
set_option linter.unusedSimpArgs false
namespace Go.Aw

/-! ### Arrays, maps, parts -/
/-- What a map says of a number: reduction stops here. -/
inductive LookQ (k : IntKind) (n : Int) (es : List (D × Nat × PV)) (hit : PV → Prop) (miss : Prop) : Prop
  | hit (j : Nat) (p : PV) (hk : intKeys k es) (h : findE n es = some (j, p)) (x : hit p)
  | miss (hk : intKeys k es) (h : findE n es = none) (x : miss)
/-- A row that has a run of data: reduction stops here. -/
inductive Row3 (row : List PV) (a n b : Nat) (k : List PV → List D → List PV → Prop) : Prop
  | mk (pre : List PV) (run : List D) (post : List PV) (h : row = pre ++ (run.map .d ++ post)) (h1 : pre.length = a) (h2 : run.length = n) (h3 : post.length = b) (x : k pre run post)

/-- A step through a map: reduction stops here. -/
inductive NextQ (es : List (D × Nat × PV)) (since last : Nat) (seen : List Nat) (over : Prop) (step : D → Nat → PV → Prop) : Prop
  | mk (hold : ∀ x ∈ es, x.2.1 < since) (hsc : since ≤ last) (o : (∀ x ∈ es, x.2.1 ∈ seen) → over) (s : ∀ k bn p, (k, bn, p) ∈ es → bn ∉ seen → step k bn p)
/-- The entry at which the step stands. -/
inductive EntQ (es : List (D × Nat × PV)) (seen : List Nat) (clk last : Nat) (q : D → PV → Prop) : Prop
  | mk (seen' : List Nat) (k : D) (bn : Nat) (p : PV) (hs : seen = seen' ++ [bn]) (hx : (k, bn, p) ∈ es) (hn : (es.map fun x => x.2.1).Nodup) (hc : clk = last) (h : q k p)

def slX (Z : Prop) (P : Program) (S : Heap) (t : TypeId) (p : PV) (lo hi : Option PV) (K : PV → Heap → Prop) : Prop := match p with
  | .ptr o c => match arO P t with
    | some (n, e) => match szO P e with
      | some 1 => bndW Z hi n n fun m => bndW Z lo m 0 fun l => Cd (l < n ∧ n ≤ 16777216) (K (.asl o c l (m - l)) S)
      | _ => Z
    | none => Z
  | .own o s n => match elO P t with
    | some el => match szO P el with
      | some sz => match S[o]? with
        | some (.buf rows) => forceN sz fun sz => Cd (rows.length = n ∧ s = sz) (bndW Z hi n n fun m => bndW Z lo m 0 fun l => K (.sub o sz l (m - l) n) S)
        | some (.fro ds) => forceN sz fun sz => Cd (ds.length = n ∧ AllLen sz ds) (bndW Z hi ds.length ds.length fun m => bndW Z lo m 0 fun l => K (.d (.sl ((ds.take m).drop l))) S)
        | _ => Z
      | none => Z
    | none => Z
  | .sub o s off n k => match elO P t with
    | some el => match szO P el with
      | some sz => forceN sz fun sz => Cd (s = sz) (bndW Z hi n n fun m => bndW Z lo m 0 fun l => K (.sub o sz (off + l) (m - l) k) S)
      | none => Z
    | none => Z
  | _ => Z
def sliceX (Z : Prop) (P : Program) (vs : List PV) (S : Heap) (t : TypeId) (lo hi : Option Operand) (K : PV → Heap → Prop) : Prop := match lo, hi, vs with
  | none, none, [p] => slX Z P S t p none none K
  | some _, none, [p, l] => slX Z P S t p (some l) none K
  | none, some _, [p, h] => slX Z P S t p none (some h) K
  | some _, some _, [p, l, h] => slX Z P S t p (some l) (some h) K
  | _, _, _ => Z

/-- A source of rows. -/
def srcX (Z : Prop) (S : Heap) (sz : Nat) (x : PV) (k : List (List PV) → Prop) : Prop := match x with
  | .nils => k []
  | .d (.sl rows) => k (rows.map (·.map .d))
  | .own o _ n => match S[o]? with
    | some (.buf rows) => Cd (rows.length = n) (k rows)
    | some (.fro ds) => Cd (ds.length = n) (k (ds.map (·.map .d)))
    | _ => Z
  | .asl o c lo len => match S[o]? with
    | some (.arr pre n run _) => Cd (c = pre.length ∧ lo + len ≤ n) (k ((((run.drop lo).take len).map fun d => [d]).map (·.map .d)))
    | _ => Z
  | .sub o s off n m => match S[o]? with
    | some (.buf rows) => Cd (s = sz ∧ rows.length = m ∧ AllLen sz rows ∧ off + n ≤ m) (k ((rows.drop off).take n))
    | _ => Z
  | _ => Z

def appX (Z : Prop) (P : Program) (S : Heap) (t : TypeId) (p x : PV) (K : PV → Heap → Prop) : Prop := match elO P t with
  | some el => match szO P el, byO P el, zO P el with
    | some sz, some by_, some zs => srcX Z S sz x fun more => match p with
        | .nils => match Nat.beq zs.length sz && Nat.blt 0 sz with
          | true => forceN sz fun sz => forceN by_ fun by_ => Cd (AllLen sz more ∧ more.length * by_ ≤ 140737488355328 ∧ more.length ≤ 9223372036854775807) (forceH (S ++ [.buf more]) fun S' => forceO S.length fun o => K (.own o sz more.length) S')
          | false => Z
        | .own o s n => match S[o]? with
          | some (.buf rows) => match Nat.beq zs.length sz && Nat.blt 0 sz && Nat.beq s sz with
            | true => forceN sz fun sz => forceN by_ fun by_ => Cd (AllLen sz more ∧ rows.length = n ∧ AllLen sz rows ∧ (n + more.length) * by_ ≤ 140737488355328 ∧ n + more.length ≤ 9223372036854775807)
              (forceH (S.set o (.buf (rows ++ more))) fun S' => K (.own o sz (n + more.length)) S')
            | false => Z
          | _ => Z
        | _ => Z
    | _, _, _ => Z
  | none => Z

/-- copy: at a slice of an array; at own rows or a part of them. -/
def copyX (Z : Prop) (P : Program) (S : Heap) (t : TypeId) (p x : PV) (K : PV → Heap → Prop) : Prop := match elO P t with
  | some el => match szO P el with
    | some 1 => srcX Z S 1 x fun more => match p with
      | .asl o c lo len => match S[o]? with
        | some (.arr pre n run post) => Row3 more.flatten 0 more.length 0 fun _ ds _ => Cd (AllLen 1 more ∧ c = pre.length ∧ lo + len ≤ n)
            (forceH (S.set o (.arr pre n (splice run lo (ds.take (min more.length len))) post)) fun S' => K (.d (.i .i64 ((min more.length len : Nat) : Int))) S')
        | _ => Z
      | .own o s m => match S[o]? with
        | some (.buf rows) => Cd (s = 1 ∧ AllLen 1 more ∧ rows.length = m ∧ AllLen 1 rows) (forceH (S.set o (.buf (splice rows 0 (more.take (min more.length m))))) fun S' => K (.d (.i .i64 ((min more.length m : Nat) : Int))) S')
        | _ => Z
      | .sub o s off m k => match S[o]? with
        | some (.buf rows) => Cd (s = 1 ∧ AllLen 1 more ∧ rows.length = k ∧ AllLen 1 rows ∧ off + m ≤ k) (forceH (S.set o (.buf (splice rows off (more.take (min more.length m))))) fun S' => K (.d (.i .i64 ((min more.length m : Nat) : Int))) S')
        | _ => Z
      | _ => Z
    | _ => Z
  | none => Z

def zEl (P : Program) (el : TypeId) : Option PV := match wideO P el with
  | some (a, n, b) => match zO P el with
    | some zs => some (.wag (zs.take a) n (List.replicate n (.i .u8 0)) (zs.drop (a + n)))
    | none => none
  | none => z0 P el
def isAggZ (P : Program) (el : TypeId) : Bool := match (P.info? el).bind (·.zero) with
  | some (.agg _) => true
  | _ => false
/-- The element's zero is as told. -/
def zOk (P : Program) (el : TypeId) (z : PV) : Prop := match z with
  | .wag pre n run post => run.length = n ∧ zO P el = some (pre ++ (run.map .d ++ post)) ∧ isAggZ P el = true
  | z => z0 P el = some z

def pxW (Z : Prop) (P : Program) (vs : List PV) (S : Heap) (o : Oper) (K : PV → Heap → Prop) : Prop := match o.op with
  | .makeMap _ none => forceH (S ++ [.mapo [] 0]) fun S' => forceO S.length fun o => K (.mp o) S'
  | .alloc T => match wideO P T, zO P T with
    | some (a, n, _), some zs => forcePs (zs.take a) fun pre => forcePs (zs.drop (a + n)) fun post => Cd (zO P T = some (pre ++ ((List.replicate n (D.i .u8 0)).map .d ++ post)))
        (forceH (S ++ [.arr pre n (List.replicate n (.i .u8 0)) post]) fun S' => forceO S.length fun o => K (.ptr o 0) S')
    | _, _ => Z
  | .box T _ => match vs with
    | [.wag pre n run post] => forceH (S ++ [.arr pre n run post]) fun S' => forceO S.length fun o => K (.ptr o 0) S'
    | _ => Z
  | .build T parts => match wideO P T with
    | some (a, n, _) => match plO P T, zO P T with
      | some pl, some zs => match fillA (fun i => pl[i]?) zs ((parts.toList.map (·.1)).zip vs) with
        | some cs => forcePs (cs.take a) fun pre => forcePs (cs.drop (a + n)) fun post => Cd (fillA (fun i => pl[i]?) zs ((parts.toList.map (·.1)).zip vs) = some (pre ++ ((List.replicate n (D.i .u8 0)).map .d ++ post))) (K (.wag pre n (List.replicate n (.i .u8 0)) post) S)
        | none => Z
      | _, _ => Z
    | none => Z
  | .buildSlice T len parts => match elO P T with
    | some el => match szO P el, zO P el with
      | some sz, some zs => match len, parts.toList, vs with
        | 1, [(0, _)], [.wag pre n run post] => match toDs pre, toDs post with
          | some dp, some dq => Cd (zs.length = sz ∧ 0 < sz ∧ sz ≤ 16777216 ∧ pre.length + (n + post.length) = sz) (K (.d (.sl [dp ++ (run ++ dq)])) S)
          | _, _ => Z
        | _, _, _ => Z
      | _, _ => Z
    | none => Z
  | .store T _ _ => match vs with
    | [.ptr o c, .wag pre' n' run' post'] => match S[o]?, szO P T with
      | some (.arr pre n run post), some sz => Cd (c = 0 ∧ pre'.length = pre.length ∧ n' = n ∧ post'.length = post.length ∧ sz = pre'.length + (n' + post'.length)) (forceH (S.set o (.arr pre' n' run' post')) fun S' => K .any S')
      | _, _ => Z
    | [.ptr o c, p] => match S[o]?, szO P T, p.cellsOf with
      | some (.arr pre n run post), some 1, some [q] => Cd (c < pre.length ∧ p.cellsOf = some [p]) (forceH (S.set o (.arr (pre.set c p) n run post)) fun S' => K .any S')
      | _, _, _ => Z
    | [.rptr o c i, .d d] => match S[o]?, szO P T with
      | some (.arr pre n run post), some 1 => Cd (c = pre.length ∧ i < n ∧ PV.cellsOf (.d d) = some [.d d]) (forceH (S.set o (.arr pre n (run.set i d) post)) fun S' => K .any S')
      | _, _ => Z
    | _ => Z
  | .load T _ => match vs with
    | [.ptr o c] => match S[o]? with
      | some (.arr pre n run post) => match aggO P T, szO P T with
        | some true, some sz => match Nat.beq sz n with
          | true => Cd (c = pre.length ∧ sz = n) (K (.wag [] n run []) S)
          | false => Cd (c = 0 ∧ sz = pre.length + (n + post.length)) (K (.wag pre n run post) S)
        | some false, some _ => match pre[c]? with
          | some p => Cd (c < pre.length) (forceP p fun p => K p S)
          | none => match post[c - (pre.length + n)]? with
            | some p => Cd (pre.length + n ≤ c) (forceP p fun p => K p S)
            | none => Z
        | _, _ => Z
      | _ => Z
    | [.rptr o c i] => match S[o]?, aggO P T with
      | some (.arr pre n run post), some false => Cd (c = pre.length ∧ i < n) (K (.d (run.getD i (.i .u8 0))) S)
      | _, _ => Z
    | [.eptr o n r sz c] => match S[o]?, wideO P T, aggO P T, szO P T with
      | some (.buf rows), some (a, m, b), some true, some s => Cd (rows.length = n ∧ AllLen sz rows ∧ r < n ∧ c = 0 ∧ s = sz) (Row3 (rows.getD r []) a m b fun pre run post => forcePs pre fun pre => forcePs post fun post => K (.wag pre m run post) S)
      | _, _, _, _ => Z
    | _ => Z
  | .slice t _ lo hi none => sliceX Z P vs S t lo hi K
  | .range t _ => match mapKey P t, vs with
    | some _, [.mp mo] => match S[mo]? with
      | some (.mapo _ clk) => forceH (S ++ [.itr mo clk [] clk]) fun S' => forceO S.length fun o => K (.ptr o 0) S'
      | _ => Z
    | _, _ => Z
  | .next _ false => match vs with
    | [.ptr o 0] => match S[o]? with
      | some (.itr mo since seen last) => match S[mo]? with
        | some (.mapo es clk) => NextQ es since last seen (K (.tup [.d (.b false)]) S) fun k bn p => forceH (S.set o (.itr mo since (seen ++ [bn]) clk)) fun S' => K (.tup [.d (.b true), .d k, p]) S'
        | _ => Z
      | _ => Z
    | _ => Z
  | .entry _ => match vs with
    | [.ptr o 0] => match S[o]? with
      | some (.itr mo _ seen last) => match S[mo]? with
        | some (.mapo es clk) => EntQ es seen clk last fun k p => K (.tup [.d k, p]) S
        | _ => Z
      | _ => Z
    | _ => Z
  | .lookup t _ _ true => match mapKey P t, mapEl P t, vs with
    | some k, some el, [.mp o, .d (.i k' n)] => match S[o]?, zEl P el with
      | some (.mapo es _), some z => Cd (k' = k ∧ zOk P el z) (LookQ k n es (fun p => forceP p fun p => K (.tup [p, .d (.b true)]) S) (K (.tup [z, .d (.b false)]) S))
      | _, _ => Z
    | _, _, _ => Z
  | .mapUpdate t _ _ _ => match mapKey P t, vs with
    | some k, [.mp o, .d (.i k' n), p] => match S[o]? with
      | some (.mapo es clk) => Cd (k' = k ∧ intKeys k es) (forceH (S.set o (.mapo (updE k n p es clk).1 (updE k n p es clk).2)) fun S' => K .any S')
      | _ => Z
    | _, _ => Z
  | .insert t _ _ _ => match mapKey P t, vs with
    | some k, [.mp o, .d (.i k' n), p] => match S[o]? with
      | some (.mapo es clk) => Cd (k' = k ∧ intKeys k es) (forceH (S.set o (.mapo (updE k n p es clk).1 (updE k n p es clk).2)) fun S' => K .any S')
      | _ => Z
    | _, _ => Z
  | .indexAddr t _ _ => match arO P t, vs with
    | some (n, e), [.ptr o c, .d (.i _ i)] => match szO P e with
      | some 1 => Cd (0 ≤ i ∧ i < n) (K (.rptr o c i.toNat) S)
      | _ => Z
    | _, _ => Z
  | .call { callee := .builtin .len, args, argTypes } => match args.toList, argTypes.toList, vs with
    | [_], [t], [.asl _ _ _ len] => match elO P t with
      | some _ => K (.d (.i .i64 len)) S
      | none => Z
    | [_], [t], [.sub _ _ _ n _] => match elO P t with
      | some _ => K (.d (.i .i64 n)) S
      | none => Z
    | _, _, _ => Z
  | .call { callee := .builtin .append, args, argTypes } => match args.toList, argTypes.toList, vs with
    | [_, _], [t, t'], [p, x] => match Nat.decEq t' t with
      | isTrue _ => appX Z P S t p x K
      | isFalse _ => Z
    | _, _, _ => Z
  | .call { callee := .builtin .copy, args, argTypes } => match args.toList, argTypes.toList, vs with
    | [_, _], [t, _], [p, x] => copyX Z P S t p x K
    | _, _, _ => Z
  | .call { callee := .builtin .clear, args, argTypes } => match args.toList, argTypes.toList, vs with
    | [_], [t], [.mp o] => match mapKey P t, S[o]? with
      | some _, some (.mapo _ clk) => forceH (S.set o (.mapo [] clk)) fun S' => K (.tup []) S'
      | _, _ => Z
    | _, _, _ => Z
  | _ => Z

section
variable {P : Program} {w0 : World} {F0 mods F : Nat → Prop} {ρ : Nat → Option Nat} {S : Heap} {w : World} {K : PV → Heap → Prop}
theorem holds_fro (h : St w0 F0 mods F ρ S w) {o sz n : Nat} {ds : List (List D)} (hx : S[o]? = some (.fro ds)) (hn : ds.length = n) {v : Value} (hv : RepPV w F ρ (info S) (.own o sz n) v) : Holds P w F ρ (info S) (ds.map (·.map .d)) v :=
  holds_sl (by simp only [RepPV]; exact fro_rep h hx hn hv)
theorem srcX_holds (h : St w0 F0 mods F ρ S w) {sz : Nat} {x : PV} {k : List (List PV) → Prop} (hk : srcX False S sz x k) {v : Value} (hv : RepPV w F ρ (info S) x v) : ∃ more, Holds P w F ρ (info S) more v ∧ k more := by
  unfold srcX at hk
  split at hk
  · simp only [RepPV] at hv; subst hv; exact ⟨_, holds_nil, hk⟩
  · exact ⟨_, holds_sl hv, hk⟩
  · split at hk
    · rename_i rows hx; obtain ⟨h1, hk⟩ := hk; exact ⟨_, holds_own h hx h1 hv, hk⟩
    · rename_i rows hx; obtain ⟨h1, hk⟩ := hk; exact ⟨_, holds_fro h hx h1 hv, hk⟩
    · exact hk.elim
  · split at hk
    · rename_i hx; obtain ⟨⟨h1, h2⟩, hk⟩ := hk; exact ⟨_, holds_asl h hx h1 h2 hv, hk⟩
    · exact hk.elim
  · split at hk
    · rename_i hx; obtain ⟨⟨h0, h1, h2, h3⟩, hk⟩ := hk; subst h0; exact ⟨_, holds_sub h hx h1 h2 h3 hv, hk⟩
    · exact hk.elim
  · exact hk.elim

theorem slX_ok (h : St w0 F0 mods F ρ S w) {t : TypeId} {p : PV} {lo hi : Option PV} (hk : slX False P S t p lo hi K) {v : Value} (hv : RepPV w F ρ (info S) p v) {lv hv' : Option Value} (h1 : RepO w F ρ (info S) lo lv) (h2 : RepO w F ρ (info S) hi hv') :
    OpOk P (do pure (.value (← Instr.sliceAt t v lv hv' none))) w0 F0 mods F ρ S w K := by
  unfold slX at hk
  split at hk
  · split at hk
    · rename_i n e ha
      split at hk
      · rename_i hs
        obtain ⟨m, e2, hk⟩ := bndW_A hk
        obtain ⟨l, e1, hk⟩ := bndW_A hk
        obtain ⟨⟨g1, g2⟩, hk⟩ := hk
        exact ok_sliceArr h ha hs (by unfold maxLen; omega) hv h1 h2 e2 e1 g1 hk
      · exact hk.elim
    · exact hk.elim
  · split at hk
    · rename_i el he
      split at hk
      · rename_i sz hs
        split at hk
        · rename_i rows hx
          obtain ⟨⟨g1, g2⟩, hk⟩ := (forceN_iff _ _).1 hk
          obtain ⟨m, e2, hk⟩ := bndW_A hk
          obtain ⟨l, e1, hk⟩ := bndW_A hk
          subst g2
          exact ok_sliceOwn h he hs hx g1 hv h1 h2 e2 e1 hk
        · rename_i ds hx
          obtain ⟨⟨g1, g2⟩, hk⟩ := (forceN_iff _ _).1 hk
          obtain ⟨m, e2, hk⟩ := bndW_A hk
          obtain ⟨l, e1, hk⟩ := bndW_A hk
          exact ok_slice_sl h he hs g2 (by simp only [RepPV]; exact fro_rep h hx g1 hv) h1 h2 e2 e1 hk
        · exact hk.elim
      · exact hk.elim
    · exact hk.elim
  · split at hk
    · rename_i el he
      split at hk
      · rename_i sz hs
        obtain ⟨g2, hk⟩ := (forceN_iff _ _).1 hk
        obtain ⟨m, e2, hk⟩ := bndW_A hk
        obtain ⟨l, e1, hk⟩ := bndW_A hk
        subst g2
        exact ok_sliceSub h he hs hv h1 h2 e2 e1 hk
      · exact hk.elim
    · exact hk.elim
  · exact hk.elim

theorem appX_ok (h : St w0 F0 mods F ρ S w) {t ty : TypeId} {p x : PV} (hk : appX False P S t p x K) {v u : Value} (hv : RepPV w F ρ (info S) p v) (hu : RepPV w F ρ (info S) x u) :
    OpOk P (do pure (.value (← Builtin.append_ #[t, t] ty #[v, u]))) w0 F0 mods F ρ S w K := by
  unfold appX at hk
  split at hk
  · rename_i el he
    split at hk
    · rename_i sz by_ zs hs hb hz
      obtain ⟨more, hm, hk⟩ := srcX_holds (P := P) h hk hu
      split at hk
      · split at hk
        case h_2 => exact hk.elim
        rename_i hbb
        simp only [Bool.and_eq_true] at hbb
        obtain ⟨⟨h3, h4, h5⟩, hk⟩ := (forceN_iff _ _).1 ((forceN_iff _ _).1 hk)
        exact ok_appendH h he hs hb hz (Nat.eq_of_beq_eq_true hbb.1) (by have := hbb.2; simpa [Nat.blt_eq] using this) hv hm h3 ⟨⟨h4, h5⟩, (forceO_iff _ _).1 ((forceH_iff _ _).1 hk)⟩
      · split at hk
        · rename_i rows hx
          split at hk
          case h_2 => exact hk.elim
          rename_i hbb
          simp only [Bool.and_eq_true] at hbb
          obtain ⟨⟨h3, h4, h5, h6⟩, hk⟩ := (forceN_iff _ _).1 ((forceN_iff _ _).1 hk)
          exact ok_appendH h he hs hb hz (Nat.eq_of_beq_eq_true hbb.1.1) (by have := hbb.1.2; simpa [Nat.blt_eq] using this) hv hm h3 ⟨Nat.eq_of_beq_eq_true hbb.2, rows, hx, h4, h5, h6, (forceH_iff _ _).1 hk⟩
        · exact hk.elim
      · exact hk.elim
    · exact hk.elim
  · exact hk.elim

theorem flat_splice {rows more : List (List PV)} (ha : AllLen 1 rows) (hb : AllLen 1 more) {c : Nat} (hl : c + more.length ≤ rows.length) : (splice rows c more).flatten = splice rows.flatten c more.flatten := by
  have key : ∀ (rs : List (List PV)) (j : Nat), AllLen 1 rs → rs.flatten.drop j = (rs.drop j).flatten ∧ rs.flatten.take j = (rs.take j).flatten := by
    intro rs
    induction rs with
    | nil => intro j _; simp
    | cons r rs ih =>
      intro j hr
      obtain ⟨x, rfl⟩ : ∃ x, r = [x] := List.length_eq_one_iff.1 (hr r (by simp))
      cases j with
      | zero => simp
      | succ j =>
        have := ih j (fun r h => hr r (by simp [h]))
        simp [this.1, this.2]
  have hm : more.flatten.length = more.length := by rw [hb.flatten]; omega
  simp only [splice, List.flatten_append, hm]
  rw [(key rows c ha).2, (key rows _ ha).1]

theorem copyX_ok (h : St w0 F0 mods F ρ S w) {t t' ty : TypeId} {p x : PV} (hk : copyX False P S t p x K) {v u : Value} (hv : RepPV w F ρ (info S) p v) (hu : RepPV w F ρ (info S) x u) :
    OpOk P (do pure (.value (← Builtin.copy_ #[t, t'] ty #[v, u]))) w0 F0 mods F ρ S w K := by
  unfold copyX at hk
  split at hk
  · rename_i el he
    split at hk
    · rename_i hs
      have hk0 := srcX_holds (P := P) h hk hu
      clear hk
      obtain ⟨more, hm, hk⟩ := hk0
      split at hk
      · rename_i o c lo len
        split at hk
        · rename_i pre n run post hx
          obtain ⟨_, ds, _, hr, h1, h2, h3, ⟨g1, g2, g3⟩, hk⟩ := hk
          obtain rfl := List.eq_nil_of_length_eq_zero h1
          obtain rfl := List.eq_nil_of_length_eq_zero h3
          simp only [List.nil_append, List.append_nil] at hr
          simp only [RepPV] at hv
          obtain ⟨_, b, cap, rfl, k1, k2, hb⟩ := hv
          have hb := hb (by rw [info_of hx]; rfl)
          have hn := arr_len h hx
          subst g2
          have hfl : (more.take (min more.length len)).flatten = (ds.take (min more.length len)).map .d := by
            have : ∀ (m : List (List PV)) (d : List D) (j : Nat), AllLen 1 m → m.flatten = d.map .d → (m.take j).flatten = (d.take j).map PV.d := by
              intro m
              induction m with
              | nil => intro d j _ e; simp at e; simp [e]
              | cons r m ih =>
                intro d j hr e
                obtain ⟨x, rfl⟩ : ∃ x, r = [x] := List.length_eq_one_iff.1 (hr r (by simp))
                cases d with
                | nil => simp at e
                | cons y d =>
                  simp only [List.flatten_cons, List.singleton_append, List.map_cons, List.cons.injEq] at e
                  cases j with
                  | zero => simp
                  | succ j => simp [ih d j (fun r h => hr r (by simp [h])) e.2, e.1]
            exact this _ _ _ g1 hr
          have hml : (ds.take (min more.length len)).length = min more.length len := by rw [List.length_take]; omega
          have hspl : (splice run lo (ds.take (min more.length len))).length = n := by rw [splice_length _ _ _ (by omega)]; exact hn
          refine ok_copyH (y := .arr pre n (splice run lo (ds.take (min more.length len))) post) h he hs hx (by simp) (by simp) (fun _ _ _ _ e => by cases e; exact hspl) hb g1 hm (by simp [Ob.cells]; omega) ?_ rfl ((forceH_iff _ _).1 hk)
          rw [hfl]
          simp only [Ob.cells]
          apply List.ext_getElem?
          intro j
          rw [splice_get _ _ _ (by simp; omega)]
          simp only [List.length_map, hml]
          by_cases hj : j < pre.length
          · rw [if_neg (by omega), List.getElem?_append_left hj, List.getElem?_append_left hj]
          · have e1 : ∀ r : List D, (pre ++ (r.map PV.d ++ post))[j]? = (r.map PV.d ++ post)[j - pre.length]? := fun r => List.getElem?_append_right (by omega)
            rw [e1, e1]
            by_cases hj2 : j - pre.length < n
            · have e2 : ∀ r : List D, r.length = n → (r.map PV.d ++ post)[j - pre.length]? = (r[j - pre.length]?).map PV.d := fun r hr => by rw [List.getElem?_append_left (by simp; omega), List.getElem?_map]
              rw [e2 _ hn, e2 _ hspl, splice_get _ _ _ (by omega), hml]
              by_cases e : lo ≤ j - pre.length ∧ j - pre.length < lo + min more.length len
              · rw [if_pos e, if_pos (by omega), List.getElem?_map]
                congr 2; omega
              · rw [if_neg e, if_neg (by omega)]
            · have e2 : ∀ r : List D, r.length = n → (r.map PV.d ++ post)[j - pre.length]? = post[j - pre.length - n]? := fun r hr => by rw [List.getElem?_append_right (by simp; omega)]; congr 1; simp; omega
              rw [if_neg (by omega), e2 _ hn, e2 _ hspl]
        · exact hk.elim
      · rename_i o s m
        split at hk
        · rename_i rows hx
          obtain ⟨⟨rfl, g1, g2, g3⟩, hk⟩ := hk
          have hi' : info S o = .buf m := by rw [info_of hx, Ob.info, g2]
          simp only [RepPV] at hv
          obtain ⟨hf, a, cap, rfl, h2⟩ := hv
          have hml : (more.take (min more.length m)).length = min more.length m := by rw [List.length_take]; omega
          have hsl : (splice rows 0 (more.take (min more.length m))).length = rows.length := splice_length _ _ _ (by omega)
          rcases (h2 m hi').2 rfl with ⟨_, rfl, rfl, rfl⟩ | ⟨b, hb, rfl, k3, k4, _⟩
          · -- no rows: nothing is copied
            have hr0 : rows = [] := List.eq_nil_of_length_eq_zero g2
            have hk' := (forceH_iff _ _).1 hk
            have e0 : splice rows 0 (more.take (min more.length 0)) = rows := by simp [splice]
            rw [e0, show S.set o (.buf rows) = S from by apply List.ext_getElem?; intro j; rw [List.getElem?_set]; split <;> first | (rename_i e; subst e; rw [hx]; simp [(List.getElem?_eq_some_iff.1 hx).1]) | rfl] at hk'
            obtain ⟨a', c', vs', rfl, q1, q2, q3⟩ := hm
            have hfc : (Builtin.firstCells 1 0 (.slice a' more.length c')).run P w = .ok #[] w := by
              cases a' with
              | none => exact run_firstCells_none ..
              | some ad => exact run_firstCells_some w 1 0 ad _ _ [] rfl (fun j v hj => by simp at hj)
            refine .value h (v := goInt 0) ?_ (by simp [RepPV, RepD, goInt]) hk'
            have hmin : Nat.min more.length 0 = 0 := Nat.min_zero _
            simp [Builtin.copy_, run_underlying (elO_under he), Builtin.lenOf, run_size hs, hfc]
          · refine ok_copyH (y := .buf (splice rows 0 (more.take (min more.length m)))) h he hs hx (by simp) (by simp) (fun _ _ _ _ e => by cases e) hb g1 hm (by simp only [Ob.cells]; rw [g3.flatten]; omega) ?_ ?_ ((forceH_iff _ _).1 hk)
            · simp only [Ob.cells]
              exact flat_splice g3 (fun r hr => g1 r (List.mem_of_mem_take hr)) (by omega)
            · simp only [Ob.info, hsl]
        · exact hk.elim
      · rename_i o s off m k
        split at hk
        · rename_i rows hx
          obtain ⟨⟨rfl, g1, g2, g3, g4⟩, hk⟩ := hk
          have hi' : info S o = .buf k := by rw [info_of hx, Ob.info, g2]
          simp only [RepPV] at hv
          obtain ⟨hf, a, cap, rfl, k1, k2, h2⟩ := hv
          have hml : (more.take (min more.length m)).length = min more.length m := by rw [List.length_take]; omega
          have hsl : (splice rows off (more.take (min more.length m))).length = rows.length := splice_length _ _ _ (by omega)
          rcases ((h2 k hi').2 rfl).2 with h0 | ⟨b, hb, rfl⟩
          · subst h0
            have hk' := (forceH_iff _ _).1 hk
            have e0 : splice rows off (more.take (min more.length 0)) = rows := by simp [splice]
            rw [e0, show S.set o (.buf rows) = S from by apply List.ext_getElem?; intro j; rw [List.getElem?_set]; split <;> first | (rename_i e; subst e; rw [hx]; simp [(List.getElem?_eq_some_iff.1 hx).1]) | rfl] at hk'
            obtain ⟨a', c', vs', rfl, q1, q2, q3⟩ := hm
            have hfc : (Builtin.firstCells 1 0 (.slice a' more.length c')).run P w = .ok #[] w := by
              cases a' with
              | none => exact run_firstCells_none ..
              | some ad => exact run_firstCells_some w 1 0 ad _ _ [] rfl (fun j v hj => by simp at hj)
            refine .value h (v := goInt 0) ?_ (by simp [RepPV, RepD, goInt]) hk'
            cases a with
            | none => simp [Builtin.copy_, run_underlying (elO_under he), Builtin.lenOf, run_size hs, hfc]
            | some ad => simp [Builtin.copy_, run_underlying (elO_under he), Builtin.lenOf, run_size hs, hfc, storeCells]
          · rw [Nat.mul_one] at *
            refine ok_copyH (y := .buf (splice rows off (more.take (min more.length m)))) h he hs hx (by simp) (by simp) (fun _ _ _ _ e => by cases e) hb g1 hm (by simp only [Ob.cells]; rw [g3.flatten]; omega) ?_ ?_ ((forceH_iff _ _).1 hk)
            · simp only [Ob.cells]
              exact flat_splice g3 (fun r hr => g1 r (List.mem_of_mem_take hr)) (by omega)
            · simp only [Ob.info, hsl]
        · exact hk.elim
      · exact hk.elim
    · exact hk.elim
  · exact hk.elim
end

theorem zEl_rep {P : Program} {el : TypeId} {z : PV} (h : zOk P el z) (w : World) (F : Nat → Prop) (ρ : Nat → Option Nat) (C : Nat → OI) : ∃ zv, (P.info? el).bind (·.zero) = some zv ∧ RepPV w F ρ C z zv := by
  have one : ∀ z, z0 P el = some z → ∃ zv, (P.info? el).bind (·.zero) = some zv ∧ RepPV w F ρ C z zv := fun z h => by
    obtain ⟨zv, h1, rfl⟩ := Option.map_eq_some_iff.1 h
    exact ⟨zv, h1, cst_rep zv⟩
  unfold zOk at h
  split at h
  · rename_i pre n run post
    obtain ⟨h1, h2, h3⟩ := h
    obtain ⟨i, zv, hi, hz, hr⟩ := zO_rep (w := w) (F := F) (ρ := ρ) (C := C) h2
    have hb : (P.info? el).bind (·.zero) = some zv := by rw [hi]; exact hz
    unfold isAggZ at h3
    rw [hb] at h3
    split at h3
    · rename_i arr harr
      cases harr
      exact ⟨_, hb, wag_of h1 hr⟩
    · cases h3
  · exact one _ h

theorem toDs_app : ∀ {a b : List PV} {x y : List D}, toDs a = some x → toDs b = some y → toDs (a ++ b) = some (x ++ y)
  | [], b, x, y, h, h' => by simp only [toDs, Option.some.injEq] at h; subst h; simpa using h'
  | p :: a, b, x, y, h, h' => by
    simp only [toDs] at h
    split at h
    · rename_i d ds h1 h2
      cases h
      simp [toDs, h1, toDs_app h2 h']
    · cases h
theorem ok_slWag {P : Program} {w0 : World} {F0 mods F : Nat → Prop} {ρ : Nat → Option Nat} {S : Heap} {w : World} {K : PV → Heap → Prop} (h : St w0 F0 mods F ρ S w) {t e : TypeId} (hu : elO P t = some e) {sz : Nat} (hs : szO P e = some sz) {zs : List PV} (hz : zO P e = some zs) (hzs : zs.length = sz) (hpos : 0 < sz)
    {parts : Array (Nat × Value)} {pre post : List PV} {run : List D} {n : Nat} (hp : Parts w F ρ (info S) [(0, .wag pre n run post)] parts.toList) (hrun : run.length = n) (hl : pre.length + (n + post.length) = sz) (hbig : sz ≤ 16777216) {dp dq : List D} (h1 : toDs pre = some dp) (h2 : toDs post = some dq)
    (hK : K (.d (.sl [dp ++ (run ++ dq)])) S) : OpOk P (do pure (.value (← Instr.buildSlice t 1 parts))) w0 F0 mods F ρ S w K := by
  have hlen : (pre ++ (run.map PV.d ++ post)).length = sz := by simp; omega
  have hd : toDs (pre ++ (run.map PV.d ++ post)) = some (dp ++ (run ++ dq)) := toDs_app h1 (toDs_app (by
    have : ∀ l : List D, toDs (l.map PV.d) = some l := fun l => by
      induction l with
      | nil => rfl
      | cons d r ih => simp [toDs, PV.toD, ih]
    exact this run) h2)
  have hdl := toDs_length hd
  refine ok_buildSlice h hu hs hz hzs hpos hp (cs := pre ++ (run.map PV.d ++ post)) ?_ (by omega) hd (by rw [hdl, hlen]; omega) ?_
  · simp only [fillA, PV.cellsOf, List.replicate_one, List.flatten_singleton]
    rw [if_pos ⟨hlen, by simp; omega⟩]
    simp only [splice, Nat.zero_mul, List.take_zero, List.nil_append]
    rw [List.drop_eq_nil_of_le (by rw [hlen, hzs]; omega), List.append_nil]
  · have : chunks sz 1 (dp ++ (run ++ dq)) = [dp ++ (run ++ dq)] := by
      simp only [chunks]
      rw [List.take_of_length_le (by rw [hdl, hlen]; exact Nat.le_refl _)]
    rw [this]; exact hK

theorem pxW_pt {P : Program} {vs : List PV} {S : Heap} {o : Oper} {K : PV → Heap → Prop} (h : pxW False P vs S o K) : SemV P vs S o K := by
  obtain ⟨dst, op, ty, pos, after, g⟩ := o
  intro w0 F0 mods F ρ w a hs he
  unfold pxW at h
  split at h
  · rename_i t hop
    simp only at hop; subst hop
    simp only [execOp]
    exact ok_makeMap hs t ((forceO_iff _ _).1 ((forceH_iff _ _).1 h))
  · rename_i T hop
    simp only at hop; subst hop
    simp only [execOp]
    split at h
    · rename_i hz
      obtain ⟨hc, h⟩ := (forcePs_iff _ _).1 ((forcePs_iff _ _).1 h)
      exact ok_allocArr hs hc (by simp) ((forceO_iff _ _).1 ((forceH_iff _ _).1 h))
    · exact h.elim
  · rename_i T x hop
    simp only at hop; subst hop
    split at h
    · obtain ⟨v, e1, e2⟩ := reps_one he
      simp only [Op.operands, List.map_cons, List.map_nil, List.cons.injEq, and_true] at e1
      simp only [execOp, e1]
      exact ok_boxArr hs e2 ((forceO_iff _ _).1 ((forceH_iff _ _).1 h))
    · exact h.elim
  · rename_i T parts hop
    simp only at hop; subst hop
    split at h
    · split at h
      · rename_i pl zs hpl hz
        split at h
        · obtain ⟨hc, h⟩ := (forcePs_iff _ _).1 ((forcePs_iff _ _).1 h)
          simp only [Op.operands] at he
          have hp := parts_zip he
          simp only [execOp]
          generalize hq : Array.map _ parts = q
          obtain ⟨nx, v', w', pv, S', F', ρ', k1, k2, ⟨rfl, rfl⟩, k4, k5, k6⟩ := ok_build (K := fun p s => p = .agg _ ∧ s = S) hs hpl hz (parts := q) (by rw [← hq, Array.toList_map]; exact hp) hc ⟨rfl, rfl⟩
          refine ⟨nx, v', w', _, _, F', ρ', k1, k2, h, ?_, k5, k6⟩
          simp only [RepPV] at k4
          obtain ⟨arr, rfl, k4⟩ := k4
          exact wag_of (by simp) k4
        · exact h.elim
      · exact h.elim
    · exact h.elim
  · rename_i T len parts hop
    simp only at hop; subst hop
    split at h
    · rename_i el hel
      split at h
      · rename_i sz zs hsz hz
        split at h
        · rename_i x pre n run post hpt
          split at h
          · rename_i dp dq h1 h2
            obtain ⟨⟨g1, g2, g3, g4⟩, h⟩ := h
            simp only [Op.operands] at he
            have hp := parts_zip he
            rw [hpt] at hp
            have hrun : run.length = n := by
              obtain ⟨v, e1, e2⟩ := reps_one he
              simp only [RepPV] at e2
              exact e2.1
            simp only [execOp]
            generalize hq : Array.map _ parts = q
            exact ok_slWag hs hel hsz hz g1 g2 (by rw [← hq, Array.toList_map, hpt]; exact hp) hrun g4 g3 h1 h2 h
          · exact h.elim
        · exact h.elim
      · exact h.elim
    · exact h.elim
  · rename_i T x y hop
    simp only at hop; subst hop
    split at h
    · obtain ⟨v, u, e1, e2, e3⟩ := reps_two he
      simp only [Op.operands, List.map_cons, List.map_nil, List.cons.injEq, and_true] at e1
      split at h
      · rename_i sz hx hsz
        obtain ⟨⟨rfl, h1, h2, h3, rfl⟩, h⟩ := h
        simp only [execOp, e1.1, e1.2]
        exact ok_storeArr hs hx h1 h2 h3 hsz e2 e3 ((forceH_iff _ _).1 h)
      · exact h.elim
    · obtain ⟨v, u, e1, e2, e3⟩ := reps_two he
      simp only [Op.operands, List.map_cons, List.map_nil, List.cons.injEq, and_true] at e1
      split at h
      · rename_i hx hsz hcc
        obtain ⟨⟨h1, h2⟩, h⟩ := h
        simp only [execOp, e1.1, e1.2]
        exact ok_storeArrPre hs hx hsz h2 h1 e2 e3 ((forceH_iff _ _).1 h)
      · exact h.elim
    · obtain ⟨v, u, e1, e2, e3⟩ := reps_two he
      simp only [Op.operands, List.map_cons, List.map_nil, List.cons.injEq, and_true] at e1
      split at h
      · rename_i hx hsz
        obtain ⟨⟨h1, h2, h3⟩, h⟩ := h
        simp only [execOp, e1.1, e1.2]
        exact ok_storeRun hs hx hsz h3 h1 h2 e2 e3 ((forceH_iff _ _).1 h)
      · exact h.elim
    · exact h.elim
  · rename_i T x hop
    simp only at hop; subst hop
    split at h
    · obtain ⟨v, e1, e2⟩ := reps_one he
      simp only [Op.operands, List.map_cons, List.map_nil, List.cons.injEq, and_true] at e1
      split at h
      · rename_i hx
        simp only [execOp, e1]
        split at h
        · rename_i sz ha hsz
          split at h
          · obtain ⟨⟨h1, h2⟩, h⟩ := h
            subst h2
            exact ok_loadRun hs ha hx h1 hsz e2 h
          · obtain ⟨⟨rfl, h2⟩, h⟩ := h
            subst h2
            exact ok_loadArr hs ha hx hsz e2 h
        · rename_i ha hsz
          split at h
          · rename_i p hp
            obtain ⟨h1, h⟩ := h
            exact ok_loadArrCell hs ha hx (.inl ⟨h1, hp⟩) e2 ((forceP_iff _ _).1 h)
          · split at h
            · rename_i p hp
              obtain ⟨h1, h⟩ := h
              exact ok_loadArrCell hs ha hx (.inr ⟨h1, hp⟩) e2 ((forceP_iff _ _).1 h)
            · exact h.elim
        · exact h.elim
      · exact h.elim
    · obtain ⟨v, e1, e2⟩ := reps_one he
      simp only [Op.operands, List.map_cons, List.map_nil, List.cons.injEq, and_true] at e1
      split at h
      · rename_i pre n run post hx ha
        obtain ⟨⟨h1, h2⟩, h⟩ := h
        simp only [execOp, e1]
        have hn := arr_len hs hx
        refine ok_loadRptr hs ha hx h1 h2 e2 ?_ h
        rw [List.getD_eq_getElem?_getD, List.getElem?_eq_getElem (by omega)]; rfl
      · exact h.elim
    · rename_i oo nn r rsz cc
      obtain ⟨v, e1, e2⟩ := reps_one he
      simp only [Op.operands, List.map_cons, List.map_nil, List.cons.injEq, and_true] at e1
      split at h
      · rename_i rows a0 m b s hx hw ha hsz
        obtain ⟨⟨h1, h2, h3, rfl, rfl⟩, pre, run, post, hrow, g1, g2, g3, h⟩ := h
        have h := (forcePs_iff _ _).1 ((forcePs_iff _ _).1 h)
        simp only [execOp, e1]
        have hr : rows[r]? = some (rows.getD r []) := by simp [List.getD_eq_getElem?_getD, List.getElem?_eq_getElem (show r < rows.length by omega)]
        have hl : (rows.getD r []).length = s := h2 _ (List.mem_of_getElem? hr)
        have := ok_loadA (P := P) (K := fun q S' => q = .agg ((rows.getD r []).take s) ∧ S' = S) (t := T) hs e2 (by
          simp only [loadA, ha]
          exact ⟨rows, _, hx, h1, h2, hr, s, hsz, by omega, by simp⟩)
        obtain ⟨nx, v', w', pv, S', F', ρ', k1, k2, ⟨rfl, rfl⟩, k4, k5, k6⟩ := this
        refine ⟨nx, v', w', _, _, F', ρ', k1, k2, h, ?_, k5, k6⟩
        rw [List.take_of_length_le (by omega), hrow] at k4
        simp only [RepPV] at k4
        obtain ⟨arr, rfl, k4⟩ := k4
        exact wag_of g2 k4
      · exact h.elim
    · exact h.elim
  · rename_i t x lo hi hop
    simp only at hop; subst hop
    simp only [execOp]
    unfold sliceX at h
    split at h
    · obtain ⟨v, e1, e2⟩ := reps_one he
      simp only [Op.operands, List.map_cons, List.map_nil, List.cons.injEq, and_true, Option.toArray, Array.toList_append, List.append_nil] at e1
      simp only [e1, Option.map_none]
      exact slX_ok hs h e2 trivial trivial
    · obtain ⟨v, u, e1, e2, e3⟩ := reps_two he
      simp only [Op.operands, List.map_cons, List.map_nil, List.cons.injEq, and_true, Option.toArray, Array.toList_append, List.append_nil, List.cons_append, List.nil_append] at e1
      simp only [e1.1, e1.2, Option.map_none, Option.map_some]
      exact slX_ok hs h e2 e3 trivial
    · obtain ⟨v, u, e1, e2, e3⟩ := reps_two he
      simp only [Op.operands, List.map_cons, List.map_nil, List.cons.injEq, and_true, Option.toArray, Array.toList_append, List.append_nil, List.cons_append, List.nil_append] at e1
      simp only [e1.1, e1.2, Option.map_none, Option.map_some]
      exact slX_ok hs h e2 trivial e3
    · obtain ⟨v, u, t', e1, e2, e3, e4⟩ := reps_three he
      simp only [Op.operands, List.map_cons, List.map_nil, List.cons.injEq, and_true, Option.toArray, Array.toList_append, List.append_nil, List.cons_append, List.nil_append] at e1
      simp only [e1.1, e1.2.1, e1.2.2, Option.map_some]
      exact slX_ok hs h e2 e3 e4
    · exact h.elim
  · rename_i t x hop
    simp only at hop; subst hop
    split at h
    · rename_i k mo hk
      split at h
      · rename_i es clk hx
        obtain ⟨kt, el, ht, _, _⟩ := mapKey_under hk
        obtain ⟨v, e1, e2⟩ := reps_one he
        simp only [Op.operands, List.map_cons, List.map_nil, List.cons.injEq, and_true] at e1
        simp only [execOp, e1]
        exact ok_range hs ht hx e2 ((forceO_iff _ _).1 ((forceH_iff _ _).1 h))
      · exact h.elim
    · exact h.elim
  · rename_i x hop
    simp only at hop; subst hop
    split at h
    · rename_i oo
      obtain ⟨v, e1, e2⟩ := reps_one he
      simp only [Op.operands, List.map_cons, List.map_nil, List.cons.injEq, and_true] at e1
      split at h
      · rename_i mo since seen last hx
        split at h
        · rename_i es clk hm
          obtain ⟨g1, g2, g3, g4⟩ := h
          simp only [execOp, e1]
          exact ok_next hs hx hm g1 g2 e2 g3 fun y hy hn => (forceH_iff _ _).1 (g4 y.1 y.2.1 y.2.2 hy hn)
        · exact h.elim
      · exact h.elim
    · exact h.elim
  · rename_i x hop
    simp only at hop; subst hop
    split at h
    · rename_i oo
      obtain ⟨v, e1, e2⟩ := reps_one he
      simp only [Op.operands, List.map_cons, List.map_nil, List.cons.injEq, and_true] at e1
      split at h
      · rename_i mo since seen last hx
        split at h
        · rename_i es clk hm
          obtain ⟨seen', k, bn, p, rfl, hy, hn, rfl, h⟩ := h
          simp only [execOp, e1]
          exact ok_entry (x := (k, bn, p)) hs hx hm hy hn e2 h
        · exact h.elim
      · exact h.elim
    · exact h.elim
  · rename_i t x y hop
    simp only at hop; subst hop
    split at h
    · rename_i k el oo k' n hk hel
      split at h
      · rename_i es clk z hx hz
        obtain ⟨⟨rfl, hzo⟩, h⟩ := h
        obtain ⟨v, u, e1, e2, e3⟩ := reps_two he
        simp only [Op.operands, List.map_cons, List.map_nil, List.cons.injEq, and_true] at e1
        simp only [execOp, e1.1, e1.2]
        obtain ⟨zv, hzv, hzr⟩ := zEl_rep hzo w F ρ (info S)
        cases h with
        | hit j p hks hf hh => exact ok_lookup hs hk hel hx hks e2 e3 hzv hzr (by rw [hf]; exact (forceP_iff _ _).1 hh)
        | miss hks hf hh => exact ok_lookup hs hk hel hx hks e2 e3 hzv hzr (by rw [hf]; exact hh)
      · exact h.elim
    · exact h.elim
  · rename_i t x y z hop
    simp only at hop; subst hop
    split at h
    · rename_i k oo k' n p hk
      split at h
      · rename_i es clk hx
        obtain ⟨⟨rfl, hks⟩, h⟩ := h
        obtain ⟨v, u, t', e1, e2, e3, e4⟩ := reps_three he
        simp only [Op.operands, List.map_cons, List.map_nil, List.cons.injEq, and_true] at e1
        simp only [execOp, e1.1, e1.2.1, e1.2.2]
        exact ok_mapUpdate hs hk hx hks e2 e3 e4 ((forceH_iff _ _).1 h)
      · exact h.elim
    · exact h.elim
  · rename_i t x y z hop
    simp only at hop; subst hop
    split at h
    · rename_i k oo k' n p hk
      split at h
      · rename_i es clk hx
        obtain ⟨⟨rfl, hks⟩, h⟩ := h
        obtain ⟨v, u, t', e1, e2, e3, e4⟩ := reps_three he
        simp only [Op.operands, List.map_cons, List.map_nil, List.cons.injEq, and_true] at e1
        simp only [execOp, e1.1, e1.2.1, e1.2.2]
        exact ok_mapUpdate hs hk hx hks e2 e3 e4 ((forceH_iff _ _).1 h)
      · exact h.elim
    · exact h.elim
  · rename_i t x y hop
    simp only at hop; subst hop
    split at h
    · rename_i n e oo c k i ha
      split at h
      · rename_i hsz
        obtain ⟨⟨h1, h2⟩, h⟩ := h
        obtain ⟨v, u, e1, e2, e3⟩ := reps_two he
        simp only [Op.operands, List.map_cons, List.map_nil, List.cons.injEq, and_true] at e1
        simp only [execOp, e1.1, e1.2]
        simp only [RepPV, RepD] at e2 e3
        obtain ⟨hf, b, rfl, hb⟩ := e2
        subst e3
        refine .value hs (v := .pointer (some ⟨b, c + i.toNat, none⟩)) ?_ (by simp only [RepPV]; exact ⟨hf, b, rfl, hb⟩) h
        simp [Instr.indexAt, asIntOf, run_underlying (arO_under ha), Instr.sureAddr, h1, h2, run_size hsz, add_mid]
      · exact h.elim
    · exact h.elim
  · rename_i args argTypes hop
    simp only at hop; subst hop
    obtain ⟨al⟩ := args
    obtain ⟨tl⟩ := argTypes
    split at h
    · rename_i _ t _ _ _ len hal htl
      split at h
      · rename_i el hel
        obtain ⟨v, e1, e2⟩ := reps_one he
        simp only at hal htl
        subst hal htl
        simp only [Op.operands, Call.operands, Array.toList_append, List.nil_append, List.map_cons, List.map_nil, List.cons.injEq, and_true] at e1
        simp only [RepPV] at e2
        obtain ⟨_, b, cap, rfl, _⟩ := e2
        refine .value hs (v := .int .i64 len) ?_ (by simp [RepPV, RepD]) h
        simp [execOp, resolve, invoke, builtin, Builtin.len_, e1, run_underlying (elO_under hel), goInt]
      · exact h.elim
    · rename_i _ t _ _ _ len _ hal htl
      split at h
      · rename_i el hel
        obtain ⟨v, e1, e2⟩ := reps_one he
        simp only at hal htl
        subst hal htl
        simp only [Op.operands, Call.operands, Array.toList_append, List.nil_append, List.map_cons, List.map_nil, List.cons.injEq, and_true] at e1
        simp only [RepPV] at e2
        obtain ⟨_, a', cap, rfl, _⟩ := e2
        refine .value hs (v := .int .i64 len) ?_ (by simp [RepPV, RepD]) h
        simp [execOp, resolve, invoke, builtin, Builtin.len_, e1, run_underlying (elO_under hel), goInt]
      · exact h.elim
    · exact h.elim
  · rename_i args argTypes hop
    simp only at hop; subst hop
    obtain ⟨al⟩ := args
    obtain ⟨tl⟩ := argTypes
    split at h
    · rename_i t t' p x hal htl
      split at h
      · rename_i heq _
        subst heq
        obtain ⟨v, u, e1, e2, e3⟩ := reps_two he
        simp only at hal htl
        subst hal htl
        simp only [Op.operands, Call.operands, Array.toList_append, List.nil_append, List.map_cons, List.map_nil, List.cons.injEq, and_true] at e1
        have := appX_ok (ty := ty) hs h e2 e3
        simpa [execOp, resolve, invoke, builtin, e1.1, e1.2] using this
      · exact h.elim
    · exact h.elim
  · rename_i args argTypes hop
    simp only at hop; subst hop
    obtain ⟨al⟩ := args
    obtain ⟨tl⟩ := argTypes
    split at h
    · rename_i t t' p x hal htl
      obtain ⟨v, u, e1, e2, e3⟩ := reps_two he
      simp only at hal htl
      subst hal htl
      simp only [Op.operands, Call.operands, Array.toList_append, List.nil_append, List.map_cons, List.map_nil, List.cons.injEq, and_true] at e1
      have := copyX_ok (ty := ty) (t' := t') hs h e2 e3
      simpa [execOp, resolve, invoke, builtin, e1.1, e1.2] using this
    · exact h.elim
  · rename_i args argTypes hop
    simp only at hop; subst hop
    obtain ⟨al⟩ := args
    obtain ⟨tl⟩ := argTypes
    split at h
    · rename_i t oo hal htl
      split at h
      · rename_i k es clk hk hx
        obtain ⟨v, e1, e2⟩ := reps_one he
        simp only at hal htl
        subst hal htl
        simp only [Op.operands, Call.operands, Array.toList_append, List.nil_append, List.map_cons, List.map_nil, List.cons.injEq, and_true] at e1
        obtain ⟨kt, el, ht, _, _⟩ := mapKey_under hk
        have := ok_clearMap (ty := ty) hs ht hx e2 ((forceH_iff _ (fun S' => K (.tup []) S')).1 h)
        simpa [execOp, resolve, invoke, builtin, e1] using this
      · exact h.elim
    · exact h.elim
  · exact h.elim
theorem pxW_Z {Z : Prop} {P : Program} {vs : List PV} {S : Heap} {o : Oper} {K : PV → Heap → Prop} (h : pxW Z P vs S o K) : SemV P vs S o K ∨ Z := by
  by_cases hz : Z
  · exact .inr hz
  · have : Z = False := propext ⟨hz, False.elim⟩
    subst this
    exact .inl (pxW_pt h)
end Go.Aw

/- A literal's row, converted to its own type: it gets a mark and is data from now on. -/
set_option linter.unusedVariables false
set_option linter.unusedSimpArgs false
namespace Go.Aw
section
variable {P : Program} {w0 : World} {F0 mods F : Nat → Prop} {ρ : Nat → Option Nat} {S : Heap} {w : World}

/-- An object is given up; its block is written and stays as it is from now on. -/
theorem St.setGone (h : St w0 F0 mods F ρ S w) {o b : Nat} {ob ob' : Obj} {x : Ob} (hx : S[o]? = some x) (hg : x.Mut) (hr : ρ o = some b) (hb : w.heap[b]? = some ob) (hs : obSize ob ≤ obSize ob') :
    St w0 F0 mods (Plus F b) ρ (S.set o .gone) (Aw.setO w b ob') ∧ Keeps w (Aw.setO w b ob') F (Plus F b) ρ ρ (info S) (info (S.set o .gone)) := by
  have hlt : b < w.heap.size := (Array.getElem?_eq_some_iff.1 hb).1
  have holt := (List.getElem?_eq_some_iff.1 hx).1
  have hk : Keeps w (Aw.setO w b ob') F (Plus F b) ρ ρ (info S) (info (S.set o .gone)) := by
    refine ⟨fun c hc => setO_ne w b ob' (fun e => h.notF o b ⟨hr, x, hx, hg⟩ (e ▸ hc)), fun b hb => .inl hb, fun c => ?_, fun o' ho => info_set_old ho, fun o' ho hx' => ?_, fun o' m ho hx' => ?_⟩
    · by_cases e : c = b
      · subst e
        rw [blockSize_of hb, blockSize_of (setO_eq w c ob' (Array.getElem?_eq_some_iff.1 hb).1)]
        exact hs
      · simp [blockSize, setO_ne w b ob' e]
    · by_cases e : o' = o
      · subst e; rw [info_set holt] at hx'; cases hx'
      · exact ⟨by rwa [info_set_ne e] at hx', rfl⟩
    · by_cases e : o' = o
      · subst e; rw [info_set holt] at hx'; cases hx'
      · exact ⟨m, by rwa [info_set_ne e] at hx', Nat.le_refl _, fun _ => rfl⟩
  have hme : Lives S ρ o b := ⟨hr, x, hx, hg⟩
  have lv : ∀ o' c, Lives (S.set o .gone) ρ o' c → Lives S ρ o' c ∧ o' ≠ o := by
    rintro o' c ⟨h1, y, h2, h3⟩
    by_cases e : o' = o
    · subst e; rw [List.getElem?_set_self holt] at h2; cases h2; exact h3.elim
    · rw [List.getElem?_set_ne (Ne.symm e)] at h2
      exact ⟨⟨h1, y, h2, h3⟩, e⟩
  refine ⟨⟨?_, fun o1 o2 c h1 h2 => h.inj o1 o2 c (lv _ _ h1).1 (lv _ _ h2).1, fun o1 c h1 hf => ?_, fun c hc => ?_, fun o1 c h1 => h.mine o1 c (lv _ _ h1).1, ?_, h.os, h.tape, h.output, ?_, fun c => Nat.le_trans (h.bsize c) (hk.size c), fun c hc => .inl (h.f0 c hc), fun c hc => ?_⟩, hk⟩
  · intro o' z hz
    by_cases e : o' = o
    · subst e; rw [List.getElem?_set_self holt] at hz; cases hz; trivial
    · rw [List.getElem?_set_ne (Ne.symm e)] at hz
      refine (h.objs o' z hz).keeps hk rfl fun c hc hng => setO_ne w b ob' fun e' => ?_
      subst e'
      exact e (h.inj o' o c ⟨hc, z, hz, hng⟩ hme)
  · obtain ⟨h2, h3⟩ := lv _ _ h1
    rcases hf with hf | hf
    · exact h.notF o1 c h2 hf
    · subst hf; exact h3 (h.inj o1 o c h2 hme)
  · rw [setO_size]
    rcases hc with hc | hc
    · exact h.bound c hc
    · subst hc; exact hlt
  · rw [setO_size]; exact h.grow
  · intro c hc hm
    rw [setO_ne w b ob']
    · exact h.keep c hc hm
    · intro e
      subst e
      rcases h.mine o c hme with h1 | h1
      · exact hm h1
      · omega
  · rcases hc with hc | hc
    · exact h.fnew c hc
    · subst hc; exact .inr (h.mine o c hme)

theorem toDs_at : ∀ {ps : List PV} {ds : List D}, Aw.toDs ps = some ds → ∀ {j : Nat} {d : D}, ds[j]? = some d → ∃ p, ps[j]? = some p ∧ PV.toD p = some d
  | [], ds, h, j, d, hj => by simp only [Aw.toDs, Option.some.injEq] at h; subst h; simp at hj
  | p :: ps, ds, h, j, d, hj => by
    simp only [Aw.toDs] at h
    split at h
    · rename_i d' ds' h1 h2
      cases h
      cases j with
      | zero => simp only [List.getElem?_cons_zero, Option.some.injEq] at hj; subst hj; exact ⟨p, rfl, h1⟩
      | succ j => simpa using toDs_at h2 (by simpa using hj)
    · cases h

def u8O (P : Program) (t : TypeId) : Bool := match P.underlying t with
  | some (.slice e) => match P.underlying e with
    | some (.int .u8) => true
    | _ => false
  | _ => false
theorem u8O_spec {t : TypeId} (h : u8O P t = true) : ∃ e, P.underlying t = some (.slice e) ∧ P.underlying e = some (.int .u8) := by
  unfold u8O at h
  split at h
  · rename_i e he
    split at h
    · rename_i he'; exact ⟨e, he, he'⟩
    · cases h
  · cases h

theorem pt_convOwn {t ty : TypeId} {x : Operand} {dst : Option Tmp} {pos : String} {after : Array Edge} {g : Option (Nat × Bool)} {o sz n : Nat} {rows : List (List PV)} {ds : List (List D)} (hu : u8O P t = true) (hx : S[o]? = some (.buf rows)) (hn : rows.length = n) (h0 : 0 < n) (hd : toRows rows = some ds) :
    OpPt P [.own o sz n] S ⟨dst, .convert t t x, ty, pos, after, g⟩ (.d (.sl ds)) (S.set o .gone) := by
  intro w0 F0 mods F ρ w a hs he
  obtain ⟨v, e1, e2⟩ := reps_one he
  simp only [Op.operands, List.map_cons, List.map_nil, List.cons.injEq, and_true] at e1
  obtain ⟨e, hu1, hu2⟩ := u8O_spec hu
  have hi : info S o = .buf n := by rw [info_of hx]; simp [Ob.info, hn]
  simp only [RepPV] at e2
  obtain ⟨_, a', cap, rfl, h2⟩ := e2
  obtain ⟨_, h3⟩ := h2 n hi
  rcases h3 rfl with ⟨_, _, g3, _⟩ | ⟨b, g1, rfl, g3, g4, g5⟩
  · omega
  have hobj := hs.objs o _ hx
  rcases hobj with ⟨k1, _⟩ | ⟨b', arr, T, k1, k2, k3⟩
  · rw [g1] at k1; cases k1
  rw [g1] at k1; cases k1
  obtain ⟨t1, t2⟩ := hs.setGone (ob' := .cells arr T (arr.size, arr.size + 1)) hx trivial g1 k2 (by simp [obSize])
  obtain ⟨d1, d2⟩ := toRows_spec hd
  refine ⟨_, .slice (some ⟨b, 0, none⟩) n cap, Aw.setO w b (.cells arr T (arr.size, arr.size + 1)), _, _, _, ρ, ?_, .inl rfl, ⟨rfl, rfl⟩, ?_, t1, t2⟩
  · simp only [execOp, e1]
    have hsh : w.shape? b = some (T, arr.size) := by unfold World.shape?; rw [k2]
    have hfr : w.freeze ⟨b, arr.size, none⟩ 1 = Aw.setO w b (.cells arr T (arr.size, arr.size + 1)) := by
      unfold World.freeze
      rw [if_neg (by decide)]
      unfold Aw.setO
      congr 1
      apply Array.ext_getElem?
      intro i
      have hlt : b < w.heap.size := (Array.getElem?_eq_some_iff.1 k2).1
      by_cases hib : i = b
      · subst hib
        have : w.heap[i] = .cells arr T (0, 0) := by rw [Array.getElem?_eq_getElem hlt] at k2; simpa using k2
        rw [Array.getElem?_setIfInBounds_self_of_lt hlt, Array.getElem?_modify]
        simp [Array.getElem?_eq_getElem hlt, this]
      · rw [Array.getElem?_setIfInBounds_ne (Ne.symm hib), Array.getElem?_modify]
        simp [Ne.symm hib]
    simp [convert, run_underlying hu1, run_underlying hu2, markStringish, hsh]
    exact hfr
  · simp only [RepPV, RepD]
    refine ⟨_, n, cap, rfl, by omega, g3, g4, (fun e => by cases e), fun ad had => ?_⟩
    cases had
    refine ⟨fun _ => rfl, RepRows.of_flat ?_⟩
    have hb' : (Aw.setO w b (.cells arr T (arr.size, arr.size + 1))).heap[b]? = some (.cells arr T (arr.size, arr.size + 1)) := setO_eq _ _ _ (Array.getElem?_eq_some_iff.1 k2).1
    exact RepAt.mk fun j d hj => ⟨.inr rfl, by
      obtain ⟨p, q1, q2⟩ := toDs_at d1 hj
      obtain ⟨v, q3, q4, q5⟩ := k3 j p q1
      refine ⟨v, ?_, q4, (PV.toD_rep q2 q5).mono t2.same t2.sub⟩
      simp only [World.cell?, hb', Nat.zero_add]
      exact q3⟩
end
end Go.Aw

/- The operations beside those of opW, carried out by reduction. -/
set_option linter.unusedVariables false
set_option linter.unusedSimpArgs false
namespace Go.Aw

/-- Operations carried out beside those of opW; where they are none of these, Z. -/
def ptW (Z : Prop) (P : Program) (vs : List PV) (S : Heap) (o : Oper) (K : PV → Heap → Prop) : Prop := match o.op with
  | .typeAssert _ _ at_ true => match plainA P at_, z0 P at_ with
    | true, some z => match vs with
      | [.d (.ifc t d)] => match Nat.decEq t at_ with
        | isTrue _ => K (.tup [.d d, .d (.b true)]) S
        | isFalse _ => K (.tup [z, .d (.b false)]) S
      | [.d .nili] => K (.tup [z, .d (.b false)]) S
      | _ => Z
    | _, _ => Z
  | .indexAddr t _ _ => match elO P t with
    | some el => match szO P el with
      | some sz => match vs with
        | [.own o _ n, .d (.i _ i)] => match S[o]? with
          | some (.fro ds) => Cd (ds.length = n ∧ AllLen sz ds ∧ 0 ≤ i ∧ i < n) (K (.dp (ds.getD i.toNat [])) S)
          | _ => Z
        | _ => Z
      | none => Z
    | none => Z
  | .call { callee := .builtin .min, args, argTypes } => match args.toList, vs with
    | [_, _], [.d (.i k a), .d (.i _ b)] => K (.d (.i k (if b < a then b else a))) S
    | _, _ => Z
  | .call { callee := .builtin .max, args, argTypes } => match args.toList, vs with
    | [_, _], [.d (.i k a), .d (.i _ b)] => K (.d (.i k (if b > a then b else a))) S
    | _, _ => Z
  | _ => Z
/-- The same, of operations that change what objects there are. -/
def ptX (Z : Prop) (P : Program) (vs : List PV) (S : Heap) (o : Oper) (K : PV → Heap → Prop) : Prop := match o.op with
  | .makeInterface t _ => match plainA P t, vs with
    | true, [.own o _ n] => match S[o]? with
      | some (.buf rows) => PubRows rows n fun ds => forceH (S.set o (.fro ds)) fun S' => K (.d (.ifc t (.sl ds))) S'
      | some (.fro ds) => Cd (ds.length = n) (K (.d (.ifc t (.sl ds))) S)
      | _ => Z
    | _, _ => Z
  | .convert s t _ => match u8O P t, Nat.decEq s t with
    | true, isTrue _ => match vs with
      | [.own o _ n] => match S[o]? with
        | some (.buf rows) => Cd (0 < n) (PubRows rows n fun ds => forceH (S.set o .gone) fun S' => K (.d (.sl ds)) S')
        | _ => Z
      | _ => Z
    | _, _ => pxW (ptW Z P vs S o K) P vs S o K
  | _ => pxW (ptW Z P vs S o K) P vs S o K

theorem ptW_pt {P : Program} {vs : List PV} {S : Heap} {o : Oper} {K : PV → Heap → Prop} (h : ptW False P vs S o K) : ∃ p, OpPt P vs S o p S ∧ (isRd o.op = false → ∀ S2, OpPt P vs S2 o p S2) ∧ K p S := by
  obtain ⟨dst, op, ty, pos, after, g⟩ := o
  unfold ptW at h
  split at h
  · rename_i hop
    simp only at hop
    subst hop
    split at h
    · rename_i z hp hz
      split at h
      · rename_i t d
        split at h
        · rename_i he _; exact ⟨_, pt_assert hp (.inl ⟨he, rfl⟩), fun _ S2 => pt_assert hp (.inl ⟨he, rfl⟩), h⟩
        · rename_i he _; exact ⟨_, pt_assert hp (.inr ⟨he, z, hz, rfl⟩), fun _ S2 => pt_assert hp (.inr ⟨he, z, hz, rfl⟩), h⟩
      · exact ⟨_, pt_assertNil hp hz, fun _ S2 => pt_assertNil hp hz, h⟩
      · exact h.elim
    · exact h.elim
  · rename_i hop
    simp only at hop
    subst hop
    split at h
    · rename_i el he
      split at h
      · rename_i sz hs
        split at h
        · split at h
          · rename_i ds hx
            obtain ⟨⟨h1, h2, h3, h4⟩, hk⟩ := h
            exact ⟨_, pt_indexFro he hs hx h1 h2 h3 h4, by simp [isRd], hk⟩
          · exact h.elim
        · exact h.elim
      · exact h.elim
    · exact h.elim
  · rename_i hop
    simp only at hop
    subst hop
    split at h
    · rename_i ha; exact ⟨_, pt_min ha, fun _ S2 => pt_min ha, h⟩
    · exact h.elim
  · rename_i hop
    simp only at hop
    subst hop
    split at h
    · rename_i ha; exact ⟨_, pt_max ha, fun _ S2 => pt_max ha, h⟩
    · exact h.elim
  · exact h.elim
theorem ptX_pt {P : Program} {vs : List PV} {S : Heap} {o : Oper} {K : PV → Heap → Prop} (h : ptX False P vs S o K) : SemV P vs S o K := by
  unfold ptX at h
  split at h
  · rename_i t x hop
    obtain ⟨dst, op, ty, pos, after, g⟩ := o
    simp only at hop
    subst hop
    split at h
    · rename_i oo sz n hp
      split at h
      · rename_i rows hx
        obtain ⟨ds, h1, h2, h3⟩ := h
        exact (pt_ifcOwn hp hx h1 h2).to ((forceH_iff _ _).1 h3)
      · rename_i ds hx
        obtain ⟨h1, h3⟩ := h
        exact (pt_ifcFro hp hx h1).to h3
      · exact h.elim
    · exact h.elim
  · rename_i s t x hop
    split at h
    · rename_i he hu _
      obtain ⟨dst, op, ty, pos, after, g⟩ := o
      simp only at hop
      subst hop
      subst he
      split at h
      · rename_i oo sz n
        split at h
        · rename_i rows hx
          obtain ⟨h0, ds, h1, h2, h3⟩ := h
          exact (pt_convOwn hu hx h1 h0 h2).to ((forceH_iff _ _).1 h3)
        · exact h.elim
      · exact h.elim
    · rcases pxW_Z h with h | h
      · exact h
      · obtain ⟨p, h1, _, h2⟩ := ptW_pt h; exact h1.to h2
  · rcases pxW_Z h with h | h
    · exact h
    · obtain ⟨p, h1, _, h2⟩ := ptW_pt h; exact h1.to h2
theorem ptW_Z {Z : Prop} {P : Program} {vs : List PV} {S : Heap} {o : Oper} {K : PV → Heap → Prop} (h : ptW Z P vs S o K) : (∃ p, OpPt P vs S o p S ∧ (isRd o.op = false → ∀ S2, OpPt P vs S2 o p S2) ∧ K p S) ∨ Z := by
  by_cases hz : Z
  · exact .inr hz
  · have : Z = False := propext ⟨hz, False.elim⟩
    subst this
    exact .inl (ptW_pt h)
theorem ptX_Z {Z : Prop} {P : Program} {vs : List PV} {S : Heap} {o : Oper} {K : PV → Heap → Prop} (h : ptX Z P vs S o K) : SemV P vs S o K ∨ Z := by
  by_cases hz : Z
  · exact .inr hz
  · have : Z = False := propext ⟨hz, False.elim⟩
    subst this
    exact .inl (ptX_pt h)
end Go.Aw

/- Control in a form that is carried out by reduction. -/
set_option linter.unusedVariables false
set_option linter.unusedSimpArgs false
namespace Go.Aw

def forceE (l : Env) (k : Env → Prop) : Prop := match l with
  | [] => k []
  | (t, p) :: r => forceP p fun p' => forceE r fun r' => k ((t, p') :: r')

def forcePPs (l : List (List PV)) (k : List (List PV) → Prop) : Prop := match l with
  | [] => k []
  | p :: r => forcePs p fun p' => forcePPs r fun r' => k (p' :: r')
def forceE1 (l : Env) (k : Env → Prop) : Prop := match l with
  | [] => k []
  | x :: r => match x with
    | (t, p) => k ((t, p) :: r)
theorem forceE1_iff (l : Env) (k : Env → Prop) : forceE1 l k ↔ k l := by
  cases l with
  | nil => rfl
  | cons x r => rfl

theorem forcePPs_iff (l : List (List PV)) (k : List (List PV) → Prop) : forcePPs l k ↔ k l := by
  induction l generalizing k with
  | nil => rfl
  | cons x r ih => exact (forcePs_iff x _).trans (ih _)
theorem forceE_iff (l : Env) (k : Env → Prop) : forceE l k ↔ k l := by
  induction l generalizing k with
  | nil => rfl
  | cons x r ih => exact (forceP_iff x.2 _).trans (ih _)

/-- Reduction stops here. -/
inductive CallW (P : Program) (f : FuncId) (args : List PV) (S : Heap) (K QP : PV → Heap → Prop) : Prop
  | mk (h : CallX P f args S K QP)
inductive CallF (P : Program) (f : FuncId) (args : List PV) (S : Heap) (K : PV → Heap → Prop) : Prop
  | mk (p : PV) (S' : Heap) (h : CallsA P f args S (fun r s => r = .ret p ∧ s = S')) (k : K p S')
/-- A call that neither looks at the caller's objects nor changes them. -/
inductive CallP (P : Program) (f : FuncId) (args : List PV) (S : Heap) (K : PV → Heap → Prop) : Prop
  | mk (p : PV) (h : ∀ S2, CallsA P f args S2 (fun r s => r = .ret p ∧ s = S2)) (k : K p S)
inductive LoopW (P : Program) (k nt : Nat) (c : Code) (Q : Post) (e : Env) (S : Heap) : Prop
  | mk (h : LoopA P k nt c Q e S)
inductive DrawW (P : Program) (k nt : Nat) (id : Nat) (ops : Array Oper) (Q : Post) (e : Env) (S : Heap) : Prop
  | mk (h : DrawA P k nt id ops Q e S)

/-- An operation that is told of by the worlds: reduction stops here. -/
inductive OpQ (P : Program) (vs : List PV) (S : Heap) (o : Oper) (K QP : PV → Heap → Prop) : Prop
  | mk (h : SemV P vs S o K)
  | call (f : FuncId) (as : List PV) (h : SemVE P vs S o f as) (k : CallX P f as S K QP)
inductive OpF (P : Program) (vs : List PV) (S : Heap) (o : Oper) (K : PV → Heap → Prop) : Prop
  | mk (p : PV) (S' : Heap) (h : OpPt P vs S o p S') (h1 : isWr o.op = false → S' = S) (h2 : isWr o.op = false → isRd o.op = false → ∀ S2, OpPt P vs S2 o p S2) (k : K p S')
/-- A piece of code behind which ways may meet: reduction stops here. -/
inductive SeqW (P : Program) (k nt : Nat) (id : Nat) (c : Code) (Q : Post) (e : Env) (S : Heap) : Prop
  | mk (h : codeOk nt c = true → Sem' P k nt c Q e S)

/-- It may be nil: reduction stops here. -/
inductive NilQ (c X Y : Prop) : Prop
  | mk (t : c → X) (f : Y)

def nilW (P : Program) (op : BinOp) (t : TypeId) (p : PV) (k : Bool → Prop) : Prop := match p, sliceA' P t with
  | .nils, true => match op with
    | .eql => k true
    | .neq => k false
    | _ => False
  | .d (.sl rows), true => match op with
    | .eql => NilQ (rows = []) (k true) (k false)
    | .neq => NilQ (rows = []) (k false) (k true)
    | _ => False
  | .own _ _ _, true => match op with
    | .eql => NilQ True (k true) (k false)
    | .neq => NilQ True (k false) (k true)
    | _ => False
  | _, _ => False

/-- A slice literal: as data, or as an object of the call's own. Reduction stops here. -/
inductive Lit (S : Heap) (vs : List PV) (X Y : Prop) (Z : List PV → Heap → Prop) : Prop
  | data (h : X)
  | own (h : Y)
  /-- As data, where rows of the call's own among the elements are not changed any more. -/
  | frz (vs' : List PV) (S' : Heap) (fz : FrzL S vs vs' S') (h : Z vs' S')

/-- The literal as an object. -/
def ownW (P : Program) (e : Env) (S : Heap) (T : TypeId) (len : Nat) (parts : Array (Nat × Operand)) (K : PV → Heap → Prop) : Prop := match elO P T with
  | some el => match szO P el, zO P el with
    | some sz, some zs => match fillA (fun i => some (i * sz, sz)) (List.replicate len zs).flatten (parts.toList.map fun x => (x.1, ev e x.2)) with
      | some cs => match Nat.beq zs.length sz && Nat.blt 0 sz && Nat.ble (len * sz) 16777216 && Nat.beq cs.length (len * sz) with
        | true => forceN sz fun sz => forcePPs (chunks sz len cs) fun rows => forceH (S ++ [.buf rows]) fun S' => forceO S.length fun o => K (.own o sz len) S'
        | false => False
      | none => False
    | _, _ => False
  | none => False

def execW (P : Program) (e : Env) (S : Heap) (o : Oper) (K : PV → Heap → Prop) (QP : PV → Heap → Prop) : Prop := match o.op with
  | .binOp op t x (.const (.slice none 0 0)) _ => nilW P op t (ev e x) fun b => K (.d (.b b)) S
  | .buildSlice T len parts => forcePs (o.op.operands.toList.map (ev e)) fun vs => Lit S vs (opW False P e S (.buildSlice T len parts) K) (ownW P e S T len parts K) (fun vs' S' => forceH S' fun S' => litW P vs' S' T len parts K)
  | .call { callee := .value (.func f), args, argTypes } => forcePs (args.toList.map (ev e)) fun as => CallW P f as S K QP
  | .panic x => match ev e x with
    | .d (.ifc t d) => QP (.d (.ifc t d)) S
    | _ => False
  | op => opW (forcePs (o.op.operands.toList.map (ev e)) fun vs => ptX (OpQ P vs S o K QP) P vs S o K) P e S op K

def stepW (P : Program) (ops : Array Oper) (o : Oper) (K : Env → Heap → Prop) (Q : Post) (e : Env) (S : Heap) : Prop := match o.guard with
  | none => execW P e S o (fun v => K (put e o.dst v)) (fun p => Q (.panic p) e)
  | some (j, want) => match (ops[j]?).bind (·.dst) with
    | some t => match look e t with
      | .d (.b b) => match want with
        | true => Br b (execW P ((t, .d (.b true)) :: e) S o (fun v => K (put ((t, .d (.b true)) :: e) o.dst v)) (fun p => Q (.panic p) e)) (K (put ((t, .d (.b false)) :: e) o.dst (.tup [])) S)
        | false => Br b (K (put ((t, .d (.b true)) :: e) o.dst (.tup [])) S) (execW P ((t, .d (.b false)) :: e) S o (fun v => K (put ((t, .d (.b false)) :: e) o.dst v)) (fun p => Q (.panic p) e))
      | .tup [] => K (put e o.dst (.tup [])) S
      | _ => False
    | none => False

def opsW (P : Program) (ops : Array Oper) (Q : Post) : List Nat → Env → Heap → Prop
  | [] => Q .normal
  | i :: r => fun e S => forceE1 e fun e => match ops[i]? with
    | none => opsW P ops Q r e S
    | some o => stepW P ops o (opsW P ops Q r) Q e S

/-- The first region of a piece of code behind which ways meet again. -/
def ridC : Code → Option Nat
  | .region id _ _ => some id
  | .seq a b => match ridC a with
    | some i => some i
    | none => ridC b
  | .cond _ a b => match ridC a with
    | some i => some i
    | none => ridC b
  | .block _ c => ridC c
  | .loop c => ridC c
  | _ => none
def anyGuard : List Oper → Bool
  | [] => false
  | o :: r => match o.guard with
    | some _ => true
    | none => anyGuard r
def ridD (c : Code) : Nat := match ridC c with
  | some i => i
  | none => 1000000

def AWw (P : Program) (k nt : Nat) : Code → Post → Env → Heap → Prop
  | .skip, Q => Q .normal
  | .region id ops draw, Q => fun e S => match draw with
    | false => match anyGuard ops.toList with
      | true => forceE e fun e => SeqW P k nt id (.region id ops false) Q e S
      | false => opsW P ops Q (List.range ops.size) e S
    | true => forceE e fun e => DrawW P k nt id ops Q e S
  | .seq a b, Q => AWw P k nt a fun
    | .normal => AWw P k nt b Q
    | x => Q x
  | .cond c x y, Q => fun e S => forceE e fun e => forceO (ridD (.cond c x y)) fun id => SeqW P k nt id (.cond c x y) Q e S
  | .block i c, Q => fun e S => forceE e fun e => forceO (ridD c) fun id => SeqW P k nt id (.block i c) Q e S
  | .loop c, Q => fun e S => forceE e fun e => LoopW P k nt c Q e S
  | .exit id, Q => Q (.exit id)
  | .ret, Q => Q .ret
  | _, _ => fun _ _ => False
/-- The piece, gone into. -/
def AWg (P : Program) (k nt : Nat) : Code → Post → Env → Heap → Prop
  | .region id ops false, Q => opsW P ops Q (List.range ops.size)
  | .cond c x y, Q => fun e S => forceE1 e fun e => match ev e c with
    | .d (.b b) => Br b (AWw P k nt x Q (condE c true e) S) (AWw P k nt y Q (condE c false e) S)
    | _ => False
  | .block id c, Q => AWw P k nt c fun
    | .exit i => if i = id then Q .normal else Q (.exit i)
    | x => Q x
  | c, Q => AWw P k nt c Q

/-- A literal of constant bytes in a region whose order is drawn: as data, or as an object. -/
inductive LitF (X Y : Prop) : Prop
  | data (h : X)
  | own (h : Y)
def execFW (P : Program) (e : Env) (S : Heap) (o : Oper) (K : PV → Heap → Prop) : Prop := match o.op with
  | .call { callee := .value (.func f), args, argTypes } => forcePs (args.toList.map (ev e)) fun as => CallF P f as S K
  | .panic _ => False
  | .buildSlice T len parts => match litB parts.toList with
    | true => LitF (opW False P e S (.buildSlice T len parts) K) (forcePs (o.op.operands.toList.map (ev e)) fun vs => ownV P vs S T len parts K)
    | false => opW (forcePs (o.op.operands.toList.map (ev e)) fun vs => ptW (OpF P vs S o K) P vs S o K) P e S (.buildSlice T len parts) K
  | op => opW (forcePs (o.op.operands.toList.map (ev e)) fun vs => ptW (OpF P vs S o K) P vs S o K) P e S op K

/-- An operation at a place, that neither reads nor changes objects in truth. -/
inductive PlQ (P : Program) (vs : List PV) (op : Op) (S : Heap) (K : PV → Heap → Prop) : Prop
  | mk (p : PV) (h : ∀ S2 dst ty pos after g, OpPt P vs S2 ⟨dst, op, ty, pos, after, g⟩ p S2) (k : K p S)
/-- An operation that looks at no object. -/
def execP (P : Program) (e : Env) (S : Heap) (op : Op) (K : PV → Heap → Prop) : Prop := match op with
  | .load t a => match ev e a with
    | .dp cells => match aggO P t with
      | some true => match szO P t with
        | some n => forceN n fun n => Cd (n ≤ cells.length) (K (.agg ((cells.take n).map .d)) S)
        | none => False
      | some false => match cells with
        | d :: _ => K (.d d) S
        | [] => False
      | none => False
    | _ => False
  | .indexAddr t x i => match elO P t with
    | some el => match szO P el with
      | some sz => match ev e i with
        | .d (.i _ n) => match ev e x with
          | .d (.sl rows) => forceN sz fun sz => Cd (AllLen sz rows ∧ 0 ≤ n ∧ n < rows.length) (K (.dp (rows.getD n.toNat [])) S)
          | _ => False
        | _ => False
      | none => False
    | none => False
  | .call { callee := .value (.func f), args, argTypes } => forcePs (args.toList.map (ev e)) fun as => CallP P f as S K
  | .slice t x lo hi none => forcePs ((Op.slice t x lo hi none).operands.toList.map (ev e)) fun vs => PlQ P vs (.slice t x lo hi none) S K
  | _ => False

def stepFW (P : Program) (ops : Array Oper) (pl : List Nat) (i : Nat) (o : Oper) (K : Env → Heap → Prop) (e : Env) (S : Heap) : Prop := match o.guard with
  | none => match pl.contains i with
    | true => execP P e S o.op (fun v => K (put e o.dst v))
    | false => execFW P e S o (fun v => K (put e o.dst v))
  | some (j, want) => match (ops[j]?).bind (·.dst) with
    | some t => match look e t with
      | .tup [] => K (put e o.dst (.tup [])) S
      | .d (.b b) => match want with
        | true => Br b (match pl.contains i with
            | true => execP P ((t, .d (.b true)) :: e) S o.op (fun v => K (put ((t, .d (.b true)) :: e) o.dst v))
            | false => execFW P ((t, .d (.b true)) :: e) S o (fun v => K (put ((t, .d (.b true)) :: e) o.dst v))) (K (put ((t, .d (.b false)) :: e) o.dst (.tup [])) S)
        | false => Br b (K (put ((t, .d (.b true)) :: e) o.dst (.tup [])) S) (match pl.contains i with
            | true => execP P ((t, .d (.b false)) :: e) S o.op (fun v => K (put ((t, .d (.b false)) :: e) o.dst v))
            | false => execFW P ((t, .d (.b false)) :: e) S o (fun v => K (put ((t, .d (.b false)) :: e) o.dst v)))
      | _ => False
    | none => False

def opsFW (P : Program) (ops : Array Oper) (pl : List Nat) (Q : Env → Heap → Prop) : List Nat → Env → Heap → Prop
  | [] => Q
  | i :: r => fun e S => forceE1 e fun e => match ops[i]? with
    | none => opsFW P ops pl Q r e S
    | some o => stepFW P ops pl i o (opsFW P ops pl Q r) e S

mutual
def pubW (m : Nat) (S : Heap) (p : PV) (k : PV → Prop) : Prop := match p with
  | .any => k .any
  | .d x => k (.d x)
  | .nils => k (.d (.sl []))
  | .ptr o c => match Nat.blt o m with
    | true => k (.ptr o c)
    | false => False
  | .dp cells => k (.dp cells)
  | .own o sz n => match Nat.blt o m with
    | true => k (.own o sz n)
    | false => match S[o]? with
      | some (.buf rows) => PubRows rows n fun ds => k (.d (.sl ds))
      | some (.fro ds) => Cd (ds.length = n) (k (.d (.sl ds)))
      | _ => False
  | .eptr o n r sz c => match Nat.blt o m with
    | true => k (.eptr o n r sz c)
    | false => False
  | .agg cs => pubWs m S cs fun cs => k (.agg cs)
  | .tup vs => pubWs m S vs fun vs => k (.tup vs)
  | .wag pre n run post => pubWs m S pre fun pre => pubWs m S post fun post => k (.wag pre n run post)
  | .asl o c lo len => match Nat.blt o m with
    | true => k (.asl o c lo len)
    | false => match S[o]? with
      | some (.arr pre n run _) => Cd (c = pre.length ∧ lo + len ≤ n) (k (.d (.sl (((run.drop lo).take len).map fun d => [d]))))
      | _ => False
  | .rptr o c i => match Nat.blt o m with
    | true => k (.rptr o c i)
    | false => False
  | .sub o sz off n k2 => match Nat.blt o m with
    | true => k (.sub o sz off n k2)
    | false => False
  | .mp o => match Nat.blt o m with
    | true => k (.mp o)
    | false => False
def pubWs (m : Nat) (S : Heap) (l : List PV) (k : List PV → Prop) : Prop := match l with
  | [] => k []
  | p :: r => pubW m S p fun q => pubWs m S r fun qs => k (q :: qs)
end

def resW (P : Program) (e : Env) (S : Heap) (r : ResultVar) (k : PV → Prop) : Prop := match r with
  | .tmp t => forceP (look e t) k
  | .cell a t => match look e a with
    | .ptr o c => match S[o]? with
      | some (.box cs) => match aggO P t with
        | some true => match szO P t with
          | some n => match Nat.ble (c + n) cs.length with
            | true => forcePs ((cs.drop c).take n) fun ps => k (.agg ps)
            | false => False
          | none => False
        | some false => match cs[c]? with
          | some q => forceP q k
          | none => False
        | none => False
      | _ => False
    | _ => False
def ressW (P : Program) (e : Env) (S : Heap) (l : List ResultVar) (k : List PV → Prop) : Prop := match l with
  | [] => k []
  | r :: rs => resW P e S r fun p => ressW P e S rs fun ps => k (p :: ps)

/-- Objects that are handed back. -/
def keepW (m : Nat) (S : Heap) (k : Heap → Prop) : Prop := match m with
  | 0 => k []
  | m + 1 => Cd (m + 1 ≤ S.length ∧ (S.take (m + 1)).all (Ob.sc (m + 1)) = true) (forceH (S.take (m + 1)) k)

def retW (P : Program) (m : Nat) (rs : List ResultVar) (R : ARes → Heap → Prop) : Post := fun
  | .normal => fun e S => ressW P e S rs fun vs => pubW m S (tupP vs) fun r => keepW m S fun S' => R (.ret r) S'
  | .ret => fun e S => ressW P e S rs fun vs => pubW m S (tupP vs) fun r => keepW m S fun S' => R (.ret r) S'
  | .panic p => fun e S => pubW m S p fun r => keepW m S fun S' => R (.pan r) S'
  | .exit _ => fun _ _ => False

/-- Slots that are known from now on. -/
def WeakE (n : Nat) (e : Env) : Env → Prop
  | [] => True
  | (t, p) :: r => look e t = p ∧ scB n p = true ∧ WeakE n e r

theorem weakE_mem {n : Nat} {e : Env} : ∀ {l : Env}, WeakE n e l → ∀ x ∈ l, PVLe (look e x.1) x.2 ∧ scB n x.2 = true
  | [], _, x, hx => by simp at hx
  | (t, p) :: r, h, x, hx => by
    rcases List.mem_cons.1 hx with rfl | hx
    · exact ⟨by rw [h.1]; exact .refl _, h.2.1⟩
    · exact weakE_mem h.2.2 x hx

/-- A round's end. -/
inductive NextW {γ : Type} (J : γ → Prop) (E : γ → Env) (H : γ → Heap) (μ : γ → Nat) (g : γ) (e' : Env) (S' : Heap) : Prop
  | mk (g' : γ) (hj : J g') (hm : μ g' < μ g) (hs : ∃ extra, S' = H g' ++ extra) (he : WeakE (H g').length e' (E g'))

/-- Rows of data, as an object of the call's own has them. -/
abbrev liftR (rows : List (List D)) : List (List PV) := rows.map (·.map PV.d)
theorem sc_lift (n : Nat) (rows : List (List D)) : Ob.sc n (.buf (liftR rows)) = true := by
  unfold Ob.sc Ob.cells liftR
  simp only [← List.map_flatten, scBs_map_d]

theorem blt_lt {a b : Nat} (h : Nat.blt a b = true) : a < b := by simpa [Nat.blt_eq] using h

section
variable {P : Program}

theorem mem_reps {w : World} {F : Nat → Prop} {ρ : Nat → Option Nat} {C : Nat → OI} {e : Env} {f : Operand → Value} : ∀ {l : List Operand}, (∀ x ∈ l, RepPV w F ρ C (ev e x) (f x)) → RepTs w F ρ C (l.map (ev e)) (l.map f)
  | [], _ => by simp [RepTs]
  | x :: r, h => by simp only [List.map_cons, RepTs]; exact ⟨_, _, rfl, h x (by simp), mem_reps fun y hy => h y (by simp [hy])⟩
theorem SemV.op {e : Env} {S : Heap} {o : Oper} {K : PV → Heap → Prop} (h : SemV P (o.op.operands.toList.map (ev e)) S o K) : SemOp P e S o K :=
  fun w0 F0 mods F ρ w a hs he => h w0 F0 mods F ρ w a hs (mem_reps fun x hx => he x (by simpa using hx))
theorem OpQ.sem {e : Env} {S : Heap} {o : Oper} {K QP : PV → Heap → Prop} (h : OpQ P (o.op.operands.toList.map (ev e)) S o K QP) : SemA P e S o K QP := by
  cases h with
  | mk h => exact .inl h.op
  | call f as h k => exact .inr ⟨f, as, k, fun F ρ w a he => h F ρ w a (mem_reps fun x hx => he x (by simpa using hx))⟩
theorem OpF.sem {e : Env} {S : Heap} {o : Oper} {K : PV → Heap → Prop} (h : OpF P (o.op.operands.toList.map (ev e)) S o K) : SemF P e S o K := by
  obtain ⟨p, S', h, h1, h2, k⟩ := h
  exact ⟨p, S', h.op, h1, fun a b S2 => (h2 a b S2).op, k⟩

theorem execW_A {e : Env} {S : Heap} {o : Oper} {K QP : PV → Heap → Prop} (h : execW P e S o K QP) : execA P e S o K QP := by
  unfold execW at h
  split at h
  · rename_i op t x yt hop
    refine Or.inr (Or.inl ?_)
    simp only [NilA, hop]
    unfold nilW at h
    split at h
    · rename_i hp ht
      rw [hp]
      split at h
      · exact ⟨.inl rfl, ht, 0, rfl, (by simp), fun b hb hb' => by rw [hb' rfl]; exact h⟩
      · exact ⟨.inr rfl, ht, 0, rfl, (by simp), fun b hb hb' => by rw [hb' rfl]; exact h⟩
      · exact h.elim
    · rename_i rows hp ht
      rw [hp]
      split at h
      · obtain ⟨h1, h2⟩ := h
        exact ⟨.inl rfl, ht, rows.length, rfl, (by simp), fun b hb _ => by
          cases b with
          | false => exact h2
          | true => exact h1 (by simpa using hb)⟩
      · obtain ⟨h1, h2⟩ := h
        exact ⟨.inr rfl, ht, rows.length, rfl, (by simp), fun b hb _ => by
          cases b with
          | false => exact h2
          | true => exact h1 (by simpa using hb)⟩
      · exact h.elim
    · rename_i o sz n hp ht
      rw [hp]
      split at h
      · obtain ⟨h1, h2⟩ := h
        exact ⟨.inl rfl, ht, n, rfl, (by simp), fun b hb _ => by
          cases b with
          | false => exact h2
          | true => exact h1 trivial⟩
      · obtain ⟨h1, h2⟩ := h
        exact ⟨.inr rfl, ht, n, rfl, (by simp), fun b hb _ => by
          cases b with
          | false => exact h2
          | true => exact h1 trivial⟩
      · exact h.elim
    · exact h.elim
  · rename_i T len parts hop
    rcases (forcePs_iff _ _).1 h with h | h | ⟨vs', S', fz, h⟩
    case frz => exact Or.inr (Or.inr (Or.inr (Or.inl (SemV.op ((litW_pt hop ((forceH_iff _ _).1 h)).frz fz)))))
    · have h' := opW_A h
      refine Or.inl ?_
      simp only [execA0, hop]
      exact h'
    · refine Or.inr (Or.inr (Or.inl ?_))
      simp only [LitA, hop]
      unfold ownW at h
      split at h
      · rename_i el he
        split at h
        · rename_i sz zs hs hz
          split at h
          · rename_i cs hf
            split at h
            · rename_i hbb
              simp only [Bool.and_eq_true] at hbb
              have h1 := Nat.eq_of_beq_eq_true hbb.1.1.1
              have h2 : 0 < sz := by have := hbb.1.1.2; simpa [Nat.blt_eq] using this
              have h3 := Nat.le_of_ble_eq_true hbb.1.2
              have h4 := Nat.eq_of_beq_eq_true hbb.2
              exact ⟨el, sz, zs, cs, he, hs, hz, h1, h2, hf, h3, h4, (forceO_iff _ _).1 ((forceH_iff _ _).1 ((forcePPs_iff _ _).1 ((forceN_iff _ _).1 h)))⟩
            · exact h.elim
          · exact h.elim
        · exact h.elim
      · exact h.elim
  · rename_i f args argTypes hop
    obtain ⟨h⟩ := (forcePs_iff _ _).1 h
    refine Or.inl ?_; simp only [execA0, hop]; exact h
  · rename_i x hop
    split at h
    · rename_i t d hx; refine Or.inl ?_; simp only [execA0, hop]; exact ⟨t, d, hx, h⟩
    · exact h.elim
  · rcases opW_Z h with h | h
    · exact execA_of_opA h
    · rcases ptX_Z ((forcePs_iff _ _).1 h) with h | h
      · exact Or.inr (Or.inr (Or.inr (Or.inl h.op)))
      · exact Or.inr (Or.inr (Or.inr h.sem))

theorem execA_mono {e : Env} {S : Heap} {o : Oper} {K K' QP QP' : PV → Heap → Prop} (h : execA P e S o K QP) (hk : ∀ v s, K v s → K' v s) (hp : ∀ v s, QP v s → QP' v s) : execA P e S o K' QP' := by
  have sem : SemA P e S o K QP → SemA P e S o K' QP' := by
    rintro (h | ⟨f, as, ⟨R, h1, h2⟩, h3⟩)
    · exact .inl (h.mono hk)
    · exact .inr ⟨f, as, ⟨R, h1, fun r S' hr => by cases r with | ret p => exact fun hz => hk _ _ (h2 _ _ hr hz) | pan p => exact hp _ _ (h2 _ _ hr)⟩, h3⟩
  by_cases hc : ∃ f args argTypes, o.op = .call { callee := .value (.func f), args := args, argTypes := argTypes }
  · obtain ⟨f, args, argTypes, hop⟩ := hc
    rcases h with h | h | h | h
    case inr.inl => simp only [NilA, hop] at h
    case inr.inr.inl => simp only [LitA, hop] at h
    case inr.inr.inr => exact Or.inr (Or.inr (Or.inr (sem h)))
    refine Or.inl ?_
    simp only [execA0, hop] at h ⊢
    obtain ⟨R, h1, h2⟩ := h
    exact ⟨R, h1, fun r S' hr => by cases r with | ret p => exact fun hz => hk _ _ (h2 _ _ hr hz) | pan p => exact hp _ _ (h2 _ _ hr)⟩
  · rcases h with h | h | h | h
    case inr.inr.inr => exact Or.inr (Or.inr (Or.inr (sem h)))
    case inr.inr.inl =>
      refine Or.inr (Or.inr (Or.inl ?_))
      unfold LitA at h ⊢
      split at h
      · obtain ⟨el, sz, zs, cs, h1, h2, h3, h4, h5, h6, h7, h8, h9⟩ := h; exact ⟨el, sz, zs, cs, h1, h2, h3, h4, h5, h6, h7, h8, hk _ _ h9⟩
      · exact h.elim
    case inr.inl =>
      refine Or.inr (Or.inl ?_)
      unfold NilA at h ⊢
      split at h
      · obtain ⟨h1, h2, n, h3, h4, h5⟩ := h; exact ⟨h1, h2, n, h3, h4, fun b hb hb' => hk _ _ (h5 b hb hb')⟩
      · exact h.elim
    unfold execA0 at h
    split at h
    · rename_i f args argTypes hop; exact absurd ⟨f, args, argTypes, hop⟩ hc
    · rename_i x hop; refine Or.inl ?_; simp only [execA0, hop]; obtain ⟨t, d, h1, h2⟩ := h; exact ⟨t, d, h1, hp _ _ h2⟩
    · exact execA_of_opA (opA_mono h hk)

theorem stepW_A {ops : Array Oper} {o : Oper} {K K' : Env → Heap → Prop} {Q Q' : Post} {e : Env} {S : Heap} (hk : ∀ e S, K e S → K' e S) (hq : ∀ p e S, Q (.panic p) e S → Q' (.panic p) e S) (h : stepW P ops o K Q e S) : stepA P ops o K' Q' e S := by
  unfold stepW at h
  unfold stepA
  split at h
  · rename_i hg; simp only [hg]; exact execA_mono (execW_A h) (fun _ _ => hk _ _) (fun _ _ => hq _ _ _)
  · rename_i j want hg
    simp only [hg]
    split at h
    · rename_i t ht
      simp only [ht]
      split at h
      · rename_i b hb
        refine Or.inr ⟨b, hb, ?_⟩
        cases want with
        | true =>
          obtain ⟨h1, h2⟩ := h
          exact ⟨fun e => execA_mono (execW_A (h1 e)) (fun _ _ => hk _ _) (fun _ _ => hq _ _ _), fun e => hk _ _ (h2 e)⟩
        | false =>
          obtain ⟨h1, h2⟩ := h
          exact ⟨fun e => execA_mono (execW_A (h2 e)) (fun _ _ => hk _ _) (fun _ _ => hq _ _ _), fun e => hk _ _ (h1 e)⟩
      · rename_i hu; exact Or.inl ⟨hu, hk _ _ h⟩
      · exact h.elim
    · exact h.elim

theorem opsW_A {ops : Array Oper} {Q Q' : Post} (hq : ∀ x e S, Q x e S → Q' x e S) : ∀ (l : List Nat) (e : Env) (S : Heap), opsW P ops Q l e S → opsA P ops Q' l e S
  | [], e, S, h => hq _ _ _ h
  | i :: r, e, S, h => by
    simp only [opsW, opsA] at h ⊢
    rw [forceE1_iff] at h
    split at h
    · rename_i ho; simp only [ho]; exact opsW_A hq r e S h
    · rename_i o ho; simp only [ho]; exact stepW_A (fun e S => opsW_A hq r e S) (fun p => hq _) h

theorem Sem'.mono {k nt : Nat} {c : Code} {Q Q' : Post} (hq : ∀ x e S, Q x e S → Q' x e S) {e : Env} {S : Heap} (h : Sem' P k nt c Q e S) : Sem' P k nt c Q' e S :=
  fun G a w hk hn hi => wp_mono (h G a w hk hn hi) (liftQ_mono hq)

theorem AWw_A {k nt : Nat} : ∀ (c : Code) (Q Q' : Post) (_ : ∀ x e S, Q x e S → Q' x e S) (e : Env) (S : Heap), AWw P k nt c Q e S → AWs P k nt c Q' e S
  | .skip, Q, Q', hq, e, S, h => hq _ _ _ h
  | .region id ops false, Q, Q', hq, e, S, h => by
    simp only [AWw] at h
    split at h
    · obtain ⟨h⟩ := (forceE_iff _ _).1 h
      exact Or.inr fun hd => Sem'.mono hq (h hd)
    · exact Or.inl (opsW_A hq _ _ _ h)
  | .region id ops true, Q, Q', hq, e, S, h => by
    obtain ⟨h⟩ := (forceE_iff _ _).1 h
    exact Or.inl (Sem'.mono hq h)
  | .seq a b, Q, Q', hq, e, S, h => AWw_A a _ _ (fun x e S hx => by cases x with
      | normal => exact AWw_A b Q Q' hq e S hx
      | exit i => exact hq _ _ _ hx
      | ret => exact hq _ _ _ hx
      | panic p => exact hq _ _ _ hx) e S h
  | .cond c x y, Q, Q', hq, e, S, h => by
    obtain ⟨h⟩ := (forceO_iff _ _).1 ((forceE_iff _ _).1 h)
    exact Or.inr fun hd => Sem'.mono hq (h hd)
  | .block id c, Q, Q', hq, e, S, h => by
    obtain ⟨h⟩ := (forceO_iff _ _).1 ((forceE_iff _ _).1 h)
    exact Or.inr fun hd => Sem'.mono hq (h hd)
  | .loop c, Q, Q', hq, e, S, h => by
    obtain ⟨h⟩ := (forceE_iff _ _).1 h
    exact Sem'.mono hq h
  | .exit id, Q, Q', hq, e, S, h => hq _ _ _ h
  | .ret, Q, Q', hq, e, S, h => hq _ _ _ h
  | .rangeFunc .., Q, Q', hq, e, S, h => h.elim
  | .scope _, Q, Q', hq, e, S, h => h.elim
  | .label _, Q, Q', hq, e, S, h => h.elim
  | .goto _, Q, Q', hq, e, S, h => h.elim
  | .refuse _, Q, Q', hq, e, S, h => h.elim
theorem AWg_A {k nt : Nat} (c : Code) (Q : Post) (e : Env) (S : Heap) (h : AWg P k nt c Q e S) : AWs P k nt c Q e S := by
  unfold AWg at h
  split at h
  · exact Or.inl (opsW_A (fun _ _ _ h => h) _ _ _ h)
  · rename_i c x y
    rw [forceE1_iff] at h
    split at h
    · rename_i b hb
      obtain ⟨h1, h2⟩ := h
      exact Or.inl ⟨b, hb, fun e => AWw_A x Q Q (fun _ _ _ h => h) _ _ (h1 e), fun e => AWw_A y Q Q (fun _ _ _ h => h) _ _ (h2 e)⟩
    · exact h.elim
  · rename_i id c
    exact Or.inl (AWw_A c _ _ (fun x e S hx => hx) e S h)
  · exact AWw_A _ _ _ (fun _ _ _ h => h) _ _ h

mutual
theorem pubW_A {m : Nat} {S : Heap} : ∀ (p : PV) {k : PV → Prop}, pubW m S p k → ∃ q, pubV m S p = some q ∧ k q
  | .any, k, h => ⟨_, rfl, by simpa only [pubW] using h⟩
  | .d x, k, h => ⟨_, rfl, by simpa only [pubW] using h⟩
  | .nils, k, h => ⟨_, rfl, by simpa only [pubW] using h⟩
  | .ptr o c, k, h => by
    simp only [pubW] at h
    split at h
    · rename_i hb; exact ⟨_, by simp only [pubV]; rw [if_pos (blt_lt hb)], h⟩
    · exact h.elim
  | .dp cells, k, h => ⟨_, rfl, by simpa only [pubW] using h⟩
  | .own o sz n, k, h => by
    simp only [pubW] at h
    split at h
    · rename_i hb; exact ⟨_, by simp only [pubV, pubOwn]; rw [if_pos (blt_lt hb)], h⟩
    · rename_i hb
      have hn : ¬ o < m := fun hl => by rw [show Nat.blt o m = true by simpa [Nat.blt_eq] using hl] at hb; cases hb
      split at h
      · rename_i rows hx
        obtain ⟨ds, h1, h2, h3⟩ := h
        exact ⟨_, by simp only [pubV, pubOwn]; rw [if_neg hn]; simp only [hx, h1, h2, if_true, Option.map_some], h3⟩
      · rename_i ds hx
        obtain ⟨h1, h3⟩ := h
        exact ⟨_, by simp only [pubV, pubOwn]; rw [if_neg hn]; simp only [hx, h1, if_true], h3⟩
      · exact h.elim
  | .eptr o n r sz c, k, h => by
    simp only [pubW] at h
    split at h
    · rename_i hb; exact ⟨_, by simp only [pubV]; rw [if_pos (blt_lt hb)], h⟩
    · exact h.elim
  | .agg cs, k, h => by
    simp only [pubW] at h
    obtain ⟨qs, h1, h2⟩ := pubWs_A cs h
    exact ⟨_, by simp only [pubV, h1, Option.map_some], h2⟩
  | .tup cs, k, h => by
    simp only [pubW] at h
    obtain ⟨qs, h1, h2⟩ := pubWs_A cs h
    exact ⟨_, by simp only [pubV, h1, Option.map_some], h2⟩
  | .wag pre n run post, k, h => by
    simp only [pubW] at h
    obtain ⟨qs, h1, h2⟩ := pubWs_A pre h
    obtain ⟨qs', h1', h2'⟩ := pubWs_A post h2
    exact ⟨_, by simp only [pubV, h1, h1'], h2'⟩
  | .asl o c lo len, k, h => by
    simp only [pubW] at h
    split at h
    · rename_i hb; exact ⟨_, by simp only [pubV]; rw [if_pos (blt_lt hb)], h⟩
    · rename_i hb
      have hn : ¬ o < m := fun hl => by rw [show Nat.blt o m = true by simpa [Nat.blt_eq] using hl] at hb; cases hb
      split at h
      · rename_i pre n run post hx
        obtain ⟨hc, h⟩ := h
        exact ⟨_, by simp only [pubV]; rw [if_neg hn]; simp only [pubAsl, hx]; rw [if_pos hc], h⟩
      · exact h.elim
  | .rptr o c i, k, h => by
    simp only [pubW] at h
    split at h
    · rename_i hb; exact ⟨_, by simp only [pubV]; rw [if_pos (blt_lt hb)], h⟩
    · exact h.elim
  | .sub o sz off n k2, k, h => by
    simp only [pubW] at h
    split at h
    · rename_i hb; exact ⟨_, by simp only [pubV]; rw [if_pos (blt_lt hb)], h⟩
    · exact h.elim
  | .mp o, k, h => by
    simp only [pubW] at h
    split at h
    · rename_i hb; exact ⟨_, by simp only [pubV]; rw [if_pos (blt_lt hb)], h⟩
    · exact h.elim
theorem pubWs_A {m : Nat} {S : Heap} : ∀ (ps : List PV) {k : List PV → Prop}, pubWs m S ps k → ∃ qs, pubVs m S ps = some qs ∧ k qs
  | [], k, h => ⟨_, rfl, by simpa only [pubWs] using h⟩
  | p :: r, k, h => by
    simp only [pubWs] at h
    obtain ⟨q, h1, h2⟩ := pubW_A p h
    obtain ⟨qs, h3, h4⟩ := pubWs_A r h2
    exact ⟨_, by simp only [pubVs, h1, h3], h4⟩
end

theorem ressW_A {e : Env} {S : Heap} : ∀ (l : List ResultVar) {k : List PV → Prop}, ressW P e S l k → ∃ ps, resVs P e S l = some ps ∧ k ps
  | [], k, h => ⟨_, rfl, h⟩
  | r :: rs, k, h => by
    simp only [ressW] at h
    have : ∀ {k : PV → Prop}, resW P e S r k → ∃ p, resV P e S r = some p ∧ k p := by
      intro k h
      cases r with
      | tmp t => exact ⟨_, rfl, (forceP_iff _ _).1 h⟩
      | cell a t =>
        simp only [resW] at h
        split at h
        · rename_i o c ho
          split at h
          · rename_i cs hx
            split at h
            · rename_i ha
              split at h
              · rename_i n hs
                split at h
                · rename_i hb
                  exact ⟨_, by simp only [resV, loadV, ho, hx, ha, hs]; rw [if_pos (Nat.le_of_ble_eq_true hb)], (forcePs_iff _ (fun ps => k (.agg ps))).1 h⟩
                · exact h.elim
              · exact h.elim
            · rename_i ha
              split at h
              · rename_i q hq; exact ⟨_, by simp only [resV, loadV, ho, hx, ha, hq], (forceP_iff _ _).1 h⟩
              · exact h.elim
            · exact h.elim
          · exact h.elim
        · exact h.elim
    obtain ⟨p, h1, h2⟩ := this h
    obtain ⟨ps, h3, h4⟩ := ressW_A rs h2
    exact ⟨_, by simp only [resVs, h1, h3], h4⟩

theorem keepW_A {m : Nat} {S : Heap} {k : Heap → Prop} (h : keepW m S k) : m ≤ S.length ∧ (S.take m).all (Ob.sc m) = true ∧ k (S.take m) := by
  cases m with
  | zero => exact ⟨Nat.zero_le _, by simp, by simpa [keepW] using h⟩
  | succ m => obtain ⟨⟨h1, h2⟩, h3⟩ := h; exact ⟨h1, h2, (forceH_iff _ _).1 h3⟩

theorem retW_A {m : Nat} {rs : List ResultVar} {R : ARes → Heap → Prop} : ∀ x e S, retW P m rs R x e S → retQ P m rs R x e S
  | .normal, e, S, h => by
    obtain ⟨vs, h1, h2⟩ := ressW_A _ h
    obtain ⟨r, h3, h4⟩ := pubW_A _ h2
    obtain ⟨h5, h6, h7⟩ := keepW_A h4
    exact ⟨vs, r, h1, h3, h5, h6, h7⟩
  | .ret, e, S, h => by
    obtain ⟨vs, h1, h2⟩ := ressW_A _ h
    obtain ⟨r, h3, h4⟩ := pubW_A _ h2
    obtain ⟨h5, h6, h7⟩ := keepW_A h4
    exact ⟨vs, r, h1, h3, h5, h6, h7⟩
  | .panic p, e, S, h => by
    obtain ⟨r, h3, h4⟩ := pubW_A _ h
    obtain ⟨h5, h6, h7⟩ := keepW_A h4
    exact ⟨r, h3, h5, h6, h7⟩
  | .exit i, e, S, h => h.elim

/-- A function's contract, from its body, by reduction. -/
theorem callsW_of {f : FuncId} {fn : Func} {c : Code} {args : List PV} {S0 : Heap} {R : ARes → Heap → Prop} (m : Nat) (hcall : ∀ args w, (callFunc f args).run P w = .ok (.enter f args) w) (hf : P.funcs[f]? = some fn) (hb : fn.body = some c)
    (hd : codeOk fn.ntmps c = true) (ha : args.length ≤ fn.ntmps) (hm : S0.length ≤ m) (h : AWw P S0.length fn.ntmps c (retW P m fn.results.toList R) (env0 0 args) S0) : CallsA P f args S0 R :=
  callsA_of m hcall hf hb hd ha hm (AWw_A c _ _ retW_A _ _ h)

theorem loopW {k nt : Nat} {c : Code} {Q : Post} {e : Env} {S : Heap} (hd : codeOk nt c = true) {γ : Type} (J : γ → Prop) (E : γ → Env) (H : γ → Heap) (μ : γ → Nat) (hH : ∀ g, J g → k ≤ (H g).length ∧ (H g).all (Ob.sc (H g).length) = true)
    (g0 : γ) (j0 : J g0) (h0 : ∃ extra, S = H g0 ++ extra) (e0 : WeakE (H g0).length e (E g0))
    (round : ∀ g, J g → AWw P k nt c (fun
      | .normal => fun e' S' => forceE e' fun e' => NextW J E H μ g e' S'
      | x => Q x) (E g) (H g)) : LoopW P k nt c Q e S :=
  ⟨loopA hd J E H μ g0 j0 (Weak.toH ⟨(hH g0 j0).1, h0, (hH g0 j0).2, weakE_mem e0⟩) fun g hg => AWw_A c _ _ (fun x e S h => by
    cases x with
    | normal =>
      obtain ⟨g', hj, hm, hs, he⟩ := (forceE_iff _ _).1 h
      exact ⟨g', hj, Weak.toH ⟨(hH g' hj).1, hs, (hH g' hj).2, weakE_mem he⟩, hm⟩
    | exit i => exact h
    | ret => exact h
    | panic p => exact h) _ _ (round g hg)⟩

theorem execFW_A {e : Env} {S : Heap} {o : Oper} {K : PV → Heap → Prop} (h : execFW P e S o K) : execF P e S o K := by
  unfold execFW at h
  split at h
  · rename_i f args argTypes hop
    obtain ⟨p, S', h1, h2⟩ := (forcePs_iff _ _).1 h
    exact Or.inl (by simp only [execF0, hop]; exact ⟨p, S', h1, h2⟩)
  · exact h.elim
  · rename_i T len parts hop
    split at h
    · rename_i hlb
      rcases h with h | h
      · refine Or.inl ?_
        simp only [execF0, hop]
        exact opW_A h
      · obtain ⟨p, S', h1, h2⟩ := ownV_pt hop ((forcePs_iff _ _).1 h)
        exact Or.inr ⟨p, S', h1.op, (fun e' => by rw [hop] at e'; simp only [isWr] at e'; rw [hlb] at e'; cases e'), (fun e' => by rw [hop] at e'; simp only [isWr] at e'; rw [hlb] at e'; cases e'), h2⟩
    · rcases opW_Z h with h | h
      · refine Or.inl ?_
        simp only [execF0, hop]
        exact h
      · rcases ptW_Z ((forcePs_iff _ _).1 h) with ⟨p, h1, h3, h2⟩ | h
        · exact Or.inr ⟨p, S, h1.op, fun _ => rfl, fun _ hr S2 => (h3 hr S2).op, h2⟩
        · exact Or.inr h.sem
  · rename_i n1 n2 n3
    rcases opW_Z h with h | h
    · refine Or.inl ?_
      unfold execF0
      split
      · rename_i f args argTypes hop; exact absurd hop (n1 f args argTypes)
      · rename_i x hop; exact absurd hop (n2 x)
      · exact h
    · rcases ptW_Z ((forcePs_iff _ _).1 h) with ⟨p, h1, h3, h2⟩ | h
      · exact Or.inr ⟨p, S, h1.op, fun _ => rfl, fun _ hr S2 => (h3 hr S2).op, h2⟩
      · exact Or.inr h.sem

theorem execP_A {e : Env} {S : Heap} {o : Oper} {K : PV → Heap → Prop} (h : execP P e S o.op K) : ∃ p, (∀ S2, execF P e S2 o (fun v s => v = p ∧ s = S2)) ∧ K p S := by
  have plain : ∀ p, (∀ S2, opA P e S2 o.op (fun v s => v = p ∧ s = S2)) → (∀ f args argTypes, o.op ≠ .call { callee := .value (.func f), args := args, argTypes := argTypes }) → (∀ x, o.op ≠ .panic x) → ∀ S2, execF P e S2 o (fun v s => v = p ∧ s = S2) := fun p hp n1 n2 S2 => by
    refine Or.inl ?_
    unfold execF0
    split
    · rename_i f args argTypes hop; exact absurd hop (n1 f args argTypes)
    · rename_i x hop; exact absurd hop (n2 x)
    · exact hp S2
  unfold execP at h
  split at h
  · rename_i hop
    split at h
    · rename_i cells hx
      split at h
      · rename_i ha
        split at h
        · rename_i n hs; obtain ⟨hc, hk⟩ := (forceN_iff _ _).1 h; exact ⟨_, plain _ (fun S2 => by simp only [hop, opA, loadA, hx, ha]; exact ⟨n, hs, hc, rfl, trivial⟩) (by simp [hop]) (by simp [hop]), hk⟩
        · exact h.elim
      · rename_i ha
        split at h
        · exact ⟨_, plain _ (fun S2 => by simp only [hop, opA, loadA, hx, ha]; exact ⟨_, rfl, rfl, trivial⟩) (by simp [hop]) (by simp [hop]), h⟩
        · exact h.elim
      · exact h.elim
    · exact h.elim
  · rename_i hop
    split at h
    · rename_i el he
      split at h
      · rename_i sz hs
        split at h
        · rename_i k n hi
          split at h
          · rename_i rows hx
            obtain ⟨⟨h1, h2, h3⟩, hk⟩ := (forceN_iff _ _).1 h
            refine ⟨_, plain _ (fun S2 => ?_) (by simp [hop]) (by simp [hop]), hk⟩
            simp only [hop, opA, indexA]
            refine ⟨el, sz, he, hs, ?_⟩
            rw [hi, hx]
            exact ⟨h1, h2, h3, rfl, trivial⟩
          · exact h.elim
        · exact h.elim
      · exact h.elim
    · exact h.elim
  · rename_i f args argTypes hop
    obtain ⟨p, h1, h2⟩ := (forcePs_iff _ _).1 h
    refine ⟨p, fun S2 => Or.inl ?_, h2⟩
    simp only [execF0, hop]
    exact ⟨p, S2, h1 S2, rfl, rfl⟩
  · rename_i t x lo hi hop
    obtain ⟨p, h1, h2⟩ := (forcePs_iff _ _).1 h
    obtain ⟨dst, op, ty, pos, after, g⟩ := o
    simp only at hop
    subst hop
    exact ⟨p, fun S2 => Or.inr ⟨p, S2, SemV.op (h1 S2 dst ty pos after g), fun _ => rfl, fun _ _ S3 => SemV.op (h1 S3 dst ty pos after g), rfl, rfl⟩, h2⟩
  · exact h.elim

theorem stepFW_A {ops : Array Oper} {pl : List Nat} {i : Nat} {o : Oper} {K K' : Env → Heap → Prop} {e : Env} {S : Heap} (hk : ∀ e S, K e S → K' e S) (h : stepFW P ops pl i o K e S) : stepF P ops pl i o K' e S := by
  have key : ∀ (e : Env), (match pl.contains i with
      | true => execP P e S o.op (fun v => K (put e o.dst v))
      | false => execFW P e S o (fun v => K (put e o.dst v))) → if pl.contains i then ∃ p, (∀ S2, execF P e S2 o (fun v s => v = p ∧ s = S2)) ∧ K' (put e o.dst p) S else execF P e S o (fun v => K' (put e o.dst v)) := by
    intro e h
    split at h
    · rename_i hp; rw [if_pos hp]; obtain ⟨p, h1, h2⟩ := execP_A h; exact ⟨p, h1, hk _ _ h2⟩
    · rename_i hp
      rw [if_neg (by simp only [hp]; decide)]
      obtain ⟨v, S', h1, h2, _⟩ := execF_point (execFW_A h)
      exact h1 _ (hk _ _ h2)
  unfold stepFW at h
  unfold stepF
  split at h
  · rename_i hg; try simp only [hg]
    exact key e h
  · rename_i j want hg
    try simp only [hg]
    split at h
    · rename_i t ht
      try simp only [ht]
      split at h
      · rename_i hb
        exact .inl ⟨hb, hk _ _ h⟩
      · rename_i b hb
        refine .inr ⟨b, hb, ?_⟩
        cases want with
        | true => obtain ⟨h1, h2⟩ := h; exact ⟨fun e => key _ (h1 e), fun e => hk _ _ (h2 e)⟩
        | false => obtain ⟨h1, h2⟩ := h; exact ⟨fun e => key _ (h2 e), fun e => hk _ _ (h1 e)⟩
      · exact h.elim
    · exact h.elim

theorem opsFW_A {ops : Array Oper} {pl : List Nat} {Q : Env → Heap → Prop} : ∀ (l : List Nat) (e : Env) (S : Heap), opsFW P ops pl Q l e S → opsF P ops pl Q l e S
  | [], e, S, h => h
  | i :: r, e, S, h => by
    simp only [opsFW, opsF] at h ⊢
    rw [forceE1_iff] at h
    split at h
    · rename_i ho; try simp only [ho]
      exact opsFW_A r e S h
    · rename_i o ho; try simp only [ho]
      exact stepFW_A (fun e S => opsFW_A r e S) h

theorem drawW {k nt id : Nat} {ops : Array Oper} {Q : Post} {e : Env} {S : Heap} (pl : List Nat) (hm : P.follows .mixedOrders = true) (hc : drawChk ops pl = true) (hd : ops.all (dstOk nt) = true)
    (h : opsFW P ops pl (Q .normal) (List.range ops.size) e S) : DrawW P k nt id ops Q e S :=
  ⟨draw_sound pl hm hc hd (opsFW_A _ _ _ h)⟩
/-- On with the code. -/
theorem SeqW.go {k nt id : Nat} {c : Code} {Q : Post} {e : Env} {S : Heap} (h : AWg P k nt c Q e S) : SeqW P k nt id c Q e S :=
  ⟨fun hd => AWs_sound k nt _ _ _ _ hd (AWg_A _ _ _ _ h)⟩
theorem OpQ.pt {vs : List PV} {S S' : Heap} {o : Oper} {K QP : PV → Heap → Prop} {p : PV} (h : OpPt P vs S o p S') (k : K p S') : OpQ P vs S o K QP :=
  .mk fun w0 F0 mods F ρ w a hs he => (h w0 F0 mods F ρ w a hs he).mono fun v s hv => by obtain ⟨rfl, rfl⟩ := hv; exact k
end
end Go.Aw
