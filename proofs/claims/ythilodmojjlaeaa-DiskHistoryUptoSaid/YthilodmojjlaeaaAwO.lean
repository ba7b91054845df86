/- A region whose order is drawn: one walk in the order of the text serves every order, where what may meet is ordered by the region's own edges. -/
import Derived.Test.YthilodmojjlaeaaAwN
set_option linter.unusedVariables false
set_option linter.unusedSimpArgs false
namespace Go.Aw

/-- Reads or writes objects; only reads them. -/
def isWr : Op → Bool
  | .alloc _ | .box .. | .store .. | .makeSlice .. | .mapUpdate .. | .insert .. | .entryStore .. | .makeMap .. | .range .. | .next .. | .mapEntry .. | .makeFunc .. => true
  | .call { callee := .builtin .len, .. } => false
  | .call { callee := .builtin .min, .. } => false
  | .call { callee := .builtin .max, .. } => false
  | .call _ => true
  | _ => false
def isRd : Op → Bool
  | .load .. | .indexAddr .. | .lookup .. | .entry .. | .slice _ _ (some _) _ _ | .slice _ _ _ (some _) _ => true
  | _ => false

def tmpsOf (o : Oper) : List Nat := o.op.operands.toList.filterMap fun | .tmp t => some t | _ => none
def guardSlot (ops : Array Oper) (o : Oper) : List Nat := match o.guard with
  | some (j, _) => ((ops[j]?).bind (·.dst)).toList
  | none => []
def namesOf (ops : Array Oper) (o : Oper) : List Nat := tmpsOf o ++ guardSlot ops o ++ o.dst.toList

def masks (ops : Array Oper) : List Nat :=
  ops.toList.foldl (init := []) fun acc o => acc ++ [o.after.toList.foldl (fun m e => if Region.binds .any e then m ||| 2 ^ e.on ||| acc.getD e.on 0 else m) 0]

/-- A j i: j stands ahead of i by the edges. -/
def ancOk (ops : Array Oper) (A : Nat → Nat → Bool) : Bool :=
  (List.range ops.size).all fun i => match ops[i]? with
    | none => true
    | some o => (o.after.toList.all fun e => !Region.binds .any e || decide (e.on < i)) &&
        (List.range ops.size).all fun j => !A j i || o.after.toList.any fun e => Region.binds .any e && (e.on == j || A j e.on)

def rwAt (ops : Array Oper) (pl : List Nat) (i : Nat) : Bool := match ops[i]? with
  | some o => (isWr o.op || isRd o.op) && !pl.contains i
  | none => false
def wrAt (ops : Array Oper) (pl : List Nat) (i : Nat) : Bool := match ops[i]? with
  | some o => isWr o.op && !pl.contains i
  | none => false
def dstAt (ops : Array Oper) (i : Nat) : Option Nat := (ops[i]?).bind (·.dst)
def meetB (ops : Array Oper) (pl : List Nat) (i j : Nat) : Bool := match ops[i]?, ops[j]? with
  | some a, some b => (match a.dst with | some d => (namesOf ops b).contains d | none => false) || (wrAt ops pl i && rwAt ops pl j)
  | _, _ => false

/-- The look at a region: whatever may meet is ordered; what is in pl writes nothing. -/
def drawChk (ops : Array Oper) (pl : List Nat) : Bool :=
  let ms := masks ops
  let A : Nat → Nat → Bool := fun j i => (ms.getD i 0).testBit j
  ancOk ops A && ((List.range ops.size).all fun i => (List.range i).all fun j => !(meetB ops pl i j || meetB ops pl j i) || A j i)

/-- An operation told of by the worlds: one value, one state; where it neither reads nor writes objects, in every state. -/
def SemF (P : Program) (e : Env) (S : Heap) (o : Oper) (K : PV → Heap → Prop) : Prop :=
  ∃ p S', SemOp P e S o (fun v s => v = p ∧ s = S') ∧ (isWr o.op = false → S' = S) ∧ (isWr o.op = false → isRd o.op = false → ∀ S2, SemOp P e S2 o (fun v s => v = p ∧ s = S2)) ∧ K p S'

/-- An operation that yields one value, and leaves one state. -/
def execF0 (P : Program) (e : Env) (S : Heap) (o : Oper) (K : PV → Heap → Prop) : Prop := match o.op with
  | .call { callee := .value (.func f), args, argTypes } => ∃ p S', CallsA P f (args.toList.map (ev e)) S (fun r s => r = .ret p ∧ s = S') ∧ K p S'
  | .panic _ => False
  | op => opA P e S op K
def execF (P : Program) (e : Env) (S : Heap) (o : Oper) (K : PV → Heap → Prop) : Prop := execF0 P e S o K ∨ SemF P e S o K

def stepF (P : Program) (ops : Array Oper) (pl : List Nat) (i : Nat) (o : Oper) (K : Env → Heap → Prop) (e : Env) (S : Heap) : Prop := match o.guard with
  | none => if pl.contains i then ∃ p, (∀ S2, execF P e S2 o (fun v s => v = p ∧ s = S2)) ∧ K (put e o.dst p) S else execF P e S o (fun v => K (put e o.dst v))
  | some (j, want) => match (ops[j]?).bind (·.dst) with
    | some t => ∃ b, look e t = .d (.b b) ∧
        (b = want → if pl.contains i then ∃ p, (∀ S2, execF P ((t, .d (.b want)) :: e) S2 o (fun v s => v = p ∧ s = S2)) ∧ K (put ((t, .d (.b want)) :: e) o.dst p) S
          else execF P ((t, .d (.b want)) :: e) S o (fun v => K (put ((t, .d (.b want)) :: e) o.dst v))) ∧
        (b = !want → K (put ((t, .d (.b (!want))) :: e) o.dst (.tup [])) S)
    | none => False

def opsF (P : Program) (ops : Array Oper) (pl : List Nat) (Q : Env → Heap → Prop) : List Nat → Env → Heap → Prop
  | [] => Q
  | i :: r => fun e S => match ops[i]? with
    | none => opsF P ops pl Q r e S
    | some o => stepF P ops pl i o (opsF P ops pl Q r) e S

section
variable {P : Program}

theorem loadA_point {S : Heap} {t : TypeId} {p : PV} {K : PV → Heap → Prop} (h : loadA P S t p K) : ∃ v, (∀ K' : PV → Heap → Prop, K' v S → loadA P S t p K') ∧ K v S := by
  unfold loadA at h
  split at h
  · rename_i cells
    split at h
    · rename_i ha; obtain ⟨n, h1, h2, h3⟩ := h; exact ⟨_, fun K' hK => by simp only [loadA, ha]; exact ⟨n, h1, h2, hK⟩, h3⟩
    · rename_i ha; obtain ⟨n, h1, h2⟩ := h; exact ⟨_, fun K' hK => by simp only [loadA, ha]; exact ⟨n, h1, hK⟩, h2⟩
    · exact h.elim
  · obtain ⟨cs, h0, h⟩ := h
    split at h
    · rename_i ha; obtain ⟨n, h1, h2, h3⟩ := h; exact ⟨_, fun K' hK => by simp only [loadA, ha]; exact ⟨cs, h0, n, h1, h2, hK⟩, h3⟩
    · rename_i ha; obtain ⟨n, h1, h2⟩ := h; exact ⟨_, fun K' hK => by simp only [loadA, ha]; exact ⟨cs, h0, n, h1, hK⟩, h2⟩
    · exact h.elim
  · obtain ⟨rows, row, g1, g2, g3, g4, h⟩ := h
    split at h
    · rename_i ha; obtain ⟨n, h1, h2, h3⟩ := h; exact ⟨_, fun K' hK => by simp only [loadA, ha]; exact ⟨rows, row, g1, g2, g3, g4, n, h1, h2, hK⟩, h3⟩
    · rename_i ha; obtain ⟨n, h1, h2⟩ := h; exact ⟨_, fun K' hK => by simp only [loadA, ha]; exact ⟨rows, row, g1, g2, g3, g4, n, h1, hK⟩, h2⟩
    · exact h.elim
  · exact h.elim

theorem storeA_point {S : Heap} {t : TypeId} {p q : PV} {K : PV → Heap → Prop} (h : storeA P S t p q K) : ∃ v S', (∀ K' : PV → Heap → Prop, K' v S' → storeA P S t p q K') ∧ K v S' := by
  unfold storeA at h
  split at h
  · obtain ⟨cs, ps, h1, h2, h3, h4, h5⟩ := h; exact ⟨_, _, fun K' hK => by simp only [storeA]; exact ⟨cs, ps, h1, h2, h3, h4, hK⟩, h5⟩
  · obtain ⟨rows, row, ps, h1, h2, h3, h4, h5, h6, h7, h8⟩ := h; exact ⟨_, _, fun K' hK => by simp only [storeA]; exact ⟨rows, row, ps, h1, h2, h3, h4, h5, h6, h7, hK⟩, h8⟩
  · exact h.elim

theorem fieldA_point {S : Heap} {t : TypeId} {p : PV} {f : Nat} {K : PV → Heap → Prop} (h : fieldA P S t p f K) : ∃ v, (∀ S2 (K' : PV → Heap → Prop), K' v S2 → fieldA P S2 t p f K') ∧ K v S := by
  obtain ⟨off, ft, n, h1, h2, h3, h⟩ := h
  split at h
  · exact ⟨_, fun S2 K' hK => ⟨off, ft, n, h1, h2, h3, hK⟩, h⟩
  · exact ⟨_, fun S2 K' hK => ⟨off, ft, n, h1, h2, h3, hK⟩, h⟩
  · exact ⟨_, fun S2 K' hK => ⟨off, ft, n, h1, h2, h3, hK⟩, h⟩
  · exact h.elim

theorem indexA_point {S : Heap} {t : TypeId} {p q : PV} {K : PV → Heap → Prop} (h : indexA P S t p q K) : ∃ v, (∀ K' : PV → Heap → Prop, K' v S → indexA P S t p q K') ∧ K v S := by
  obtain ⟨el, sz, h1, h2, h⟩ := h
  split at h
  · split at h
    · obtain ⟨g1, g2, g3, g4⟩ := h; exact ⟨_, fun K' hK => ⟨el, sz, h1, h2, g1, g2, g3, hK⟩, g4⟩
    · obtain ⟨rfl, rows, g1, g2, g3, g4, g5⟩ := h; exact ⟨_, fun K' hK => ⟨el, _, h1, h2, rfl, rows, g1, g2, g3, g4, hK⟩, g5⟩
    · exact h.elim
  · exact h.elim

theorem lenA_point {S : Heap} {t : TypeId} {p : PV} {K : PV → Heap → Prop} (h : lenA P S t p K) : ∃ v, (∀ S2 (K' : PV → Heap → Prop), K' v S2 → lenA P S2 t p K') ∧ K v S := by
  unfold lenA at h
  split at h
  · obtain ⟨h1, h2⟩ := h; exact ⟨_, fun S2 K' hK => by simp only [lenA]; exact ⟨h1, hK⟩, h2⟩
  · rename_i hp
    obtain ⟨h1, n, h2, h3⟩ := h
    refine ⟨_, fun S2 K' hK => ?_, h3⟩
    unfold lenA
    split
    · exact absurd rfl (hp _)
    · exact ⟨h1, n, h2, hK⟩

theorem appendA_point {S : Heap} {t : TypeId} {p q : PV} {K : PV → Heap → Prop} (h : appendA P S t p q K) : ∃ v S', (∀ K' : PV → Heap → Prop, K' v S' → appendA P S t p q K') ∧ K v S' := by
  obtain ⟨el, sz, by_, zs, more, h1, h2, h3, h4, h5, h6, h7, h8, h⟩ := h
  split at h
  · obtain ⟨g1, g2⟩ := h; exact ⟨_, _, fun K' hK => ⟨el, sz, by_, zs, more, h1, h2, h3, h4, h5, h6, h7, h8, g1, hK⟩, g2⟩
  · obtain ⟨rfl, rows, g1, g2, g3, g4, g5⟩ := h; exact ⟨_, _, fun K' hK => ⟨el, _, by_, zs, more, h1, h2, h3, h4, h5, h6, h7, h8, rfl, rows, g1, g2, g3, g4, hK⟩, g5⟩
  · exact h.elim

theorem sliceA_point {S : Heap} {t : TypeId} {p : PV} {lo hi : Option PV} {K : PV → Heap → Prop} (h : sliceA P S t p lo hi K) : ∃ v, (∀ S2 (K' : PV → Heap → Prop), K' v S2 → sliceA P S2 t p lo hi K') ∧ K v S := by
  unfold sliceA at h
  split at h
  · obtain ⟨h0, m, l, h1, h2, h3⟩ := h; exact ⟨_, fun S2 K' hK => by simp only [sliceA]; exact ⟨h0, m, l, h1, h2, hK⟩, h3⟩
  · obtain ⟨el, sz, m, l, h0, h1, h2, h3, h4, h5⟩ := h; exact ⟨_, fun S2 K' hK => by simp only [sliceA]; exact ⟨el, sz, m, l, h0, h1, h2, h3, h4, hK⟩, h5⟩
  · exact h.elim

/-- What an operation comes to, told at one point; those that neither read nor write objects come to it in every state. -/
theorem opA_point {e : Env} {S : Heap} {op : Op} {K : PV → Heap → Prop} (h : opA P e S op K) : ∃ v S', (∀ K' : PV → Heap → Prop, K' v S' → opA P e S op K') ∧ K v S' ∧ (isWr op = false → S' = S) ∧
    (isWr op = false → isRd op = false → ∀ S2 (K' : PV → Heap → Prop), K' v S2 → opA P e S2 op K') := by
  cases op <;> try (simp only [opA] at h; done)
  case move x => exact ⟨_, _, fun K' hK => hK, h, fun _ => rfl, fun _ _ S2 K' hK => hK⟩
  case assign x => exact ⟨_, _, fun K' hK => hK, h, fun _ => rfl, fun _ _ S2 K' hK => hK⟩
  case pick c a b => obtain ⟨t, h1, h2⟩ := h; exact ⟨_, _, fun K' hK => ⟨t, h1, hK⟩, h2, fun _ => rfl, fun _ _ S2 K' hK => ⟨t, h1, hK⟩⟩
  case alloc T => obtain ⟨cs, h1, h2⟩ := h; exact ⟨_, _, fun K' hK => ⟨cs, h1, hK⟩, h2, by simp [isWr], by simp [isWr]⟩
  case box T v => obtain ⟨cs, h1, h2⟩ := h; exact ⟨_, _, fun K' hK => ⟨cs, h1, hK⟩, h2, by simp [isWr], by simp [isWr]⟩
  case build T parts => obtain ⟨pl, zs, cs, h1, h2, h3, h4⟩ := h; exact ⟨_, _, fun K' hK => ⟨pl, zs, cs, h1, h2, h3, hK⟩, h4, fun _ => rfl, fun _ _ S2 K' hK => ⟨pl, zs, cs, h1, h2, h3, hK⟩⟩
  case buildSlice T len parts =>
    obtain ⟨el, sz, zs, cs, ds, h1, h2, h3, h4, h5, h6, h7, h8, h9, h10⟩ := h
    exact ⟨_, _, fun K' hK => ⟨el, sz, zs, cs, ds, h1, h2, h3, h4, h5, h6, h7, h8, h9, hK⟩, h10, fun _ => rfl, fun _ _ S2 K' hK => ⟨el, sz, zs, cs, ds, h1, h2, h3, h4, h5, h6, h7, h8, h9, hK⟩⟩
  case load T x => obtain ⟨v, h1, h2⟩ := loadA_point h; exact ⟨v, _, h1, h2, fun _ => rfl, by simp [isRd]⟩
  case store T x y => obtain ⟨v, S', h1, h2⟩ := storeA_point h; exact ⟨v, S', h1, h2, by simp [isWr], by simp [isWr]⟩
  case fieldAddr T x f => obtain ⟨v, h1, h2⟩ := fieldA_point h; exact ⟨v, _, h1 S, h2, fun _ => rfl, fun _ _ => h1⟩
  case indexAddr T x i => obtain ⟨v, h1, h2⟩ := indexA_point h; exact ⟨v, _, h1, h2, fun _ => rfl, by simp [isRd]⟩
  case binOp op t x y yt => obtain ⟨d, h1, h2⟩ := h; exact ⟨_, _, fun K' hK => ⟨d, h1, hK⟩, h2, fun _ => rfl, fun _ _ S2 K' hK => ⟨d, h1, hK⟩⟩
  case nilCheck x => obtain ⟨h1, h2⟩ := h; exact ⟨_, _, fun K' hK => ⟨h1, hK⟩, h2, fun _ => rfl, fun _ _ S2 K' hK => ⟨h1, hK⟩⟩
  case unOp op t x =>
    cases op <;> try (simp only [opA] at h; done)
    case not => obtain ⟨b, h1, h2⟩ := h; exact ⟨_, _, fun K' hK => ⟨b, h1, hK⟩, h2, fun _ => rfl, fun _ _ S2 K' hK => ⟨b, h1, hK⟩⟩
    case neg => obtain ⟨k, n, h1, h2⟩ := h; exact ⟨_, _, fun K' hK => ⟨k, n, h1, hK⟩, h2, fun _ => rfl, fun _ _ S2 K' hK => ⟨k, n, h1, hK⟩⟩
  case convert s t x =>
    simp only [opA] at h
    split at h
    · rename_i k n hk; obtain ⟨h1, k', h2, h3⟩ := h; exact ⟨_, _, fun K' hK => by simp only [opA, hk]; exact ⟨h1, k', h2, hK⟩, h3, fun _ => rfl, fun _ _ S2 K' hK => by simp only [opA, hk]; exact ⟨h1, k', h2, hK⟩⟩
    · rename_i y hk; obtain ⟨h1, h2, h3⟩ := h; exact ⟨_, _, fun K' hK => by simp only [opA, hk]; exact ⟨h1, h2, hK⟩, h3, fun _ => rfl, fun _ _ S2 K' hK => by simp only [opA, hk]; exact ⟨h1, h2, hK⟩⟩
    · exact h.elim
  case extract x i => obtain ⟨vs, p, h1, h2, h3⟩ := h; exact ⟨_, _, fun K' hK => ⟨vs, p, h1, h2, hK⟩, h3, fun _ => rfl, fun _ _ S2 K' hK => ⟨vs, p, h1, h2, hK⟩⟩
  case index t x i =>
    simp only [opA] at h
    split at h
    · rename_i y hk
      obtain ⟨h1, h⟩ := h
      split at h
      · rename_i k n hn; obtain ⟨h2, h3, h4⟩ := h
        exact ⟨_, _, fun K' hK => by simp only [opA, hk, hn]; exact ⟨h1, h2, h3, hK⟩, h4, fun _ => rfl, fun _ _ S2 K' hK => by simp only [opA, hk, hn]; exact ⟨h1, h2, h3, hK⟩⟩
      · exact h.elim
    · exact h.elim
  case slice t x lo hi mx =>
    cases mx with
    | none => obtain ⟨v, h1, h2⟩ := sliceA_point h; exact ⟨v, _, h1 S, h2, fun _ => rfl, fun _ _ => h1⟩
    | some m => simp only [opA] at h
  case makeSlice t l c =>
    obtain ⟨el, sz, by_, zs, k, n, k', m, h1, h2, h3, h4, h5, h6, h7, h8, h9, h10, h11, h12, h13⟩ := h
    exact ⟨_, _, fun K' hK => ⟨el, sz, by_, zs, k, n, k', m, h1, h2, h3, h4, h5, h6, h7, h8, h9, h10, h11, h12, hK⟩, h13, by simp [isWr], by simp [isWr]⟩
  case makeInterface t x => obtain ⟨h1, d, h2, h3⟩ := h; exact ⟨_, _, fun K' hK => ⟨h1, d, h2, hK⟩, h3, fun _ => rfl, fun _ _ S2 K' hK => ⟨h1, d, h2, hK⟩⟩
  case call c =>
    obtain ⟨callee, args, argTypes⟩ := c
    cases callee with
    | value f => simp only [opA] at h
    | invoke r m => simp only [opA] at h
    | builtin b =>
      cases b <;> simp only [opA] at h
      case len =>
        split at h
        · rename_i x t hx ht
          obtain ⟨v, h1, h2⟩ := lenA_point h
          exact ⟨v, _, fun K' hK => by simp only [opA, hx, ht]; exact h1 S K' hK, h2, fun _ => rfl, fun _ _ S2 K' hK => by simp only [opA, hx, ht]; exact h1 S2 K' hK⟩
        · exact h.elim
      case append =>
        split at h
        · rename_i p x t t' hx ht
          obtain ⟨h0, h⟩ := h
          obtain ⟨v, S', h1, h2⟩ := appendA_point h
          exact ⟨v, S', fun K' hK => by simp only [opA, hx, ht]; exact ⟨h0, h1 K' hK⟩, h2, by simp [isWr], by simp [isWr]⟩
        · exact h.elim
end
end Go.Aw
