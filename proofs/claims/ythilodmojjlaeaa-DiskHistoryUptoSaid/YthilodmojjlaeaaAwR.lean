/- The abstract machine in a form that is carried out by reduction: it stops at a branch, a call, a loop, a bound. -/
import Derived.Test.YthilodmojjlaeaaAwQ
import Derived.Test.YthilodmojjlaeaaAwArr2
set_option linter.unusedVariables false
set_option linter.unusedSimpArgs false
namespace Go.Aw

/-- A branch: reduction stops here. -/
inductive Br (b : Bool) (X Y : Prop) : Prop
  | mk (t : b = true → X) (f : b = false → Y) : Br b X Y

theorem Br.t {X Y : Prop} (h : X) : Br true X Y := ⟨(fun _ => h), (fun h => by cases h)⟩
theorem Br.f {X Y : Prop} (h : Y) : Br false X Y := ⟨(fun h => by cases h), (fun _ => h)⟩

/-- A condition: reduction stops here. -/
inductive Cd (c X : Prop) : Prop
  | mk (hc : c) (hx : X) : Cd c X

def forceD (d : D) (k : D → Prop) : Prop := k d
def forceP (p : PV) (k : PV → Prop) : Prop := match p with
  | .any => k .any
  | .d x => k (.d x)
  | .nils => k .nils
  | .ptr o c => k (.ptr o c)
  | .dp cells => k (.dp cells)
  | .own o sz n => k (.own o sz n)
  | .eptr o n r sz c => k (.eptr o n r sz c)
  | .agg cs => k (.agg cs)
  | .tup vs => k (.tup vs)
  | .wag pre n run post => k (.wag pre n run post)
  | .asl o c lo len => k (.asl o c lo len)
  | .rptr o c i => k (.rptr o c i)
  | .sub o sz off n m => k (.sub o sz off n m)
  | .mp o => k (.mp o)
def forceL {α : Type} (l : List α) (k : List α → Prop) : Prop := match l with
  | [] => k []
  | x :: r => forceL r fun r' => k (x :: r')
def forcePs (l : List PV) (k : List PV → Prop) : Prop := match l with
  | [] => k []
  | p :: r => forceP p fun p' => forcePs r fun r' => k (p' :: r')
def forceOb (x : Ob) (k : Ob → Prop) : Prop := match x with
  | .box cs => forcePs cs fun cs => k (.box cs)
  | .buf rows => k (.buf rows)
  | .gone => k .gone
  | .fro rows => k (.fro rows)
  | .arr pre n run post => forcePs pre fun pre => forcePs post fun post => k (.arr pre n run post)
  | .mapo es c => k (.mapo es c)
  | .itr mo since seen last => k (.itr mo since seen last)
def forceH (l : Heap) (k : Heap → Prop) : Prop := match l with
  | [] => k []
  | x :: r => forceOb x fun x' => forceH r fun r' => k (x' :: r')

def forceDs (l : List D) (k : List D → Prop) : Prop := match l with
  | [] => k []
  | d :: r => forceD d fun d' => forceDs r fun r' => k (d' :: r')
def forceRR (l : List (List D)) (k : List (List D) → Prop) : Prop := match l with
  | [] => k []
  | d :: r => forceDs d fun d' => forceRR r fun r' => k (d' :: r')

theorem forceD_iff (d : D) (k : D → Prop) : forceD d k ↔ k d := Iff.rfl
theorem forceDs_iff (l : List D) (k : List D → Prop) : forceDs l k ↔ k l := by
  induction l generalizing k with
  | nil => rfl
  | cons x r ih => exact (forceD_iff x _).trans (ih _)
theorem forceRR_iff (l : List (List D)) (k : List (List D) → Prop) : forceRR l k ↔ k l := by
  induction l generalizing k with
  | nil => rfl
  | cons x r ih => exact (forceDs_iff x _).trans (ih _)
theorem forceP_iff (p : PV) (k : PV → Prop) : forceP p k ↔ k p := by
  cases p
  case d x => exact forceD_iff x fun d => k (.d d)
  all_goals rfl
theorem forceL_iff {α : Type} (l : List α) (k : List α → Prop) : forceL l k ↔ k l := by
  induction l generalizing k with
  | nil => rfl
  | cons x r ih => exact ih _
theorem forcePs_iff (l : List PV) (k : List PV → Prop) : forcePs l k ↔ k l := by
  induction l generalizing k with
  | nil => rfl
  | cons x r ih => exact (forceP_iff x _).trans (ih _)
theorem forceOb_iff (x : Ob) (k : Ob → Prop) : forceOb x k ↔ k x := by
  cases x
  case box cs => exact forcePs_iff cs fun cs => k (.box cs)
  case arr pre n run post => exact (forcePs_iff pre _).trans (forcePs_iff post fun post => k (.arr pre n run post))
  all_goals rfl
theorem forceH_iff (l : Heap) (k : Heap → Prop) : forceH l k ↔ k l := by
  induction l generalizing k with
  | nil => rfl
  | cons x r ih => exact (forceOb_iff _ _).trans (ih _)

/-- A number that is written out. -/
def forceN (n : Nat) (k : Nat → Prop) : Prop := match Nat.beq n 1 with
  | true => k 1
  | false => match Nat.beq n 8 with
    | true => k 8
    | false => match Nat.beq n 16 with
      | true => k 16
      | false => match Nat.beq n 24 with
        | true => k 24
        | false => match Nat.beq n 2 with
          | true => k 2
          | false => match Nat.beq n 4 with
            | true => k 4
            | false => match Nat.beq n 32 with
              | true => k 32
              | false => match Nat.beq n 3 with
                | true => k 3
                | false => match Nat.beq n 5 with
                  | true => k 5
                  | false => match Nat.beq n 6 with
                    | true => k 6
                    | false => match Nat.beq n 7 with
                      | true => k 7
                      | false => match Nat.beq n 9 with
                        | true => k 9
                        | false => match Nat.beq n 10 with
                          | true => k 10
                          | false => match Nat.beq n 12 with
                            | true => k 12
                            | false => match Nat.beq n 40 with
                              | true => k 40
                              | false => match Nat.beq n 48 with
                                | true => k 48
                                | false => match Nat.beq n 56 with
                                  | true => k 56
                                  | false => match Nat.beq n 64 with
                                    | true => k 64
                                    | false => match Nat.beq n 72 with
                                      | true => k 72
                                      | false => match Nat.beq n 80 with
                                        | true => k 80
                                        | false => match Nat.beq n 88 with
                                          | true => k 88
                                          | false => match Nat.beq n 96 with
                                            | true => k 96
                                            | false => match Nat.beq n 104 with
                                              | true => k 104
                                              | false => match Nat.beq n 112 with
                                                | true => k 112
                                                | false => match Nat.beq n 120 with
                                                  | true => k 120
                                                  | false => match Nat.beq n 128 with
                                                    | true => k 128
                                                    | false => k n
def forceO (n : Nat) (k : Nat → Prop) : Prop := match Nat.beq n 0 with
  | true => k 0
  | false => match Nat.beq n 1 with
    | true => k 1
    | false => match Nat.beq n 2 with
      | true => k 2
      | false => match Nat.beq n 3 with
        | true => k 3
        | false => match Nat.beq n 4 with
          | true => k 4
          | false => match Nat.beq n 5 with
            | true => k 5
            | false => match Nat.beq n 6 with
              | true => k 6
              | false => match Nat.beq n 7 with
                | true => k 7
                | false => match Nat.beq n 8 with
                  | true => k 8
                  | false => match Nat.beq n 9 with
                    | true => k 9
                    | false => match Nat.beq n 10 with
                      | true => k 10
                      | false => match Nat.beq n 11 with
                        | true => k 11
                        | false => match Nat.beq n 12 with
                          | true => k 12
                          | false => match Nat.beq n 13 with
                            | true => k 13
                            | false => match Nat.beq n 14 with
                              | true => k 14
                              | false => match Nat.beq n 15 with
                                | true => k 15
                                | false => match Nat.beq n 16 with
                                  | true => k 16
                                  | false => k n
theorem forceN_iff (n : Nat) (k : Nat → Prop) : forceN n k ↔ k n := by
  have b : ∀ m, Nat.beq n m = true → n = m := fun m h => Nat.eq_of_beq_eq_true h
  unfold forceN
  repeat' split
  all_goals first | (rename_i h; rw [b _ h]) | rfl
theorem forceO_iff (n : Nat) (k : Nat → Prop) : forceO n k ↔ k n := by
  have b : ∀ m, Nat.beq n m = true → n = m := fun m h => Nat.eq_of_beq_eq_true h
  unfold forceO
  repeat' split
  all_goals first | (rename_i h; rw [b _ h]) | rfl

def loadW (Z : Prop) (P : Program) (S : Heap) (t : TypeId) (p : PV) (K : PV → Heap → Prop) : Prop := match p with
  | .dp cells => match aggO P t with
    | some true => match szO P t with
      | some n => forceN n fun n => Cd (n ≤ cells.length) (K (.agg ((cells.take n).map .d)) S)
      | none => Z
    | some false => match cells with
      | d :: _ => K (.d d) S
      | [] => Z
    | none => Z
  | .ptr o c => match S[o]? with
    | some (.box cs) => match aggO P t with
      | some true => match szO P t with
        | some n => match Nat.ble (c + n) cs.length with
          | true => forcePs ((cs.drop c).take n) fun ps => K (.agg ps) S
          | false => Z
        | none => Z
      | some false => match cs[c]? with
        | some q => forceP q fun q => K q S
        | none => Z
      | none => Z
    | _ => Z
  | .eptr o n r sz c => match S[o]? with
    | some (.buf rows) => Cd (rows.length = n ∧ AllLen sz rows ∧ r < n) (match aggO P t with
      | some true => match szO P t with
        | some m => Cd (c + m ≤ sz) (K (.agg (((rows.getD r []).drop c).take m)) S)
        | none => Z
      | some false => Cd (c < sz) (K ((rows.getD r []).getD c .any) S)
      | none => Z)
    | _ => Z
  | _ => Z

def storeW (Z : Prop) (P : Program) (S : Heap) (t : TypeId) (p v : PV) (K : PV → Heap → Prop) : Prop := match p with
  | .ptr o c => match S[o]?, v.cellsOf, szO P t with
    | some (.box cs), some ps, some n => match Nat.beq ps.length n && Nat.ble (c + n) cs.length with
      | true => forceH (S.set o (.box (splice cs c ps))) fun S' => K .any S'
      | false => Z
    | _, _, _ => Z
  | .eptr o n r sz c => match S[o]?, v.cellsOf, szO P t with
    | some (.buf rows), some ps, some m => Cd ((rows.length = n ∧ AllLen sz rows ∧ r < n) ∧ ps.length = m ∧ c + m ≤ sz) (forceH (S.set o (.buf (rows.set r (splice (rows.getD r []) c ps)))) fun S' => K .any S')
    | _, _, _ => Z
  | _ => Z

def fieldW (Z : Prop) (P : Program) (S : Heap) (t : TypeId) (p : PV) (f : Nat) (K : PV → Heap → Prop) : Prop := match flO P t f with
  | some (off, ft) => match szO P ft with
    | some (_ + 1) => match p with
      | .dp cells => forceO off fun off => K (.dp (cells.drop off)) S
      | .ptr o c => forceO (c + off) fun c' => K (.ptr o c') S
      | .eptr o m r sz c => forceO (c + off) fun c' => K (.eptr o m r sz c') S
      | _ => Z
    | _ => Z
  | none => Z

def indexW (Z : Prop) (P : Program) (S : Heap) (t : TypeId) (p ix : PV) (K : PV → Heap → Prop) : Prop := match elO P t with
  | some el => match szO P el with
    | some sz => match ix with
      | .d (.i _ i) => match p with
        | .d (.sl rows) => forceN sz fun sz => Cd (AllLen sz rows ∧ 0 ≤ i ∧ i < rows.length) (K (.dp (rows.getD i.toNat [])) S)
        | .own o s n => match S[o]? with
          | some (.buf rows) => Cd (s = sz ∧ rows.length = n ∧ 0 ≤ i ∧ i < n) (K (.eptr o n i.toNat sz 0) S)
          | _ => Z
        | _ => Z
      | _ => Z
    | none => Z
  | none => Z

def lenW (Z : Prop) (P : Program) (S : Heap) (t : TypeId) (p : PV) (K : PV → Heap → Prop) : Prop := match p with
  | .d (.s x) => match strA P t with
    | true => K (.d (.i .i64 x.size)) S
    | false => Z
  | .d (.sl rows) => match elO P t with
    | some _ => K (.d (.i .i64 rows.length)) S
    | none => Z
  | .nils => match elO P t with
    | some _ => K (.d (.i .i64 (0 : Nat))) S
    | none => Z
  | .own _ _ n => match elO P t with
    | some _ => K (.d (.i .i64 n)) S
    | none => Z
  | _ => Z

def appendW (Z : Prop) (P : Program) (S : Heap) (t : TypeId) (p x : PV) (K : PV → Heap → Prop) : Prop := match elO P t with
  | some el => match szO P el, byO P el, zO P el with
    | some sz, some by_, some zs => match (match x with | .own _ _ _ => none | x => rowsOf S x) with
      | some more => match p with
        | .nils => match Nat.beq zs.length sz && Nat.blt 0 sz with
          | true => forceN sz fun sz => forceN by_ fun by_ => Cd (AllLen sz more ∧ more.length * by_ ≤ 140737488355328 ∧ more.length ≤ 9223372036854775807) (forceH (S ++ [.buf more]) fun S' => forceO S.length fun o => K (.own o sz more.length) S')
          | false => Z
        | .own o s n => match S[o]? with
          | some (.buf rows) => match Nat.beq zs.length sz && Nat.blt 0 sz && Nat.beq s sz with
            | true => forceN sz fun sz => forceN by_ fun by_ => Cd (AllLen sz more ∧ rows.length = n ∧ AllLen sz rows ∧ (n + more.length) * by_ ≤ 140737488355328 ∧ n + more.length ≤ 9223372036854775807)
              (forceH (S.set o (.buf (rows ++ more))) fun S' => K (.own o sz (n + more.length)) S')
            | false => Z
          | _ => Z
        | _ => Z
      | none => Z
    | _, _, _ => Z
  | none => Z

def bndW (Z : Prop) (o : Option PV) (y dflt : Nat) (k : Nat → Prop) : Prop := match o with
  | none => k dflt
  | some (.d (.i _ n)) => Cd (0 ≤ n ∧ n ≤ y) (k n.toNat)
  | _ => Z

def sliceW (Z : Prop) (P : Program) (S : Heap) (t : TypeId) (p : PV) (lo hi : Option PV) (K : PV → Heap → Prop) : Prop := match p with
  | .d (.s x) => match strA P t with
    | true => bndW Z hi x.size x.size fun m => bndW Z lo m 0 fun l => K (.d (.s (x.extract l m))) S
    | false => Z
  | .d (.sl rows) => match elO P t with
    | some el => match szO P el with
      | some sz => forceN sz fun sz => Cd (AllLen sz rows) (bndW Z hi rows.length rows.length fun m => bndW Z lo m 0 fun l => K (.d (.sl ((rows.take m).drop l))) S)
      | none => Z
    | none => Z
  | _ => Z

/-- A binary operation: where it may not be carried out, the bar stands as a condition. -/
def binW (Z : Prop) (op : BinOp) (x y : D) (k : D → Prop) : Prop := match x, y with
  | .i kx a, .i ky b => match op with
    | .shl => Cd (0 ≤ b) (k (.i kx (kx.wrap (a * 2 ^ (min b.toNat kx.bits)))))
    | .shr => Cd (0 ≤ b) (k (.i kx (a.fdiv (2 ^ (min b.toNat kx.bits)))))
    | op => match instDecidableEqIntKind kx ky with
      | isFalse _ => Z
      | isTrue _ => match op with
        | .add => k (.i kx (kx.wrap (a + b)))
        | .sub => k (.i kx (kx.wrap (a - b)))
        | .mul => k (.i kx (kx.wrap (a * b)))
        | .quo => Cd (b ≠ 0) (k (.i kx (kx.wrap (a.tdiv b))))
        | .rem => Cd (b ≠ 0) (k (.i kx (a.tmod b)))
        | .eql => k (.b (a == b))
        | .neq => k (.b (a != b))
        | .lss => k (.b (decide (a < b)))
        | .leq => k (.b (decide (a ≤ b)))
        | .gtr => k (.b (decide (a > b)))
        | .geq => k (.b (decide (a ≥ b)))
        | .and => k (.i kx (kx.wrap ((BitVec.ofInt kx.bits a &&& BitVec.ofInt kx.bits b).toNat : Int)))
        | .or => k (.i kx (kx.wrap ((BitVec.ofInt kx.bits a ||| BitVec.ofInt kx.bits b).toNat : Int)))
        | .xor => k (.i kx (kx.wrap ((BitVec.ofInt kx.bits a ^^^ BitVec.ofInt kx.bits b).toNat : Int)))
        | .andNot => k (.i kx (kx.wrap ((BitVec.ofInt kx.bits a &&& ~~~(BitVec.ofInt kx.bits b)).toNat : Int)))
        | _ => Z
  | .s a, .s b => match op with
    | .add => Cd (a.size + b.size ≤ 9223372036854775807) (k (.s (a ++ b)))
    | .eql => k (.b (a.toList == b.toList))
    | .neq => k (.b (!(a.toList == b.toList)))
    | .lss => k (.b (Op.bytesLess a.toList b.toList))
    | .leq => k (.b (Op.bytesLess a.toList b.toList || a.toList == b.toList))
    | .gtr => k (.b (!(Op.bytesLess a.toList b.toList || a.toList == b.toList)))
    | .geq => k (.b (!(Op.bytesLess a.toList b.toList)))
    | _ => Z
  | _, _ => Z

theorem binW_D {op : BinOp} {x y : D} {k : D → Prop} (h : binW False op x y k) : ∃ d, binD op x y = some d ∧ k d := by
  cases x <;> cases y <;> simp only [binW] at h
  case i.i kx a ky b =>
    cases op <;> simp only at h <;> (try split at h) <;> (try exact h.elim) <;> first
      | (rename_i hk _; subst hk; exact ⟨_, by simp [binD, intOp], h⟩)
      | (rename_i hk _; subst hk; obtain ⟨hc, hk'⟩ := h; exact ⟨_, by simp [binD, intOp, hc], hk'⟩)
      | (obtain ⟨hc, hk'⟩ := h; refine ⟨_, ?_, hk'⟩; simp only [binD, isShift, or_true, if_true, intOp]; rw [if_neg (by omega)])
  case s.s a b =>
    cases op <;> simp only at h
    case add => obtain ⟨hc, hk⟩ := h; refine ⟨_, ?_, hk⟩; simp only [binD, strOp]; rw [if_neg (by omega)]
    all_goals exact ⟨_, rfl, h⟩

/-- A struct's cells compared; that the struct is of such cells is a condition of its own. -/
def flatEqW (P : Program) : List Field → List PV → List PV → Option Bool
  | [], [], [] => some true
  | f :: fs, x :: xs, y :: ys => match leafEq P f.type x y, flatEqW P fs xs ys with
    | some a, some b => some (a && b)
    | _, _ => none
  | _, _, _ => none
def flatOk (P : Program) : List Field → Nat → Bool
  | [], _ => true
  | f :: fs, i => Nat.beq f.offset i && !(f.name == "_") && (match aggO P f.type with | some false => true | _ => false) && flatOk P fs (i + 1)
def structOk (P : Program) (t : TypeId) : Bool := match P.underlying t with
  | some (.struct fs) => !P.stoodInHeld t && !P.eqGuardType P.depth t && flatOk P fs.toList 0
  | _ => false
def structW (Z : Prop) (P : Program) (t : TypeId) (cs ds : List PV) (k : Bool → Prop) : Prop := match P.underlying t with
  | some (.struct fs) => match flatEqW P fs.toList cs ds with
    | some b => Cd (structOk P t = true) (k b)
    | none => Z
  | _ => Z
theorem flatEqW_ok {P : Program} : ∀ {fs : List Field} {i : Nat} {cs ds : List PV} {b : Bool}, flatEqW P fs cs ds = some b → flatOk P fs i = true → flatEq P fs i cs ds = some b
  | [], i, [], [], b, h, _ => h
  | f :: fs, i, x :: xs, y :: ys, b, h, ho => by
    simp only [flatEqW] at h
    simp only [flatOk, Bool.and_eq_true, Bool.not_eq_true'] at ho
    obtain ⟨⟨⟨h1, h2⟩, h3⟩, h4⟩ := ho
    split at h
    · rename_i a b' ha hb
      cases h
      have h3' : aggO P f.type = some false := by split at h3 <;> simp_all
      simp only [flatEq, h1, h2, h3', ha, flatEqW_ok hb h4]
    · cases h
  | [], i, _ :: _, _, b, h, _ => by simp [flatEqW] at h
  | [], i, [], _ :: _, b, h, _ => by simp [flatEqW] at h
  | _ :: _, i, [], _, b, h, _ => by simp [flatEqW] at h
  | _ :: _, i, _ :: _, [], b, h, _ => by simp [flatEqW] at h
theorem structW_ok {P : Program} {t : TypeId} {cs ds : List PV} {k : Bool → Prop} (h : structW False P t cs ds k) : ∃ b, structEq P t cs ds = some b ∧ k b := by
  unfold structW at h
  split at h
  · rename_i fs hu
    split at h
    · rename_i b hb
      obtain ⟨ho, hk⟩ := h
      unfold structOk at ho
      rw [hu] at ho
      simp only [Bool.and_eq_true, Bool.not_eq_true'] at ho
      refine ⟨b, ?_, hk⟩
      unfold structEq
      rw [hu, ho.1.1, ho.1.2]
      exact flatEqW_ok hb ho.2
    · exact h.elim
  · exact h.elim

/-- Carried out on what there is. -/
def binPW (Z : Prop) (P : Program) (op : BinOp) (t : TypeId) (yc : Bool) (p q : PV) (k : D → Prop) : Prop := match p, q with
  | .d (.i kx a), .d (.i ky b) => binW Z op (.i kx a) (.i ky b) k
  | .d (.s a), .d (.s b) => binW Z op (.s a) (.s b) k
  | .agg cs, .agg ds => match op with
    | .eql => structW Z P t cs ds fun b => k (.b b)
    | .neq => structW Z P t cs ds fun b => k (.b (!b))
    | _ => Z
  | p, q => match op with
    | .eql => match eqP P t yc p q with
      | some b => k (.b b)
      | none => Z
    | .neq => match eqP P t yc p q with
      | some b => k (.b (!b))
      | none => Z
    | _ => Z

theorem binPW_D {P : Program} {op : BinOp} {t : TypeId} {yc : Bool} {p q : PV} {k : D → Prop} (h : binPW False P op t yc p q k) : ∃ d, binP P op t yc p q = some d ∧ k d := by
  unfold binPW at h
  split at h
  · rename_i kx a ky b
    obtain ⟨d, h1, h2⟩ := binW_D h
    refine ⟨d, ?_, h2⟩
    unfold binP
    split <;> simp_all [eqP]
  · rename_i a b
    obtain ⟨d, h1, h2⟩ := binW_D h
    refine ⟨d, ?_, h2⟩
    unfold binP
    split <;> simp_all [eqP]
  · rename_i cs ds
    split at h
    · obtain ⟨b, h1, h2⟩ := structW_ok h
      exact ⟨_, by simp only [binP, eqP, h1], h2⟩
    · obtain ⟨b, h1, h2⟩ := structW_ok h
      exact ⟨_, by simp only [binP, eqP, h1], h2⟩
    · exact h.elim
  · split at h
    · split at h
      · rename_i b hb; exact ⟨_, by simp only [binP, hb], h⟩
      · exact h.elim
    · split at h
      · rename_i b hb; exact ⟨_, by simp only [binP, hb], h⟩
      · exact h.elim
    · exact h.elim

def opW (Z : Prop) (P : Program) (e : Env) (S : Heap) (op : Op) (K : PV → Heap → Prop) : Prop := match op with
  | .move x => forceP (ev e x) fun v => K v S
  | .assign x => forceP (ev e x) fun v => K v S
  | .pick c a b => match ev e c with
    | .d (.b t) => Br t (forceP (ev e a) fun v => K v S) (forceP (ev e b) fun v => K v S)
    | _ => Z
  | .alloc T => match wideO P T with
    | some _ => Z
    | none => match zO P T with
      | some cs => forceH (S ++ [.box cs]) fun S' => forceO S.length fun o => K (.ptr o 0) S'
      | none => Z
  | .box T v => match wideO P T with
   | some _ => Z
   | none => match (ev e v).cellsOf with
    | some cs => forceH (S ++ [.box cs]) fun S' => forceO S.length fun o => K (.ptr o 0) S'
    | none => Z
  | .build T parts => match wideO P T with
   | some _ => Z
   | none => match plO P T, zO P T with
    | some pl, some zs => match fillA (fun i => pl[i]?) zs (parts.toList.map fun x => (x.1, ev e x.2)) with
      | some cs => forcePs cs fun cs => K (.agg cs) S
      | none => Z
    | _, _ => Z
  | .buildSlice T len parts => match elO P T with
    | some el => match wideO P el with
     | some _ => Z
     | none => match szO P el, zO P el with
      | some sz, some zs => match fillA (fun i => some (i * sz, sz)) (List.replicate len zs).flatten (parts.toList.map fun x => (x.1, ev e x.2)) with
        | some cs => match toDs cs with
          | some ds => match Nat.beq zs.length sz && Nat.blt 0 sz && Nat.ble (len * sz) 16777216 && Nat.beq ds.length (len * sz) with
            | true => forceRR (chunks sz len ds) fun rows => K (.d (.sl rows)) S
            | false => Z
          | none => Z
        | none => Z
      | _, _ => Z
    | none => Z
  | .load T a => match wideO P T with
    | some _ => Z
    | none => loadW Z P S T (ev e a) K
  | .store T a v => storeW Z P S T (ev e a) (ev e v) K
  | .fieldAddr T x f => fieldW Z P S T (ev e x) f K
  | .indexAddr T x i => indexW Z P S T (ev e x) (ev e i) K
  | .binOp op t x y _ => binPW Z P op t (isConst y) (ev e x) (ev e y) fun d => K (.d d) S
  | .unOp .not t x => match ev e x with
    | .d (.b b) => K (.d (.b (!b))) S
    | _ => Z
  | .nilCheck x => match ptrLike (ev e x) with
    | true => forceP (ev e x) fun v => K v S
    | false => Z
  | .unOp .neg t x => match ev e x with
    | .d (.i k n) => K (.d (.i k (k.wrap (0 - n)))) S
    | _ => Z
  | .convert s t x => match ev e x with
    | .d (.i k n) => match kindA P s, kindA P t with
      | some _, some k' => K (.d (.i k' (k'.wrap n))) S
      | _, _ => Z
    | .d (.s y) => match strA P s, strA P t with
      | true, true => K (.d (.s y)) S
      | _, _ => Z
    | _ => Z
  | .extract x i => match ev e x with
    | .tup vs => match vs[i]? with
      | some p => forceP p fun p => K p S
      | none => Z
    | _ => Z
  | .index t x i => match ev e x, ev e i, strA P t with
    | .d (.s y), .d (.i k n), true => Cd (0 ≤ n ∧ n < y.size) (K (.d (.i .u8 (y.data.getD n.toNat 0).toNat)) S)
    | _, _, _ => Z
  | .slice t x lo hi none => sliceW Z P S t (ev e x) (lo.map (ev e)) (hi.map (ev e)) K
  | .makeSlice t l c => match elO P t with
    | some el => match szO P el, byO P el, zO P el with
      | some sz, some by_, some zs => match ev e l, ev e c with
        | .d (.i k n), .d (.i k' m) => match Nat.beq zs.length sz && Nat.blt 0 sz with
          | true => forceN sz fun sz => forceN by_ fun by_ => Cd (0 ≤ n ∧ n ≤ m ∧ (by_ : Int) * m ≤ 281474976710656 ∧ m ≤ 9223372036854775807) (forceH (S ++ [.buf (List.replicate n.toNat zs)]) fun S' => forceO S.length fun o => K (.own o sz n.toNat) S')
          | false => Z
        | _, _ => Z
      | _, _, _ => Z
    | none => Z
  | .makeInterface t x => match plainA P t with
    | true => match (ev e x).toDA with
      | some d => K (.d (.ifc t d)) S
      | none => Z
    | false => Z
  | .call { callee := .builtin .len, args, argTypes } => match args.toList, argTypes.toList with
    | [x], [t] => lenW Z P S t (ev e x) K
    | _, _ => Z
  | .call { callee := .builtin .append, args, argTypes } => match args.toList, argTypes.toList with
    | [p, x], [t, t'] => match Nat.decEq t' t with
      | isTrue _ => appendW Z P S t (ev e p) (ev e x) K
      | isFalse _ => Z
    | _, _ => Z
  | _ => Z

section
variable {P : Program}

theorem bndW_A {o : Option PV} {y d : Nat} {k : Nat → Prop} (h : bndW False o y d k) : ∃ m, bndA o y d = some m ∧ k m := by
  unfold bndW at h
  split at h
  · exact ⟨_, rfl, h⟩
  · obtain ⟨hc, hk⟩ := h; exact ⟨_, by simp only [bndA]; rw [if_pos hc], hk⟩
  · exact h.elim

theorem loadW_A {S : Heap} {t : TypeId} {p : PV} {K : PV → Heap → Prop} (h : loadW False P S t p K) : loadA P S t p K := by
  unfold loadW at h
  split at h
  · split at h
    · rename_i ha
      split at h
      · rename_i n hs; obtain ⟨hc, hk⟩ := (forceN_iff _ _).1 h; simp only [loadA, ha]; exact ⟨n, hs, hc, hk⟩
      · exact h.elim
    · rename_i ha
      split at h
      · simp only [loadA, ha]; exact ⟨_, rfl, h⟩
      · exact h.elim
    · exact h.elim
  · split at h
    · rename_i cs hx
      split at h
      · rename_i ha
        split at h
        · rename_i n hs
          split at h
          · rename_i hb; simp only [loadA, ha]; exact ⟨cs, hx, n, hs, Nat.le_of_ble_eq_true hb, (forcePs_iff _ (fun ps => K (.agg ps) S)).1 h⟩
          · exact h.elim
        · exact h.elim
      · rename_i ha
        split at h
        · rename_i q hq; simp only [loadA, ha]; exact ⟨cs, hx, q, hq, (forceP_iff _ _).1 h⟩
        · exact h.elim
      · exact h.elim
    · exact h.elim
  · rename_i o n r sz c
    split at h
    · rename_i rows hx
      obtain ⟨⟨h1, h2, h3⟩, h⟩ := h
      have hr : rows[r]? = some (rows.getD r []) := by simp [List.getD_eq_getElem?_getD, List.getElem?_eq_getElem (show r < rows.length by omega)]
      have hl : (rows.getD r []).length = sz := h2 _ (List.mem_of_getElem? hr)
      split at h
      · rename_i ha
        split at h
        · rename_i m hs; obtain ⟨hc, hk⟩ := h; simp only [loadA, ha]; exact ⟨rows, _, hx, h1, h2, hr, m, hs, hc, hk⟩
        · exact h.elim
      · rename_i ha
        obtain ⟨hc, hk⟩ := h
        simp only [loadA, ha]
        refine ⟨rows, _, hx, h1, h2, hr, (rows.getD r []).getD c .any, ?_, hk⟩
        have hlt : c < (rows.getD r []).length := by omega
        rw [List.getD_eq_getElem?_getD (l := rows.getD r []), List.getElem?_eq_getElem hlt]
        rfl
      · exact h.elim
    · exact h.elim
  · exact h.elim

theorem storeW_A {S : Heap} {t : TypeId} {p v : PV} {K : PV → Heap → Prop} (h : storeW False P S t p v K) : storeA P S t p v K := by
  unfold storeW at h
  split at h
  · split at h
    · rename_i cs ps n hx hp hs
      split at h
      case h_2 => exact h.elim
      rename_i hbb
      simp only [Bool.and_eq_true] at hbb
      have h1 := Nat.eq_of_beq_eq_true hbb.1
      have h2 := Nat.le_of_ble_eq_true hbb.2
      subst h1
      exact ⟨cs, ps, hx, hp, hs, h2, (forceH_iff _ _).1 h⟩
    · exact h.elim
  · rename_i o n r sz c
    split at h
    · rename_i rows ps m hx hp hs
      obtain ⟨⟨⟨h1, h2, h3⟩, h4, h5⟩, h⟩ := h
      subst h4
      have hr : rows[r]? = some (rows.getD r []) := by simp [List.getD_eq_getElem?_getD, List.getElem?_eq_getElem (show r < rows.length by omega)]
      exact ⟨rows, _, ps, hx, h1, h2, hr, hp, hs, h5, (forceH_iff _ _).1 h⟩
    · exact h.elim
  · exact h.elim

theorem opW_A {e : Env} {S : Heap} {op : Op} {K : PV → Heap → Prop} (h : opW False P e S op K) : opA P e S op K := by
  unfold opW at h
  split at h
  · exact (forceP_iff _ _).1 h
  · exact (forceP_iff _ _).1 h
  · split at h
    · rename_i t ht
      obtain ⟨h1, h2⟩ := h
      refine ⟨t, ht, ?_⟩
      cases t with
      | true => simpa using (forceP_iff _ _).1 (h1 rfl)
      | false => simpa using (forceP_iff _ _).1 (h2 rfl)
    · exact h.elim
  · split at h
    · exact h.elim
    split at h
    · rename_i cs hz; exact ⟨cs, hz, (forceO_iff _ _).1 ((forceH_iff _ _).1 h)⟩
    · exact h.elim
  · split at h
    · exact h.elim
    split at h
    · rename_i cs hz; exact ⟨cs, hz, (forceO_iff _ _).1 ((forceH_iff _ _).1 h)⟩
    · exact h.elim
  · split at h
    · exact h.elim
    split at h
    · rename_i pl zs hp hz
      split at h
      · rename_i cs hf; exact ⟨pl, zs, cs, hp, hz, hf, (forcePs_iff cs (fun cs => K (.agg cs) S)).1 h⟩
      · exact h.elim
    · exact h.elim
  · split at h
    · rename_i el he
      split at h
      · exact h.elim
      split at h
      · rename_i sz zs hs hz
        split at h
        · rename_i cs hf
          split at h
          · rename_i ds hd
            split at h
            case h_2 => exact h.elim
            rename_i hbb
            simp only [Bool.and_eq_true] at hbb
            have h1 := Nat.eq_of_beq_eq_true hbb.1.1.1
            have h2 : 0 < sz := by have := hbb.1.1.2; simpa [Nat.blt_eq] using this
            have h3 := Nat.le_of_ble_eq_true hbb.1.2
            have h4 := Nat.eq_of_beq_eq_true hbb.2
            exact ⟨el, sz, zs, cs, ds, he, hs, hz, h1, h2, hf, h3, hd, h4, (forceRR_iff _ (fun rows => K (.d (.sl rows)) S)).1 h⟩
          · exact h.elim
        · exact h.elim
      · exact h.elim
    · exact h.elim
  · split at h
    · exact h.elim
    exact loadW_A h
  · exact storeW_A h
  · unfold fieldW at h
    split at h
    · rename_i off ft hf
      split at h
      · rename_i n hs
        split at h
        · rename_i hx; simp only [opA, fieldA]; exact ⟨off, ft, n + 1, hf, hs, by omega, by rw [hx]; first | exact h | exact (forceO_iff _ _).1 h⟩
        · rename_i hx; simp only [opA, fieldA]; exact ⟨off, ft, n + 1, hf, hs, by omega, by rw [hx]; first | exact h | exact (forceO_iff _ _).1 h⟩
        · rename_i hx; simp only [opA, fieldA]; exact ⟨off, ft, n + 1, hf, hs, by omega, by rw [hx]; first | exact h | exact (forceO_iff _ _).1 h⟩
        · exact h.elim
      · exact h.elim
    · exact h.elim
  · unfold indexW at h
    split at h
    · rename_i el he
      split at h
      · rename_i sz hs
        split at h
        · rename_i k i hi
          split at h
          · rename_i rows hx
            obtain ⟨⟨h1, h2, h3⟩, h⟩ := (forceN_iff _ _).1 h
            simp only [opA, indexA]
            refine ⟨el, sz, he, hs, ?_⟩
            rw [hi, hx]
            exact ⟨h1, h2, h3, h⟩
          · rename_i o s n hx
            split at h
            · rename_i rows ho
              obtain ⟨⟨h1, h2, h3, h4⟩, h⟩ := h
              simp only [opA, indexA]
              refine ⟨el, sz, he, hs, ?_⟩
              rw [hi, hx]
              exact ⟨h1, rows, ho, h2, h3, h4, h⟩
            · exact h.elim
          · exact h.elim
        · exact h.elim
      · exact h.elim
    · exact h.elim
  · exact binPW_D h
  · split at h
    · rename_i b hb; exact ⟨b, hb, h⟩
    · exact h.elim
  · split at h
    · rename_i hp; exact ⟨hp, (forceP_iff _ _).1 h⟩
    · exact h.elim
  · split at h
    · rename_i k n hb; exact ⟨k, n, hb, h⟩
    · exact h.elim
  · split at h
    · rename_i k n hx
      split at h
      · rename_i j k' h1 h2; simp only [opA, hx]; exact ⟨⟨j, h1⟩, k', h2, h⟩
      · exact h.elim
    · rename_i y hx
      split at h
      · rename_i h1 h2; simp only [opA, hx]; exact ⟨h1, h2, h⟩
      · exact h.elim
    · exact h.elim
  · split at h
    · rename_i vs hx
      split at h
      · rename_i p hp; exact ⟨vs, p, hx, hp, (forceP_iff _ _).1 h⟩
      · exact h.elim
    · exact h.elim
  · split at h
    · rename_i y k n hx hi hs
      obtain ⟨⟨h1, h2⟩, h⟩ := h
      simp only [opA, hx, hi]
      exact ⟨hs, h1, h2, h⟩
    · exact h.elim
  · unfold sliceW at h
    split at h
    · rename_i y hx
      split at h
      · rename_i hs
        obtain ⟨m, h1, h⟩ := bndW_A h
        obtain ⟨l, h2, h⟩ := bndW_A h
        simp only [opA, sliceA, hx]
        exact ⟨hs, m, l, h1, h2, h⟩
      · exact h.elim
    · rename_i rows hx
      split at h
      · rename_i el he
        split at h
        · rename_i sz hs
          obtain ⟨h0, h⟩ := (forceN_iff _ _).1 h
          obtain ⟨m, h1, h⟩ := bndW_A h
          obtain ⟨l, h2, h⟩ := bndW_A h
          simp only [opA, sliceA, hx]
          exact ⟨el, sz, m, l, he, hs, h0, h1, h2, h⟩
        · exact h.elim
      · exact h.elim
    · exact h.elim
  · split at h
    · rename_i el he
      split at h
      · rename_i sz by_ zs hs hb hz
        split at h
        · rename_i k n k' m h1 h2
          split at h
          · rename_i hbb
            simp only [Bool.and_eq_true] at hbb
            have g1 := Nat.eq_of_beq_eq_true hbb.1
            have g2 : 0 < sz := by have := hbb.2; simpa [Nat.blt_eq] using this
            obtain ⟨⟨g3, g4, g5, g6⟩, h⟩ := (forceN_iff _ _).1 ((forceN_iff _ _).1 h)
            exact ⟨el, sz, by_, zs, k, n, k', m, he, hs, hb, hz, g1, g2, h1, h2, g3, g4, g5, g6, (forceO_iff _ _).1 ((forceH_iff _ _).1 h)⟩
          · exact h.elim
        · exact h.elim
      · exact h.elim
    · exact h.elim
  · split at h
    · rename_i hp
      split at h
      · rename_i d hd; exact ⟨hp, d, hd, h⟩
      · exact h.elim
    · exact h.elim
  · split at h
    · rename_i x t hx ht
      simp only [opA, hx, ht]
      unfold lenW at h
      split at h
      · rename_i y hy
        split at h
        · rename_i hs; simp only [lenA, hy]; exact ⟨hs, h⟩
        · exact h.elim
      · rename_i rows hy
        split at h
        · rename_i el he; simp only [lenA, hy]; exact ⟨⟨el, he⟩, _, rfl, h⟩
        · exact h.elim
      · rename_i hy
        split at h
        · rename_i el he; simp only [lenA, hy]; exact ⟨⟨el, he⟩, _, rfl, h⟩
        · exact h.elim
      · rename_i hy
        split at h
        · rename_i el he; simp only [lenA, hy]; exact ⟨⟨el, he⟩, _, rfl, h⟩
        · exact h.elim
      · exact h.elim
    · exact h.elim
  · split at h
    · rename_i p x t t' hx ht
      split at h
      · rename_i heq _
        simp only [opA, hx, ht]
        refine ⟨heq, ?_⟩
        unfold appendW at h
        split at h
        · rename_i el he
          split at h
          · rename_i sz by_ zs hs hb hz
            split at h
            · rename_i more hmore'
              have hmore : rowsOf S (ev e x) = some more := by
                split at hmore'
                · cases hmore'
                · exact hmore'
              split at h
              · rename_i hp
                split at h
                case h_2 => exact h.elim
                rename_i hbb
                simp only [Bool.and_eq_true] at hbb
                have h1 := Nat.eq_of_beq_eq_true hbb.1
                have h2 : 0 < sz := by have := hbb.2; simpa [Nat.blt_eq] using this
                obtain ⟨⟨h3, h4, h5⟩, h⟩ := (forceN_iff _ _).1 ((forceN_iff _ _).1 h)
                refine ⟨el, sz, by_, zs, more, he, hs, hb, hz, h1, h2, hmore, h3, ?_⟩
                rw [hp]
                exact ⟨⟨h4, h5⟩, (forceO_iff _ _).1 ((forceH_iff _ _).1 h)⟩
              · rename_i o s n hp
                split at h
                · rename_i rows ho
                  split at h
                  case h_2 => exact h.elim
                  rename_i hbb
                  simp only [Bool.and_eq_true] at hbb
                  have h1 := Nat.eq_of_beq_eq_true hbb.1.1
                  have h2 : 0 < sz := by have := hbb.1.2; simpa [Nat.blt_eq] using this
                  have h4 := Nat.eq_of_beq_eq_true hbb.2
                  obtain ⟨⟨h3, h5, h6, h7, h8⟩, h⟩ := (forceN_iff _ _).1 ((forceN_iff _ _).1 h)
                  refine ⟨el, sz, by_, zs, more, he, hs, hb, hz, h1, h2, hmore, h3, ?_⟩
                  rw [hp]
                  exact ⟨h4, rows, ho, h5, h6, ⟨h7, h8⟩, (forceH_iff _ _).1 h⟩
                · exact h.elim
              · exact h.elim
            · exact h.elim
          · exact h.elim
        · exact h.elim
      · exact h.elim
    · exact h.elim
  · exact h.elim
theorem opW_Z {Z : Prop} {e : Env} {S : Heap} {op : Op} {K : PV → Heap → Prop} (h : opW Z P e S op K) : opA P e S op K ∨ Z := by
  by_cases hz : Z
  · exact .inr hz
  · have : Z = False := propext ⟨hz, False.elim⟩
    subst this
    exact .inl (opW_A h)
end
end Go.Aw
