/- Control in a form that is carried out by reduction. -/
import Derived.Test.YthilodmojjlaeaaAwPt
set_option linter.unusedVariables false
set_option linter.unusedSimpArgs false
namespace Go.Aw

def forceE (l : Env) (k : Env → Prop) : Prop := match l with
  | [] => k []
  | (t, p) :: r => forceP p fun p' => forceE r fun r' => k ((t, p') :: r')

def forcePPs (l : List (List PV)) (k : List (List PV) → Prop) : Prop := match l with
  | [] => k []
  | p :: r => forcePs p fun p' => forcePPs r fun r' => k (p' :: r')
def forceE1 (l : Env) (k : Env → Prop) : Prop := match l with
  | [] => k []
  | x :: r => match x with
    | (t, p) => k ((t, p) :: r)
theorem forceE1_iff (l : Env) (k : Env → Prop) : forceE1 l k ↔ k l := by
  cases l with
  | nil => rfl
  | cons x r => rfl

theorem forcePPs_iff (l : List (List PV)) (k : List (List PV) → Prop) : forcePPs l k ↔ k l := by
  induction l generalizing k with
  | nil => rfl
  | cons x r ih => exact (forcePs_iff x _).trans (ih _)
theorem forceE_iff (l : Env) (k : Env → Prop) : forceE l k ↔ k l := by
  induction l generalizing k with
  | nil => rfl
  | cons x r ih => exact (forceP_iff x.2 _).trans (ih _)

/-- Reduction stops here. -/
inductive CallW (P : Program) (f : FuncId) (args : List PV) (S : Heap) (K QP : PV → Heap → Prop) : Prop
  | mk (h : CallX P f args S K QP)
inductive CallF (P : Program) (f : FuncId) (args : List PV) (S : Heap) (K : PV → Heap → Prop) : Prop
  | mk (p : PV) (S' : Heap) (h : CallsA P f args S (fun r s => r = .ret p ∧ s = S')) (k : K p S')
/-- A call that neither looks at the caller's objects nor changes them. -/
inductive CallP (P : Program) (f : FuncId) (args : List PV) (S : Heap) (K : PV → Heap → Prop) : Prop
  | mk (p : PV) (h : ∀ S2, CallsA P f args S2 (fun r s => r = .ret p ∧ s = S2)) (k : K p S)
inductive LoopW (P : Program) (k nt : Nat) (c : Code) (Q : Post) (e : Env) (S : Heap) : Prop
  | mk (h : LoopA P k nt c Q e S)
inductive DrawW (P : Program) (k nt : Nat) (id : Nat) (ops : Array Oper) (Q : Post) (e : Env) (S : Heap) : Prop
  | mk (h : DrawA P k nt id ops Q e S)

/-- An operation that is told of by the worlds: reduction stops here. -/
inductive OpQ (P : Program) (vs : List PV) (S : Heap) (o : Oper) (K QP : PV → Heap → Prop) : Prop
  | mk (h : SemV P vs S o K)
  | call (f : FuncId) (as : List PV) (h : SemVE P vs S o f as) (k : CallX P f as S K QP)
inductive OpF (P : Program) (vs : List PV) (S : Heap) (o : Oper) (K : PV → Heap → Prop) : Prop
  | mk (p : PV) (S' : Heap) (h : OpPt P vs S o p S') (h1 : isWr o.op = false → S' = S) (h2 : isWr o.op = false → isRd o.op = false → ∀ S2, OpPt P vs S2 o p S2) (k : K p S')
/-- A piece of code behind which ways may meet: reduction stops here. -/
inductive SeqW (P : Program) (k nt : Nat) (id : Nat) (c : Code) (Q : Post) (e : Env) (S : Heap) : Prop
  | mk (h : codeOk nt c = true → Sem' P k nt c Q e S)

/-- It may be nil: reduction stops here. -/
inductive NilQ (c X Y : Prop) : Prop
  | mk (t : c → X) (f : Y)

def nilW (P : Program) (op : BinOp) (t : TypeId) (p : PV) (k : Bool → Prop) : Prop := match p, sliceA' P t with
  | .nils, true => match op with
    | .eql => k true
    | .neq => k false
    | _ => False
  | .d (.sl rows), true => match op with
    | .eql => NilQ (rows = []) (k true) (k false)
    | .neq => NilQ (rows = []) (k false) (k true)
    | _ => False
  | .own _ _ _, true => match op with
    | .eql => NilQ True (k true) (k false)
    | .neq => NilQ True (k false) (k true)
    | _ => False
  | _, _ => False

/-- A slice literal: as data, or as an object of the call's own. Reduction stops here. -/
inductive Lit (S : Heap) (vs : List PV) (X Y : Prop) (Z : List PV → Heap → Prop) : Prop
  | data (h : X)
  | own (h : Y)
  /-- As data, where rows of the call's own among the elements are not changed any more. -/
  | frz (vs' : List PV) (S' : Heap) (fz : FrzL S vs vs' S') (h : Z vs' S')

/-- The literal as an object. -/
def ownW (P : Program) (e : Env) (S : Heap) (T : TypeId) (len : Nat) (parts : Array (Nat × Operand)) (K : PV → Heap → Prop) : Prop := match elO P T with
  | some el => match szO P el, zO P el with
    | some sz, some zs => match fillA (fun i => some (i * sz, sz)) (List.replicate len zs).flatten (parts.toList.map fun x => (x.1, ev e x.2)) with
      | some cs => match Nat.beq zs.length sz && Nat.blt 0 sz && Nat.ble (len * sz) 16777216 && Nat.beq cs.length (len * sz) with
        | true => forceN sz fun sz => forcePPs (chunks sz len cs) fun rows => forceH (S ++ [.buf rows]) fun S' => forceO S.length fun o => K (.own o sz len) S'
        | false => False
      | none => False
    | _, _ => False
  | none => False

def execW (P : Program) (e : Env) (S : Heap) (o : Oper) (K : PV → Heap → Prop) (QP : PV → Heap → Prop) : Prop := match o.op with
  | .binOp op t x (.const (.slice none 0 0)) _ => nilW P op t (ev e x) fun b => K (.d (.b b)) S
  | .buildSlice T len parts => forcePs (o.op.operands.toList.map (ev e)) fun vs => Lit S vs (opW False P e S (.buildSlice T len parts) K) (ownW P e S T len parts K) (fun vs' S' => forceH S' fun S' => litW P vs' S' T len parts K)
  | .call { callee := .value (.func f), args, argTypes } => forcePs (args.toList.map (ev e)) fun as => CallW P f as S K QP
  | .panic x => match ev e x with
    | .d (.ifc t d) => QP (.d (.ifc t d)) S
    | _ => False
  | op => opW (forcePs (o.op.operands.toList.map (ev e)) fun vs => ptX (OpQ P vs S o K QP) P vs S o K) P e S op K

def stepW (P : Program) (ops : Array Oper) (o : Oper) (K : Env → Heap → Prop) (Q : Post) (e : Env) (S : Heap) : Prop := match o.guard with
  | none => execW P e S o (fun v => K (put e o.dst v)) (fun p => Q (.panic p) e)
  | some (j, want) => match (ops[j]?).bind (·.dst) with
    | some t => match look e t with
      | .d (.b b) => match want with
        | true => Br b (execW P ((t, .d (.b true)) :: e) S o (fun v => K (put ((t, .d (.b true)) :: e) o.dst v)) (fun p => Q (.panic p) e)) (K (put ((t, .d (.b false)) :: e) o.dst (.tup [])) S)
        | false => Br b (K (put ((t, .d (.b true)) :: e) o.dst (.tup [])) S) (execW P ((t, .d (.b false)) :: e) S o (fun v => K (put ((t, .d (.b false)) :: e) o.dst v)) (fun p => Q (.panic p) e))
      | .tup [] => K (put e o.dst (.tup [])) S
      | _ => False
    | none => False

def opsW (P : Program) (ops : Array Oper) (Q : Post) : List Nat → Env → Heap → Prop
  | [] => Q .normal
  | i :: r => fun e S => forceE1 e fun e => match ops[i]? with
    | none => opsW P ops Q r e S
    | some o => stepW P ops o (opsW P ops Q r) Q e S

/-- The first region of a piece of code behind which ways meet again. -/
def ridC : Code → Option Nat
  | .region id _ _ => some id
  | .seq a b => match ridC a with
    | some i => some i
    | none => ridC b
  | .cond _ a b => match ridC a with
    | some i => some i
    | none => ridC b
  | .block _ c => ridC c
  | .loop c => ridC c
  | _ => none
def anyGuard : List Oper → Bool
  | [] => false
  | o :: r => match o.guard with
    | some _ => true
    | none => anyGuard r
def ridD (c : Code) : Nat := match ridC c with
  | some i => i
  | none => 1000000

def AWw (P : Program) (k nt : Nat) : Code → Post → Env → Heap → Prop
  | .skip, Q => Q .normal
  | .region id ops draw, Q => fun e S => match draw with
    | false => match anyGuard ops.toList with
      | true => forceE e fun e => SeqW P k nt id (.region id ops false) Q e S
      | false => opsW P ops Q (List.range ops.size) e S
    | true => forceE e fun e => DrawW P k nt id ops Q e S
  | .seq a b, Q => AWw P k nt a fun
    | .normal => AWw P k nt b Q
    | x => Q x
  | .cond c x y, Q => fun e S => forceE e fun e => forceO (ridD (.cond c x y)) fun id => SeqW P k nt id (.cond c x y) Q e S
  | .block i c, Q => fun e S => forceE e fun e => forceO (ridD c) fun id => SeqW P k nt id (.block i c) Q e S
  | .loop c, Q => fun e S => forceE e fun e => LoopW P k nt c Q e S
  | .exit id, Q => Q (.exit id)
  | .ret, Q => Q .ret
  | _, _ => fun _ _ => False
/-- The piece, gone into. -/
def AWg (P : Program) (k nt : Nat) : Code → Post → Env → Heap → Prop
  | .region id ops false, Q => opsW P ops Q (List.range ops.size)
  | .cond c x y, Q => fun e S => forceE1 e fun e => match ev e c with
    | .d (.b b) => Br b (AWw P k nt x Q (condE c true e) S) (AWw P k nt y Q (condE c false e) S)
    | _ => False
  | .block id c, Q => AWw P k nt c fun
    | .exit i => if i = id then Q .normal else Q (.exit i)
    | x => Q x
  | c, Q => AWw P k nt c Q

def execFW (P : Program) (e : Env) (S : Heap) (o : Oper) (K : PV → Heap → Prop) : Prop := match o.op with
  | .call { callee := .value (.func f), args, argTypes } => forcePs (args.toList.map (ev e)) fun as => CallF P f as S K
  | .panic _ => False
  | op => opW (forcePs (o.op.operands.toList.map (ev e)) fun vs => ptW (OpF P vs S o K) P vs S o K) P e S op K

/-- An operation at a place, that neither reads nor changes objects in truth. -/
inductive PlQ (P : Program) (vs : List PV) (op : Op) (S : Heap) (K : PV → Heap → Prop) : Prop
  | mk (p : PV) (h : ∀ S2 dst ty pos after g, OpPt P vs S2 ⟨dst, op, ty, pos, after, g⟩ p S2) (k : K p S)
/-- An operation that looks at no object. -/
def execP (P : Program) (e : Env) (S : Heap) (op : Op) (K : PV → Heap → Prop) : Prop := match op with
  | .load t a => match ev e a with
    | .dp cells => match aggO P t with
      | some true => match szO P t with
        | some n => forceN n fun n => Cd (n ≤ cells.length) (K (.agg ((cells.take n).map .d)) S)
        | none => False
      | some false => match cells with
        | d :: _ => K (.d d) S
        | [] => False
      | none => False
    | _ => False
  | .indexAddr t x i => match elO P t with
    | some el => match szO P el with
      | some sz => match ev e i with
        | .d (.i _ n) => match ev e x with
          | .d (.sl rows) => forceN sz fun sz => Cd (AllLen sz rows ∧ 0 ≤ n ∧ n < rows.length) (K (.dp (rows.getD n.toNat [])) S)
          | _ => False
        | _ => False
      | none => False
    | none => False
  | .call { callee := .value (.func f), args, argTypes } => forcePs (args.toList.map (ev e)) fun as => CallP P f as S K
  | .slice t x lo hi none => forcePs ((Op.slice t x lo hi none).operands.toList.map (ev e)) fun vs => PlQ P vs (.slice t x lo hi none) S K
  | _ => False

def stepFW (P : Program) (ops : Array Oper) (pl : List Nat) (i : Nat) (o : Oper) (K : Env → Heap → Prop) (e : Env) (S : Heap) : Prop := match o.guard with
  | none => match pl.contains i with
    | true => execP P e S o.op (fun v => K (put e o.dst v))
    | false => execFW P e S o (fun v => K (put e o.dst v))
  | some (j, want) => match (ops[j]?).bind (·.dst) with
    | some t => match look e t with
      | .d (.b b) => match want with
        | true => Br b (match pl.contains i with
            | true => execP P ((t, .d (.b true)) :: e) S o.op (fun v => K (put ((t, .d (.b true)) :: e) o.dst v))
            | false => execFW P ((t, .d (.b true)) :: e) S o (fun v => K (put ((t, .d (.b true)) :: e) o.dst v))) (K (put ((t, .d (.b false)) :: e) o.dst (.tup [])) S)
        | false => Br b (K (put ((t, .d (.b true)) :: e) o.dst (.tup [])) S) (match pl.contains i with
            | true => execP P ((t, .d (.b false)) :: e) S o.op (fun v => K (put ((t, .d (.b false)) :: e) o.dst v))
            | false => execFW P ((t, .d (.b false)) :: e) S o (fun v => K (put ((t, .d (.b false)) :: e) o.dst v)))
      | _ => False
    | none => False

def opsFW (P : Program) (ops : Array Oper) (pl : List Nat) (Q : Env → Heap → Prop) : List Nat → Env → Heap → Prop
  | [] => Q
  | i :: r => fun e S => forceE1 e fun e => match ops[i]? with
    | none => opsFW P ops pl Q r e S
    | some o => stepFW P ops pl i o (opsFW P ops pl Q r) e S

mutual
def pubW (m : Nat) (S : Heap) (p : PV) (k : PV → Prop) : Prop := match p with
  | .any => k .any
  | .d x => k (.d x)
  | .nils => k (.d (.sl []))
  | .ptr o c => match Nat.blt o m with
    | true => k (.ptr o c)
    | false => False
  | .dp cells => k (.dp cells)
  | .own o sz n => match Nat.blt o m with
    | true => k (.own o sz n)
    | false => match S[o]? with
      | some (.buf rows) => PubRows rows n fun ds => k (.d (.sl ds))
      | some (.fro ds) => Cd (ds.length = n) (k (.d (.sl ds)))
      | _ => False
  | .eptr o n r sz c => match Nat.blt o m with
    | true => k (.eptr o n r sz c)
    | false => False
  | .agg cs => pubWs m S cs fun cs => k (.agg cs)
  | .tup vs => pubWs m S vs fun vs => k (.tup vs)
  | .wag pre n run post => pubWs m S pre fun pre => pubWs m S post fun post => k (.wag pre n run post)
  | .asl o c lo len => match Nat.blt o m with
    | true => k (.asl o c lo len)
    | false => match S[o]? with
      | some (.arr pre n run _) => Cd (c = pre.length ∧ lo + len ≤ n) (k (.d (.sl (((run.drop lo).take len).map fun d => [d]))))
      | _ => False
  | .rptr o c i => match Nat.blt o m with
    | true => k (.rptr o c i)
    | false => False
  | .sub o sz off n k2 => match Nat.blt o m with
    | true => k (.sub o sz off n k2)
    | false => False
  | .mp o => match Nat.blt o m with
    | true => k (.mp o)
    | false => False
def pubWs (m : Nat) (S : Heap) (l : List PV) (k : List PV → Prop) : Prop := match l with
  | [] => k []
  | p :: r => pubW m S p fun q => pubWs m S r fun qs => k (q :: qs)
end

def resW (P : Program) (e : Env) (S : Heap) (r : ResultVar) (k : PV → Prop) : Prop := match r with
  | .tmp t => forceP (look e t) k
  | .cell a t => match look e a with
    | .ptr o c => match S[o]? with
      | some (.box cs) => match aggO P t with
        | some true => match szO P t with
          | some n => match Nat.ble (c + n) cs.length with
            | true => forcePs ((cs.drop c).take n) fun ps => k (.agg ps)
            | false => False
          | none => False
        | some false => match cs[c]? with
          | some q => forceP q k
          | none => False
        | none => False
      | _ => False
    | _ => False
def ressW (P : Program) (e : Env) (S : Heap) (l : List ResultVar) (k : List PV → Prop) : Prop := match l with
  | [] => k []
  | r :: rs => resW P e S r fun p => ressW P e S rs fun ps => k (p :: ps)

/-- Objects that are handed back. -/
def keepW (m : Nat) (S : Heap) (k : Heap → Prop) : Prop := match m with
  | 0 => k []
  | m + 1 => Cd (m + 1 ≤ S.length ∧ (S.take (m + 1)).all (Ob.sc (m + 1)) = true) (forceH (S.take (m + 1)) k)

def retW (P : Program) (m : Nat) (rs : List ResultVar) (R : ARes → Heap → Prop) : Post := fun
  | .normal => fun e S => ressW P e S rs fun vs => pubW m S (tupP vs) fun r => keepW m S fun S' => R (.ret r) S'
  | .ret => fun e S => ressW P e S rs fun vs => pubW m S (tupP vs) fun r => keepW m S fun S' => R (.ret r) S'
  | .panic p => fun e S => pubW m S p fun r => keepW m S fun S' => R (.pan r) S'
  | .exit _ => fun _ _ => False

/-- Slots that are known from now on. -/
def WeakE (n : Nat) (e : Env) : Env → Prop
  | [] => True
  | (t, p) :: r => look e t = p ∧ scB n p = true ∧ WeakE n e r

theorem weakE_mem {n : Nat} {e : Env} : ∀ {l : Env}, WeakE n e l → ∀ x ∈ l, PVLe (look e x.1) x.2 ∧ scB n x.2 = true
  | [], _, x, hx => by simp at hx
  | (t, p) :: r, h, x, hx => by
    rcases List.mem_cons.1 hx with rfl | hx
    · exact ⟨by rw [h.1]; exact .refl _, h.2.1⟩
    · exact weakE_mem h.2.2 x hx

/-- A round's end. -/
inductive NextW {γ : Type} (J : γ → Prop) (E : γ → Env) (H : γ → Heap) (μ : γ → Nat) (g : γ) (e' : Env) (S' : Heap) : Prop
  | mk (g' : γ) (hj : J g') (hm : μ g' < μ g) (hs : ∃ extra, S' = H g' ++ extra) (he : WeakE (H g').length e' (E g'))

/-- Rows of data, as an object of the call's own has them. -/
abbrev liftR (rows : List (List D)) : List (List PV) := rows.map (·.map PV.d)
theorem sc_lift (n : Nat) (rows : List (List D)) : Ob.sc n (.buf (liftR rows)) = true := by
  unfold Ob.sc Ob.cells liftR
  simp only [← List.map_flatten, scBs_map_d]

theorem blt_lt {a b : Nat} (h : Nat.blt a b = true) : a < b := by simpa [Nat.blt_eq] using h

section
variable {P : Program}

theorem mem_reps {w : World} {F : Nat → Prop} {ρ : Nat → Option Nat} {C : Nat → OI} {e : Env} {f : Operand → Value} : ∀ {l : List Operand}, (∀ x ∈ l, RepPV w F ρ C (ev e x) (f x)) → RepTs w F ρ C (l.map (ev e)) (l.map f)
  | [], _ => by simp [RepTs]
  | x :: r, h => by simp only [List.map_cons, RepTs]; exact ⟨_, _, rfl, h x (by simp), mem_reps fun y hy => h y (by simp [hy])⟩
theorem SemV.op {e : Env} {S : Heap} {o : Oper} {K : PV → Heap → Prop} (h : SemV P (o.op.operands.toList.map (ev e)) S o K) : SemOp P e S o K :=
  fun w0 F0 mods F ρ w a hs he => h w0 F0 mods F ρ w a hs (mem_reps fun x hx => he x (by simpa using hx))
theorem OpQ.sem {e : Env} {S : Heap} {o : Oper} {K QP : PV → Heap → Prop} (h : OpQ P (o.op.operands.toList.map (ev e)) S o K QP) : SemA P e S o K QP := by
  cases h with
  | mk h => exact .inl h.op
  | call f as h k => exact .inr ⟨f, as, k, fun F ρ w a he => h F ρ w a (mem_reps fun x hx => he x (by simpa using hx))⟩
theorem OpF.sem {e : Env} {S : Heap} {o : Oper} {K : PV → Heap → Prop} (h : OpF P (o.op.operands.toList.map (ev e)) S o K) : SemF P e S o K := by
  obtain ⟨p, S', h, h1, h2, k⟩ := h
  exact ⟨p, S', h.op, h1, fun a b S2 => (h2 a b S2).op, k⟩

theorem execW_A {e : Env} {S : Heap} {o : Oper} {K QP : PV → Heap → Prop} (h : execW P e S o K QP) : execA P e S o K QP := by
  unfold execW at h
  split at h
  · rename_i op t x yt hop
    refine Or.inr (Or.inl ?_)
    simp only [NilA, hop]
    unfold nilW at h
    split at h
    · rename_i hp ht
      rw [hp]
      split at h
      · exact ⟨.inl rfl, ht, 0, rfl, (by simp), fun b hb hb' => by rw [hb' rfl]; exact h⟩
      · exact ⟨.inr rfl, ht, 0, rfl, (by simp), fun b hb hb' => by rw [hb' rfl]; exact h⟩
      · exact h.elim
    · rename_i rows hp ht
      rw [hp]
      split at h
      · obtain ⟨h1, h2⟩ := h
        exact ⟨.inl rfl, ht, rows.length, rfl, (by simp), fun b hb _ => by
          cases b with
          | false => exact h2
          | true => exact h1 (by simpa using hb)⟩
      · obtain ⟨h1, h2⟩ := h
        exact ⟨.inr rfl, ht, rows.length, rfl, (by simp), fun b hb _ => by
          cases b with
          | false => exact h2
          | true => exact h1 (by simpa using hb)⟩
      · exact h.elim
    · rename_i o sz n hp ht
      rw [hp]
      split at h
      · obtain ⟨h1, h2⟩ := h
        exact ⟨.inl rfl, ht, n, rfl, (by simp), fun b hb _ => by
          cases b with
          | false => exact h2
          | true => exact h1 trivial⟩
      · obtain ⟨h1, h2⟩ := h
        exact ⟨.inr rfl, ht, n, rfl, (by simp), fun b hb _ => by
          cases b with
          | false => exact h2
          | true => exact h1 trivial⟩
      · exact h.elim
    · exact h.elim
  · rename_i T len parts hop
    rcases (forcePs_iff _ _).1 h with h | h | ⟨vs', S', fz, h⟩
    case frz => exact Or.inr (Or.inr (Or.inr (Or.inl (SemV.op ((litW_pt hop ((forceH_iff _ _).1 h)).frz fz)))))
    · have h' := opW_A h
      refine Or.inl ?_
      simp only [execA0, hop]
      exact h'
    · refine Or.inr (Or.inr (Or.inl ?_))
      simp only [LitA, hop]
      unfold ownW at h
      split at h
      · rename_i el he
        split at h
        · rename_i sz zs hs hz
          split at h
          · rename_i cs hf
            split at h
            · rename_i hbb
              simp only [Bool.and_eq_true] at hbb
              have h1 := Nat.eq_of_beq_eq_true hbb.1.1.1
              have h2 : 0 < sz := by have := hbb.1.1.2; simpa [Nat.blt_eq] using this
              have h3 := Nat.le_of_ble_eq_true hbb.1.2
              have h4 := Nat.eq_of_beq_eq_true hbb.2
              exact ⟨el, sz, zs, cs, he, hs, hz, h1, h2, hf, h3, h4, (forceO_iff _ _).1 ((forceH_iff _ _).1 ((forcePPs_iff _ _).1 ((forceN_iff _ _).1 h)))⟩
            · exact h.elim
          · exact h.elim
        · exact h.elim
      · exact h.elim
  · rename_i f args argTypes hop
    obtain ⟨h⟩ := (forcePs_iff _ _).1 h
    refine Or.inl ?_; simp only [execA0, hop]; exact h
  · rename_i x hop
    split at h
    · rename_i t d hx; refine Or.inl ?_; simp only [execA0, hop]; exact ⟨t, d, hx, h⟩
    · exact h.elim
  · rcases opW_Z h with h | h
    · exact execA_of_opA h
    · rcases ptX_Z ((forcePs_iff _ _).1 h) with h | h
      · exact Or.inr (Or.inr (Or.inr (Or.inl h.op)))
      · exact Or.inr (Or.inr (Or.inr h.sem))

theorem execA_mono {e : Env} {S : Heap} {o : Oper} {K K' QP QP' : PV → Heap → Prop} (h : execA P e S o K QP) (hk : ∀ v s, K v s → K' v s) (hp : ∀ v s, QP v s → QP' v s) : execA P e S o K' QP' := by
  have sem : SemA P e S o K QP → SemA P e S o K' QP' := by
    rintro (h | ⟨f, as, ⟨R, h1, h2⟩, h3⟩)
    · exact .inl (h.mono hk)
    · exact .inr ⟨f, as, ⟨R, h1, fun r S' hr => by cases r with | ret p => exact fun hz => hk _ _ (h2 _ _ hr hz) | pan p => exact hp _ _ (h2 _ _ hr)⟩, h3⟩
  by_cases hc : ∃ f args argTypes, o.op = .call { callee := .value (.func f), args := args, argTypes := argTypes }
  · obtain ⟨f, args, argTypes, hop⟩ := hc
    rcases h with h | h | h | h
    case inr.inl => simp only [NilA, hop] at h
    case inr.inr.inl => simp only [LitA, hop] at h
    case inr.inr.inr => exact Or.inr (Or.inr (Or.inr (sem h)))
    refine Or.inl ?_
    simp only [execA0, hop] at h ⊢
    obtain ⟨R, h1, h2⟩ := h
    exact ⟨R, h1, fun r S' hr => by cases r with | ret p => exact fun hz => hk _ _ (h2 _ _ hr hz) | pan p => exact hp _ _ (h2 _ _ hr)⟩
  · rcases h with h | h | h | h
    case inr.inr.inr => exact Or.inr (Or.inr (Or.inr (sem h)))
    case inr.inr.inl =>
      refine Or.inr (Or.inr (Or.inl ?_))
      unfold LitA at h ⊢
      split at h
      · obtain ⟨el, sz, zs, cs, h1, h2, h3, h4, h5, h6, h7, h8, h9⟩ := h; exact ⟨el, sz, zs, cs, h1, h2, h3, h4, h5, h6, h7, h8, hk _ _ h9⟩
      · exact h.elim
    case inr.inl =>
      refine Or.inr (Or.inl ?_)
      unfold NilA at h ⊢
      split at h
      · obtain ⟨h1, h2, n, h3, h4, h5⟩ := h; exact ⟨h1, h2, n, h3, h4, fun b hb hb' => hk _ _ (h5 b hb hb')⟩
      · exact h.elim
    unfold execA0 at h
    split at h
    · rename_i f args argTypes hop; exact absurd ⟨f, args, argTypes, hop⟩ hc
    · rename_i x hop; refine Or.inl ?_; simp only [execA0, hop]; obtain ⟨t, d, h1, h2⟩ := h; exact ⟨t, d, h1, hp _ _ h2⟩
    · exact execA_of_opA (opA_mono h hk)

theorem stepW_A {ops : Array Oper} {o : Oper} {K K' : Env → Heap → Prop} {Q Q' : Post} {e : Env} {S : Heap} (hk : ∀ e S, K e S → K' e S) (hq : ∀ p e S, Q (.panic p) e S → Q' (.panic p) e S) (h : stepW P ops o K Q e S) : stepA P ops o K' Q' e S := by
  unfold stepW at h
  unfold stepA
  split at h
  · rename_i hg; simp only [hg]; exact execA_mono (execW_A h) (fun _ _ => hk _ _) (fun _ _ => hq _ _ _)
  · rename_i j want hg
    simp only [hg]
    split at h
    · rename_i t ht
      simp only [ht]
      split at h
      · rename_i b hb
        refine Or.inr ⟨b, hb, ?_⟩
        cases want with
        | true =>
          obtain ⟨h1, h2⟩ := h
          exact ⟨fun e => execA_mono (execW_A (h1 e)) (fun _ _ => hk _ _) (fun _ _ => hq _ _ _), fun e => hk _ _ (h2 e)⟩
        | false =>
          obtain ⟨h1, h2⟩ := h
          exact ⟨fun e => execA_mono (execW_A (h2 e)) (fun _ _ => hk _ _) (fun _ _ => hq _ _ _), fun e => hk _ _ (h1 e)⟩
      · rename_i hu; exact Or.inl ⟨hu, hk _ _ h⟩
      · exact h.elim
    · exact h.elim

theorem opsW_A {ops : Array Oper} {Q Q' : Post} (hq : ∀ x e S, Q x e S → Q' x e S) : ∀ (l : List Nat) (e : Env) (S : Heap), opsW P ops Q l e S → opsA P ops Q' l e S
  | [], e, S, h => hq _ _ _ h
  | i :: r, e, S, h => by
    simp only [opsW, opsA] at h ⊢
    rw [forceE1_iff] at h
    split at h
    · rename_i ho; simp only [ho]; exact opsW_A hq r e S h
    · rename_i o ho; simp only [ho]; exact stepW_A (fun e S => opsW_A hq r e S) (fun p => hq _) h

theorem Sem'.mono {k nt : Nat} {c : Code} {Q Q' : Post} (hq : ∀ x e S, Q x e S → Q' x e S) {e : Env} {S : Heap} (h : Sem' P k nt c Q e S) : Sem' P k nt c Q' e S :=
  fun G a w hk hn hi => wp_mono (h G a w hk hn hi) (liftQ_mono hq)

theorem AWw_A {k nt : Nat} : ∀ (c : Code) (Q Q' : Post) (_ : ∀ x e S, Q x e S → Q' x e S) (e : Env) (S : Heap), AWw P k nt c Q e S → AWs P k nt c Q' e S
  | .skip, Q, Q', hq, e, S, h => hq _ _ _ h
  | .region id ops false, Q, Q', hq, e, S, h => by
    simp only [AWw] at h
    split at h
    · obtain ⟨h⟩ := (forceE_iff _ _).1 h
      exact Or.inr fun hd => Sem'.mono hq (h hd)
    · exact Or.inl (opsW_A hq _ _ _ h)
  | .region id ops true, Q, Q', hq, e, S, h => by
    obtain ⟨h⟩ := (forceE_iff _ _).1 h
    exact Or.inl (Sem'.mono hq h)
  | .seq a b, Q, Q', hq, e, S, h => AWw_A a _ _ (fun x e S hx => by cases x with
      | normal => exact AWw_A b Q Q' hq e S hx
      | exit i => exact hq _ _ _ hx
      | ret => exact hq _ _ _ hx
      | panic p => exact hq _ _ _ hx) e S h
  | .cond c x y, Q, Q', hq, e, S, h => by
    obtain ⟨h⟩ := (forceO_iff _ _).1 ((forceE_iff _ _).1 h)
    exact Or.inr fun hd => Sem'.mono hq (h hd)
  | .block id c, Q, Q', hq, e, S, h => by
    obtain ⟨h⟩ := (forceO_iff _ _).1 ((forceE_iff _ _).1 h)
    exact Or.inr fun hd => Sem'.mono hq (h hd)
  | .loop c, Q, Q', hq, e, S, h => by
    obtain ⟨h⟩ := (forceE_iff _ _).1 h
    exact Sem'.mono hq h
  | .exit id, Q, Q', hq, e, S, h => hq _ _ _ h
  | .ret, Q, Q', hq, e, S, h => hq _ _ _ h
  | .rangeFunc .., Q, Q', hq, e, S, h => h.elim
  | .scope _, Q, Q', hq, e, S, h => h.elim
  | .label _, Q, Q', hq, e, S, h => h.elim
  | .goto _, Q, Q', hq, e, S, h => h.elim
  | .refuse _, Q, Q', hq, e, S, h => h.elim
theorem AWg_A {k nt : Nat} (c : Code) (Q : Post) (e : Env) (S : Heap) (h : AWg P k nt c Q e S) : AWs P k nt c Q e S := by
  unfold AWg at h
  split at h
  · exact Or.inl (opsW_A (fun _ _ _ h => h) _ _ _ h)
  · rename_i c x y
    rw [forceE1_iff] at h
    split at h
    · rename_i b hb
      obtain ⟨h1, h2⟩ := h
      exact Or.inl ⟨b, hb, fun e => AWw_A x Q Q (fun _ _ _ h => h) _ _ (h1 e), fun e => AWw_A y Q Q (fun _ _ _ h => h) _ _ (h2 e)⟩
    · exact h.elim
  · rename_i id c
    exact Or.inl (AWw_A c _ _ (fun x e S hx => hx) e S h)
  · exact AWw_A _ _ _ (fun _ _ _ h => h) _ _ h

mutual
theorem pubW_A {m : Nat} {S : Heap} : ∀ (p : PV) {k : PV → Prop}, pubW m S p k → ∃ q, pubV m S p = some q ∧ k q
  | .any, k, h => ⟨_, rfl, by simpa only [pubW] using h⟩
  | .d x, k, h => ⟨_, rfl, by simpa only [pubW] using h⟩
  | .nils, k, h => ⟨_, rfl, by simpa only [pubW] using h⟩
  | .ptr o c, k, h => by
    simp only [pubW] at h
    split at h
    · rename_i hb; exact ⟨_, by simp only [pubV]; rw [if_pos (blt_lt hb)], h⟩
    · exact h.elim
  | .dp cells, k, h => ⟨_, rfl, by simpa only [pubW] using h⟩
  | .own o sz n, k, h => by
    simp only [pubW] at h
    split at h
    · rename_i hb; exact ⟨_, by simp only [pubV, pubOwn]; rw [if_pos (blt_lt hb)], h⟩
    · rename_i hb
      have hn : ¬ o < m := fun hl => by rw [show Nat.blt o m = true by simpa [Nat.blt_eq] using hl] at hb; cases hb
      split at h
      · rename_i rows hx
        obtain ⟨ds, h1, h2, h3⟩ := h
        exact ⟨_, by simp only [pubV, pubOwn]; rw [if_neg hn]; simp only [hx, h1, h2, if_true, Option.map_some], h3⟩
      · rename_i ds hx
        obtain ⟨h1, h3⟩ := h
        exact ⟨_, by simp only [pubV, pubOwn]; rw [if_neg hn]; simp only [hx, h1, if_true], h3⟩
      · exact h.elim
  | .eptr o n r sz c, k, h => by
    simp only [pubW] at h
    split at h
    · rename_i hb; exact ⟨_, by simp only [pubV]; rw [if_pos (blt_lt hb)], h⟩
    · exact h.elim
  | .agg cs, k, h => by
    simp only [pubW] at h
    obtain ⟨qs, h1, h2⟩ := pubWs_A cs h
    exact ⟨_, by simp only [pubV, h1, Option.map_some], h2⟩
  | .tup cs, k, h => by
    simp only [pubW] at h
    obtain ⟨qs, h1, h2⟩ := pubWs_A cs h
    exact ⟨_, by simp only [pubV, h1, Option.map_some], h2⟩
  | .wag pre n run post, k, h => by
    simp only [pubW] at h
    obtain ⟨qs, h1, h2⟩ := pubWs_A pre h
    obtain ⟨qs', h1', h2'⟩ := pubWs_A post h2
    exact ⟨_, by simp only [pubV, h1, h1'], h2'⟩
  | .asl o c lo len, k, h => by
    simp only [pubW] at h
    split at h
    · rename_i hb; exact ⟨_, by simp only [pubV]; rw [if_pos (blt_lt hb)], h⟩
    · rename_i hb
      have hn : ¬ o < m := fun hl => by rw [show Nat.blt o m = true by simpa [Nat.blt_eq] using hl] at hb; cases hb
      split at h
      · rename_i pre n run post hx
        obtain ⟨hc, h⟩ := h
        exact ⟨_, by simp only [pubV]; rw [if_neg hn]; simp only [pubAsl, hx]; rw [if_pos hc], h⟩
      · exact h.elim
  | .rptr o c i, k, h => by
    simp only [pubW] at h
    split at h
    · rename_i hb; exact ⟨_, by simp only [pubV]; rw [if_pos (blt_lt hb)], h⟩
    · exact h.elim
  | .sub o sz off n k2, k, h => by
    simp only [pubW] at h
    split at h
    · rename_i hb; exact ⟨_, by simp only [pubV]; rw [if_pos (blt_lt hb)], h⟩
    · exact h.elim
  | .mp o, k, h => by
    simp only [pubW] at h
    split at h
    · rename_i hb; exact ⟨_, by simp only [pubV]; rw [if_pos (blt_lt hb)], h⟩
    · exact h.elim
theorem pubWs_A {m : Nat} {S : Heap} : ∀ (ps : List PV) {k : List PV → Prop}, pubWs m S ps k → ∃ qs, pubVs m S ps = some qs ∧ k qs
  | [], k, h => ⟨_, rfl, by simpa only [pubWs] using h⟩
  | p :: r, k, h => by
    simp only [pubWs] at h
    obtain ⟨q, h1, h2⟩ := pubW_A p h
    obtain ⟨qs, h3, h4⟩ := pubWs_A r h2
    exact ⟨_, by simp only [pubVs, h1, h3], h4⟩
end

theorem ressW_A {e : Env} {S : Heap} : ∀ (l : List ResultVar) {k : List PV → Prop}, ressW P e S l k → ∃ ps, resVs P e S l = some ps ∧ k ps
  | [], k, h => ⟨_, rfl, h⟩
  | r :: rs, k, h => by
    simp only [ressW] at h
    have : ∀ {k : PV → Prop}, resW P e S r k → ∃ p, resV P e S r = some p ∧ k p := by
      intro k h
      cases r with
      | tmp t => exact ⟨_, rfl, (forceP_iff _ _).1 h⟩
      | cell a t =>
        simp only [resW] at h
        split at h
        · rename_i o c ho
          split at h
          · rename_i cs hx
            split at h
            · rename_i ha
              split at h
              · rename_i n hs
                split at h
                · rename_i hb
                  exact ⟨_, by simp only [resV, loadV, ho, hx, ha, hs]; rw [if_pos (Nat.le_of_ble_eq_true hb)], (forcePs_iff _ (fun ps => k (.agg ps))).1 h⟩
                · exact h.elim
              · exact h.elim
            · rename_i ha
              split at h
              · rename_i q hq; exact ⟨_, by simp only [resV, loadV, ho, hx, ha, hq], (forceP_iff _ _).1 h⟩
              · exact h.elim
            · exact h.elim
          · exact h.elim
        · exact h.elim
    obtain ⟨p, h1, h2⟩ := this h
    obtain ⟨ps, h3, h4⟩ := ressW_A rs h2
    exact ⟨_, by simp only [resVs, h1, h3], h4⟩

theorem keepW_A {m : Nat} {S : Heap} {k : Heap → Prop} (h : keepW m S k) : m ≤ S.length ∧ (S.take m).all (Ob.sc m) = true ∧ k (S.take m) := by
  cases m with
  | zero => exact ⟨Nat.zero_le _, by simp, by simpa [keepW] using h⟩
  | succ m => obtain ⟨⟨h1, h2⟩, h3⟩ := h; exact ⟨h1, h2, (forceH_iff _ _).1 h3⟩

theorem retW_A {m : Nat} {rs : List ResultVar} {R : ARes → Heap → Prop} : ∀ x e S, retW P m rs R x e S → retQ P m rs R x e S
  | .normal, e, S, h => by
    obtain ⟨vs, h1, h2⟩ := ressW_A _ h
    obtain ⟨r, h3, h4⟩ := pubW_A _ h2
    obtain ⟨h5, h6, h7⟩ := keepW_A h4
    exact ⟨vs, r, h1, h3, h5, h6, h7⟩
  | .ret, e, S, h => by
    obtain ⟨vs, h1, h2⟩ := ressW_A _ h
    obtain ⟨r, h3, h4⟩ := pubW_A _ h2
    obtain ⟨h5, h6, h7⟩ := keepW_A h4
    exact ⟨vs, r, h1, h3, h5, h6, h7⟩
  | .panic p, e, S, h => by
    obtain ⟨r, h3, h4⟩ := pubW_A _ h
    obtain ⟨h5, h6, h7⟩ := keepW_A h4
    exact ⟨r, h3, h5, h6, h7⟩
  | .exit i, e, S, h => h.elim

/-- A function's contract, from its body, by reduction. -/
theorem callsW_of {f : FuncId} {fn : Func} {c : Code} {args : List PV} {S0 : Heap} {R : ARes → Heap → Prop} (m : Nat) (hcall : ∀ args w, (callFunc f args).run P w = .ok (.enter f args) w) (hf : P.funcs[f]? = some fn) (hb : fn.body = some c)
    (hd : codeOk fn.ntmps c = true) (ha : args.length ≤ fn.ntmps) (hm : S0.length ≤ m) (h : AWw P S0.length fn.ntmps c (retW P m fn.results.toList R) (env0 0 args) S0) : CallsA P f args S0 R :=
  callsA_of m hcall hf hb hd ha hm (AWw_A c _ _ retW_A _ _ h)

theorem loopW {k nt : Nat} {c : Code} {Q : Post} {e : Env} {S : Heap} (hd : codeOk nt c = true) {γ : Type} (J : γ → Prop) (E : γ → Env) (H : γ → Heap) (μ : γ → Nat) (hH : ∀ g, J g → k ≤ (H g).length ∧ (H g).all (Ob.sc (H g).length) = true)
    (g0 : γ) (j0 : J g0) (h0 : ∃ extra, S = H g0 ++ extra) (e0 : WeakE (H g0).length e (E g0))
    (round : ∀ g, J g → AWw P k nt c (fun
      | .normal => fun e' S' => forceE e' fun e' => NextW J E H μ g e' S'
      | x => Q x) (E g) (H g)) : LoopW P k nt c Q e S :=
  ⟨loopA hd J E H μ g0 j0 (Weak.toH ⟨(hH g0 j0).1, h0, (hH g0 j0).2, weakE_mem e0⟩) fun g hg => AWw_A c _ _ (fun x e S h => by
    cases x with
    | normal =>
      obtain ⟨g', hj, hm, hs, he⟩ := (forceE_iff _ _).1 h
      exact ⟨g', hj, Weak.toH ⟨(hH g' hj).1, hs, (hH g' hj).2, weakE_mem he⟩, hm⟩
    | exit i => exact h
    | ret => exact h
    | panic p => exact h) _ _ (round g hg)⟩

theorem execFW_A {e : Env} {S : Heap} {o : Oper} {K : PV → Heap → Prop} (h : execFW P e S o K) : execF P e S o K := by
  unfold execFW at h
  split at h
  · rename_i f args argTypes hop
    obtain ⟨p, S', h1, h2⟩ := (forcePs_iff _ _).1 h
    exact Or.inl (by simp only [execF0, hop]; exact ⟨p, S', h1, h2⟩)
  · exact h.elim
  · rename_i n1 n2
    rcases opW_Z h with h | h
    · refine Or.inl ?_
      unfold execF0
      split
      · rename_i f args argTypes hop; exact absurd hop (n1 f args argTypes)
      · rename_i x hop; exact absurd hop (n2 x)
      · exact h
    · rcases ptW_Z ((forcePs_iff _ _).1 h) with ⟨p, h1, h3, h2⟩ | h
      · exact Or.inr ⟨p, S, h1.op, fun _ => rfl, fun _ hr S2 => (h3 hr S2).op, h2⟩
      · exact Or.inr h.sem

theorem execP_A {e : Env} {S : Heap} {o : Oper} {K : PV → Heap → Prop} (h : execP P e S o.op K) : ∃ p, (∀ S2, execF P e S2 o (fun v s => v = p ∧ s = S2)) ∧ K p S := by
  have plain : ∀ p, (∀ S2, opA P e S2 o.op (fun v s => v = p ∧ s = S2)) → (∀ f args argTypes, o.op ≠ .call { callee := .value (.func f), args := args, argTypes := argTypes }) → (∀ x, o.op ≠ .panic x) → ∀ S2, execF P e S2 o (fun v s => v = p ∧ s = S2) := fun p hp n1 n2 S2 => by
    refine Or.inl ?_
    unfold execF0
    split
    · rename_i f args argTypes hop; exact absurd hop (n1 f args argTypes)
    · rename_i x hop; exact absurd hop (n2 x)
    · exact hp S2
  unfold execP at h
  split at h
  · rename_i hop
    split at h
    · rename_i cells hx
      split at h
      · rename_i ha
        split at h
        · rename_i n hs; obtain ⟨hc, hk⟩ := (forceN_iff _ _).1 h; exact ⟨_, plain _ (fun S2 => by simp only [hop, opA, loadA, hx, ha]; exact ⟨n, hs, hc, rfl, trivial⟩) (by simp [hop]) (by simp [hop]), hk⟩
        · exact h.elim
      · rename_i ha
        split at h
        · exact ⟨_, plain _ (fun S2 => by simp only [hop, opA, loadA, hx, ha]; exact ⟨_, rfl, rfl, trivial⟩) (by simp [hop]) (by simp [hop]), h⟩
        · exact h.elim
      · exact h.elim
    · exact h.elim
  · rename_i hop
    split at h
    · rename_i el he
      split at h
      · rename_i sz hs
        split at h
        · rename_i k n hi
          split at h
          · rename_i rows hx
            obtain ⟨⟨h1, h2, h3⟩, hk⟩ := (forceN_iff _ _).1 h
            refine ⟨_, plain _ (fun S2 => ?_) (by simp [hop]) (by simp [hop]), hk⟩
            simp only [hop, opA, indexA]
            refine ⟨el, sz, he, hs, ?_⟩
            rw [hi, hx]
            exact ⟨h1, h2, h3, rfl, trivial⟩
          · exact h.elim
        · exact h.elim
      · exact h.elim
    · exact h.elim
  · rename_i f args argTypes hop
    obtain ⟨p, h1, h2⟩ := (forcePs_iff _ _).1 h
    refine ⟨p, fun S2 => Or.inl ?_, h2⟩
    simp only [execF0, hop]
    exact ⟨p, S2, h1 S2, rfl, rfl⟩
  · rename_i t x lo hi hop
    obtain ⟨p, h1, h2⟩ := (forcePs_iff _ _).1 h
    obtain ⟨dst, op, ty, pos, after, g⟩ := o
    simp only at hop
    subst hop
    exact ⟨p, fun S2 => Or.inr ⟨p, S2, SemV.op (h1 S2 dst ty pos after g), fun _ => rfl, fun _ _ S3 => SemV.op (h1 S3 dst ty pos after g), rfl, rfl⟩, h2⟩
  · exact h.elim

theorem stepFW_A {ops : Array Oper} {pl : List Nat} {i : Nat} {o : Oper} {K K' : Env → Heap → Prop} {e : Env} {S : Heap} (hk : ∀ e S, K e S → K' e S) (h : stepFW P ops pl i o K e S) : stepF P ops pl i o K' e S := by
  have key : ∀ (e : Env), (match pl.contains i with
      | true => execP P e S o.op (fun v => K (put e o.dst v))
      | false => execFW P e S o (fun v => K (put e o.dst v))) → if pl.contains i then ∃ p, (∀ S2, execF P e S2 o (fun v s => v = p ∧ s = S2)) ∧ K' (put e o.dst p) S else execF P e S o (fun v => K' (put e o.dst v)) := by
    intro e h
    split at h
    · rename_i hp; rw [if_pos hp]; obtain ⟨p, h1, h2⟩ := execP_A h; exact ⟨p, h1, hk _ _ h2⟩
    · rename_i hp
      rw [if_neg (by simp only [hp]; decide)]
      obtain ⟨v, S', h1, h2, _⟩ := execF_point (execFW_A h)
      exact h1 _ (hk _ _ h2)
  unfold stepFW at h
  unfold stepF
  split at h
  · rename_i hg; simp only [hg]; exact key e h
  · rename_i j want hg
    simp only [hg]
    split at h
    · rename_i t ht
      simp only [ht]
      split at h
      · rename_i b hb
        refine ⟨b, hb, ?_⟩
        cases want with
        | true => obtain ⟨h1, h2⟩ := h; exact ⟨fun e => key _ (h1 e), fun e => hk _ _ (h2 e)⟩
        | false => obtain ⟨h1, h2⟩ := h; exact ⟨fun e => key _ (h2 e), fun e => hk _ _ (h1 e)⟩
      · exact h.elim
    · exact h.elim

theorem opsFW_A {ops : Array Oper} {pl : List Nat} {Q : Env → Heap → Prop} : ∀ (l : List Nat) (e : Env) (S : Heap), opsFW P ops pl Q l e S → opsF P ops pl Q l e S
  | [], e, S, h => h
  | i :: r, e, S, h => by
    simp only [opsFW, opsF] at h ⊢
    rw [forceE1_iff] at h
    split at h
    · rename_i ho; simp only [ho]; exact opsFW_A r e S h
    · rename_i o ho; simp only [ho]; exact stepFW_A (fun e S => opsFW_A r e S) h

theorem drawW {k nt id : Nat} {ops : Array Oper} {Q : Post} {e : Env} {S : Heap} (pl : List Nat) (hm : P.follows .mixedOrders = true) (hc : drawChk ops pl = true) (hd : ops.all (dstOk nt) = true)
    (h : opsFW P ops pl (Q .normal) (List.range ops.size) e S) : DrawW P k nt id ops Q e S :=
  ⟨draw_sound pl hm hc hd (opsFW_A _ _ _ h)⟩
/-- On with the code. -/
theorem SeqW.go {k nt id : Nat} {c : Code} {Q : Post} {e : Env} {S : Heap} (h : AWg P k nt c Q e S) : SeqW P k nt id c Q e S :=
  ⟨fun hd => AWs_sound k nt _ _ _ _ hd (AWg_A _ _ _ _ h)⟩
theorem OpQ.pt {vs : List PV} {S S' : Heap} {o : Oper} {K QP : PV → Heap → Prop} {p : PV} (h : OpPt P vs S o p S') (k : K p S') : OpQ P vs S o K QP :=
  .mk fun w0 F0 mods F ρ w a hs he => (h w0 F0 mods F ρ w a hs he).mono fun v s hv => by obtain ⟨rfl, rfl⟩ := hv; exact k
end
end Go.Aw
