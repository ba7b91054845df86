/- Layer 2: values and their nodes. -/
import Derived.Test.YtjibpedeandalaaAwValidB
set_option linter.unusedVariables false
set_option linter.unusedSimpArgs false
namespace Go.Aw
open Go.Proofs
set_option maxRecDepth 100000

/-- The type of a value's node. -/
def nodeT (v : Val) : Nat := if v.kind = 2 then 55 else if v.kind = 3 then 57 else if v.kind = 4 then 59 else 54
mutual
/-- What a value's node holds. -/
def nodeX : Val → D
  | .mk k n s l d => if k = 2 then .s s else if k = 3 then .sl (nodesV l) else if k = 4 then .sl (nodesP d) else .i .i64 n
def nodesV : List Val → List (List D)
  | [] => []
  | v :: r => [.ifc (nodeT v) (nodeX v)] :: nodesV r
def nodesP : List (ByteArray × Val) → List (List D)
  | [] => []
  | (k, v) :: r => [.s k, .ifc (nodeT v) (nodeX v)] :: nodesP r
end
/-- A value's node. -/
abbrev nodeD (v : Val) : D := .ifc (nodeT v) (nodeX v)
mutual
/-- A value as it comes back from its node. -/
def cleanV : Val → Val
  | .mk k n s l d => if k = 2 then .mk 2 0 s [] [] else if k = 3 then .mk 3 0 ⟨#[]⟩ (cleanL l) [] else if k = 4 then .mk 4 0 ⟨#[]⟩ [] (cleanP d) else .mk 1 n ⟨#[]⟩ [] []
def cleanL : List Val → List Val
  | [] => []
  | v :: r => cleanV v :: cleanL r
def cleanP : List (ByteArray × Val) → List (ByteArray × Val)
  | [] => []
  | (k, v) :: r => (k, cleanV v) :: cleanP r
end
theorem nodeX_eq (v : Val) : nodeX v = if v.kind = 2 then .s v.str else if v.kind = 3 then .sl (nodesV v.list) else if v.kind = 4 then .sl (nodesP v.dict) else .i .i64 v.int := by
  cases v; rw [nodeX]; rfl
theorem nodeD_2 {v : Val} (h : v.kind = 2) : nodeD v = .ifc 55 (.s v.str) := by
  unfold nodeD nodeT; rw [nodeX_eq]; simp [*]
theorem nodeD_3 {v : Val} (h : v.kind = 3) : nodeD v = .ifc 57 (.sl (nodesV v.list)) := by
  unfold nodeD nodeT; rw [nodeX_eq]; simp [*]
theorem nodeD_4 {v : Val} (h : v.kind = 4) : nodeD v = .ifc 59 (.sl (nodesP v.dict)) := by
  unfold nodeD nodeT; rw [nodeX_eq]; simp [*]
theorem nodeD_1 {v : Val} (h2 : ¬ v.kind = 2) (h3 : ¬ v.kind = 3) (h4 : ¬ v.kind = 4) : nodeD v = .ifc 54 (.i .i64 v.int) := by
  unfold nodeD nodeT; rw [nodeX_eq]; simp [*]
theorem cleanV_eq (v : Val) : cleanV v = if v.kind = 2 then .mk 2 0 v.str [] [] else if v.kind = 3 then .mk 3 0 ⟨#[]⟩ (cleanL v.list) [] else if v.kind = 4 then .mk 4 0 ⟨#[]⟩ [] (cleanP v.dict) else .mk 1 v.int ⟨#[]⟩ [] [] := by
  cases v; rw [cleanV]; rfl
theorem nodesV_eq : ∀ l : List Val, nodesV l = l.map fun v => [nodeD v]
  | [] => rfl
  | v :: r => by simp only [nodesV, List.map_cons, nodesV_eq r]
theorem nodesP_eq : ∀ l : List (ByteArray × Val), nodesP l = l.map fun p => [.s p.1, nodeD p.2]
  | [] => rfl
  | (k, v) :: r => by simp only [nodesP, List.map_cons, nodesP_eq r]
theorem cleanL_eq : ∀ l : List Val, cleanL l = l.map cleanV
  | [] => rfl
  | v :: r => by simp only [cleanL, List.map_cons, cleanL_eq r]
theorem cleanP_eq : ∀ l : List (ByteArray × Val), cleanP l = l.map fun p => (p.1, cleanV p.2)
  | [] => rfl
  | (k, v) :: r => by simp only [cleanP, List.map_cons, cleanP_eq r]
@[simp] theorem nodesV_length (l : List Val) : (nodesV l).length = l.length := by simp [nodesV_eq]
@[simp] theorem nodesP_length (l : List (ByteArray × Val)) : (nodesP l).length = l.length := by simp [nodesP_eq]
@[simp] theorem cleanL_length (l : List Val) : (cleanL l).length = l.length := by simp [cleanL_eq]
@[simp] theorem cleanP_length (l : List (ByteArray × Val)) : (cleanP l).length = l.length := by simp [cleanP_eq]
theorem nodesV_all (l : List Val) : AllLen 1 (nodesV l) := by simp [nodesV_eq, AllLen]
theorem nodesP_all (l : List (ByteArray × Val)) : AllLen 2 (nodesP l) := fun r hr => by
  rw [nodesP_eq] at hr
  obtain ⟨p, _, rfl⟩ := List.mem_map.1 hr
  rfl
theorem nodesV_get {l : List Val} {i : Nat} (h : i < l.length) : (nodesV l).getD i [] = [nodeD l[i]] := by simp [nodesV_eq, List.getD_eq_getElem?_getD, h]
theorem nodesP_get {l : List (ByteArray × Val)} {i : Nat} (h : i < l.length) : (nodesP l).getD i [] = [.s l[i].1, nodeD l[i].2] := by simp [nodesP_eq, List.getD_eq_getElem?_getD, h]
theorem nodesV_succ {l : List Val} {i : Nat} (h : i < l.length) : nodesV (l.take (i + 1)) = nodesV (l.take i) ++ [[nodeD l[i]]] := by
  rw [List.take_add_one, List.getElem?_eq_getElem h, nodesV_eq, nodesV_eq, List.map_append]; rfl
theorem nodesP_succ {l : List (ByteArray × Val)} {i : Nat} (h : i < l.length) : nodesP (l.take (i + 1)) = nodesP (l.take i) ++ [[.s l[i].1, nodeD l[i].2]] := by
  rw [List.take_add_one, List.getElem?_eq_getElem h, nodesP_eq, nodesP_eq, List.map_append]; rfl

theorem lift_calls : ∀ (n : Nat) (v : Val), bulkV v ≤ n → bulkV v ≤ 16777216 → PureA Try.prog 23 [valC v] (.d (nodeD v)) := by
  intro n
  induction n with
  | zero => intro v h; have := bulkV_eq v; omega
  | succ n ih =>
    intro v hn hb
    have hs := bulkV_sizes v
    refine callsW_of 0 Try.call23 Try.func23 (c := _) rfl (by kernel_rfl) (Nat.le_of_ble_eq_true rfl) (Nat.le_refl 0) ?_
    ((conv => whnf); repeat (refine SeqW.go ?_; conv => whnf))
    first | refine Br.dec (fun h2 => ?_) (fun h2 => ?_) | refine Br.beq (fun h2 => ?_) (fun h2 => ?_) | refine Br.bne (fun h2 => ?_) (fun h2 => ?_) | refine Br.nbeq (fun h2 => ?_) (fun h2 => ?_) | refine Br.not (fun h2 => ?_) (fun h2 => ?_) | refine Br.mk (fun h2 => ?_) (fun h2 => ?_)
    · ((conv => whnf); repeat (refine SeqW.go ?_; conv => whnf))
      exact ⟨by rw [nodeD_2 h2], rfl⟩
    ((conv => whnf); repeat (refine SeqW.go ?_; conv => whnf))
    first | refine Br.dec (fun h3 => ?_) (fun h3 => ?_) | refine Br.beq (fun h3 => ?_) (fun h3 => ?_) | refine Br.bne (fun h3 => ?_) (fun h3 => ?_) | refine Br.nbeq (fun h3 => ?_) (fun h3 => ?_) | refine Br.not (fun h3 => ?_) (fun h3 => ?_) | refine Br.mk (fun h3 => ?_) (fun h3 => ?_)
    · ((conv => whnf); repeat (refine SeqW.go ?_; conv => whnf))
      refine loopN (.slot 3 1 rfl .done) ?_
      refine loopK (by kernel_rfl) (γ := Nat) 2 (fun i => i ≤ v.list.length) (fun i => [(3, .own 1 1 i), (21, .d (.i .i64 i))]) (fun i => [(1, .buf (liftR (nodesV (v.list.take i))))]) (fun i => v.list.length - i)
        ⟨rfl, rfl⟩ (fun _ _ => by simp [ovl, sc_lift]; rfl) 0 (Nat.zero_le _) (by repeat (first | exact trivial | refine ⟨.refl _, ?_⟩)) ⟨rfl, rfl, rfl, rfl, trivial⟩ ?_
      intro i hi
      ((conv => whnf); repeat (refine SeqW.go ?_; conv => whnf))
      first | refine Br.dec (fun hlt => ?_) (fun hlt => ?_) | refine Br.beq (fun hlt => ?_) (fun hlt => ?_) | refine Br.bne (fun hlt => ?_) (fun hlt => ?_) | refine Br.nbeq (fun hlt => ?_) (fun hlt => ?_) | refine Br.not (fun hlt => ?_) (fun hlt => ?_) | refine Br.mk (fun hlt => ?_) (fun hlt => ?_)
      · have hlt : i < v.list.length := by simpa using hlt
        ((conv => whnf); repeat (refine SeqW.go ?_; conv => whnf))
        refine ⟨⟨rowsV_all _, by omega, by simpa using hlt⟩, ?_⟩
        rw [show (i : Int).toNat = i from rfl, rowsV_get hlt]
        ((conv => whnf); repeat (refine SeqW.go ?_; conv => whnf))
        refine ⟨by simp, ?_⟩
        rw [valP_take, valP_eq]
        ((conv => whnf); repeat (refine SeqW.go ?_; conv => whnf))
        refine callP (ih v.list[i] (by have := bulkV_list (List.getElem_mem hlt); omega) (by have := bulkV_list (List.getElem_mem hlt); omega)) rfl rfl fun _ => ?_
        ((conv => whnf); repeat (refine SeqW.go ?_; conv => whnf))
        refine Lit.data ?_
        ((conv => whnf); repeat (refine SeqW.go ?_; conv => whnf))
        refine ⟨⟨by simp [AllLen], by simp; omega, allLen_lift (nodesV_all _), by simp; omega, by simp; omega⟩, ?_⟩
        ((conv => whnf); repeat (refine SeqW.go ?_; conv => whnf))
        refine ⟨i + 1, hlt, by omega, ⟨.refl _, ?_, trivial⟩, ⟨rfl, rfl, wrap_next (by omega), rfl, trivial⟩, (by repeat (first | exact trivial | refine ⟨rfl, ?_⟩))⟩
        rw [nodesV_succ hlt, liftR_append]
        exact .refl _
      · have hge : i = v.list.length := by simp at hlt; omega
        subst hge
        rw [List.take_length]
        ((conv => whnf); repeat (refine SeqW.go ?_; conv => whnf))
        refine ⟨nodesV v.list, by simp, toRows_map _, ?_⟩
        ((conv => whnf); repeat (refine SeqW.go ?_; conv => whnf))
        exact ⟨by rw [nodeD_3 h3], rfl⟩
    ((conv => whnf); repeat (refine SeqW.go ?_; conv => whnf))
    first | refine Br.dec (fun h4 => ?_) (fun h4 => ?_) | refine Br.beq (fun h4 => ?_) (fun h4 => ?_) | refine Br.bne (fun h4 => ?_) (fun h4 => ?_) | refine Br.nbeq (fun h4 => ?_) (fun h4 => ?_) | refine Br.not (fun h4 => ?_) (fun h4 => ?_) | refine Br.mk (fun h4 => ?_) (fun h4 => ?_)
    · ((conv => whnf); repeat (refine SeqW.go ?_; conv => whnf))
      refine loopN (.slot 6 2 rfl .done) ?_
      refine loopK (by kernel_rfl) (γ := Nat) 2 (fun i => i ≤ v.dict.length) (fun i => [(6, .own 1 2 i), (38, .d (.i .i64 i))]) (fun i => [(1, .buf (liftR (nodesP (v.dict.take i))))]) (fun i => v.dict.length - i)
        ⟨rfl, rfl⟩ (fun _ _ => by simp [ovl, sc_lift]; rfl) 0 (Nat.zero_le _) (by repeat (first | exact trivial | refine ⟨.refl _, ?_⟩)) ⟨rfl, rfl, rfl, rfl, trivial⟩ ?_
      intro i hi
      ((conv => whnf); repeat (refine SeqW.go ?_; conv => whnf))
      first | refine Br.dec (fun hlt => ?_) (fun hlt => ?_) | refine Br.beq (fun hlt => ?_) (fun hlt => ?_) | refine Br.bne (fun hlt => ?_) (fun hlt => ?_) | refine Br.nbeq (fun hlt => ?_) (fun hlt => ?_) | refine Br.not (fun hlt => ?_) (fun hlt => ?_) | refine Br.mk (fun hlt => ?_) (fun hlt => ?_)
      · have hlt : i < v.dict.length := by simpa using hlt
        ((conv => whnf); repeat (refine SeqW.go ?_; conv => whnf))
        refine ⟨⟨rowsP_all _, by omega, by simpa using hlt⟩, ?_⟩
        rw [show (i : Int).toNat = i from rfl, rowsP_get hlt]
        ((conv => whnf); repeat (refine SeqW.go ?_; conv => whnf))
        refine ⟨by simp, ?_⟩
        rw [show List.map PV.d (List.take 6 (D.s v.dict[i].1 :: cellsV v.dict[i].2)) = (.d (.s v.dict[i].1)) :: (cellsV v.dict[i].2).map .d by simp [cellsV_eq]]
        rw [cellsV_eq]
        ((conv => whnf); repeat (refine SeqW.go ?_; conv => whnf))
        refine drawW [5] mixed (by kernel_rfl) (by kernel_rfl) ?_
        ((conv => whnf); repeat (refine SeqW.go ?_; conv => whnf))
        refine callQ (ih v.dict[i].2 (by have := bulkV_dict (List.getElem_mem hlt); omega) (by have := bulkV_dict (List.getElem_mem hlt); omega)) rfl rfl ?_
        ((conv => whnf); repeat (refine SeqW.go ?_; conv => whnf))
        refine ⟨⟨by simp [AllLen], by simp; omega, allLen_lift (nodesP_all _), by simp; omega, by simp; omega⟩, ?_⟩
        ((conv => whnf); repeat (refine SeqW.go ?_; conv => whnf))
        refine ⟨i + 1, hlt, by omega, ⟨.refl _, ?_, trivial⟩, ⟨rfl, rfl, wrap_next (by omega), rfl, trivial⟩, (by repeat (first | exact trivial | refine ⟨rfl, ?_⟩))⟩
        rw [nodesP_succ hlt, liftR_append]
        exact .refl _
      · have hge : i = v.dict.length := by simp at hlt; omega
        subst hge
        rw [List.take_length]
        ((conv => whnf); repeat (refine SeqW.go ?_; conv => whnf))
        refine ⟨nodesP v.dict, by simp, toRows_map _, ?_⟩
        ((conv => whnf); repeat (refine SeqW.go ?_; conv => whnf))
        exact ⟨by rw [nodeD_4 h4], rfl⟩
    ((conv => whnf); repeat (refine SeqW.go ?_; conv => whnf))
    exact ⟨by rw [nodeD_1 h2 h3 h4], rfl⟩

theorem rowsV_clean {l : List Val} {i : Nat} (h : i < l.length) : rowsV (cleanL (l.take (i + 1))) = rowsV (cleanL (l.take i)) ++ [cellsV (cleanV l[i])] := by
  rw [cleanL_eq, cleanL_eq, List.take_add_one, List.getElem?_eq_getElem h, rowsV_eq, rowsV_eq, List.map_append, List.map_append]; rfl
theorem rowsP_clean {l : List (ByteArray × Val)} {i : Nat} (h : i < l.length) : rowsP (cleanP (l.take (i + 1))) = rowsP (cleanP (l.take i)) ++ [.s l[i].1 :: cellsV (cleanV l[i].2)] := by
  rw [cleanP_eq, cleanP_eq, List.take_add_one, List.getElem?_eq_getElem h, rowsP_eq, rowsP_eq, List.map_append, List.map_append]; rfl

theorem plain_calls : ∀ (n : Nat) (v : Val), bulkV v ≤ n → bulkV v ≤ 16777216 → PureA Try.prog 22 [.d (nodeD v)] (valC (cleanV v)) := by
  intro n
  induction n with
  | zero => intro v h; have := bulkV_eq v; omega
  | succ n ih =>
    intro v hn hb
    have hs := bulkV_sizes v
    rw [cleanV_eq]
    refine callsW_of 0 Try.call22 Try.func22 (c := _) rfl (by kernel_rfl) (Nat.le_of_ble_eq_true rfl) (Nat.le_refl 0) ?_
    by_cases h2 : v.kind = 2
    · rw [nodeD_2 h2, if_pos h2]
      ((conv => whnf); repeat (refine SeqW.go ?_; conv => whnf))
      repeat (first | (refine Br.t ?_; conv => whnf) | (refine Cd.mk (by omega) ?_; conv => whnf) | (refine Br.f ?_; conv => whnf) | (refine SeqW.go ?_; conv => whnf))
      exact ⟨rfl, rfl⟩
    rw [if_neg h2]
    by_cases h3 : v.kind = 3
    · rw [nodeD_3 h3, if_pos h3]
      ((conv => whnf); repeat (refine SeqW.go ?_; conv => whnf))
      repeat (first | (refine Br.t ?_; conv => whnf) | (refine Cd.mk (by omega) ?_; conv => whnf) | (refine Br.f ?_; conv => whnf) | (refine SeqW.go ?_; conv => whnf))
      refine loopN (.cell 1 3 5 rfl rfl .done) ?_
      refine loopK (by kernel_rfl) (γ := Nat) 3 (fun i => i ≤ v.list.length) (fun i => [(30, .d (.i .i64 i))])
        (fun i => [(1, .box [.d (.i .i64 3), .d (.i .i64 0), .d (.s ⟨#[]⟩), .own 2 5 i, .nils]), (2, .buf (liftR (rowsV (cleanL (v.list.take i)))))]) (fun i => v.list.length - i)
        ⟨rfl, rfl⟩ (fun _ _ => by simp [ovl, sc_lift]; exact ⟨rfl, rfl⟩) 0 (Nat.zero_le _) (by repeat (first | exact trivial | refine ⟨.refl _, ?_⟩)) ⟨rfl, rfl, trivial⟩ ?_
      intro i hi
      ((conv => whnf); repeat (refine SeqW.go ?_; conv => whnf))
      first | refine Br.dec (fun hlt => ?_) (fun hlt => ?_) | refine Br.beq (fun hlt => ?_) (fun hlt => ?_) | refine Br.bne (fun hlt => ?_) (fun hlt => ?_) | refine Br.nbeq (fun hlt => ?_) (fun hlt => ?_) | refine Br.not (fun hlt => ?_) (fun hlt => ?_) | refine Br.mk (fun hlt => ?_) (fun hlt => ?_)
      · have hlt : i < v.list.length := by simpa using hlt
        ((conv => whnf); repeat (refine SeqW.go ?_; conv => whnf))
        refine ⟨⟨nodesV_all _, by omega, by simpa using hlt⟩, ?_⟩
        rw [show (i : Int).toNat = i from rfl, nodesV_get hlt]
        ((conv => whnf); repeat (refine SeqW.go ?_; conv => whnf))
        refine drawW [3] mixed (by kernel_rfl) (by kernel_rfl) ?_
        ((conv => whnf); repeat (refine SeqW.go ?_; conv => whnf))
        refine callQ (ih v.list[i] (by have := bulkV_list (List.getElem_mem hlt); omega) (by have := bulkV_list (List.getElem_mem hlt); omega)) rfl rfl ?_
        ((conv => whnf); repeat (refine SeqW.go ?_; conv => whnf))
        refine ⟨⟨by simp [AllLen], by simp; omega, allLen_lift (rowsV_all _), by simp; omega, by simp; omega⟩, ?_⟩
        ((conv => whnf); repeat (refine SeqW.go ?_; conv => whnf))
        refine ⟨i + 1, hlt, by omega, ⟨.refl _, .refl _, ?_, trivial⟩, ⟨wrap_next (by omega), rfl, trivial⟩, (by repeat (first | exact trivial | refine ⟨rfl, ?_⟩))⟩
        rw [rowsV_clean hlt, liftR_append, cellsV_eq]
        exact .refl _
      · have hge : i = v.list.length := by simp at hlt; omega
        subst hge
        rw [List.take_length]
        ((conv => whnf); repeat (refine SeqW.go ?_; conv => whnf))
        refine ⟨rowsV (cleanL v.list), by simp, toRows_map _, ?_⟩
        ((conv => whnf); repeat (refine SeqW.go ?_; conv => whnf))
        exact ⟨rfl, rfl⟩
    rw [if_neg h3]
    by_cases h4 : v.kind = 4
    · rw [nodeD_4 h4, if_pos h4]
      ((conv => whnf); repeat (refine SeqW.go ?_; conv => whnf))
      repeat (first | (refine Br.t ?_; conv => whnf) | (refine Cd.mk (by omega) ?_; conv => whnf) | (refine Br.f ?_; conv => whnf) | (refine SeqW.go ?_; conv => whnf))
      refine loopN (.cell 1 4 6 rfl rfl .done) ?_
      refine loopK (by kernel_rfl) (γ := Nat) 3 (fun i => i ≤ v.dict.length) (fun i => [(49, .d (.i .i64 i))])
        (fun i => [(1, .box [.d (.i .i64 4), .d (.i .i64 0), .d (.s ⟨#[]⟩), .nils, .own 2 6 i]), (2, .buf (liftR (rowsP (cleanP (v.dict.take i)))))]) (fun i => v.dict.length - i)
        ⟨rfl, rfl⟩ (fun _ _ => by simp [ovl, sc_lift]; exact ⟨rfl, rfl⟩) 0 (Nat.zero_le _) (by repeat (first | exact trivial | refine ⟨.refl _, ?_⟩)) ⟨rfl, rfl, trivial⟩ ?_
      intro i hi
      ((conv => whnf); repeat (refine SeqW.go ?_; conv => whnf))
      first | refine Br.dec (fun hlt => ?_) (fun hlt => ?_) | refine Br.beq (fun hlt => ?_) (fun hlt => ?_) | refine Br.bne (fun hlt => ?_) (fun hlt => ?_) | refine Br.nbeq (fun hlt => ?_) (fun hlt => ?_) | refine Br.not (fun hlt => ?_) (fun hlt => ?_) | refine Br.mk (fun hlt => ?_) (fun hlt => ?_)
      · have hlt : i < v.dict.length := by simpa using hlt
        ((conv => whnf); repeat (refine SeqW.go ?_; conv => whnf))
        refine ⟨⟨nodesP_all _, by omega, by simpa using hlt⟩, ?_⟩
        rw [show (i : Int).toNat = i from rfl, nodesP_get hlt]
        ((conv => whnf); repeat (refine SeqW.go ?_; conv => whnf))
        refine ⟨by simp, ?_⟩
        ((conv => whnf); repeat (refine SeqW.go ?_; conv => whnf))
        refine drawW [6] mixed (by kernel_rfl) (by kernel_rfl) ?_
        ((conv => whnf); repeat (refine SeqW.go ?_; conv => whnf))
        refine callQ (ih v.dict[i].2 (by have := bulkV_dict (List.getElem_mem hlt); omega) (by have := bulkV_dict (List.getElem_mem hlt); omega)) rfl rfl ?_
        ((conv => whnf); repeat (refine SeqW.go ?_; conv => whnf))
        refine ⟨⟨by simp [AllLen], by simp; omega, allLen_lift (rowsP_all _), by simp; omega, by simp; omega⟩, ?_⟩
        ((conv => whnf); repeat (refine SeqW.go ?_; conv => whnf))
        refine ⟨i + 1, hlt, by omega, ⟨.refl _, .refl _, ?_, trivial⟩, ⟨wrap_next (by omega), rfl, trivial⟩, (by repeat (first | exact trivial | refine ⟨rfl, ?_⟩))⟩
        rw [rowsP_clean hlt, liftR_append, cellsV_eq]
        exact .refl _
      · have hge : i = v.dict.length := by simp at hlt; omega
        subst hge
        rw [List.take_length]
        ((conv => whnf); repeat (refine SeqW.go ?_; conv => whnf))
        refine ⟨rowsP (cleanP v.dict), by simp, toRows_map _, ?_⟩
        ((conv => whnf); repeat (refine SeqW.go ?_; conv => whnf))
        exact ⟨rfl, rfl⟩
    rw [if_neg h4, nodeD_1 h2 h3 h4]
    ((conv => whnf); repeat (refine SeqW.go ?_; conv => whnf))
    repeat (first | (refine Br.t ?_; conv => whnf) | (refine Cd.mk (by omega) ?_; conv => whnf) | (refine Br.f ?_; conv => whnf) | (refine SeqW.go ?_; conv => whnf))
    exact ⟨rfl, rfl⟩
end Go.Aw
