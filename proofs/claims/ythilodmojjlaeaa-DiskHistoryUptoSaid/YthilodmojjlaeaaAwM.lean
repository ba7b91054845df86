/- What a function answers; calls. -/
import Derived.Test.YthilodmojjlaeaaAwL
set_option linter.unusedVariables false
set_option linter.unusedSimpArgs false
namespace Go.Aw

/-! ### 1. The end of a function -/

def loadV (P : Program) (S : Heap) (t : TypeId) (p : PV) : Option PV := match p with
  | .ptr o c => match S[o]? with
    | some (.box cs) => match aggO P t with
      | some true => match szO P t with
        | some n => if c + n ≤ cs.length then some (.agg ((cs.drop c).take n)) else none
        | none => none
      | some false => cs[c]?
      | none => none
    | _ => none
  | _ => none

def resV (P : Program) (e : Env) (S : Heap) : ResultVar → Option PV
  | .tmp t => some (look e t)
  | .cell a t => loadV P S t (look e a)

def resVs (P : Program) (e : Env) (S : Heap) : List ResultVar → Option (List PV)
  | [] => some []
  | r :: rs => match resV P e S r, resVs P e S rs with
    | some p, some ps => some (p :: ps)
    | _, _ => none

def tupP : List PV → PV
  | [p] => p
  | ps => .tup ps

def toRows : List (List PV) → Option (List (List D))
  | [] => some []
  | r :: rs => match toDs r, toRows rs with
    | some d, some ds => some (d :: ds)
    | _, _ => none

/-- Values as they are handed out: what lies in objects from m on is data from now on. -/
def pubOwn (m : Nat) (S : Heap) (o sz n : Nat) : Option PV := if o < m then some (.own o sz n) else match S[o]? with
  | some (.buf rows) => if rows.length = n then (toRows rows).map (fun r => .d (.sl r)) else none
  | some (.fro ds) => if ds.length = n then some (.d (.sl ds)) else none
  | _ => none

/-- An array that is handed out as a slice. -/
def pubAsl (S : Heap) (o c lo len : Nat) : Option PV := match S[o]? with
  | some (.arr pre n run post) => if c = pre.length ∧ lo + len ≤ n then some (.d (.sl (((run.drop lo).take len).map fun d => [d]))) else none
  | _ => none

mutual
def pubV (m : Nat) (S : Heap) : PV → Option PV
  | .any => some .any
  | .d x => some (.d x)
  | .nils => some (.d (.sl []))
  | .ptr o c => if o < m then some (.ptr o c) else none
  | .dp cells => some (.dp cells)
  | .own o sz n => pubOwn m S o sz n
  | .eptr o n r sz c => if o < m then some (.eptr o n r sz c) else none
  | .agg cs => (pubVs m S cs).map .agg
  | .tup vs => (pubVs m S vs).map .tup
  | .wag pre n run post => match pubVs m S pre, pubVs m S post with
    | some a, some b => some (.wag a n run b)
    | _, _ => none
  | .asl o c lo len => if o < m then some (.asl o c lo len) else pubAsl S o c lo len
  | .rptr o c i => if o < m then some (.rptr o c i) else none
  | .sub o sz off n k => if o < m then some (.sub o sz off n k) else none
  | .mp o => if o < m then some (.mp o) else none
def pubVs (m : Nat) (S : Heap) : List PV → Option (List PV)
  | [] => some []
  | p :: r => match pubV m S p, pubVs m S r with
    | some q, some qs => some (q :: qs)
    | _, _ => none
end

@[simp] theorem pubVs_map_d (m : Nat) (S : Heap) : ∀ l : List D, pubVs m S (l.map PV.d) = some (l.map PV.d)
  | [] => rfl
  | d :: r => by simp [pubVs, pubV, pubVs_map_d m S r]

/-- What a function's end must show: R of what it answers; objects from m on are let go. -/
def retQ (P : Program) (m : Nat) (rs : List ResultVar) (R : ARes → Heap → Prop) : Post := fun
  | .normal => fun e S => ∃ vs r, resVs P e S rs = some vs ∧ pubV m S (tupP vs) = some r ∧ m ≤ S.length ∧ (S.take m).all (Ob.sc m) = true ∧ R (.ret r) (S.take m)
  | .ret => fun e S => ∃ vs r, resVs P e S rs = some vs ∧ pubV m S (tupP vs) = some r ∧ m ≤ S.length ∧ (S.take m).all (Ob.sc m) = true ∧ R (.ret r) (S.take m)
  | .panic p => fun e S => ∃ r, pubV m S p = some r ∧ m ≤ S.length ∧ (S.take m).all (Ob.sc m) = true ∧ R (.pan r) (S.take m)
  | .exit _ => fun _ _ => False

def env0 : Nat → List PV → Env
  | _, [] => []
  | i, p :: r => (i, p) :: env0 (i + 1) r

theorem look_env0 {w : World} {F : Nat → Prop} {ρ : Nat → Option Nat} {C : Nat → OI} : ∀ {i : Nat} {ps : List PV} {vs : List Value}, RepTs w F ρ C ps vs → ∀ t, look (env0 i ps) t = .any ∨ (i ≤ t ∧ ∃ v, vs[t - i]? = some v ∧ RepPV w F ρ C (look (env0 i ps) t) v)
  | i, [], vs, h, t => .inl rfl
  | i, p :: r, vs, h, t => by
    simp only [RepTs] at h
    obtain ⟨v, us, rfl, h2, h3⟩ := h
    simp only [env0, look]
    by_cases e : t = i
    · subst e
      right
      exact ⟨Nat.le_refl _, v, by simp, by simpa using h2⟩
    · rw [if_neg e]
      rcases look_env0 (i := i + 1) h3 t with h4 | ⟨h4, u, h5, h6⟩
      · exact .inl h4
      · refine .inr ⟨by omega, u, ?_, h6⟩
        rw [show t - i = (t - (i + 1)) + 1 by omega, List.getElem?_cons_succ]
        exact h5

section
variable {P : Program}

theorem toRows_spec : ∀ {rows : List (List PV)} {rs : List (List D)}, toRows rows = some rs → toDs rows.flatten = some rs.flatten ∧ rs.length = rows.length
  | [], rs, h => by simp only [toRows, Option.some.injEq] at h; subst h; simp [toDs]
  | r :: rows, rs, h => by
    simp only [toRows] at h
    split at h
    · rename_i d ds h1 h2
      cases h
      obtain ⟨e1, e2⟩ := toRows_spec h2
      have app : ∀ (a : List PV) (x : List D) (b : List PV) (y : List D), toDs a = some x → toDs b = some y → toDs (a ++ b) = some (x ++ y) := by
        intro a
        induction a with
        | nil => intro x b y h1 h2; simp only [toDs, Option.some.injEq] at h1; subst h1; simpa using h2
        | cons p a ih =>
          intro x b y h1 h2
          simp only [toDs] at h1
          split at h1
          · rename_i d' ds' g1 g2
            cases h1
            simp [toDs, g1, ih _ _ _ g2 h2]
          · cases h1
      exact ⟨by simpa using app _ _ _ _ h1 e1, by simp [e2]⟩
    · cases h

theorem RepPre.toDs {w : World} {F F' : Nat → Prop} {ρ : Nat → Option Nat} {C : Nat → OI} {b : Nat} (hF : ∀ x, F x → F' x) (hb : F' b) : ∀ {ps : List PV} {ds : List D} {arr : Array Value} {T : TypeId} (off : Nat), w.heap[b]? = some (.cells arr T (0, 0)) →
    (∀ (j : Nat) (p : PV), ps[j]? = some p → ∃ v, arr[off + j]? = some v ∧ oneCell v = true ∧ RepPV w F ρ C p v) → Aw.toDs ps = some ds → RepAt w F' b off ds
  | [], ds, arr, T, off, hh, hp, hd => by simp only [Aw.toDs, Option.some.injEq] at hd; subst hd; simp [RepAt]
  | p :: ps, ds, arr, T, off, hh, hp, hd => by
    simp only [Aw.toDs] at hd
    split at hd
    · rename_i d ds' h1 h2
      cases hd
      obtain ⟨v, e1, e2, e3⟩ := hp 0 p rfl
      simp only [RepAt]
      refine ⟨⟨hb, v, by rw [cell_of hh]; simpa using e1, e2, (PV.toD_rep h1 e3).mono (fun _ _ => rfl) hF⟩, RepPre.toDs (ρ := ρ) (C := C) hF hb (off + 1) hh (fun j q hj => ?_) h2⟩
      obtain ⟨u, f1, f2, f3⟩ := hp (j + 1) q (by simpa using hj)
      exact ⟨u, by rwa [show off + 1 + j = off + (j + 1) by omega], f2, f3⟩
    · cases hd

/-- What was stable, and the blocks of the objects from m on. -/
def Frozen (F : Nat → Prop) (ρ : Nat → Option Nat) (S : Heap) (m : Nat) : Nat → Prop := fun b => F b ∨ ∃ o, m ≤ o ∧ Lives S ρ o b

theorem info_take {S : Heap} {m o : Nat} (h : o < m) : info (S.take m) o = info S o := by
  unfold info
  rw [List.getElem?_take_of_lt h]

theorem rep_pubOwn {w0 : World} {F0 mods F : Nat → Prop} {ρ : Nat → Option Nat} {S : Heap} {w : World} (h : St w0 F0 mods F ρ S w) {m o sz n : Nat} {q : PV} {v : Value} (hq : pubOwn m S o sz n = some q) (hv : RepPV w F ρ (info S) (.own o sz n) v) :
    RepPV w (Frozen F ρ S m) ρ (info (S.take m)) q v := by
  unfold pubOwn at hq
  split at hq
  · rename_i ho
    cases hq
    simp only [RepPV] at hv ⊢
    rw [info_take ho]
    exact hv
  · rename_i ho
    split at hq
    · rename_i rows hx
      split at hq
      · rename_i hn
        obtain ⟨rs, h1, rfl⟩ := Option.map_eq_some_iff.1 hq
        obtain ⟨e1, e2⟩ := toRows_spec h1
        simp only [RepPV] at hv
        obtain ⟨hfr, a, cap, rfl, h2⟩ := hv
        have hi : info S o = .buf n := by rw [info_of hx, Ob.info, hn]
        simp only [RepPV, RepD]
        rcases (h2 n hi).2 rfl with ⟨g1, rfl, rfl, rfl⟩ | ⟨b, g1, rfl, g3, g4, g5⟩
        · exact ⟨none, 0, 0, rfl, by omega, Nat.le_refl _, by unfold maxLen; omega, fun _ => rfl, fun ad had => by cases had⟩
        · refine ⟨_, n, cap, rfl, by omega, g3, g4, (fun e => by cases e), fun ad had => ?_⟩
          cases had
          obtain ⟨arr, T, k1, k2⟩ := h.cells hx (by simp) g1
          refine ⟨fun _ => rfl, RepRows.of_flat (RepPre.toDs (F := F) (ρ := ρ) (C := info S) (fun x hx => .inl hx) (.inr ⟨o, by omega, g1, _, hx, by simp⟩) 0 k1 (fun j p hj => ?_) e1)⟩
          simpa using k2 j p (by simpa [Ob.cells] using hj)
      · cases hq
    · rename_i ds hx
      split at hq
      · rename_i hn
        cases hq
        simp only [RepPV] at hv
        obtain ⟨hfr, a, cap, rfl, h2⟩ := hv
        have hi : info S o = .buf n := by rw [info_of hx, Ob.info, hn]
        simp only [RepPV, RepD]
        rcases (h2 n hi).2 rfl with ⟨g1, rfl, rfl, rfl⟩ | ⟨b, g1, rfl, g3, g4, g5⟩
        · exact ⟨none, 0, 0, rfl, by omega, Nat.le_refl _, by unfold maxLen; omega, fun _ => rfl, fun ad had => by cases had⟩
        · refine ⟨_, n, cap, rfl, by omega, g3, g4, (fun e => by cases e), fun ad had => ?_⟩
          cases had
          exact ⟨fun _ => rfl, (h.fro hx g1).1.mono (fun _ _ => rfl) (fun x hx => .inl hx)⟩
      · cases hq
    · cases hq

theorem flat_single {α : Type} : ∀ l : List α, (l.map fun d => [d]).flatten = l
  | [] => rfl
  | d :: r => by simp [flat_single r]
theorem toDs_d : ∀ l : List D, toDs (l.map PV.d) = some l
  | [] => rfl
  | d :: r => by simp [toDs, PV.toD, toDs_d r]
theorem rep_pubAsl {w0 : World} {F0 mods F : Nat → Prop} {ρ : Nat → Option Nat} {S : Heap} {w : World} (h : St w0 F0 mods F ρ S w) {m o c lo len : Nat} {q : PV} {v : Value} (ho : ¬ o < m) (hq : pubAsl S o c lo len = some q) (hv : RepPV w F ρ (info S) (.asl o c lo len) v) :
    RepPV w (Frozen F ρ S m) ρ (info (S.take m)) q v := by
  unfold pubAsl at hq
  split at hq
  · rename_i pre n run post hx
    split at hq
    · rename_i hc
      obtain ⟨rfl, hl⟩ := hc
      cases hq
      simp only [RepPV] at hv
      obtain ⟨_, b, cap, rfl, g1, g2, hb⟩ := hv
      have hb := hb (by rw [info_of hx]; rfl)
      have hn : run.length = n := (h.objs o _ hx).1
      obtain ⟨arr, T, k1, k2⟩ := h.cells hx (by simp) hb
      simp only [RepPV, RepD]
      refine ⟨_, len, cap, rfl, by simp; omega, g1, g2, (fun e => by cases e), fun ad had => ?_⟩
      cases had
      refine ⟨fun _ => rfl, RepRows.of_flat ?_⟩
      rw [flat_single]
      refine RepPre.toDs (F := F) (ρ := ρ) (C := info S) (fun x hx => .inl hx) (.inr ⟨o, by omega, hb, _, hx, by simp⟩) (pre.length + lo) k1 (fun j p hj => ?_) (toDs_d _)
      have hjl : j < len := by have := (List.getElem?_eq_some_iff.1 hj).1; simp at this; omega
      obtain ⟨u, e1, e2, e3⟩ := k2 (pre.length + lo + j) p (by
        simp only [Ob.cells]
        rw [List.getElem?_append_right (by omega), List.getElem?_append_left (by simp; omega)]
        rw [List.map_take, List.map_drop, List.getElem?_take_of_lt hjl, List.getElem?_drop] at hj
        rw [← hj]; congr 1; omega)
      exact ⟨u, e1, e2, e3⟩
    · cases hq
  · cases hq

mutual
theorem rep_pubV {w0 : World} {F0 mods F : Nat → Prop} {ρ : Nat → Option Nat} {S : Heap} {w : World} (h : St w0 F0 mods F ρ S w) {m : Nat} : ∀ (p q : PV) (v : Value), pubV m S p = some q → RepPV w F ρ (info S) p v →
    RepPV w (Frozen F ρ S m) ρ (info (S.take m)) q v
  | .any, q, v, hq, hv => by simp only [pubV, Option.some.injEq] at hq; subst hq; simp [RepPV]
  | .d x, q, v, hq, hv => by
    simp only [pubV, Option.some.injEq] at hq; subst hq
    simp only [RepPV] at hv ⊢
    exact hv.mono (fun _ _ => rfl) fun b hb => .inl hb
  | .nils, q, v, hq, hv => by
    simp only [pubV, Option.some.injEq] at hq; subst hq
    simp only [RepPV] at hv
    subst hv
    simp only [RepPV, RepD]
    exact ⟨none, 0, 0, rfl, rfl, Nat.le_refl _, by unfold maxLen; omega, fun _ => rfl, fun ad h => by cases h⟩
  | .ptr o c, q, v, hq, hv => by
    simp only [pubV] at hq
    split at hq
    · rename_i ho; cases hq
      simp only [RepPV] at hv ⊢
      rw [info_take ho]; exact hv
    · cases hq
  | .dp cells, q, v, hq, hv => by
    simp only [pubV, Option.some.injEq] at hq; subst hq
    simp only [RepPV] at hv ⊢
    obtain ⟨b, off, h1, h2⟩ := hv
    exact ⟨b, off, h1, h2.mono (fun _ _ => rfl) fun b hb => .inl hb⟩
  | .own o sz n, q, v, hq, hv => rep_pubOwn h (by simpa [pubV] using hq) hv
  | .eptr o n r sz c, q, v, hq, hv => by
    simp only [pubV] at hq
    split at hq
    · rename_i ho; cases hq
      simp only [RepPV] at hv ⊢
      rw [info_take ho]; exact hv
    · cases hq
  | .agg cs, q, v, hq, hv => by
    simp only [pubV] at hq
    obtain ⟨qs, h1, rfl⟩ := Option.map_eq_some_iff.1 hq
    simp only [RepPV] at hv ⊢
    obtain ⟨arr, rfl, h2⟩ := hv
    exact ⟨arr, rfl, rep_pubVs h cs qs _ h1 h2⟩
  | .tup vs, q, v, hq, hv => by
    simp only [pubV] at hq
    obtain ⟨qs, h1, rfl⟩ := Option.map_eq_some_iff.1 hq
    simp only [RepPV] at hv ⊢
    obtain ⟨arr, rfl, h2⟩ := hv
    exact ⟨arr, rfl, rep_pubTs h vs qs _ h1 h2⟩
  | .wag pre n run post, q, v, hq, hv => by
    simp only [pubV] at hq
    split at hq
    · rename_i a b h1 h2
      cases hq
      simp only [RepPV] at hv ⊢
      obtain ⟨h0, arr, rfl, x, y, z, g1, g2, g3, g4⟩ := hv
      exact ⟨h0, arr, rfl, x, y, z, g1, rep_pubVs h pre a _ h1 g2, g3.mono (fun _ _ => rfl) (fun b hb => .inl hb), rep_pubVs h post b _ h2 g4⟩
    · cases hq
  | .asl o c lo len, q, v, hq, hv => by
    simp only [pubV] at hq
    split at hq
    · rename_i ho; cases hq
      simp only [RepPV] at hv ⊢
      rw [info_take ho]; exact hv
    · rename_i ho; exact rep_pubAsl h ho hq hv
  | .rptr o c i, q, v, hq, hv => by
    simp only [pubV] at hq
    split at hq
    · rename_i ho; cases hq
      simp only [RepPV] at hv ⊢
      rw [info_take ho]; exact hv
    · cases hq
  | .sub o sz off n k, q, v, hq, hv => by
    simp only [pubV] at hq
    split at hq
    · rename_i ho; cases hq
      simp only [RepPV] at hv ⊢
      rw [info_take ho]; exact hv
    · cases hq
  | .mp o, q, v, hq, hv => by
    simp only [pubV] at hq
    split at hq
    · rename_i ho; cases hq
      simp only [RepPV] at hv ⊢
      rw [info_take ho]; exact hv
    · cases hq
theorem rep_pubVs {w0 : World} {F0 mods F : Nat → Prop} {ρ : Nat → Option Nat} {S : Heap} {w : World} (h : St w0 F0 mods F ρ S w) {m : Nat} : ∀ (p q : List PV) (v : List Value), pubVs m S p = some q → RepPVs w F ρ (info S) p v →
    RepPVs w (Frozen F ρ S m) ρ (info (S.take m)) q v
  | [], q, v, hq, hv => by simp only [pubVs, Option.some.injEq] at hq; subst hq; simpa [RepPVs] using hv
  | p :: r, q, v, hq, hv => by
    simp only [pubVs] at hq
    split at hq
    · rename_i q1 qs h1 h2
      cases hq
      simp only [RepPVs] at hv ⊢
      obtain ⟨u, us, rfl, g2, g3, g4⟩ := hv
      exact ⟨u, us, rfl, g2, rep_pubV h p q1 u h1 g3, rep_pubVs h r qs us h2 g4⟩
    · cases hq
theorem rep_pubTs {w0 : World} {F0 mods F : Nat → Prop} {ρ : Nat → Option Nat} {S : Heap} {w : World} (h : St w0 F0 mods F ρ S w) {m : Nat} : ∀ (p q : List PV) (v : List Value), pubVs m S p = some q → RepTs w F ρ (info S) p v →
    RepTs w (Frozen F ρ S m) ρ (info (S.take m)) q v
  | [], q, v, hq, hv => by simp only [pubVs, Option.some.injEq] at hq; subst hq; simpa [RepTs] using hv
  | p :: r, q, v, hq, hv => by
    simp only [pubVs] at hq
    split at hq
    · rename_i q1 qs h1 h2
      cases hq
      simp only [RepTs] at hv ⊢
      obtain ⟨u, us, rfl, g3, g4⟩ := hv
      exact ⟨u, us, rfl, rep_pubV h p q1 u h1 g3, rep_pubTs h r qs us h2 g4⟩
    · cases hq
end

/-- The objects from m on are let go. -/
theorem St.cut {w0 : World} {F0 mods F : Nat → Prop} {ρ : Nat → Option Nat} {S : Heap} {w : World} (h : St w0 F0 mods F ρ S w) {m : Nat} (hs : (S.take m).all (Ob.sc m) = true) : St w0 F0 mods (Frozen F ρ S m) ρ (S.take m) w := by
  have lv : ∀ o b, Lives (S.take m) ρ o b → o < m ∧ Lives S ρ o b := by
    rintro o b ⟨h1, x, h2, h3⟩
    have hlt : o < m := by have := (List.getElem?_eq_some_iff.1 h2).1; simp at this; omega
    rw [List.getElem?_take_of_lt hlt] at h2
    exact ⟨hlt, h1, x, h2, h3⟩
  have hF : ∀ b, F b → Frozen F ρ S m b := fun b hb => .inl hb
  refine ⟨?_, fun o o' b h1 h2 => h.inj o o' b (lv o b h1).2 (lv o' b h2).2, ?_, ?_, fun o b h1 => h.mine o b (lv o b h1).2, h.grow, h.os, h.tape, h.output, h.keep, h.bsize, fun b hb => .inl (h.f0 b hb), ?_⟩
  · intro o x hx
    have hlt : o < m := by have := (List.getElem?_eq_some_iff.1 hx).1; simp at this; omega
    have hsc : scBs m x.cells = true := List.all_eq_true.1 hs x (List.mem_of_getElem? hx)
    rw [List.getElem?_take_of_lt hlt] at hx
    refine (h.objs o x hx).move rfl hF fun p hp v h3 => ?_
    have h4 := RepPV.agree (C' := info (S.take m)) (fun o ho => info_take ho) _ _ (scBs_mem hsc p hp) h3
    exact h4.keeps ⟨fun _ _ => rfl, hF, fun _ => Nat.le_refl _, fun _ h => h, fun _ _ h => ⟨h, rfl⟩, fun _ m _ h => ⟨m, h, Nat.le_refl _, fun _ => rfl⟩⟩
  · intro o b h1 hf
    obtain ⟨h2, h3⟩ := lv o b h1
    rcases hf with hf | ⟨o', h4, h5⟩
    · exact h.notF o b h3 hf
    · have := h.inj o o' b h3 h5; omega
  · intro b hb
    rcases hb with hb | ⟨o', h4, h5⟩
    · exact h.bound b hb
    · exact h.lives_lt h5
  · intro b hb
    rcases hb with hb | ⟨o', h4, h5⟩
    · exact h.fnew b hb
    · rcases h.mine o' b h5 with h6 | h6
      · exact .inr (.inl h6)
      · exact .inr (.inr h6)

theorem keeps_cut {w w0 : World} {F0 F : Nat → Prop} {ρ0 ρ : Nat → Option Nat} {S0 S : Heap} (h : Keeps w0 w F0 F ρ0 ρ (info S0) (info S)) {m : Nat} (hm : S0.length ≤ m) :
    Keeps w0 w F0 (Frozen F ρ S m) ρ0 ρ (info S0) (info (S.take m)) := by
  have e : ∀ o, info S0 o ≠ .fresh → info (S.take m) o = info S o := fun o ho => info_take (by have := info_lt ho; omega)
  exact ⟨h.same, fun b hb => .inl (h.sub b hb), h.size, fun o ho => by rw [e o ho]; exact h.old o ho, fun o ho hx => h.box o ho (by rwa [e o ho] at hx), fun o mm ho hx => h.buf o mm ho (by rwa [e o ho] at hx)⟩

theorem run_resV {G : Ghost} {e : Env} {S : Heap} {a : Act} {w : World} {F : Nat → Prop} {ρ : Nat → Option Nat} (h : InvAt G e S a w F ρ) : ∀ {r : ResultVar} {p : PV}, resV P e S r = some p →
    ∃ v, ((match r with | .tmp t => pure (a.tmps.getD t undef) | .cell c t => do loadVar t (← asAddr (a.tmps.getD c undef)) : Sem Value)).run P w = .ok v w ∧ RepPV w F ρ (info S) p v
  | .tmp t, p, hr => by
    simp only [resV, Option.some.injEq] at hr
    subst hr
    exact ⟨_, rfl, h.env t⟩
  | .cell c t, p, hr => by
    simp only [resV] at hr
    have hv := h.env c
    unfold loadV at hr
    split at hr
    · rename_i o c' hp
      rw [hp] at hv
      simp only [RepPV] at hv
      obtain ⟨hfr, b, hbv, hb⟩ := hv
      split at hr
      · rename_i cs hx
        have hb' := hb (by rw [info_of hx]; rfl)
        obtain ⟨arr, T, e1, e2⟩ := h.st.cells hx (by simp) hb'
        split at hr
        · rename_i ha
          split at hr
          · rename_i n hs
            split at hr
            · rename_i hl
              cases hr
              obtain ⟨vs, f1, f2, f3⟩ := e2.sub c' n (by simpa [Ob.cells] using hl)
              refine ⟨.agg vs.toArray, ?_, by simp only [RepPV]; exact ⟨_, rfl, f3⟩⟩
              have hrun := run_loadVar_agg (P := P) (w := w) ha hs ⟨b, c', none⟩ vs f1 (fun j v hj => by rw [add_mid, cell_of e1]; exact f2 j v hj)
              simp only [hbv, asAddr, Sem.run_bind, Sem.run_pure, Result.andThen_ok, hrun]
            · cases hr
          · cases hr
        · rename_i ha
          obtain ⟨v, f1, f2, f3⟩ := e2 c' p hr
          refine ⟨v, ?_, f3⟩
          have hrun := run_loadVar_one (P := P) (w := w) ha ⟨b, c', none⟩ (v := v) (by rw [cell_of e1]; exact f1)
          simp only [hbv, asAddr, Sem.run_bind, Sem.run_pure, Result.andThen_ok, hrun]
        · cases hr
      · cases hr
    · cases hr

theorem run_resVs {G : Ghost} {e : Env} {S : Heap} {a : Act} {w : World} {F : Nat → Prop} {ρ : Nat → Option Nat} (h : InvAt G e S a w F ρ) : ∀ {rs : List ResultVar} {ps : List PV}, resVs P e S rs = some ps →
    ∃ vs, (rs.mapM fun (r : ResultVar) => (match r with | .tmp t => pure (a.tmps.getD t undef) | .cell c t => do loadVar t (← asAddr (a.tmps.getD c undef)) : Sem Value)).run P w = .ok vs w ∧ RepTs w F ρ (info S) ps vs ∧ vs.length = ps.length
  | [], ps, hr => by simp only [resVs, Option.some.injEq] at hr; subst hr; exact ⟨[], rfl, by simp [RepTs], rfl⟩
  | r :: rs, ps, hr => by
    simp only [resVs] at hr
    split at hr
    · rename_i p ps' h1 h2
      cases hr
      obtain ⟨v, e1, e2⟩ := run_resV h h1
      obtain ⟨vs, f1, f2, f3⟩ := run_resVs h h2
      refine ⟨v :: vs, ?_, by simp only [RepTs]; exact ⟨v, vs, rfl, e2, f2⟩, by simp [f3]⟩
      simp only [List.mapM_cons, Sem.run_bind, e1, Result.andThen_ok, f1, Sem.run_pure]
    · cases hr

theorem run_results {G : Ghost} {e : Env} {S : Heap} {a : Act} {w : World} {F : Nat → Prop} {ρ : Nat → Option Nat} (h : InvAt G e S a w F ρ) {fn : Func} {ps : List PV} (hr : resVs P e S fn.results.toList = some ps) :
    ∃ v, (results fn a.tmps).run P w = .ok v w ∧ RepPV w F ρ (info S) (tupP ps) v := by
  obtain ⟨vs, h1, h2, h3⟩ := run_resVs h hr
  have hm : (results fn a.tmps).run P w = .ok (if h : vs.toArray.size = 1 then vs.toArray[0] else .tuple vs.toArray) w := by
    unfold results
    rw [Array.mapM_eq_mapM_toList]
    simp only [Sem.run_bind, Sem.run_map, Sem.run_pure]
    erw [h1]
    rfl
  refine ⟨_, hm, ?_⟩
  match ps, vs, h2, h3 with
  | [], [], h2, _ => simp only [tupP, RepPV]; exact ⟨#[], by simp, by simp [RepTs]⟩
  | [p], [v], h2, _ => simp only [RepTs] at h2; obtain ⟨u, us, e, h4, _⟩ := h2; cases e; simpa [tupP] using h4
  | p :: q :: r, v :: u :: t, h2, _ => simp only [tupP, RepPV]; exact ⟨_, by simp, h2⟩

/-- A function's contract, from its body. -/
theorem callsA_of {f : FuncId} {fn : Func} {c : Code} {args : List PV} {S0 : Heap} {R : ARes → Heap → Prop} (m : Nat) (hcall : ∀ args w, (callFunc f args).run P w = .ok (.enter f args) w) (hf : P.funcs[f]? = some fn) (hb : fn.body = some c)
    (hd : codeOk fn.ntmps c = true) (ha : args.length ≤ fn.ntmps) (hm : S0.length ≤ m) (h : AWs P S0.length fn.ntmps c (retQ P m fn.results.toList R) (env0 0 args) S0) : CallsA P f args S0 R := by
  refine ⟨hcall, fun w0 F0 mods F ρ w cargs hs hargs => ?_⟩
  have hlen : cargs.size = args.length := by
    have : ∀ (ps : List PV) (vs : List Value), RepTs w F ρ (info S0) ps vs → vs.length = ps.length := by
      intro ps
      induction ps with
      | nil => intro vs h; simp only [RepTs] at h; simp [h]
      | cons p r ih => intro vs h; simp only [RepTs] at h; obtain ⟨v, us, rfl, _, h3⟩ := h; simp [ih us h3]
    have := this _ _ hargs
    simpa using this
  let G : Ghost := { w0 := w, F0 := F, ρ0 := ρ, S0 := S0, nt := fn.ntmps }
  have hinit : Inv G (env0 0 args) S0 { tmps := cargs ++ Array.replicate (fn.ntmps - cargs.size) undef, defers := [] } w := by
    refine ⟨F, ρ, hs.start, fun t => ?_, Keeps.refl .., by simp [G]; omega, rfl⟩
    rcases look_env0 (i := 0) hargs t with h1 | ⟨h1, v, h2, h3⟩
    · rw [h1]; simp [RepPV]
    · have hlt : t < cargs.size := by have := (List.getElem?_eq_some_iff.1 h2).1; simpa using this
      have : (cargs ++ Array.replicate (fn.ntmps - cargs.size) undef).getD t undef = v := by
        have h2' : cargs[t]? = some v := by simpa using h2
        simp [Array.getElem?_append_left hlt, h2']
      simp only at this ⊢
      rw [this]
      exact h3
  have fin : ∀ (a : Act) (w' : World) (F' : Nat → Prop) (ρ' : Nat → Option Nat) (e : Env) (S : Heap), InvAt G e S a w' F' ρ' → (S.take m).all (Ob.sc m) = true →
      St w0 F0 mods (Frozen F' ρ' S m) ρ' (S.take m) w' ∧ Keeps w w' F (Frozen F' ρ' S m) ρ ρ' (info S0) (info (S.take m)) := by
    intro a w' F' ρ' e S hi hsc
    have h1 : St w F (fun b => ∃ o, Lives S0 ρ o b) F' ρ' S w' := hi.st
    exact ⟨hs.trans (h1.cut hsc), keeps_cut hi.keeps hm⟩
  have ret : ∀ (a : Act) (w' : World), (∃ e S, retQ P m fn.results.toList R .ret e S ∧ Inv G e S a w') → a.defers = [] ∧ ∃ v, (results fn a.tmps).run P w' = .ok v w' ∧
      ∃ r S' F' ρ', R r S' ∧ EndRep w' F' ρ' (info S') r (.returned v) ∧ St w0 F0 mods F' ρ' S' w' ∧ Keeps w w' F F' ρ ρ' (info S0) (info S') := by
    rintro a w' ⟨e, S, ⟨vs, r, h1, h2, h3, h4, h5⟩, F', ρ', hi⟩
    obtain ⟨v, g1, g2⟩ := run_results hi h1
    obtain ⟨g3, g4⟩ := fin a w' F' ρ' e S hi h4
    exact ⟨hi.defers, v, g1, .ret r, S.take m, _, ρ', h5, rep_pubV hi.st _ _ _ h2 g2, g3, g4⟩
  refine calls_of_wp hf hb (wp_mono (AWs_sound S0.length fn.ntmps c _ _ _ hd h G _ w rfl rfl hinit) fun en a w' hq => ?_)
  cases en with
  | normal => obtain ⟨e, S, h1, h2⟩ := hq; exact ret a w' ⟨e, S, h1, h2⟩
  | ret => exact ret a w' hq
  | exit id => obtain ⟨e, S, h1, h2⟩ := hq; exact h1.elim
  | goto l => exact hq.elim
  | outgrown => exact hq.elim
  | panic chain =>
    obtain ⟨e, S, v, p, F', ρ', rfl, ⟨r, h1, h2, h3, h4⟩, hi, hv⟩ := hq
    obtain ⟨g3, g4⟩ := fin a w' F' ρ' e S hi h3
    exact ⟨hi.defers, .pan r, S.take m, _, ρ', h4, ⟨v, rfl, rep_pubV hi.st _ _ _ h1 hv⟩, g3, g4⟩
end
end Go.Aw
