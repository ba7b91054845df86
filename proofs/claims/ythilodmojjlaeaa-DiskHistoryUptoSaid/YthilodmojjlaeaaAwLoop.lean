/- A loop whose slots and objects that a round leaves alone are kept without being named. -/
import Derived.Test.YthilodmojjlaeaaAwT
set_option linter.unusedVariables false
set_option linter.unusedSimpArgs false
namespace Go.Aw

theorem sc_fro (n : Nat) (rows : List (List D)) : Ob.sc n (.fro rows) = true := by
  unfold Ob.sc Ob.cells
  simp only [← List.map_flatten, scBs_map_d]
theorem scBs_append (n : Nat) : ∀ a b : List PV, scBs n (a ++ b) = (scBs n a && scBs n b)
  | [], b => by simp [scBs]
  | p :: a, b => by simp [scBs, scBs_append n a b, Bool.and_assoc]
theorem sc_app (n : Nat) (a b : List (List PV)) : Ob.sc n (.buf (a ++ b)) = (Ob.sc n (.buf a) && Ob.sc n (.buf b)) := by
  simp only [Ob.sc, Ob.cells, List.flatten_append, scBs_append]
theorem sc_cons (n : Nat) (r : List PV) (b : List (List PV)) : Ob.sc n (.buf (r :: b)) = (scBs n r && Ob.sc n (.buf b)) := by
  simp only [Ob.sc, Ob.cells, List.flatten_cons, scBs_append]
theorem liftR_append (a b : List (List D)) : liftR (a ++ b) = liftR a ++ liftR b := by simp [liftR]
/-! Branches by what is tested. -/
theorem Br.dec {p : Prop} [Decidable p] {X Y : Prop} (h1 : p → X) (h2 : ¬ p → Y) : Br (decide p) X Y := ⟨fun h => h1 (of_decide_eq_true h), fun h => h2 (of_decide_eq_false h)⟩
theorem Br.beq {α : Type} [BEq α] [LawfulBEq α] {a b : α} {X Y : Prop} (h1 : a = b → X) (h2 : ¬ a = b → Y) : Br (a == b) X Y := ⟨fun h => h1 (by simpa using h), fun h => h2 (by simpa using h)⟩
theorem Br.bne {α : Type} [BEq α] [LawfulBEq α] {a b : α} {X Y : Prop} (h1 : ¬ a = b → X) (h2 : a = b → Y) : Br (a != b) X Y := ⟨fun h => h1 (by simpa using h), fun h => h2 (by simpa using h)⟩
theorem Br.nbeq {α : Type} [BEq α] [LawfulBEq α] {a b : α} {X Y : Prop} (h1 : ¬ a = b → X) (h2 : a = b → Y) : Br (!(a == b)) X Y := ⟨fun h => h1 (by simpa using h), fun h => h2 (by simpa using h)⟩
theorem Br.not {b : Bool} {X Y : Prop} (h1 : b = false → X) (h2 : b = true → Y) : Br (!b) X Y := ⟨fun h => h1 (by simpa using h), fun h => h2 (by simpa using h)⟩

/-- On with the code, but for the piece n. -/
theorem SeqW.goN {P : Program} {k nt id : Nat} {c : Code} {Q : Post} {e : Env} {S : Heap} (n : Nat) (hn : Nat.beq id n = false) (h : AWg P k nt c Q e S) : SeqW P k nt id c Q e S := SeqW.go h

/-- A counter goes on. -/
theorem wrap_next {i : Nat} (h : i < 9223372036854775807) : PV.d (.i .i64 (IntKind.wrap .i64 ((i : Int) + 1))) = PV.d (.i .i64 ((i + 1 : Nat) : Int)) := by
  rw [wrap_i64 (by omega) (by omega)]; rfl

/-- The slots that a piece of code writes. -/
def wrC : Code → List Nat
  | .region _ ops _ => ops.toList.filterMap (·.dst)
  | .seq a b => wrC a ++ wrC b
  | .cond c a b => (match c with | .tmp t => [t] | _ => []) ++ (wrC a ++ wrC b)
  | .block _ c => wrC c
  | .loop c => wrC c
  | _ => []
def hasN (t : Nat) : List Nat → Bool
  | [] => false
  | x :: r => match Nat.beq x t with
    | true => true
    | false => hasN t r
/-- What is known of the other slots. -/
def keepE (n : Nat) : List Nat → Env → Env
  | _, [] => []
  | ws, (t, p) :: r => match hasN t ws with
    | true => keepE n ws r
    | false => match scB n p with
      | true => (t, p) :: keepE n (t :: ws) r
      | false => keepE n (t :: ws) r

theorem hasN_cons {t s : Nat} {ws : List Nat} (h : hasN t (s :: ws) = false) : t ≠ s ∧ hasN t ws = false := by
  simp only [hasN] at h
  split at h
  · cases h
  · rename_i hb
    exact ⟨(fun e => by subst e; rw [Nat.beq_refl] at hb; cases hb), h⟩

theorem keepE_mem {n : Nat} : ∀ {e : Env} {ws : List Nat} {x : Nat × PV}, x ∈ keepE n ws e → hasN x.1 ws = false ∧ look e x.1 = x.2 ∧ scB n x.2 = true
  | [], ws, x, h => by simp [keepE] at h
  | (t, p) :: r, ws, x, h => by
    simp only [keepE] at h
    split at h
    · rename_i hm
      obtain ⟨h1, h2, h3⟩ := keepE_mem h
      refine ⟨h1, ?_, h3⟩
      simp only [look]
      rw [if_neg]
      · exact h2
      · intro e
        rw [e] at h1
        rw [h1] at hm
        cases hm
    · rename_i hm
      split at h
      · rename_i hs
        rcases List.mem_cons.1 h with rfl | h
        · exact ⟨hm, by simp [look], hs⟩
        · obtain ⟨h1, h2, h3⟩ := keepE_mem h
          obtain ⟨h4, h5⟩ := hasN_cons h1
          exact ⟨h5, by simp only [look]; rw [if_neg h4]; exact h2, h3⟩
      · obtain ⟨h1, h2, h3⟩ := keepE_mem h
        obtain ⟨h4, h5⟩ := hasN_cons h1
        exact ⟨h5, by simp only [look]; rw [if_neg h4]; exact h2, h3⟩

/-- These slots are as they were. -/
def SameE (e : Env) : Env → Prop
  | [] => True
  | (t, p) :: r => look e t = p ∧ SameE e r
theorem sameE_mem {e : Env} : ∀ {l : Env}, SameE e l → ∀ x ∈ l, look e x.1 = x.2
  | [], _, x, hx => by simp at hx
  | (t, p) :: r, h, x, hx => by
    rcases List.mem_cons.1 hx with rfl | hx
    · exact h.1
    · exact sameE_mem h.2 x hx

/-- Some objects are others now. -/
def ovl : Heap → List (Nat × Ob) → Heap
  | S, [] => S
  | S, (o, x) :: r => ovl (S.set o x) r
theorem ovl_length : ∀ {l : List (Nat × Ob)} {S : Heap}, (ovl S l).length = S.length
  | [], S => rfl
  | (o, x) :: r, S => by simp only [ovl]; rw [ovl_length]; simp

/-- A round's end. -/
inductive NextK {γ : Type} (J : γ → Prop) (ch : γ → Env) (H : γ → Heap) (μ : γ → Nat) (n : Nat) (g : γ) (kp : Env) (e' : Env) (S' : Heap) : Prop
  | mk (g' : γ) (hj : J g') (hm : μ g' < μ g) (hs : HLe S' (H g')) (he : WeakE n e' (ch g')) (hk : SameE e' kp)
/-- The end of a piece of code behind which ways meet. -/
inductive CutK {γ : Type} (J : γ → Prop) (ch : γ → Env) (H : γ → Heap) (n : Nat) (kp : Env) (e' : Env) (S' : Heap) : Prop
  | mk (g' : γ) (hj : J g') (hs : HLe S' (H g')) (he : WeakE n e' (ch g')) (hk : SameE e' kp)

section
variable {P : Program} {k nt : Nat} {Q : Post} {e : Env} {S : Heap}

theorem ovl_take {n : Nat} (h : Nat.ble n S.length = true) (l : List (Nat × Ob)) : (ovl (S.take n) l).length = n := by
  rw [ovl_length, List.length_take]
  have := Nat.le_of_ble_eq_true h
  omega

theorem loopK {c : Code} (hd : codeOk nt c = true) {γ : Type} (n : Nat) (J : γ → Prop) (ch : γ → Env) (cH : γ → List (Nat × Ob)) (μ : γ → Nat)
    (hn : Nat.ble k n = true ∧ Nat.ble n S.length = true) (hH : ∀ g, J g → (ovl (S.take n) (cH g)).all (Ob.sc n) = true)
    (g0 : γ) (j0 : J g0) (h0 : HLe S (ovl (S.take n) (cH g0))) (e0 : WeakE n e (ch g0))
    (round : ∀ g, J g → forceE (keepE n (wrC c) e) fun kp => forceE (ch g ++ kp) fun e1 => forceH (ovl (S.take n) (cH g)) fun S1 => AWw P k nt c (fun
      | .normal => fun e' S' => forceE e' fun e' => NextK J ch (fun g => ovl (S.take n) (cH g)) μ n g kp e' S'
      | x => Q x) e1 S1) : LoopW P k nt c Q e S := by
  have hlen : ∀ g, (ovl (S.take n) (cH g)).length = n := fun g => ovl_take hn.2 _
  have hk := Nat.le_of_ble_eq_true hn.1
  have kept : ∀ x ∈ keepE n (wrC c) e, PVLe (look e x.1) x.2 ∧ scB n x.2 = true := fun x hx => by
    obtain ⟨h1, h2, h3⟩ := keepE_mem hx
    exact ⟨by rw [h2]; exact .refl _, h3⟩
  refine ⟨loopA hd J (fun g => ch g ++ keepE n (wrC c) e) (fun g => ovl (S.take n) (cH g)) μ g0 j0 ⟨by rw [hlen]; exact hk, h0, by rw [hlen]; exact hH g0 j0, ?_⟩ fun g hg => ?_⟩
  · intro x hx
    rw [hlen]
    rcases List.mem_append.1 hx with hx | hx
    · exact weakE_mem e0 x hx
    · exact kept x hx
  · have hr := round g hg
    rw [forceE_iff, forceE_iff, forceH_iff] at hr
    refine AWw_A c _ _ (fun x e S h => ?_) _ _ hr
    cases x with
    | normal =>
      obtain ⟨g', hj, hm, hs, he, hk'⟩ := (forceE_iff _ _).1 h
      refine ⟨g', hj, ⟨by rw [hlen]; exact hk, hs, by rw [hlen]; exact hH g' hj, fun x hx => ?_⟩, hm⟩
      rw [hlen]
      rcases List.mem_append.1 hx with hx | hx
      · exact weakE_mem he x hx
      · exact ⟨by rw [sameE_mem hk' x hx]; exact .refl _, (kept x hx).2⟩
    | exit i => exact h
    | ret => exact h
    | panic p => exact h

theorem opsF_mono {ops : Array Oper} {pl : List Nat} {Q Q' : Env → Heap → Prop} (hq : ∀ e S, Q e S → Q' e S) : ∀ (l : List Nat) (e : Env) (S : Heap), opsFW P ops pl Q l e S → opsF P ops pl Q' l e S
  | [], e, S, h => hq _ _ h
  | i :: r, e, S, h => by
    simp only [opsFW, opsF] at h ⊢
    rw [forceE1_iff] at h
    split at h
    · rename_i ho; simp only [ho]; exact opsF_mono hq r e S h
    · rename_i o ho; simp only [ho]; exact stepFW_A (fun e S => opsF_mono hq r e S) h
theorem cutSem {c : Code} {γ : Type} (n : Nat) (J : γ → Prop) (ch : γ → Env) (cH : γ → List (Nat × Ob)) {kp : Env} (hkp : kp = keepE n (wrC c) e)
    (hn : Nat.ble k n = true ∧ Nat.ble n S.length = true) (hH : ∀ g, J g → (ovl (S.take n) (cH g)).all (Ob.sc n) = true)
    (fst : Sem' P k nt c (fun
      | .normal => fun e' S' => CutK J ch (fun g => ovl (S.take n) (cH g)) n kp e' S'
      | x => Q x) e S)
    (snd : ∀ g, J g → Q .normal (ch g ++ kp) (ovl (S.take n) (cH g))) : Sem' P k nt c Q e S := by
  have hlen : ∀ g, (ovl (S.take n) (cH g)).length = n := fun g => ovl_take hn.2 _
  have hk := Nat.le_of_ble_eq_true hn.1
  have kept : ∀ x ∈ kp, PVLe (look e x.1) x.2 ∧ scB n x.2 = true := fun x hx => by
    rw [hkp] at hx
    obtain ⟨h1, h2, h3⟩ := keepE_mem hx
    exact ⟨by rw [h2]; exact .refl _, h3⟩
  intro G a w hG hN hi
  refine wp_mono (fst G a w hG hN hi) fun en a' w' hq => ?_
  cases en with
  | normal =>
    obtain ⟨e', S', ⟨g, hj, hs, he, hk'⟩, hi'⟩ := hq
    refine ⟨_, _, snd g hj, WeakH.inv ⟨by rw [hlen]; exact hk, hs, by rw [hlen]; exact hH g hj, fun x hx => ?_⟩ hG hi'⟩
    rw [hlen]
    rcases List.mem_append.1 hx with hx | hx
    · exact weakE_mem he x hx
    · exact ⟨by rw [sameE_mem hk' x hx]; exact .refl _, (kept x hx).2⟩
  | exit id => exact hq
  | ret => exact hq
  | panic c => exact hq
  | goto l => exact hq.elim
  | outgrown => exact hq.elim

/-- Ways meet: behind the piece, the slots ch and the objects are as told. -/
theorem cutK {id : Nat} {c : Code} {γ : Type} (n : Nat) (J : γ → Prop) (ch : γ → Env) (cH : γ → List (Nat × Ob))
    (hn : Nat.ble k n = true ∧ Nat.ble n S.length = true) (hH : ∀ g, J g → (ovl (S.take n) (cH g)).all (Ob.sc n) = true)
    (fst : forceE (keepE n (wrC c) e) fun kp => AWg P k nt c (fun
      | .normal => fun e' S' => forceE e' fun e' => CutK J ch (fun g => ovl (S.take n) (cH g)) n kp e' S'
      | x => Q x) e S)
    (snd : ∀ g, J g → forceE (keepE n (wrC c) e) fun kp => forceE (ch g ++ kp) fun e1 => forceH (ovl (S.take n) (cH g)) fun S1 => Q .normal e1 S1) : SeqW P k nt id c Q e S := by
  rw [forceE_iff] at fst
  refine ⟨fun hd => cutSem n J ch cH rfl hn hH (Sem'.mono (fun x e' S' h => ?_) (AWs_sound k nt c _ e S hd (AWg_A c _ _ _ fst))) fun g hg => ?_⟩
  · cases x with
    | normal => exact (forceE_iff _ _).1 h
    | exit i => exact h
    | ret => exact h
    | panic p => exact h
  · have h2 := snd g hg
    rw [forceE_iff, forceE_iff, forceH_iff] at h2
    exact h2

/-- The same at a region whose order is drawn. -/
theorem cutD {id : Nat} {ops : Array Oper} {γ : Type} (pl : List Nat) (hm : P.follows .mixedOrders = true) (hc : drawChk ops pl = true) (hd : ops.all (dstOk nt) = true)
    (n : Nat) (J : γ → Prop) (ch : γ → Env) (cH : γ → List (Nat × Ob))
    (hn : Nat.ble k n = true ∧ Nat.ble n S.length = true) (hH : ∀ g, J g → (ovl (S.take n) (cH g)).all (Ob.sc n) = true)
    (fst : forceE (keepE n (wrC (.region id ops true)) e) fun kp => opsFW P ops pl (fun e' S' => forceE e' fun e' => CutK J ch (fun g => ovl (S.take n) (cH g)) n kp e' S') (List.range ops.size) e S)
    (snd : ∀ g, J g → forceE (keepE n (wrC (.region id ops true)) e) fun kp => forceE (ch g ++ kp) fun e1 => forceH (ovl (S.take n) (cH g)) fun S1 => Q .normal e1 S1) : DrawW P k nt id ops Q e S := by
  rw [forceE_iff] at fst
  refine ⟨cutSem n J ch cH rfl hn hH (draw_sound pl hm hc hd (opsF_mono (fun e' S' h => (forceE_iff _ _).1 h) _ _ _ fst)) fun g hg => ?_⟩
  have h2 := snd g hg
  rw [forceE_iff, forceE_iff, forceH_iff] at h2
  exact h2
end
end Go.Aw
