/- Contracts over several objects, and answers that are new objects. -/
import Derived.Test.YthilodmojjlaeaaAwLoop
set_option linter.unusedVariables false
set_option linter.unusedSimpArgs false
namespace Go.Aw
section
variable {P : Program}

/-- An operation of pxW in a region whose order is drawn: one that writes, one that reads, one that does neither. -/
theorem OpF.wr {vs : List PV} {S S' : Heap} {o : Oper} {p : PV} {K : PV → Heap → Prop} (hw : isWr o.op = true) (h : pxW False P vs S o (fun v s => v = p ∧ s = S')) (k : forceH S' fun S' => K p S') : OpF P vs S o K :=
  .mk p S' (pxW_pt h) (fun e => by rw [hw] at e; cases e) (fun e => by rw [hw] at e; cases e) ((forceH_iff _ _).1 k)
theorem OpF.rd {vs : List PV} {S : Heap} {o : Oper} {p : PV} {K : PV → Heap → Prop} (hr : isRd o.op = true) (h : pxW False P vs S o (fun v s => v = p ∧ s = S)) (k : forceP p fun p => K p S) : OpF P vs S o K :=
  .mk p S (pxW_pt h) (fun _ => rfl) (fun _ e => by rw [hr] at e; cases e) ((forceP_iff _ _).1 k)
theorem OpF.pure {vs : List PV} {S : Heap} {o : Oper} {p : PV} {K : PV → Heap → Prop} (h : ∀ S2, pxW False P vs S2 o (fun v s => v = p ∧ s = S2)) (k : forceP p fun p => K p S) : OpF P vs S o K :=
  .mk p S (pxW_pt (h S)) (fun _ => rfl) (fun _ _ S2 => pxW_pt (h S2)) ((forceP_iff _ _).1 k)
theorem Br.ne_self {a : Int} {X Y : Prop} (h : Y) : Br (a != a) X Y := ⟨fun e => absurd e (by simp), fun _ => h⟩
theorem Br.eq_self {a : Int} {X Y : Prop} (h : X) : Br (a == a) X Y := ⟨fun _ => h, fun e => absurd e (by simp)⟩
/-- A function that answers one value and leaves the objects as told. -/
def DetA (P : Program) (f : FuncId) (args : List PV) (S0 : Heap) (v : PV) (H : Heap) : Prop := CallsA P f args S0 (fun r S' => r = .ret v ∧ S' = H)

theorem PureA.det {f : FuncId} {args : List PV} {v : PV} (h : PureA P f args v) : DetA P f args [] v [] := h

/-- The objects sel of S are as the contract has them. -/
def SelOk (σ : Nat → Nat) (S : Heap) : List Nat → Heap → Prop
  | [], [] => True
  | s :: sel, x :: S0 => S[s]? = some (renO σ x) ∧ SelOk σ S sel S0
  | _, _ => False
theorem SelOk.len {σ : Nat → Nat} {S : Heap} : ∀ {sel : List Nat} {S0 : Heap}, SelOk σ S sel S0 → sel.length = S0.length
  | [], [], _ => rfl
  | s :: sel, x :: S0, h => by simp [SelOk.len h.2]
  | [], _ :: _, h => h.elim
  | _ :: _, [], h => h.elim
theorem SelOk.get {σ : Nat → Nat} {S : Heap} : ∀ {sel : List Nat} {S0 : Heap}, SelOk σ S sel S0 → ∀ {j s : Nat} {x : Ob}, sel[j]? = some s → S0[j]? = some x → S[s]? = some (renO σ x)
  | [], S0, h, j, s, x, hs, hx => by simp at hs
  | s :: sel, [], h, j, _, _, hs, hx => h.elim
  | s :: sel, y :: S0, h, 0, _, _, hs, hx => by simp at hs hx; subst hs hx; exact h.1
  | s :: sel, y :: S0, h, j + 1, _, _, hs, hx => SelOk.get h.2 (by simpa using hs) (by simpa using hx)

theorem DetA.frame {f : FuncId} {args0 args : List PV} {S0 H S S' : Heap} {v v' : PV} (h : DetA P f args0 S0 v H) (sel : List Nat)
    (hsel : SelOk (num sel S.length) S sel S0) (hn : (decide sel.Nodup && sel.all fun s => Nat.blt s S.length) = true) (hsc : (S0.all (Ob.sc S0.length) && scBs S0.length args0 && H.all (Ob.sc H.length) && scB H.length v) = true)
    (ha : renVs (num sel S.length) args0 = args) (hv : renV (num sel S.length) v = v') (hS : after sel S H = S') : DetA P f args S v' S' := by
  simp only [Bool.and_eq_true, decide_eq_true_eq, List.all_eq_true] at hn hsc
  obtain ⟨h1, h2⟩ := hn
  obtain ⟨⟨⟨g1, g2⟩, g3⟩, g4⟩ := hsc
  subst ha hv hS
  have := CallsA.frame h S sel h1 hsel.len (fun s hs => blt_lt (h2 s hs)) (fun j x hx => by
    have hj : j < sel.length := by rw [hsel.len]; exact (List.getElem?_eq_some_iff.1 hx).1
    rw [num_lt hj]
    exact hsel.get (List.getElem?_eq_getElem hj) hx) (List.all_eq_true.2 g1) g2 (fun r S' hr => by obtain ⟨rfl, rfl⟩ := hr; exact ⟨List.all_eq_true.2 g3, g4⟩)
  refine ⟨this.1, fun w0 F0 mods F ρ w cargs hs hc => (this.2 w0 F0 mods F ρ w cargs hs hc).mono fun e w' he => ?_⟩
  obtain ⟨r, S', F', ρ', ⟨r0, S0', ⟨rfl, rfl⟩, rfl, rfl⟩, q1, q2, q3⟩ := he
  exact ⟨_, _, F', ρ', ⟨rfl, rfl⟩, q1, q2, q3⟩

theorem DetA.call {f : FuncId} {args : List PV} {v : PV} {S S' : Heap} {K QP : PV → Heap → Prop} (h : DetA P f args S v S') (k : sizedP v → K v S') : CallW P f args S K QP :=
  ⟨CallX.intro h (fun p S' hr hz => by obtain ⟨e, rfl⟩ := hr; cases e; exact k hz) (fun p S' hr => by obtain ⟨e, rfl⟩ := hr; cases e)⟩
theorem DetA.callF {f : FuncId} {args : List PV} {v : PV} {S S' : Heap} {K : PV → Heap → Prop} (h : DetA P f args S v S') (k : K v S') : CallF P f args S K := ⟨v, S', h, k⟩

@[simp] theorem ren_lift (σ : Nat → Nat) (rows : List (List D)) : (liftR rows).map (renVs σ) = liftR rows := by
  simp only [liftR, List.map_map]
  apply List.map_congr_left
  intro r _
  exact renVs_map_d σ r
/-- The entries of a map from numbers to bytes. -/
abbrev wes (l : List (Int × Nat × List D)) : List (D × Nat × PV) := l.map fun e => (.i .i64 e.1, e.2.1, .wag [] 64 e.2.2 [])
@[simp] theorem ren_wes (σ : Nat → Nat) (l : List (Int × Nat × List D)) : (wes l).map (fun e => (e.1, e.2.1, renV σ e.2.2)) = wes l := by
  simp [wes, renV, renVs]
theorem sc_wes (n : Nat) (l : List (Int × Nat × List D)) (c : Nat) : Ob.sc n (.mapo (wes l) c) = true := by
  simp only [Ob.sc, Ob.cells, wes, List.map_map]
  induction l with
  | nil => rfl
  | cons e r ih => simp only [List.map_cons, scBs, Bool.and_eq_true]; exact ⟨rfl, ih⟩
theorem wes_int (l : List (Int × Nat × List D)) : intKeys .i64 (wes l) := by
  intro e he
  obtain ⟨x, _, rfl⟩ := List.mem_map.1 he
  exact ⟨x.1, rfl⟩

theorem scBs_app (n : Nat) : ∀ a b : List PV, scBs n (a ++ b) = (scBs n a && scBs n b)
  | [], b => by simp [scBs]
  | p :: a, b => by simp [scBs, scBs_app n a b, Bool.and_assoc]
theorem sc_arr {n m : Nat} {pre post : List PV} {run : List D} (h : (scBs n pre && scBs n post) = true) : Ob.sc n (.arr pre m run post) = true := by
  simp only [Ob.sc, Ob.cells, scBs_app, scBs_map_d, Bool.true_and]; exact h
theorem allC {p : Ob → Bool} {x : Ob} {S : Heap} (h : p x = true) (t : S.all p = true) : (x :: S).all p = true := by simp [h, t]
theorem allN {p : Ob → Bool} : ([] : Heap).all p = true := rfl

/-- A number of an object, written out. -/
def forceI (n : Nat) (k : Nat → Prop) : Prop := match Nat.beq n 0 with
  | true => k 0
  | false => match Nat.beq n 1 with
    | true => k 1
    | false => match Nat.beq n 2 with
      | true => k 2
      | false => match Nat.beq n 3 with
        | true => k 3
        | false => match Nat.beq n 4 with
          | true => k 4
          | false => match Nat.beq n 5 with
            | true => k 5
            | false => match Nat.beq n 6 with
              | true => k 6
              | false => match Nat.beq n 7 with
                | true => k 7
                | false => match Nat.beq n 8 with
                  | true => k 8
                  | false => match Nat.beq n 9 with
                    | true => k 9
                    | false => match Nat.beq n 10 with
                      | true => k 10
                      | false => match Nat.beq n 11 with
                        | true => k 11
                        | false => match Nat.beq n 12 with
                          | true => k 12
                          | false => match Nat.beq n 13 with
                            | true => k 13
                            | false => match Nat.beq n 14 with
                              | true => k 14
                              | false => match Nat.beq n 15 with
                                | true => k 15
                                | false => match Nat.beq n 16 with
                                  | true => k 16
                                  | false => match Nat.beq n 17 with
                                    | true => k 17
                                    | false => match Nat.beq n 18 with
                                      | true => k 18
                                      | false => match Nat.beq n 19 with
                                        | true => k 19
                                        | false => match Nat.beq n 20 with
                                          | true => k 20
                                          | false => match Nat.beq n 21 with
                                            | true => k 21
                                            | false => match Nat.beq n 22 with
                                              | true => k 22
                                              | false => match Nat.beq n 23 with
                                                | true => k 23
                                                | false => match Nat.beq n 24 with
                                                  | true => k 24
                                                  | false => match Nat.beq n 25 with
                                                    | true => k 25
                                                    | false => match Nat.beq n 26 with
                                                      | true => k 26
                                                      | false => match Nat.beq n 27 with
                                                        | true => k 27
                                                        | false => match Nat.beq n 28 with
                                                          | true => k 28
                                                          | false => match Nat.beq n 29 with
                                                            | true => k 29
                                                            | false => match Nat.beq n 30 with
                                                              | true => k 30
                                                              | false => match Nat.beq n 31 with
                                                                | true => k 31
                                                                | false => match Nat.beq n 32 with
                                                                  | true => k 32
                                                                  | false => match Nat.beq n 33 with
                                                                    | true => k 33
                                                                    | false => match Nat.beq n 34 with
                                                                      | true => k 34
                                                                      | false => match Nat.beq n 35 with
                                                                        | true => k 35
                                                                        | false => match Nat.beq n 36 with
                                                                          | true => k 36
                                                                          | false => match Nat.beq n 37 with
                                                                            | true => k 37
                                                                            | false => match Nat.beq n 38 with
                                                                              | true => k 38
                                                                              | false => match Nat.beq n 39 with
                                                                                | true => k 39
                                                                                | false => match Nat.beq n 40 with
                                                                                  | true => k 40
                                                                                  | false => k n
theorem forceI_iff (n : Nat) (k : Nat → Prop) : forceI n k ↔ k n := by
  have b : ∀ m, Nat.beq n m = true → n = m := fun m h => Nat.eq_of_beq_eq_true h
  unfold forceI
  repeat' split
  all_goals first | (rename_i h; rw [b _ h]) | rfl
/-! ### The objects that are answered -/
/-- How many objects are handed back is said at the end. -/
inductive RetM (k : Nat) (v : PV) (S : Heap) (R : ARes → Heap → Prop) : Prop
  | mk (m : Nat) (hm : k ≤ m) (x : pubW m S v fun r => keepW m S fun S' => R (.ret r) S')
/-- All but the last ones. -/
theorem RetM.drop {k : Nat} {v : PV} {S : Heap} {R : ARes → Heap → Prop} (n : Nat) (hm : Nat.ble k (S.length - n) = true) (x : forceI (S.length - n) fun m => pubW m S v fun r => keepW m S fun S' => R (.ret r) S') : RetM k v S R :=
  ⟨S.length - n, Nat.le_of_ble_eq_true hm, (forceI_iff _ _).1 x⟩
def retK (P : Program) (k : Nat) (rs : List ResultVar) (R : ARes → Heap → Prop) : Post := fun
  | .normal => fun e S => ressW P e S rs fun vs => forceP (tupP vs) fun v => RetM k v S R
  | .ret => fun e S => ressW P e S rs fun vs => forceP (tupP vs) fun v => RetM k v S R
  | .panic p => fun e S => pubW k S p fun r => keepW k S fun S' => R (.pan r) S'
  | .exit _ => fun _ _ => False
def retE (P : Program) (k : Nat) (rs : List ResultVar) (R : ARes → Heap → Prop) : Post := fun x e S => ∃ m, k ≤ m ∧ retQ P m rs R x e S
theorem retK_E {k : Nat} {rs : List ResultVar} {R : ARes → Heap → Prop} : ∀ x e S, retK P k rs R x e S → retE P k rs R x e S := fun x e S h => by
  cases x with
  | normal =>
    obtain ⟨vs, h1, h2⟩ := ressW_A rs h
    obtain ⟨m, hm, h3⟩ := (forceP_iff _ _).1 h2
    have : retW P m rs R .normal e S ∨ True := .inr trivial
    obtain ⟨r, g1, g2⟩ := pubW_A _ h3
    exact ⟨m, hm, vs, r, h1, g1, keepW_A g2⟩
  | ret =>
    obtain ⟨vs, h1, h2⟩ := ressW_A rs h
    obtain ⟨m, hm, h3⟩ := (forceP_iff _ _).1 h2
    obtain ⟨r, g1, g2⟩ := pubW_A _ h3
    exact ⟨m, hm, vs, r, h1, g1, keepW_A g2⟩
  | panic p => exact ⟨k, Nat.le_refl _, retW_A (.panic p) e S h⟩
  | exit i => exact h.elim

theorem callsA_ofE {f : FuncId} {fn : Func} {c : Code} {args : List PV} {S0 : Heap} {R : ARes → Heap → Prop} (hcall : ∀ args w, (callFunc f args).run P w = .ok (.enter f args) w) (hf : P.funcs[f]? = some fn) (hb : fn.body = some c)
    (hd : codeOk fn.ntmps c = true) (ha : args.length ≤ fn.ntmps) (h : AWs P S0.length fn.ntmps c (retE P S0.length fn.results.toList R) (env0 0 args) S0) : CallsA P f args S0 R := by
  refine ⟨hcall, fun w0 F0 mods F ρ w cargs hs hargs => ?_⟩
  have hlen : cargs.size = args.length := by
    have : ∀ (ps : List PV) (vs : List Value), RepTs w F ρ (info S0) ps vs → vs.length = ps.length := by
      intro ps
      induction ps with
      | nil => intro vs h; simp only [RepTs] at h; simp [h]
      | cons p r ih => intro vs h; simp only [RepTs] at h; obtain ⟨v, us, rfl, _, h3⟩ := h; simp [ih us h3]
    have := this _ _ hargs
    simpa using this
  let G : Ghost := { w0 := w, F0 := F, ρ0 := ρ, S0 := S0, nt := fn.ntmps }
  have hinit : Inv G (env0 0 args) S0 { tmps := cargs ++ Array.replicate (fn.ntmps - cargs.size) undef, defers := [] } w := by
    refine ⟨F, ρ, hs.start, fun t => ?_, Keeps.refl .., by simp [G]; omega, rfl⟩
    rcases look_env0 (i := 0) hargs t with h1 | ⟨h1, v, h2, h3⟩
    · rw [h1]; simp [RepPV]
    · have hlt : t < cargs.size := by have := (List.getElem?_eq_some_iff.1 h2).1; simpa using this
      have : (cargs ++ Array.replicate (fn.ntmps - cargs.size) undef).getD t undef = v := by
        have h2' : cargs[t]? = some v := by simpa using h2
        simp [Array.getElem?_append_left hlt, h2']
      simp only at this ⊢
      rw [this]
      exact h3
  have fin : ∀ (m : Nat) (a : Act) (w' : World) (F' : Nat → Prop) (ρ' : Nat → Option Nat) (e : Env) (S : Heap), S0.length ≤ m → InvAt G e S a w' F' ρ' → (S.take m).all (Ob.sc m) = true →
      St w0 F0 mods (Frozen F' ρ' S m) ρ' (S.take m) w' ∧ Keeps w w' F (Frozen F' ρ' S m) ρ ρ' (info S0) (info (S.take m)) := by
    intro m a w' F' ρ' e S hm hi hsc
    have h1 : St w F (fun b => ∃ o, Lives S0 ρ o b) F' ρ' S w' := hi.st
    exact ⟨hs.trans (h1.cut hsc), keeps_cut hi.keeps hm⟩
  have ret : ∀ (a : Act) (w' : World), (∃ e S, retE P S0.length fn.results.toList R .ret e S ∧ Inv G e S a w') → a.defers = [] ∧ ∃ v, (results fn a.tmps).run P w' = .ok v w' ∧
      ∃ r S' F' ρ', R r S' ∧ EndRep w' F' ρ' (info S') r (.returned v) ∧ St w0 F0 mods F' ρ' S' w' ∧ Keeps w w' F F' ρ ρ' (info S0) (info S') := by
    rintro a w' ⟨e, S, ⟨m, hm, vs, r, h1, h2, h3, h4, h5⟩, F', ρ', hi⟩
    obtain ⟨v, g1, g2⟩ := run_results hi h1
    obtain ⟨g3, g4⟩ := fin m a w' F' ρ' e S hm hi h4
    exact ⟨hi.defers, v, g1, .ret r, S.take m, _, ρ', h5, rep_pubV hi.st _ _ _ h2 g2, g3, g4⟩
  refine calls_of_wp hf hb (wp_mono (AWs_sound S0.length fn.ntmps c _ _ _ hd h G _ w rfl rfl hinit) fun en a w' hq => ?_)
  cases en with
  | normal => obtain ⟨e, S, h1, h2⟩ := hq; exact ret a w' ⟨e, S, h1, h2⟩
  | ret => exact ret a w' hq
  | exit id => obtain ⟨e, S, ⟨m, hm, h1⟩, h2⟩ := hq; exact h1.elim
  | goto l => exact hq.elim
  | outgrown => exact hq.elim
  | panic chain =>
    obtain ⟨e, S, v, p, F', ρ', rfl, ⟨m, hm, r, h1, h2, h3, h4⟩, hi, hv⟩ := hq
    obtain ⟨g3, g4⟩ := fin m a w' F' ρ' e S hm hi h3
    exact ⟨hi.defers, .pan r, S.take m, _, ρ', h4, ⟨v, rfl, rep_pubV hi.st _ _ _ h1 hv⟩, g3, g4⟩

/-- A function's contract, from its body, by reduction; the objects that are answered are told of at the end. -/
theorem callsK_of {f : FuncId} {fn : Func} {c : Code} {args : List PV} {S0 : Heap} {R : ARes → Heap → Prop} (hcall : ∀ args w, (callFunc f args).run P w = .ok (.enter f args) w) (hf : P.funcs[f]? = some fn) (hb : fn.body = some c)
    (hd : codeOk fn.ntmps c = true) (ha : args.length ≤ fn.ntmps) (h : AWw P S0.length fn.ntmps c (retK P S0.length fn.results.toList R) (env0 0 args) S0) : CallsA P f args S0 R :=
  callsA_ofE hcall hf hb hd ha (AWw_A c _ _ retK_E _ _ h)
mutual
theorem renV_id {σ : Nat → Nat} {n : Nat} (h : ∀ o, o < n → σ o = o) : ∀ (p : PV), scB n p = true → renV σ p = p
  | .any, _ => rfl
  | .d _, _ => rfl
  | .nils, _ => rfl
  | .ptr o c, hp => by simp only [scB, decide_eq_true_eq] at hp; simp only [renV, h o hp]
  | .dp _, _ => rfl
  | .own o sz k, hp => by simp only [scB, decide_eq_true_eq] at hp; simp only [renV, h o hp]
  | .eptr o k r sz c, hp => by simp only [scB, decide_eq_true_eq] at hp; simp only [renV, h o hp]
  | .agg cs, hp => by simp only [scB] at hp; simp only [renV, renVs_id h cs hp]
  | .tup cs, hp => by simp only [scB] at hp; simp only [renV, renVs_id h cs hp]
  | .wag pre n run post, hp => by simp only [scB, Bool.and_eq_true] at hp; simp only [renV, renVs_id h pre hp.1, renVs_id h post hp.2]
  | .asl o c lo len, hp => by simp only [scB, decide_eq_true_eq] at hp; simp only [renV, h o hp]
  | .rptr o c i, hp => by simp only [scB, decide_eq_true_eq] at hp; simp only [renV, h o hp]
  | .sub o sz off k k2, hp => by simp only [scB, decide_eq_true_eq] at hp; simp only [renV, h o hp]
  | .mp o, hp => by simp only [scB, decide_eq_true_eq] at hp; simp only [renV, h o hp]
theorem renVs_id {σ : Nat → Nat} {n : Nat} (h : ∀ o, o < n → σ o = o) : ∀ (l : List PV), scBs n l = true → renVs σ l = l
  | [], _ => rfl
  | p :: r, hp => by
    simp only [scBs, Bool.and_eq_true] at hp
    simp only [renVs, renV_id h p hp.1, renVs_id h r hp.2]
end
theorem renO_id {σ : Nat → Nat} {n : Nat} (h : ∀ o, o < n → σ o = o) {x : Ob} (hx : Ob.sc n x = true) : renO σ x = x := by
  cases x with
  | box cs => simp only [renO]; rw [renVs_id h cs hx]
  | buf rows =>
    simp only [renO]
    congr 1
    have : ∀ r ∈ rows, renVs σ r = r := fun r hr => by
      rw [renVs_eq]
      apply (List.map_congr_left fun p hp => ?_).trans (List.map_id _)
      exact renV_id h p (scBs_mem hx p (List.mem_flatten.2 ⟨r, hr, hp⟩))
    exact (List.map_congr_left this).trans (List.map_id _)
  | gone => rfl
  | fro rows => rfl
  | arr pre m run post =>
    have hm := scBs_mem hx
    simp only [Ob.cells] at hm
    simp only [renO, renVs_eq]
    rw [(List.map_congr_left fun p hp => renV_id h p (hm p (by simp [hp]))).trans (List.map_id pre), (List.map_congr_left fun p hp => renV_id h p (hm p (by simp [hp]))).trans (List.map_id post)]
  | mapo es c =>
    have hm := scBs_mem hx
    simp only [Ob.cells] at hm
    simp only [renO]
    congr 1
    refine (List.map_congr_left fun e he => ?_).trans (List.map_id _)
    rw [renV_id h e.2.2 (hm _ (List.mem_map.2 ⟨e, he, rfl⟩))]
    rfl
  | itr mo a l b =>
    have hm := scBs_mem hx (.mp mo) (by simp [Ob.cells])
    simp only [scB, decide_eq_true_eq] at hm
    simp only [renO, h mo hm]

theorem merge_range {σ : Nat → Nat} : ∀ (A S0 H X : Heap), H.length = S0.length → (∀ x ∈ H, renO σ x = x) → merge σ (A ++ (S0 ++ X)) (List.range' A.length S0.length) H = A ++ (H ++ X)
  | A, [], [], X, _, _ => by simp [merge]
  | A, [], y :: H, X, hl, _ => by simp at hl
  | A, x :: S0, [], X, hl, _ => by simp at hl
  | A, x :: S0, y :: H, X, hl, hr => by
    simp only [List.length_cons, List.range'_succ, merge, hr y (by simp)]
    have := merge_range (σ := σ) (A ++ [y]) S0 H X (by simpa using hl) (fun z hz => hr z (by simp [hz]))
    simp only [List.length_append, List.length_singleton, List.append_assoc, List.singleton_append] at this
    have e1 : List.set (A ++ (x :: S0 ++ X)) A.length y = A ++ y :: (S0 ++ X) := by rw [List.set_append_right _ _ (Nat.le_refl _)]; simp
    rw [e1, this]
    rfl

/-- A contract, where more objects lie behind those that it speaks of. -/
theorem DetA.more {f : FuncId} {args : List PV} {S0 H : Heap} {v : PV} (h : DetA P f args S0 v H) (X : Heap) (hl : H.length = S0.length) (hsc : (scBs S0.length args && scB H.length v) = true) (hs : S0.all (Ob.sc S0.length) = true) (hh : H.all (Ob.sc H.length) = true) :
    DetA P f args (S0 ++ X) v (H ++ X) := by
  simp only [Bool.and_eq_true] at hsc
  have hσ : ∀ o, o < S0.length → num (List.range S0.length) (S0 ++ X).length o = o := fun o ho => by rw [num_lt (by simpa using ho)]; simp
  have hS := List.all_eq_true.1 hs
  have hH := List.all_eq_true.1 hh
  have hσH : ∀ x ∈ H, renO (num (List.range S0.length) (S0 ++ X).length) x = x := fun x hx => renO_id hσ (by have := hH x hx; rwa [hl] at this)
  have := CallsA.frame h (S0 ++ X) (List.range S0.length) List.nodup_range (by simp) (fun s hs => by simp at hs; simp; omega) (fun j x hx => by
    have hj := (List.getElem?_eq_some_iff.1 hx).1
    rw [hσ j hj, List.getElem?_append_left hj, hx, renO_id hσ (hS x (List.mem_of_getElem? hx))]) hs hsc.1 (fun r S' hr => by obtain ⟨rfl, rfl⟩ := hr; exact ⟨hh, hsc.2⟩)
  rw [renVs_id hσ _ hsc.1] at this
  refine ⟨this.1, fun w0 F0 mods F ρ w cargs hs hc => (this.2 w0 F0 mods F ρ w cargs hs hc).mono fun e w' he => ?_⟩
  obtain ⟨r, S', F', ρ', ⟨r0, S0', ⟨rfl, rfl⟩, rfl, rfl⟩, q1, q2, q3⟩ := he
  have e1 : renR (num (List.range S0.length) (S0 ++ X).length) (.ret v) = .ret v := by simp only [renR]; rw [renV_id hσ _ (by rw [← hl]; exact hsc.2)]
  have e2 : after (List.range S0.length) (S0 ++ X) S0' = S0' ++ X := by
    unfold after
    rw [List.take_of_length_le (by simp [hl]), List.drop_eq_nil_of_le (by simp [hl]), List.map_nil, List.append_nil]
    have := merge_range (σ := num (List.range S0.length) (S0 ++ X).length) [] S0 S0' X hl hσH
    simpa [List.range_eq_range'] using this
  rw [e1] at q1
  rw [e2] at q1 q2 q3
  exact ⟨_, _, F', ρ', ⟨rfl, rfl⟩, q1, q2, q3⟩

theorem renLift (σ : Nat → Nat) (rows : List (List D)) : renO σ (.buf (liftR rows)) = .buf (liftR rows) := by simp only [renO, ren_lift]
theorem renWes (σ : Nat → Nat) (l : List (Int × Nat × List D)) (c : Nat) : renO σ (.mapo (wes l) c) = .mapo (wes l) c := by simp only [renO, ren_wes]
/-- The objects under the caller's numbers. -/
inductive RenL (σ : Nat → Nat) : Heap → Heap → Prop
  | nil : RenL σ [] []
  | cons {x y : Ob} {H H' : Heap} (h : renO σ x = y) (t : RenL σ H H') : RenL σ (x :: H) (y :: H')
theorem RenL.eq {σ : Nat → Nat} {H H' : Heap} (h : RenL σ H H') : H' = H.map (renO σ) := by
  induction h with
  | nil => rfl
  | cons h t ih => simp [h, ih]
def setAll : Heap → List Nat → Heap → Heap
  | S, s :: sel, x :: xs => setAll (S.set s x) sel xs
  | S, [], xs => S ++ xs
  | S, _ :: _, [] => S
theorem setAll_after {σ : Nat → Nat} : ∀ {S : Heap} {sel : List Nat} {H : Heap}, sel.length ≤ H.length → setAll S sel (H.map (renO σ)) = merge σ S sel (H.take sel.length) ++ (H.drop sel.length).map (renO σ)
  | S, [], H, _ => by simp [setAll, merge]
  | S, s :: sel, [], h => by simp at h
  | S, s :: sel, x :: H, h => by
    simp only [List.map_cons, setAll, List.length_cons, List.take_succ_cons, List.drop_succ_cons, merge]
    exact setAll_after (by simpa using h)

def normP (p : PV) (k : PV → Prop) : Prop := match p with
  | .ptr o c => forceI o fun o => k (.ptr o c)
  | .own o sz n => forceI o fun o => k (.own o sz n)
  | .mp o => forceI o fun o => k (.mp o)
  | .sub o sz off n m => forceI o fun o => k (.sub o sz off n m)
  | .asl o c lo len => forceI o fun o => k (.asl o c lo len)
  | p => forceP p k
theorem normP_iff (p : PV) (k : PV → Prop) : normP p k ↔ k p := by
  unfold normP
  split
  · rename_i o c; exact forceI_iff o fun o => k (.ptr o c)
  · rename_i o sz n; exact forceI_iff o fun o => k (.own o sz n)
  · rename_i o; exact forceI_iff o fun o => k (.mp o)
  · rename_i o sz off n m; exact forceI_iff o fun o => k (.sub o sz off n m)
  · rename_i o c lo len; exact forceI_iff o fun o => k (.asl o c lo len)
  · exact forceP_iff _ _
def normPs (l : List PV) (k : List PV → Prop) : Prop := match l with
  | [] => k []
  | p :: r => normP p fun p' => normPs r fun r' => k (p' :: r')
theorem normPs_iff (l : List PV) (k : List PV → Prop) : normPs l k ↔ k l := by
  induction l generalizing k with
  | nil => rfl
  | cons x r ih => exact (normP_iff x _).trans (ih _)
/-- A value that a call answers: one, or a few. -/
def normV (p : PV) (k : PV → Prop) : Prop := match p with
  | .tup vs => normPs vs fun vs => k (.tup vs)
  | p => normP p k
theorem normV_iff (p : PV) (k : PV → Prop) : normV p k ↔ k p := by
  unfold normV
  split
  · rename_i vs; exact normPs_iff vs fun vs => k (.tup vs)
  · exact normP_iff _ _
def normH (l : Heap) (k : Heap → Prop) : Prop := match l with
  | [] => k []
  | .box cs :: r => normPs cs fun cs => normH r fun r => k (.box cs :: r)
  | x :: r => forceOb x fun x => normH r fun r => k (x :: r)
theorem normH_iff (l : Heap) (k : Heap → Prop) : normH l k ↔ k l := by
  induction l generalizing k with
  | nil => rfl
  | cons x r ih =>
    unfold normH
    split
    · rename_i e; cases e
    · rename_i cs r' e; cases e; exact (normPs_iff cs _).trans (ih _)
    · rename_i x' r' _ e; cases e; exact (forceOb_iff _ _).trans (ih _)

/-- A call of a function that is handed the objects sel. -/
theorem callD {f : FuncId} {args0 args : List PV} {S0 H S H' : Heap} {v v' : PV} {K QP : PV → Heap → Prop} (h : DetA P f args0 S0 v H) (sel : List Nat)
    (hsel : SelOk (num sel S.length) S sel S0) (hn : (decide sel.Nodup && sel.all (fun s => Nat.blt s S.length) && Nat.ble sel.length H.length) = true) (hs0 : S0.all (Ob.sc S0.length) = true) (hh : H.all (Ob.sc H.length) = true) (hsc : (scBs S0.length args0 && scB H.length v) = true)
    (ha : renVs (num sel S.length) args0 = args) (hv : renV (num sel S.length) v = v') (hr : RenL (num sel S.length) H H') (k : sizedP v' → normV v' fun v' => normH (setAll S sel H') fun S' => K v' S') : CallW P f args S K QP := by
  simp only [Bool.and_eq_true] at hn hsc
  have := h.frame (S := S) sel hsel (by simp only [Bool.and_eq_true]; exact hn.1) (by simp only [Bool.and_eq_true]; exact ⟨⟨⟨hs0, hsc.1⟩, hh⟩, hsc.2⟩) ha hv rfl
  refine this.call fun hz => ?_
  have k := (normH_iff _ _).1 ((normV_iff _ _).1 (k hz))
  rwa [hr.eq, setAll_after (Nat.le_of_ble_eq_true hn.2)] at k
theorem callDF {f : FuncId} {args0 args : List PV} {S0 H S H' : Heap} {v v' : PV} {K : PV → Heap → Prop} (h : DetA P f args0 S0 v H) (sel : List Nat)
    (hsel : SelOk (num sel S.length) S sel S0) (hn : (decide sel.Nodup && sel.all (fun s => Nat.blt s S.length) && Nat.ble sel.length H.length) = true) (hs0 : S0.all (Ob.sc S0.length) = true) (hh : H.all (Ob.sc H.length) = true) (hsc : (scBs S0.length args0 && scB H.length v) = true)
    (ha : renVs (num sel S.length) args0 = args) (hv : renV (num sel S.length) v = v') (hr : RenL (num sel S.length) H H') (k : normV v' fun v' => normH (setAll S sel H') fun S' => K v' S') : CallF P f args S K := by
  simp only [Bool.and_eq_true] at hn hsc
  have := h.frame (S := S) sel hsel (by simp only [Bool.and_eq_true]; exact hn.1) (by simp only [Bool.and_eq_true]; exact ⟨⟨⟨hs0, hsc.1⟩, hh⟩, hsc.2⟩) ha hv rfl
  refine this.callF ?_
  have k := (normH_iff _ _).1 ((normV_iff _ _).1 k)
  rwa [hr.eq, setAll_after (Nat.le_of_ble_eq_true hn.2)] at k

/-- Some of the objects, under other numbers. -/
theorem St.pick {w0 w : World} {F0 mods F : Nat → Prop} {ρ : Nat → Option Nat} {S S' : Heap} (h : St w0 F0 mods F ρ S w) {τ : Nat → Nat} (hi : ∀ i j, i < S'.length → j < S'.length → τ i = τ j → i = j)
    (hs : ∀ j x, S'[j]? = some x → S[τ j]? = some (renO τ x)) (hsc : S'.all (Ob.sc S'.length) = true) : St w0 F0 mods F (fun j => ρ (τ j)) S' w := by
  have hinf : ∀ o, o < S'.length → info S (τ o) = info S' o ∧ ρ (τ o) = (fun j => ρ (τ j)) o := fun o ho => by
    have hx := List.getElem?_eq_getElem ho
    refine ⟨?_, rfl⟩
    rw [info_of (hs o _ hx), info_of hx, renO_info]
  have lv : ∀ o b, Lives S' (fun j => ρ (τ j)) o b → o < S'.length ∧ Lives S ρ (τ o) b := by
    rintro o b ⟨h1, x, h2, h3⟩
    exact ⟨(List.getElem?_eq_some_iff.1 h2).1, h1, _, hs o x h2, by cases x <;> simp_all [renO]⟩
  refine ⟨fun o x hx => ?_, fun o o' b h1 h2 => ?_, fun o b h1 => h.notF _ b (lv o b h1).2, h.bound, fun o b h1 => h.mine _ b (lv o b h1).2, h.grow, h.os, h.tape, h.output, h.keep, h.bsize, h.f0, h.fnew⟩
  · have hsx : scBs S'.length x.cells = true := List.all_eq_true.1 hsc x (List.mem_of_getElem? hx)
    exact (RepOb.ren (n := S'.length) (σ := τ) hinf rfl hsx).1 (h.objs _ _ (hs o x hx))
  · exact hi o o' (lv o b h1).1 (lv o' b h2).1 (h.inj _ _ b (lv o b h1).2 (lv o' b h2).2)

theorem DetA.pick {f : FuncId} {args : List PV} {S0 H H' : Heap} {v v' : PV} (h : DetA P f args S0 v H) (sel : List Nat) (hsel : SelOk (num sel H.length) H sel H')
    (hn : (decide sel.Nodup && sel.all (fun s => Nat.blt s H.length) && scB H'.length v' && Nat.ble S0.length H'.length && decide (sel.take S0.length = List.range S0.length)) = true) (n3 : H'.all (Ob.sc H'.length) = true)
    (hv : renV (num sel H.length) v' = v) : DetA P f args S0 v' H' := by
  simp only [Bool.and_eq_true, decide_eq_true_eq] at hn
  obtain ⟨⟨⟨⟨n1, n2⟩, n4⟩, n5⟩, n6⟩ := hn
  have n2 := List.all_eq_true.1 n2
  have n5 := Nat.le_of_ble_eq_true n5
  have hl := hsel.len
  subst hv
  let τ := num sel H.length
  have hτ : ∀ j, j < S0.length → τ j = j := fun j hj => by
    have e := num_lt (sel := sel) (n := H.length) (j := j) (by omega)
    have : (sel.take S0.length)[j]? = (List.range S0.length)[j]? := by rw [n6]
    rw [List.getElem?_take_of_lt hj, List.getElem?_range hj, List.getElem?_eq_getElem (by omega)] at this
    simp only [Option.some.injEq] at this
    exact e.trans this
  have hs : ∀ j x, H'[j]? = some x → H[τ j]? = some (renO τ x) := fun j x hx => by
    have hj : j < sel.length := by rw [hl]; exact (List.getElem?_eq_some_iff.1 hx).1
    show H[num sel H.length j]? = _
    rw [num_lt hj]
    exact hsel.get (List.getElem?_eq_getElem hj) hx
  refine ⟨h.1, fun w0 F0 mods F ρ w cargs hst hc => (h.2 w0 F0 mods F ρ w cargs hst hc).mono fun e w' he => ?_⟩
  obtain ⟨r, S1, F', ρ', ⟨rfl, rfl⟩, q1, q2, q3⟩ := he
  have hst' := q2.pick (τ := τ) (S' := H') (fun i j hi hj he => num_inj n1 (fun s hs => blt_lt (n2 s hs)) he) hs n3
  have hinf : ∀ o, o < H'.length → info S1 (τ o) = info H' o ∧ ρ' (τ o) = (fun j => ρ' (τ j)) o := fun o ho => by
    have hx := List.getElem?_eq_getElem ho
    refine ⟨?_, rfl⟩
    rw [info_of (hs o _ hx), info_of hx, renO_info]
  have hk : ∀ o, info S0 o ≠ .fresh → info H' o = info S1 o ∧ ρ' (τ o) = ρ' o := fun o ho => by
    have hlt := info_lt ho
    rw [← (hinf o (by omega)).1, hτ o hlt]
    exact ⟨rfl, rfl⟩
  refine ⟨.ret v', H', F', fun j => ρ' (τ j), ⟨rfl, rfl⟩, ?_, hst', ⟨q3.same, q3.sub, q3.size, fun o ho => ?_, fun o ho hx => ?_, fun o m ho hx => ?_⟩⟩
  · cases e with
    | returned u => exact (rep_ren (n := H'.length) (σ := τ) hinf v' u n4).1 q1
    | panicked c => exact q1.elim
    | outgrown => exact q1.elim
  · rw [(hk o ho).1]; exact q3.old o ho
  · rw [(hk o ho).1] at hx
    obtain ⟨g1, g2⟩ := q3.box o ho hx
    exact ⟨g1, (hk o ho).2.trans g2⟩
  · rw [(hk o ho).1] at hx
    obtain ⟨m', g1, g2, g3⟩ := q3.buf o m ho hx
    exact ⟨m', g1, g2, fun e => (hk o ho).2.trans (g3 e)⟩
end
end Go.Aw
