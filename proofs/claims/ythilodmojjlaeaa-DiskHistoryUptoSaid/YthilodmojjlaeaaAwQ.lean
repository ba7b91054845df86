/- Every order of a region comes to what the text's order comes to: the proof. -/
import Derived.Test.YthilodmojjlaeaaAwP
set_option linter.unusedVariables false
set_option linter.unusedSimpArgs false
namespace Go.Aw

/-- The value of the last one that is chosen and done. -/
def lastN {α : Type} (sel : Nat → Bool) (L : Nat → Bool) (val : Nat → α) (base : α) : Nat → α
  | 0 => base
  | i + 1 => if L i && sel i then val i else lastN sel L val base i

theorem lastN_lex {α : Type} {sel L : Nat → Bool} {val : Nat → α} {base : α} {i : Nat} : ∀ {m : Nat}, i ≤ m → (∀ j, j < m → sel j = true → (L j = true ↔ j < i)) →
    lastN sel L val base m = lastN sel (fun _ => true) val base i
  | 0, hi, h => by
    have : i = 0 := by omega
    subst this; rfl
  | m + 1, hi, h => by
    by_cases e : i = m + 1
    · subst e
      have key : ∀ k, k ≤ m + 1 → lastN sel L val base k = lastN sel (fun _ => true) val base k := by
        intro k
        induction k with
        | zero => intro _; rfl
        | succ k ih =>
          intro hk
          simp only [lastN]
          rw [ih (by omega)]
          cases hs : sel k with
          | false => simp
          | true => have := (h k (by omega) hs).2 (by omega); simp [this]
      exact key _ (Nat.le_refl _)
    · have hl : ¬ (L m && sel m) = true := by
        intro hc
        simp only [Bool.and_eq_true] at hc
        have := (h m (by omega) hc.2).1 hc.1
        omega
      simp only [lastN]
      rw [if_neg hl]
      exact lastN_lex (by omega) fun j hj => h j (by omega)

theorem lastN_done {α : Type} {sel L L' : Nat → Bool} {val : Nat → α} {base : α} {i : Nat} (hL : ∀ j, L' j = (L j || j == i)) (hs : sel i = true) : ∀ {m : Nat}, i < m → (∀ j, j < m → i < j → sel j = true → L j = false) →
    lastN sel L' val base m = val i
  | 0, hi, h => by omega
  | m + 1, hi, h => by
    simp only [lastN]
    by_cases e : i = m
    · subst e
      rw [if_pos (by simp [hL, hs])]
    · rw [if_neg ?_, lastN_done hL hs (by omega) fun j hj => h j (by omega)]
      simp only [hL, Bool.and_eq_true, Bool.or_eq_true, beq_iff_eq]
      rintro ⟨h1 | h1, h2⟩
      · have := h m (by omega) (by omega) h2; simp_all
      · omega

theorem lastN_same {α : Type} {sel L L' : Nat → Bool} {val : Nat → α} {base : α} {i : Nat} (hL : ∀ j, L' j = (L j || j == i)) (hs : sel i = false) : ∀ {m : Nat}, lastN sel L' val base m = lastN sel L val base m
  | 0 => rfl
  | m + 1 => by
    simp only [lastN]
    rw [lastN_same hL hs]
    by_cases e : m = i
    · subst e; simp [hs]
    · simp [hL, e]

theorem lastN_none {α : Type} {sel L : Nat → Bool} {val : Nat → α} {base : α} (hL : ∀ j, L j = false) : ∀ m, lastN sel L val base m = base
  | 0 => rfl
  | m + 1 => by
    simp only [lastN]
    rw [hL m, lastN_none hL m]
    simp

theorem getD_replicate_false (n i : Nat) : (Array.replicate n false).getD i false = false := by
  rw [Array.getD_eq_getD_getElem?, Array.getElem?_replicate]
  split <;> rfl

section
variable {P : Program}

/-- The text's order, step by step: the slots and the objects ahead of each. -/
structure Lex (P : Program) (ops : Array Oper) (pl : List Nat) (E : Nat → Env) (H : Nat → Heap) : Prop where
  step : ∀ i o, ops[i]? = some o → stepF P ops pl i o (fun e' S' => e' = E (i + 1) ∧ S' = H (i + 1)) (E i) (H i)
  other : ∀ i t, dstAt ops i ≠ some t → look (E (i + 1)) t = look (E i) t
  keep : ∀ i, wrAt ops pl i = false → H (i + 1) = H i

theorem look_put_ne {e : Env} {d : Option Nat} {v : PV} {t : Nat} (h : d ≠ some t) : look (put e d v) t = look e t := by
  cases d with
  | none => rfl
  | some s =>
    simp only [put, look]
    rw [if_neg (fun e => h (by rw [e]))]

theorem stepF_point {ops : Array Oper} {pl : List Nat} {i : Nat} {o : Oper} (ho : ops[i]? = some o) {K : Env → Heap → Prop} {e : Env} {S : Heap} (h : stepF P ops pl i o K e S) :
    ∃ e' S', stepF P ops pl i o (fun x y => x = e' ∧ y = S') e S ∧ K e' S' ∧ (∀ t, o.dst ≠ some t → look e' t = look e t) ∧ (wrAt ops pl i = false → S' = S) := by
  have hwr : ¬ pl.contains i = true → wrAt ops pl i = false → isWr o.op = false := fun hn h => by
    simp only [wrAt, ho] at h
    cases hw : isWr o.op with
    | false => rfl
    | true => rw [hw] at h; simp at h hn; exact absurd h hn
  unfold stepF at h
  split at h
  · rename_i hg
    split at h
    · rename_i hp
      obtain ⟨p, h1, h2⟩ := h
      refine ⟨_, S, ?_, h2, fun t ht => look_put_ne ht, fun _ => rfl⟩
      unfold stepF
      rw [hg]
      simp only
      rw [if_pos hp]
      exact ⟨p, h1, by simp⟩
    · rename_i hp
      obtain ⟨v, S', h1, h2, h3, _⟩ := execF_point h
      refine ⟨_, S', ?_, h2, fun t ht => look_put_ne ht, fun h => h3 (hwr hp h)⟩
      unfold stepF
      rw [hg]
      simp only
      rw [if_neg hp]
      exact h1 _ ⟨rfl, rfl⟩
  · rename_i j want hg
    split at h
    · rename_i t ht
      obtain ⟨b, hb, h1, h2⟩ := h
      have hlook : ∀ c, b = c → ∀ s, look ((t, PV.d (.b c)) :: e) s = look e s := fun c hc s => by
        simp only [look]
        by_cases hs : s = t
        · subst hs; rw [if_pos rfl, hb, hc]
        · rw [if_neg hs]
      by_cases hbw : b = want
      · have h1 := h1 hbw
        split at h1
        · rename_i hp
          obtain ⟨p, g1, g2⟩ := h1
          refine ⟨_, S, ?_, g2, fun s hs => (look_put_ne hs).trans (hlook _ hbw s), fun _ => rfl⟩
          unfold stepF
          rw [hg]
          simp only [ht]
          refine ⟨b, hb, fun _ => ?_, fun hn => ?_⟩
          · rw [if_pos hp]; exact ⟨p, g1, by simp⟩
          · rw [hbw] at hn; cases want <;> simp at hn
        · rename_i hp
          obtain ⟨v, S', g1, g2, g3, _⟩ := execF_point h1
          refine ⟨_, S', ?_, g2, fun s hs => (look_put_ne hs).trans (hlook _ hbw s), fun h => g3 (hwr hp h)⟩
          unfold stepF
          rw [hg]
          simp only [ht]
          refine ⟨b, hb, fun _ => ?_, fun hn => ?_⟩
          · rw [if_neg hp]; exact g1 _ ⟨rfl, rfl⟩
          · rw [hbw] at hn; cases want <;> simp at hn
      · have hbn : b = !want := by cases b <;> cases want <;> simp_all
        refine ⟨_, S, ?_, h2 hbn, fun s hs => (look_put_ne hs).trans (hlook _ hbn s), fun _ => rfl⟩
        unfold stepF
        rw [hg]
        simp only [ht]
        exact ⟨b, hb, fun he => absurd he hbw, fun _ => by simp⟩
    · exact h.elim

/-- The whole list, cut into its steps. -/
theorem lex_of {ops : Array Oper} {pl : List Nat} {Q : Env → Heap → Prop} : ∀ (m i : Nat) (e : Env) (S : Heap), i + m = ops.size → opsF P ops pl Q (List.range' i m) e S →
    ∃ (E : Nat → Env) (H : Nat → Heap), E i = e ∧ H i = S ∧ (∀ k, i ≤ k → ∀ o, ops[k]? = some o → stepF P ops pl k o (fun e' S' => e' = E (k + 1) ∧ S' = H (k + 1)) (E k) (H k)) ∧
      (∀ k, i ≤ k → ∀ t, dstAt ops k ≠ some t → look (E (k + 1)) t = look (E k) t) ∧ (∀ k, i ≤ k → wrAt ops pl k = false → H (k + 1) = H k) ∧ Q (E ops.size) (H ops.size)
  | 0, i, e, S, hm, h => by
    refine ⟨fun _ => e, fun _ => S, rfl, rfl, fun k hk o ho => ?_, fun k hk t _ => rfl, fun k hk _ => rfl, h⟩
    have := (Array.getElem?_eq_some_iff.1 ho).1
    omega
  | m + 1, i, e, S, hm, h => by
    have hlt : i < ops.size := by omega
    have ho : ops[i]? = some ops[i] := Array.getElem?_eq_getElem hlt
    simp only [List.range'_succ, opsF, ho] at h
    obtain ⟨e', S', h1, h2, h3, h4⟩ := stepF_point ho h
    obtain ⟨E, H, g1, g2, g3, g4, g5, g6⟩ := lex_of m (i + 1) e' S' (by omega) h2
    refine ⟨fun k => if k = i then e else E k, fun k => if k = i then S else H k, by simp, by simp, fun k hk o hok => ?_, fun k hk t ht => ?_, fun k hk hw => ?_, by show Q (if ops.size = i then e else E ops.size) (if ops.size = i then S else H ops.size); rw [if_neg (by omega), if_neg (by omega)]; exact g6⟩
    · by_cases e1 : k = i
      · subst e1
        rw [ho] at hok; cases hok
        simp only [if_true, if_neg (show ¬ k + 1 = k by omega), g1, g2]
        exact h1
      · simp only [if_neg e1, if_neg (show ¬ k + 1 = i by omega)]
        exact g3 k (by omega) o hok
    · by_cases e1 : k = i
      · subst e1
        simp only [if_true, if_neg (show ¬ k + 1 = k by omega), g1]
        exact h3 t (by simpa [dstAt, ho] using ht)
      · simp only [if_neg e1, if_neg (show ¬ k + 1 = i by omega)]
        exact g4 k (by omega) t ht
    · by_cases e1 : k = i
      · subst e1
        simp only [if_true, if_neg (show ¬ k + 1 = k by omega), g2]
        exact h4 hw
      · simp only [if_neg e1, if_neg (show ¬ k + 1 = i by omega)]
        exact g5 k (by omega) hw

/-- The slots as they stand when the operations L have been carried out. -/
def envL (ops : Array Oper) (E : Nat → Env) (L : Nat → Bool) : Nat → Env
  | 0 => E 0
  | i + 1 => if L i = true then put (envL ops E L i) (dstAt ops i) (look (E (i + 1)) ((dstAt ops i).getD 0)) else envL ops E L i

def selT (ops : Array Oper) (t : Nat) (i : Nat) : Bool := decide (dstAt ops i = some t)

theorem look_envL {ops : Array Oper} {E : Nat → Env} {L : Nat → Bool} {t : Nat} : ∀ m, look (envL ops E L m) t = lastN (selT ops t) L (fun i => look (E (i + 1)) t) (look (E 0) t) m
  | 0 => rfl
  | m + 1 => by
    have ih := look_envL (ops := ops) (E := E) (L := L) (t := t) m
    simp only [envL, lastN, selT, Bool.and_eq_true, decide_eq_true_eq]
    by_cases hL : L m = true
    · rw [if_pos hL]
      by_cases hd : dstAt ops m = some t
      · rw [if_pos ⟨hL, hd⟩, hd]
        simp [put, look]
      · rw [if_neg (fun h => hd h.2), look_put_ne hd]
        exact ih
    · rw [if_neg hL, if_neg (fun h => hL h.1)]
      exact ih

theorem look_lex {ops : Array Oper} {E : Nat → Env} (hother : ∀ i t, dstAt ops i ≠ some t → look (E (i + 1)) t = look (E i) t) (t : Nat) : ∀ i, lastN (selT ops t) (fun _ => true) (fun i => look (E (i + 1)) t) (look (E 0) t) i = look (E i) t
  | 0 => rfl
  | i + 1 => by
    simp only [lastN, selT, Bool.true_and]
    by_cases h : dstAt ops i = some t
    · rw [if_pos (by simp [h])]
    · rw [if_neg (by simpa using h), hother i t h]
      exact look_lex hother t i

def heapL (ops : Array Oper) (pl : List Nat) (H : Nat → Heap) (L : Nat → Bool) (m : Nat) : Heap := lastN (wrAt ops pl) L (fun i => H (i + 1)) (H 0) m

theorem heap_lex {ops : Array Oper} {pl : List Nat} {H : Nat → Heap} (hkeep : ∀ i, wrAt ops pl i = false → H (i + 1) = H i) : ∀ i, lastN (wrAt ops pl) (fun _ => true) (fun i => H (i + 1)) (H 0) i = H i
  | 0 => rfl
  | i + 1 => by
    simp only [lastN, Bool.true_and]
    by_cases h : wrAt ops pl i = true
    · rw [if_pos h]
    · rw [if_neg h, hkeep i (by simpa using h)]
      exact heap_lex hkeep i

theorem Inv.look {G : Ghost} {e e' : Env} {S : Heap} {a : Act} {w : World} (h : Inv G e S a w) (hl : ∀ t, look e' t = look e t) : Inv G e' S a w := by
  obtain ⟨F, ρ, hi⟩ := h
  exact ⟨F, ρ, hi.st, fun t => by rw [hl t]; exact hi.env t, hi.keeps, hi.nt, hi.defers⟩

theorem anc_listed {ops : Array Oper} {A : Nat → Nat → Bool} (hA : ancOk ops A = true) {L : Nat → Bool} (hdown : ∀ i o, ops[i]? = some o → L i = true → ∀ e ∈ o.after, Region.binds .any e = true → L e.on = true) :
    ∀ (i j : Nat), j < ops.size → A j i = true → (∀ o, ops[i]? = some o → ∀ e ∈ o.after, Region.binds .any e = true → L e.on = true) → i < ops.size → L j = true := by
  intro i
  induction i using Nat.strongRecOn with
  | _ i ih =>
    intro j hj haj hdeps hi
    have ho : ops[i]? = some ops[i] := Array.getElem?_eq_getElem hi
    have h1 := List.all_eq_true.1 hA i (List.mem_range.2 hi)
    rw [ho] at h1
    simp only [Bool.and_eq_true] at h1
    have h2 := List.all_eq_true.1 h1.2 j (List.mem_range.2 hj)
    simp only [haj, Bool.not_true, Bool.false_or] at h2
    obtain ⟨e, he, h3⟩ := List.any_eq_true.1 h2
    simp only [Bool.and_eq_true, Bool.or_eq_true, beq_iff_eq] at h3
    have hea : e ∈ ops[i].after := by simpa using he
    have hlt : e.on < i := by
      have := List.all_eq_true.1 h1.1 e he
      simp only [h3.1, Bool.not_true, Bool.false_or, decide_eq_true_eq] at this
      exact this
    have hl := hdeps _ ho e hea h3.1
    rcases h3.2 with h4 | h4
    · rw [← h4]; exact hl
    · exact ih e.on hlt j hj h4 (fun o' ho' e' he' hb' => hdown e.on o' ho' hl e' he' hb') (by omega)

/-- The look's own word: two that may meet are ordered. -/
theorem chk_meet {ops : Array Oper} {pl : List Nat} {A : Nat → Nat → Bool} (h : ((List.range ops.size).all fun i => (List.range i).all fun j => !(meetB ops pl i j || meetB ops pl j i) || A j i) = true) {i j : Nat} (hi : i < ops.size) (hj : j < ops.size)
    (hm : meetB ops pl i j = true ∨ meetB ops pl j i = true) (hne : i ≠ j) : (j < i ∧ A j i = true) ∨ (i < j ∧ A i j = true) := by
  rcases Nat.lt_or_ge j i with hlt | hge
  · left
    have := List.all_eq_true.1 (List.all_eq_true.1 h i (List.mem_range.2 hi)) j (List.mem_range.2 hlt)
    rcases hm with hm | hm <;> simp [hm] at this <;> exact ⟨hlt, this⟩
  · right
    have hlt : i < j := by omega
    have := List.all_eq_true.1 (List.all_eq_true.1 h j (List.mem_range.2 hj)) i (List.mem_range.2 hlt)
    rcases hm with hm | hm <;> simp [hm] at this <;> exact ⟨hlt, this⟩

theorem draw_sound {k nt id : Nat} {ops : Array Oper} {Q : Post} {e : Env} {S : Heap} (pl : List Nat) (hm : P.follows .mixedOrders = true) (hc : drawChk ops pl = true) (hd : ops.all (dstOk nt) = true)
    (h : opsF P ops pl (Q .normal) (List.range ops.size) e S) : DrawA P k nt id ops Q e S := by
  intro G a w hk hn hi
  simp only [drawChk, Bool.and_eq_true] at hc
  obtain ⟨hA, hmeet⟩ := hc
  rw [List.range_eq_range'] at h
  obtain ⟨E, H, hE0, hH0, hstep0, hother0, hkeep0, hQ⟩ := lex_of ops.size 0 e S (by omega) h
  have hstep := fun i => hstep0 i (Nat.zero_le i)
  have hother := fun i => hother0 i (Nat.zero_le i)
  have hkeep := fun i => hkeep0 i (Nat.zero_le i)
  refine wp_region_any hm ?_
  have key : ∀ (fuel : Nat) (listed : Array Bool) (a : Act) (w : World), listed.size = ops.size → (∀ i o, ops[i]? = some o → listed.getD i false = true → ∀ e ∈ o.after, Region.binds .any e = true → listed.getD e.on false = true) →
      Inv G (envL ops E (fun i => listed.getD i false) ops.size) (heapL ops pl H (fun i => listed.getD i false) ops.size) a w →
      ((List.range ops.size).filter (fun i => !listed.getD i false)).length ≤ fuel → wpAny P .any ops (liftQ G Q) fuel listed a w := by
    intro fuel
    induction fuel with
    | zero =>
      intro listed a w hsz hdown hinv hcnt
      have hall : ∀ i, i < ops.size → listed.getD i false = true := fun i hi => by
        cases hL : listed.getD i false with
        | true => rfl
        | false =>
          have : i ∈ (List.range ops.size).filter (fun i => !listed.getD i false) := by rw [List.mem_filter]; exact ⟨List.mem_range.2 hi, by rw [hL]; rfl⟩
          have := List.length_pos_of_mem this
          omega
      refine ⟨?_, ?_⟩
      · refine List.eq_nil_iff_forall_not_mem.2 fun i hi => ?_
        obtain ⟨h1, o, h2, _⟩ := mem_ready.1 hi
        have hlt := (Array.getElem?_eq_some_iff.1 h2).1
        have := hall i hlt
        simp [hsz, hlt] at h1 this
        rw [h1] at this; cases this
      · refine ⟨E ops.size, H ops.size, hQ, ?_⟩
        have e1 : heapL ops pl H (fun i => listed.getD i false) ops.size = H ops.size := by
          rw [← heap_lex hkeep ops.size]
          exact lastN_lex (Nat.le_refl _) fun j hj _ => ⟨fun _ => hj, fun _ => hall j hj⟩
        rw [e1] at hinv
        refine hinv.look fun t => ?_
        rw [look_envL, ← look_lex hother t ops.size]
        exact (lastN_lex (Nat.le_refl _) fun j hj _ => ⟨fun _ => hj, fun _ => hall j hj⟩).symm
    | succ fuel ih =>
      intro listed a w hsz hdown hinv hcnt
      let L : Nat → Bool := fun i => listed.getD i false
      refine ⟨fun hnil => ?_, fun i hi => ?_⟩
      · -- nothing is ready: all is done
        have hall : ∀ i, i < ops.size → L i = true := by
          intro i
          induction i using Nat.strongRecOn with
          | _ i ihi =>
            intro hi
            cases hL : L i with
            | true => rfl
            | false =>
              have ho : ops[i]? = some ops[i] := Array.getElem?_eq_getElem hi
              have : i ∈ Region.ready .any ops listed := mem_ready.2 ⟨by simp only [L] at hL; simp [hsz, hi] at hL ⊢; exact hL, _, ho, fun e he hb => by
                have h1 := List.all_eq_true.1 hA i (List.mem_range.2 hi)
                rw [ho] at h1
                simp only [Bool.and_eq_true] at h1
                have := List.all_eq_true.1 h1.1 e (by simpa using he)
                simp only [hb, Bool.not_true, Bool.false_or, decide_eq_true_eq] at this
                exact ihi e.on this (by omega)⟩
              rw [hnil] at this; cases this
        refine ⟨E ops.size, H ops.size, hQ, ?_⟩
        have e1 : heapL ops pl H (fun i => listed.getD i false) ops.size = H ops.size := by
          rw [← heap_lex hkeep ops.size]
          exact lastN_lex (Nat.le_refl _) fun j hj _ => ⟨fun _ => hj, fun _ => hall j hj⟩
        rw [e1] at hinv
        refine hinv.look fun t => ?_
        rw [look_envL, ← look_lex hother t ops.size]
        exact (lastN_lex (Nat.le_refl _) fun j hj _ => ⟨fun _ => hj, fun _ => hall j hj⟩).symm
      · obtain ⟨hun, o, ho, hdeps⟩ := mem_ready.1 hi
        have hlt := (Array.getElem?_eq_some_iff.1 ho).1
        have hun' : L i = false := by simp only [L]; simp [hsz, hlt] at hun ⊢; exact hun
        -- who may meet i has been done just if it stands ahead of it
        have hord : ∀ j, j < ops.size → j ≠ i → (meetB ops pl i j = true ∨ meetB ops pl j i = true) → (L j = true ↔ j < i) := by
          intro j hj hne hmj
          rcases chk_meet hmeet hlt hj hmj (Ne.symm hne) with ⟨h1, h2⟩ | ⟨h1, h2⟩
          · refine ⟨fun _ => h1, fun _ => ?_⟩
            exact anc_listed hA (L := L) hdown i j hj h2 (fun o' ho' => by rw [ho] at ho'; cases ho'; exact hdeps) hlt
          · refine ⟨fun hLj => ?_, fun hji => by omega⟩
            have oj : ops[j]? = some ops[j] := Array.getElem?_eq_getElem hj
            have := anc_listed hA (L := L) hdown j i hlt h2 (fun o' ho' e' he' hb' => hdown j o' ho' hLj e' he' hb') hj
            rw [hun'] at this; cases this
        have hdsti : dstAt ops i = o.dst := by simp [dstAt, ho]
        have hwri : ¬ pl.contains i = true → wrAt ops pl i = isWr o.op := fun hn => by
          simp only [wrAt, ho]
          cases hc : pl.contains i with
          | false => simp
          | true => exact absurd hc hn
        have hwrp : pl.contains i = true → wrAt ops pl i = false := fun hn => by simp only [wrAt, ho, hn]; simp
        -- a slot that i names holds what it holds in the text's order
        have hslot : ∀ t ∈ namesOf ops o, t ∉ o.dst.toList → look (envL ops E L ops.size) t = look (E i) t := by
          intro t ht hnd
          rw [look_envL, ← look_lex hother t i]
          refine lastN_lex (Nat.le_of_lt hlt) fun j hj hs => ?_
          have hs' : dstAt ops j = some t := by simpa [selT] using hs
          refine hord j hj (fun e => ?_) (.inr ?_)
          · subst e; rw [hdsti] at hs'; exact hnd (by simp [hs'])
          · have oj : ops[j]? = some ops[j] := Array.getElem?_eq_getElem hj
            have hdj : ops[j].dst = some t := by simpa [dstAt, oj] using hs'
            simp only [meetB, oj, ho, hdj, Bool.or_eq_true]
            left
            simpa using ht
        have hslot' : ∀ t ∈ tmpsOf o ++ guardSlot ops o, look (envL ops E L ops.size) t = look (E i) t := by
          intro t ht
          by_cases hd' : t ∈ o.dst.toList
          · -- the slot is i's own: read ahead of being written
            have hdt : o.dst = some t := by simpa using hd'
            rw [look_envL, ← look_lex hother t i]
            refine lastN_lex (Nat.le_of_lt hlt) fun j hj hs => ?_
            have hs' : dstAt ops j = some t := by simpa [selT] using hs
            by_cases e : j = i
            · subst e; rw [hun']; simp
            · refine hord j hj e (.inr ?_)
              have oj : ops[j]? = some ops[j] := Array.getElem?_eq_getElem hj
              have hdj : ops[j].dst = some t := by simpa [dstAt, oj] using hs'
              simp only [meetB, oj, ho, hdj, Bool.or_eq_true]
              left
              simp [namesOf, hdt]
          · exact hslot t (by unfold namesOf; exact List.mem_append_left _ ht) hd'
        -- the objects, for who reads or writes them
        have hheap : rwAt ops pl i = true → heapL ops pl H L ops.size = H i := by
          intro hrw
          unfold heapL
          rw [← heap_lex hkeep i]
          refine lastN_lex (Nat.le_of_lt hlt) fun j hj hs => ?_
          by_cases e : j = i
          · subst e; rw [hun']; simp
          · refine hord j hj e (.inr ?_)
            have oj : ops[j]? = some ops[j] := Array.getElem?_eq_getElem hj
            simp only [meetB, oj, ho, Bool.or_eq_true]
            right
            simp [hs, hrw]
        let L' : Nat → Bool := fun j => (listed.setIfInBounds i true).getD j false
        have hL' : ∀ j, L' j = (L j || j == i) := by
          intro j
          simp only [L', L]
          by_cases e : j = i
          · subst e; simp [hsz, hlt]
          · simp [Array.getElem?_setIfInBounds_ne (Ne.symm e), e]
        -- behind it
        have hafterE : ∀ t, look (envL ops E L' ops.size) t = if o.dst = some t then look (E (i + 1)) t else look (envL ops E L ops.size) t := by
          intro t
          rw [look_envL, look_envL]
          by_cases hdt : o.dst = some t
          · rw [if_pos hdt]
            refine lastN_done hL' (by simp [selT, hdsti, hdt]) hlt fun j hj hij hs => ?_
            have hs' : dstAt ops j = some t := by simpa [selT] using hs
            have hj' := (hord j hj (by omega) (.inr (by
              have oj : ops[j]? = some ops[j] := Array.getElem?_eq_getElem hj
              have hdj : ops[j].dst = some t := by simpa [dstAt, oj] using hs'
              simp only [meetB, oj, ho, hdj, Bool.or_eq_true]
              left
              simp [namesOf, hdt])))
            cases hLj : L j with
            | false => rfl
            | true => have := hj'.1 hLj; omega
          · rw [if_neg hdt]
            exact lastN_same hL' (by simp [selT, hdsti, hdt])
        have hafterH : heapL ops pl H L' ops.size = if wrAt ops pl i = true then H (i + 1) else heapL ops pl H L ops.size := by
          unfold heapL
          by_cases hw : wrAt ops pl i = true
          · rw [if_pos hw]
            refine lastN_done hL' hw hlt fun j hj hij hs => ?_
            have hj' := hord j hj (by omega) (.inr (by
              have oj : ops[j]? = some ops[j] := Array.getElem?_eq_getElem hj
              simp only [meetB, oj, ho, Bool.or_eq_true]
              right
              have hw2 := hw
              simp only [wrAt, ho, Bool.and_eq_true] at hw2
              have hr : rwAt ops pl i = true := by simp only [rwAt, ho, hw2.1, hw2.2]; rfl
              simp [hs, hr]))
            cases hLj : L j with
            | false => rfl
            | true => have := hj'.1 hLj; omega
          · rw [if_neg hw]
            exact lastN_same hL' (by simpa using hw)
        -- one step, where the world stands
        have hone : ∀ (e1 e2 : Env) (v : PV) (S' : Heap), (∀ t ∈ tmpsOf o, look e1 t = look e2 t) → True := fun _ _ _ _ _ => trivial
        have htmps : ∀ t ∈ tmpsOf o, look (E i) t = look (envL ops E L ops.size) t := fun t ht => (hslot' t (List.mem_append_left _ ht)).symm
        have trans : ∀ (e1 e2 : Env), (∀ t ∈ tmpsOf o, look e1 t = look e2 t) → ∀ (v : PV) (S' : Heap),
            (if pl.contains i then (∀ S2, execF P e1 S2 o (fun x y => x = v ∧ y = S2)) ∧ S' = H i else execF P e1 (H i) o (fun x y => x = v ∧ y = S')) →
            ∀ (K : PV → Heap → Prop) (QP : PV → Heap → Prop), K v (if wrAt ops pl i = true then S' else heapL ops pl H L ops.size) → execA P e2 (heapL ops pl H L ops.size) o K QP := by
          intro e1 e2 he v S' hv K QP hK
          split at hv
          · rename_i hp
            obtain ⟨h1, rfl⟩ := hv
            rw [if_neg (by rw [hwrp hp]; simp)] at hK
            obtain ⟨v', S'', g1, ⟨rfl, rfl⟩, _⟩ := execF_point (h1 (heapL ops pl H L ops.size))
            exact execA_of_F (execF_congr he (g1 K hK))
          · rename_i hp
            obtain ⟨v', S'', g1, ⟨rfl, rfl⟩, g3, g4⟩ := execF_point hv
            by_cases hrw : rwAt ops pl i = true
            · have hh := hheap hrw
              rw [hh]
              refine execA_of_F (execF_congr he (g1 K ?_))
              by_cases hw : wrAt ops pl i = true
              · rwa [if_pos hw] at hK
              · rw [if_neg hw, hh] at hK
                rw [g3 (by rw [hwri hp] at hw; simpa using hw)]; exact hK
            · have hrw' : isWr o.op = false ∧ isRd o.op = false := by
                have hpf : pl.contains i = false := by simpa using hp
                simp only [rwAt, ho, hpf, Bool.not_false, Bool.and_true, Bool.or_eq_true, not_or] at hrw
                exact ⟨by simpa using hrw.1, by simpa using hrw.2⟩
              rw [if_neg (by rw [hwri hp, hrw'.1]; simp)] at hK
              exact execA_of_F (execF_congr he (g4 hrw'.1 hrw'.2 (heapL ops pl H L ops.size) K hK))
        have hput : ∀ (e1 e2 : Env) (v : PV), put e1 o.dst v = E (i + 1) → (∀ t, look e2 t = look (envL ops E L ops.size) t) → ∀ t, look (envL ops E L' ops.size) t = look (put e2 o.dst v) t := by
          intro e1 e2 v hv he2 t
          rw [hafterE t]
          cases hdo : o.dst with
          | none => simp [put, he2]
          | some d =>
            by_cases e : t = d
            · subst e
              rw [hdo] at hv
              rw [if_pos rfl, ← hv]
              simp [put, look]
            · rw [if_neg (by simpa using fun h => e h.symm)]
              simp only [put, look, if_neg e, he2]
        have hS' : ∀ S', S' = H (i + 1) → (if wrAt ops pl i = true then S' else heapL ops pl H L ops.size) = heapL ops pl H L' ops.size := by
          rintro S' rfl; rw [hafterH]
        have hstepA : stepA P ops o (fun e' S' => (∀ t, look (envL ops E L' ops.size) t = look e' t) ∧ S' = heapL ops pl H L' ops.size) Q (envL ops E L ops.size) (heapL ops pl H L ops.size) := by
          have hs := hstep i o ho
          unfold stepF at hs
          unfold stepA
          split at hs
          · rename_i hg
            simp only [hg]
            split at hs
            · rename_i hp
              obtain ⟨p, h1, h2, h3⟩ := hs
              refine trans _ _ htmps p (H i) (by rw [if_pos hp]; exact ⟨h1, rfl⟩) _ _ ?_
              exact ⟨hput _ _ p h2 (fun _ => rfl), hS' _ h3⟩
            · rename_i hp
              obtain ⟨v, S', h1, ⟨h2, h3⟩, _⟩ := execF_point hs
              refine trans _ _ htmps v S' (by rw [if_neg hp]; exact h1 _ ⟨rfl, rfl⟩) _ _ ?_
              exact ⟨hput _ _ v h2 (fun _ => rfl), hS' _ h3⟩
          · rename_i j want hg
            split at hs
            · rename_i t ht
              obtain ⟨b, hb, h1, h2⟩ := hs
              have hgt : t ∈ guardSlot ops o := by simp [guardSlot, hg, ht]
              have hbL : look (envL ops E L ops.size) t = .d (.b b) := by rw [hslot' t (List.mem_append_right _ hgt)]; exact hb
              have hlk : ∀ c, b = c → ∀ (e0 : Env), look e0 t = .d (.b b) → ∀ s, look ((t, PV.d (.b c)) :: e0) s = look e0 s := fun c hc e0 he0 s => by
                simp only [look]
                by_cases hs : s = t
                · subst hs; rw [if_pos rfl, he0, hc]
                · rw [if_neg hs]
              simp only [hg, ht]
              refine Or.inr ⟨b, hbL, fun hbw => ?_, fun hbn => ?_⟩
              · have h1 := h1 hbw
                have he : ∀ s ∈ tmpsOf o, look ((t, PV.d (.b want)) :: E i) s = look ((t, PV.d (.b want)) :: envL ops E L ops.size) s := fun s hs => by
                  rw [hlk _ hbw _ hb, hlk _ hbw _ hbL]; exact htmps s hs
                split at h1
                · rename_i hp
                  obtain ⟨p, g1, g2, g3⟩ := h1
                  refine trans _ _ he p (H i) (by rw [if_pos hp]; exact ⟨g1, rfl⟩) _ _ ?_
                  exact ⟨hput _ _ p g2 (hlk _ hbw _ hbL), hS' _ g3⟩
                · rename_i hp
                  obtain ⟨v, S', g1, ⟨g2, g3⟩, _⟩ := execF_point h1
                  refine trans _ _ he v S' (by rw [if_neg hp]; exact g1 _ ⟨rfl, rfl⟩) _ _ ?_
                  exact ⟨hput _ _ v g2 (hlk _ hbw _ hbL), hS' _ g3⟩
              · obtain ⟨g2, g3⟩ := h2 hbn
                refine ⟨hput _ _ (.tup []) g2 (hlk _ hbn _ hbL), ?_⟩
                rw [hafterH]
                by_cases hw : wrAt ops pl i = true
                · rw [if_pos hw, ← g3]
                  simp only [wrAt, ho, Bool.and_eq_true] at hw
                  exact hheap (by simp only [rwAt, ho, hw.1, hw.2]; simp)
                · rw [if_neg hw]
            · exact hs.elim
        refine stepA_sound hinv ho (by
            have := Array.all_eq_true_iff_forall_mem.1 hd o (Array.mem_of_getElem? ho)
            rw [hn]; exact this) hstepA fun e' S' a' w' hke hi' => ?_
        obtain ⟨hke1, rfl⟩ := hke
        refine ih (listed.setIfInBounds i true) a' w' (by simpa using hsz) ?_ (hi'.look hke1) ?_
        · intro j oj hoj hLj e' he' hb'
          have h1 : L' j = true := hLj
          rw [hL'] at h1
          have h2 : L' e'.on = true := by
            rw [hL']
            simp only [Bool.or_eq_true, beq_iff_eq] at h1 ⊢
            rcases h1 with h1 | h1
            · exact .inl (hdown j oj hoj h1 e' he' hb')
            · subst h1
              rw [ho] at hoj; cases hoj
              exact .inl (hdeps e' he' hb')
          exact h2
        · have hsub : (List.range ops.size).filter (fun j => !L' j) = ((List.range ops.size).filter (fun j => !L j)).filter (fun j => !(j == i)) := by
            rw [List.filter_filter]
            apply List.filter_congr
            intro j _
            rw [hL']
            cases L j <;> cases hji : (j == i) <;> rfl
          have hmem : i ∈ (List.range ops.size).filter (fun j => !L j) := by rw [List.mem_filter]; exact ⟨List.mem_range.2 hlt, by rw [hun']; rfl⟩
          show ((List.range ops.size).filter (fun j => !L' j)).length ≤ fuel
          rw [hsub]
          have : (((List.range ops.size).filter (fun j => !L j)).filter (fun j => !(j == i))).length < ((List.range ops.size).filter (fun j => !L j)).length :=
            List.length_filter_lt_length_iff_exists.2 ⟨i, hmem, by simp⟩
          have hc2 : ((List.range ops.size).filter (fun j => !L j)).length ≤ fuel + 1 := hcnt
          omega
  refine key ops.size _ a _ (by simp) (fun i o ho hL => ?_) ?_ ?_
  · have h0 : (Array.replicate ops.size false).getD i false = false := getD_replicate_false _ _
    rw [h0] at hL; cases hL
  · have hno : ∀ j, (Array.replicate ops.size false).getD j false = false := fun j => getD_replicate_false _ _
    have e1 : heapL ops pl H (fun i => (Array.replicate ops.size false).getD i false) ops.size = S := by
      unfold heapL
      rw [lastN_none hno, hH0]
    rw [e1]
    have hi' : Inv G e S a { w with drawn := w.drawn + 1 } := by
      obtain ⟨F, ρ, hi⟩ := hi
      have hkp : Keeps w { w with drawn := w.drawn + 1 } F F ρ ρ (info S) (info S) := keeps_heap (w := w) (w' := { w with drawn := w.drawn + 1 }) rfl F ρ (info S)
      exact ⟨F, ρ, hi.st.drew, fun t => (hi.env t).keeps hkp, hi.keeps.trans hkp, hi.nt, hi.defers⟩
    refine hi'.look fun t => ?_
    rw [look_envL]
    rw [lastN_none hno, hE0]
  · exact Nat.le_trans (List.length_filter_le _ _) (by simp)
end
end Go.Aw
