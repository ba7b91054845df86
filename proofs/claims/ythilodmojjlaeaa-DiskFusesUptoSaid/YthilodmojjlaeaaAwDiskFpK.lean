/- Layer 12: what a fuse hides, plainly. -/
import Derived.Test.YthilodmojjlaeaaAwDiskAcK
set_option linter.unusedVariables false
set_option linter.unusedSimpArgs false
namespace Go.Aw
open Go.Proofs

/-- The same disk with a fuse that lets r acts pass. -/
def DS.fu (d : DS) (r : Int) : DS := ⟨d.l, d.m, d.c, d.ws, true, r⟩
theorem DS.fu_act (d : DS) (hf : d.fused = false) (r : Int) (hr : 0 < r) (x : Bool × Int × List UInt8) : (d.fu r).act x = (d.act x).fu (r - 1) := by
  have h1 : spendB true r = true := by simp [spendB]; omega
  have h2 : spendN true r = r - 1 := by unfold spendN; rw [if_pos ⟨rfl, by omega⟩]
  have h3 : spendB d.fused d.fuse = true := by rw [hf]; rfl
  unfold DS.act
  split
  · unfold DS.sync DS.fu
    simp only [h1, h2, h3, if_true]
  · unfold DS.write DS.fu
    simp only [h1, h2, h3]
theorem DS.act_fused (d : DS) (x : Bool × Int × List UInt8) : (d.act x).fused = d.fused := by
  unfold DS.act
  split
  · unfold DS.sync; split <;> rfl
  · rfl
theorem DS.acts_cons (d : DS) (x : Bool × Int × List UInt8) (l : Acts) : d.acts (x :: l) = (d.act x).acts l := rfl
theorem DS.acts_fused : ∀ (l : Acts) (d : DS), (d.acts l).fused = d.fused
  | [], d => rfl
  | x :: r, d => by rw [DS.acts_cons, DS.acts_fused r, DS.act_fused]
theorem DS.fu_acts : ∀ (l : Acts) (d : DS), d.fused = false → ∀ r : Int, l.length ≤ r → (d.fu r).acts l = (d.acts l).fu (r - l.length)
  | [], d, hf, r, hr => by simp [DS.acts]
  | x :: l, d, hf, r, hr => by
    have hr' : (l.length : Int) + 1 ≤ r := by simpa using hr
    rw [DS.acts_cons, DS.acts_cons, DS.fu_act d hf r (by omega), DS.fu_acts l (d.act x) (by rw [DS.act_fused, hf]) (r - 1) (by omega)]
    congr 1; simp; omega
/-- What is read behind an act. -/
theorem DS.img_act (d : DS) {x : Bool × Int × List UInt8} (hx : acOk (d.l.length / 64) x) : (d.act x).img = if x.1 then d.img else splice d.img (x.2.1.toNat * 64) (fullB x.2.2) := by
  unfold DS.act
  split
  · rename_i h
    unfold DS.sync DS.img
    split
    · exact imgB_nil _
    · rfl
  · rename_i h
    exact d.img_write (hx.resolve_left h) (fullB_len _)
theorem DS.img_acts : ∀ (l : Acts) (a c : DS), a.l.length = c.l.length → (∀ x ∈ l, acOk (c.l.length / 64) x) → a.img = c.img → (a.acts l).img = (c.acts l).img
  | [], a, c, _, _, h => h
  | x :: l, a, c, hl, hx, h => by
    rw [DS.acts_cons, DS.acts_cons]
    refine DS.img_acts l (a.act x) (c.act x) (by rw [DS.act_len, DS.act_len, hl]) (fun y hy => by rw [DS.act_len]; exact hx y (List.mem_cons_of_mem _ hy)) ?_
    rw [DS.img_act a (by rw [hl]; exact hx x (by simp)), DS.img_act c (hx x (by simp)), h]
/-- A blown fuse: what lasts stays, what is written is dead. -/
theorem DS.blown_acts : ∀ (l : Acts) (a : DS), a.fused = true → a.fuse = 0 → (a.acts l).l = a.l ∧ ∃ dead : List Wr, (∀ x ∈ dead, x.2.2 = true) ∧ (a.acts l).ws = a.ws ++ dead
  | [], a, _, _ => ⟨rfl, [], by simp, by simp [DS.acts]⟩
  | x :: l, a, hf, hz => by
    have h1 : spendB a.fused a.fuse = false := by rw [hf, hz]; rfl
    have h2 : spendN a.fused a.fuse = 0 := by rw [hf, hz]; rfl
    have ha : (a.act x).l = a.l ∧ (a.act x).fused = true ∧ (a.act x).fuse = 0 ∧ ∃ dead : List Wr, (∀ y ∈ dead, y.2.2 = true) ∧ (a.act x).ws = a.ws ++ dead := by
      unfold DS.act
      split
      · unfold DS.sync
        rw [if_neg (by rw [h1]; simp)]
        exact ⟨rfl, hf, h2, [], by simp, by simp⟩
      · exact ⟨rfl, hf, h2, [(x.2.1, fullB x.2.2, true)], by simp, by simp [DS.write, h1]⟩
    obtain ⟨e1, e2, e3, dd, e4, e5⟩ := ha
    obtain ⟨g1, dd', g2, g3⟩ := DS.blown_acts l (a.act x) e2 e3
    rw [DS.acts_cons]
    refine ⟨g1.trans e1, dd ++ dd', fun y hy => ?_, by rw [g3, e5, List.append_assoc]⟩
    rcases List.mem_append.1 hy with hy | hy
    · exact e4 y hy
    · exact g2 y hy
theorem crashB_dead (keep : List Bool) (torn : Int) (cut : Nat) : ∀ (ws : List Wr) (i : Nat) (X : List UInt8), (∀ x ∈ ws, x.2.2 = true) → crashB keep torn cut i ws X = X
  | [], i, X, _ => rfl
  | x :: r, i, X, h => by
    simp only [crashB]
    rw [if_pos (h x (by simp))]
    exact crashB_dead keep torn cut r (i + 1) X fun y hy => h y (List.mem_cons_of_mem _ hy)
theorem crashB_app (keep : List Bool) (torn : Int) (cut : Nat) (v : List Wr) : ∀ (u : List Wr) (i : Nat) (X : List UInt8), crashB keep torn cut i (u ++ v) X = crashB keep torn cut (i + u.length) v (crashB keep torn cut i u X)
  | [], i, X => rfl
  | x :: u, i, X => by
    simp only [List.cons_append, crashB, List.length_cons]
    rw [crashB_app keep torn cut v u (i + 1)]
    congr 1; omega
theorem keptB_getD (k : List Bool) (n i : Nat) (h : i < n) : (keptB k n).getD i false = k.getD i false := by
  simp [keptB, List.getD_eq_getElem?_getD, h]
theorem crashB_kept (k : List Bool) (p q : Nat) (torn tear : Int) (cut : Nat) (hpq : q ≤ p) (ht : tear = if (q : Int) ≤ torn then -1 else torn) : ∀ (ws : List Wr) (i : Nat) (X : List UInt8), i + ws.length ≤ q → crashB (keptB k p) torn cut i ws X = crashB (keptB k q) tear cut i ws X
  | [], i, X, _ => rfl
  | x :: r, i, X, h => by
    simp only [List.length_cons] at h
    simp only [crashB]
    rw [keptB_getD k p i (by omega), keptB_getD k q i (by omega), crashB_kept k p q torn tear cut hpq ht r (i + 1) _ (by omega)]
    have : ((i : Int) = torn) = ((i : Int) = tear) := by
      rw [ht]; split
      · exact propext ⟨fun e => by omega, fun e => by omega⟩
      · rfl
    simp only [this]

/-- What the law of the fuse says of three disks. -/
theorem fuse_law (l : List UInt8) (hl : l.length ≤ 16777216) (acts : Acts) (ha : ∀ x ∈ acts, acOk (l.length / 64) x) (f : Nat) :
    let a := (DS.start l f).acts acts
    let b := (DS.new l).acts (acts.take (min f acts.length))
    let c := (DS.new l).acts acts
    a.img = c.img ∧ a.l = b.l ∧ b.ws.length ≤ a.ws.length ∧ ∀ (k : List Bool) (torn : Int) (cut : Nat), (a.crash (keptB k a.ws.length) torn cut).l = (b.crash (keptB k b.ws.length) (if (b.ws.length : Int) ≤ torn then -1 else torn) cut).l := by
  intro a b c
  have hs : DS.start l f = (DS.new l).fu f := by unfold DS.start; rw [if_pos (by omega)]; rfl
  have hi : a.img = c.img := DS.img_acts acts (DS.start l f) (DS.new l) (by rw [hs]; rfl) ha (by rw [hs]; rfl)
  have hd : a.l = b.l ∧ ∃ dead : List Wr, (∀ x ∈ dead, x.2.2 = true) ∧ a.ws = b.ws ++ dead := by
    rcases Nat.le_total acts.length f with hf | hf
    · have e1 : a = (c.fu (f - acts.length)) := by
        show (DS.start l f).acts acts = _
        rw [hs, DS.fu_acts acts (DS.new l) rfl f (by omega)]
      have e2 : b = c := by show (DS.new l).acts (acts.take (min f acts.length)) = _; rw [Nat.min_eq_right hf, List.take_length]
      rw [e1, e2]
      exact ⟨rfl, [], by simp, by simp [DS.fu]⟩
    · have e1 : a = (b.fu 0).acts (acts.drop f) := by
        show (DS.start l f).acts acts = (((DS.new l).acts (acts.take (min f acts.length))).fu 0).acts (acts.drop f)
        rw [Nat.min_eq_left hf, hs]
        have : (DS.new l).fu f = (DS.new l).fu f := rfl
        have h2 := DS.fu_acts (acts.take f) (DS.new l) rfl f (by simp; omega)
        have h3 : ((DS.new l).fu f).acts acts = (((DS.new l).fu f).acts (acts.take f)).acts (acts.drop f) := by
          unfold DS.acts
          rw [← List.foldl_append, List.take_append_drop]
        rw [h3, h2]
        congr 2; simp [Nat.min_eq_left hf]
      obtain ⟨g1, dead, g2, g3⟩ := DS.blown_acts (acts.drop f) (b.fu 0) rfl rfl
      rw [← e1] at g1 g3
      exact ⟨g1, dead, g2, g3⟩
  obtain ⟨h1, dead, h2, h3⟩ := hd
  refine ⟨hi, h1, by rw [h3]; simp, fun k torn cut => ?_⟩
  show crashB (keptB k a.ws.length) torn cut 0 a.ws a.l = crashB (keptB k b.ws.length) _ cut 0 b.ws b.l
  rw [h1]
  have e : crashB (keptB k a.ws.length) torn cut 0 a.ws b.l = crashB (keptB k a.ws.length) torn cut 0 b.ws b.l := by
    conv => lhs; rw [h3]
    rw [crashB_app, crashB_dead _ _ _ dead _ _ h2, ← h3]
  rw [e]
  exact crashB_kept k a.ws.length b.ws.length torn _ cut (by rw [h3]; simp) rfl b.ws 0 b.l (by omega)
end Go.Aw
