/- Layer 12: the plain laws of images, writes and crashes. -/
import Derived.Test.YthilodmojjlaeaaAwDiskNK
set_option linter.unusedVariables false
set_option linter.unusedSimpArgs false
namespace Go.Aw
open Go.Proofs

theorem findB_upd (k n : Int) (b : List UInt8) : ∀ (m : List (Int × Nat × List UInt8)) (c : Nat), (findB k (updB n b m c).1).map (·.2) = if k = n then some b else (findB k m).map (·.2) := by
  have key : ∀ (m : List (Int × Nat × List UInt8)) (j : Nat) (x : List UInt8), findB n m = some (j, x) → (findB k (m.modify j fun e => (e.1, e.2.1, b))).map (·.2) = if k = n then some b else (findB k m).map (·.2) := by
    intro m
    induction m with
    | nil => intro j x h; simp [findB] at h
    | cons e r ih =>
      obtain ⟨a, bn, p⟩ := e
      intro j x h
      simp only [findB] at h
      split at h
      · rename_i hn
        cases h
        simp only [List.modify_zero_cons, findB]
        subst hn
        by_cases hk : k = n
        · simp [hk]
        · simp [hk]
      · rename_i hn
        obtain ⟨⟨j', x'⟩, h1, h2⟩ := Option.map_eq_some_iff.1 h
        cases h2
        simp only [List.modify_succ_cons, findB]
        have ih := ih j' x' h1
        by_cases hka : k = a
        · have : k ≠ n := fun e => hn (by rw [← e, hka])
          simp [hka, this]
          intro e; exact absurd (hka.trans e) this
        · rw [if_neg hka, if_neg hka]
          simp only [Option.map_map]
          exact ih
  intro m c
  unfold updB
  cases hf : findB n m with
  | some x => exact key m x.1 x.2 hf
  | none =>
    have app : ∀ m : List (Int × Nat × List UInt8), findB n m = none → (findB k (m ++ [(n, c, b)])).map (·.2) = if k = n then some b else (findB k m).map (·.2) := by
      intro m
      induction m with
      | nil => intro _; simp only [List.nil_append, findB]; by_cases hk : k = n <;> simp [hk]
      | cons e r ih =>
        obtain ⟨a, bn, p⟩ := e
        intro h
        simp only [findB] at h
        split at h
        · cases h
        · rename_i hn
          have h' : findB n r = none := by simpa using h
          simp only [List.cons_append, findB]
          by_cases hka : k = a
          · have : k ≠ n := fun e => hn (by rw [← e, hka])
            simp [hka]
            intro e; exact absurd (hka.trans e) this
          · rw [if_neg hka, if_neg hka]
            simp only [Option.map_map]
            exact ih h'
    exact app m hf
theorem imgB_get (l : List UInt8) (m : List (Int × Nat × List UInt8)) (i : Nat) (h : i < l.length) : (imgB l m)[i]? = some (match (findB (i / 64 : Nat) m).map (·.2) with
    | some b => b.getD (i % 64) 0
    | none => l.getD i 0) := by
  simp only [imgB, List.getElem?_map, List.getElem?_range h, Option.map_some]
  congr 1
  cases findB ((i / 64 : Nat) : Int) m <;> rfl
theorem spliceB_get {α : Type} (X b : List α) (o i : Nat) (h : o + b.length ≤ X.length) : (splice X o b)[i]? = if o ≤ i ∧ i < o + b.length then b[i - o]? else X[i]? := by
  unfold splice
  split
  · rename_i h1
    rw [List.getElem?_append_left (by simp; omega), List.getElem?_append_right (by simp; omega)]
    simp; congr 1; omega
  · rename_i h1
    by_cases h2 : i < o
    · rw [List.getElem?_append_left (by simp; omega), List.getElem?_append_left (by simp; omega), List.getElem?_take_of_lt h2]
    · rw [List.getElem?_append_right (by simp; omega), List.getElem?_drop]
      congr 1; simp; omega
theorem imgB_upd (l : List UInt8) (m : List (Int × Nat × List UInt8)) (c n : Nat) (b : List UInt8) (hb : b.length = 64) (hn : n < l.length / 64) : imgB l (updB n b m c).1 = splice (imgB l m) (n * 64) b := by
  apply List.ext_getElem?
  intro i
  have hl := imgB_len l m
  rw [spliceB_get _ _ _ _ (by omega)]
  by_cases hi : i < l.length
  · rw [imgB_get _ _ _ hi, findB_upd]
    by_cases hk : i / 64 = n
    · have e1 : ((i / 64 : Nat) : Int) = n := by omega
      rw [if_pos e1, if_pos (by omega)]
      have : i - n * 64 = i % 64 := by omega
      rw [this]
      simp only
      rw [List.getD_eq_getElem?_getD, List.getElem?_eq_getElem (by omega)]; rfl
    · have e1 : ¬ ((i / 64 : Nat) : Int) = n := by omega
      rw [if_neg e1, if_neg (by omega), imgB_get _ _ _ hi]
  · rw [List.getElem?_eq_none (by rw [imgB_len]; omega)]
    split
    · omega
    · rw [List.getElem?_eq_none (by omega)]
theorem imgB_nil (l : List UInt8) : imgB l [] = l := by
  apply List.ext_getElem?
  intro i
  by_cases hi : i < l.length
  · rw [imgB_get _ _ _ hi]
    simp only [findB, Option.map_none, List.getD_eq_getElem?_getD, List.getElem?_eq_getElem hi]; rfl
  · rw [List.getElem?_eq_none (by rw [imgB_len]; omega), List.getElem?_eq_none (by omega)]
/-- All that is read. -/
def DS.img (d : DS) : List UInt8 := imgB d.l d.m
theorem DS.img_write (d : DS) {a : Int} (ha : inB (d.l.length / 64) (a, ([] : List UInt8)) = true) {b : List UInt8} (hb : b.length = 64) : (d.write a b).img = splice d.img (a.toNat * 64) b := by
  simp only [inB, decide_eq_true_eq] at ha
  obtain ⟨n, rfl⟩ : ∃ n : Nat, a = n := ⟨a.toNat, by omega⟩
  exact imgB_upd d.l d.m d.c n b hb (by omega)
theorem DS.img_len (d : DS) : d.img.length = d.l.length := imgB_len _ _
/-- Writes, made one behind the other. -/
def applyB (ws : List (Int × List UInt8)) (X : List UInt8) : List UInt8 := ws.foldl (fun X x => splice X (x.1.toNat * 64) (fullB x.2)) X
theorem DS.img_writes (d : DS) : ∀ (ws : List (Int × List UInt8)), (∀ x ∈ ws, inB (d.l.length / 64) x = true) → (d.writes ws).img = applyB ws d.img
  | [], _ => rfl
  | x :: r, h => by
    show ((d.write x.1 (fullB x.2)).writes r).img = applyB r (splice d.img (x.1.toNat * 64) (fullB x.2))
    rw [DS.img_writes (d.write x.1 (fullB x.2)) r (fun y hy => h y (List.mem_cons_of_mem _ hy)), d.img_write (h x (by simp)) (fullB_len _)]
theorem applyB_len : ∀ (ws : List (Int × List UInt8)) (X : List UInt8), (∀ x ∈ ws, inB (X.length / 64) x = true) → (applyB ws X).length = X.length
  | [], X, _ => rfl
  | x :: r, X, h => by
    have hx := h x (by simp)
    simp only [inB, decide_eq_true_eq] at hx
    have e : (splice X (x.1.toNat * 64) (fullB x.2)).length = X.length := splice_len _ _ _ (by rw [fullB_len]; omega)
    show (applyB r (splice X (x.1.toNat * 64) (fullB x.2))).length = _
    rw [applyB_len r _ (fun y hy => by rw [e]; exact h y (List.mem_cons_of_mem _ hy)), e]
theorem DS.img_new (l : List UInt8) : (DS.new l).img = l := imgB_nil l

/-- What a law knows of the disk that it has made. -/
structure DS.Made (d : DS) (l : List UInt8) (ws : List (Int × List UInt8)) : Prop where
  ok : d.Ok
  last : d.l = l
  log : d.ws = ws.map mkW
  img : imgB d.l d.m = applyB ws l
  fused : d.fused = false
  fuse : d.fuse = 0
theorem DS.made (l : List UInt8) (hl : l.length ≤ 16777216) (ws : List (Int × List UInt8)) (hw : ∀ x ∈ ws, inB (l.length / 64) x = true) : ((DS.new l).writes ws).Made l ws where
  ok := (DS.Ok.new hl).writes hw
  last := DS.writes_l _ _
  log := by rw [(DS.writes_ws _ rfl ws).1]; rfl
  img := by
    have := DS.img_writes (DS.new l) ws hw
    rw [DS.img_new] at this
    exact this
  fused := (DS.writes_ws _ rfl ws).2.1
  fuse := (DS.writes_ws _ rfl ws).2.2
theorem DS.Made.sync {d : DS} {l : List UInt8} {ws : List (Int × List UInt8)} (h : d.Made l ws) : d.sync = ⟨applyB ws l, [], d.c, [], false, 0⟩ := by
  unfold DS.sync
  rw [if_pos (by rw [h.fused]; rfl), h.img, h.fused, h.fuse]; rfl
theorem crashB_all : ∀ (ws : List (Int × List UInt8)) (keep : List Bool) (i : Nat) (X : List UInt8), crashB keep (-1) 0 i (ws.map mkW) X = applyB ((ws.zipIdx i).filterMap fun x => if keep.getD x.2 false then some x.1 else none) X
  | [], keep, i, X => rfl
  | x :: r, keep, i, X => by
    simp only [List.map_cons, crashB, List.zipIdx_cons, List.filterMap_cons]
    have e : ¬ ((i : Int) = -1) := by omega
    rw [if_neg e]
    simp only [Bool.false_eq_true, if_false]
    split
    · exact crashB_all r keep (i + 1) _
    · exact crashB_all r keep (i + 1) X
theorem crashB_none (ws : List Wr) (n i : Nat) (X : List UInt8) : crashB (keptB [] n) (-1) 0 i ws X = X := by
  induction ws generalizing i with
  | nil => rfl
  | cons x r ih =>
    have e : ¬ ((i : Int) = -1) := by omega
    have hk : (keptB [] n).getD i false = false := by
      simp only [keptB, List.getD_eq_getElem?_getD, List.getElem?_map]
      cases (List.range n)[i]? <;> simp
    simp only [crashB]
    rw [if_neg e, hk]
    simp only [Bool.false_eq_true, if_false, ite_self]
    exact ih (i + 1)
theorem DS.Made.sync2 {d : DS} {l : List UInt8} {ws : List (Int × List UInt8)} (h : d.Made l ws) : d.sync.Made (applyB ws l) [] where
  ok := h.ok.sync
  last := by rw [h.sync]
  log := by rw [h.sync]; rfl
  img := by rw [h.sync]; exact imgB_nil _
  fused := by rw [h.sync]
  fuse := by rw [h.sync]
theorem DS.Made.crash2 {d : DS} {l : List UInt8} {ws : List (Int × List UInt8)} (h : d.Made l ws) (keep : List Bool) (torn : Int) (cut : Nat) (hc : cut ≤ 64) : (d.crash keep torn cut).Made (crashB keep torn cut 0 (ws.map mkW) l) [] where
  ok := h.ok.crash keep torn cut hc
  last := by simp only [DS.crash]; rw [h.log, h.last]
  log := rfl
  img := by simp only [DS.crash]; rw [h.log, h.last]; exact imgB_nil _
  fused := rfl
  fuse := h.fuse
theorem durable_X {d : DS} {l : List UInt8} {ws : List (Int × List UInt8)} (h : d.Made l ws) : DetA Try.prog 29 [.ptr 2 0] d.dk (.own 4 1 d.l.length) (d.dk ++ [dLast l]) := by
  have := durable_DS d h.ok.len
  rwa [show dLast d.l = dLast l by rw [h.last]] at this
theorem image_X {d : DS} {l : List UInt8} {ws : List (Int × List UInt8)} (h : d.Made l ws) {X : List UInt8} (hX : applyB ws l = X) : DetA Try.prog 28 [.ptr 2 0] d.dk (.own 4 1 d.l.length) (d.dk ++ [dLast X]) := by
  have := image_DS d h.ok
  rwa [h.img, hX] at this
theorem pending_X {d : DS} {l : List UInt8} {ws : List (Int × List UInt8)} (h : d.Made l ws) (hn : ws.length ≤ 1048576) : DetA Try.prog 22 [.ptr 2 0] d.dk (intsP (ws.map (·.1))) d.dk := by
  have := pending_DS d h.ok (by rw [h.log]; simpa using hn)
  rwa [h.log, List.map_map, show ((fun (x : Wr) => x.1) ∘ mkW) = (fun (x : Int × List UInt8) => x.1) from rfl] at this
theorem crash_X {d : DS} {l : List UInt8} {ws : List (Int × List UInt8)} (h : d.Made l ws) (hn : ws.length ≤ 1048576) (keep : List Bool) (hk : keep.length = ws.length) (torn : Int) (ht : -1 ≤ torn ∧ torn < ws.length) (cut : Nat) (hc : cut ≤ 64) :
    DetA Try.prog 31 [.ptr 2 0, keepP keep, .d (.i .i64 torn), .d (.i .i64 cut)] d.dk (errP 0) (d.crash keep torn cut).dkM :=
  have hl : d.ws.length = ws.length := by rw [h.log]; simp
  crash_dk d h.ok (by omega) keep (by omega) torn (by omega) cut hc
end Go.Aw
