/- Layer 12: Durable, Image. -/
import Derived.Test.YthilodmojjlaeaaAwDiskWK
set_option linter.unusedVariables false
set_option linter.unusedSimpArgs false
namespace Go.Aw
open Go.Proofs
set_option maxRecDepth 100000

theorem diskDurable_calls (l : List UInt8) (hl : l.length ≤ 16777216) (m : List (Int × Nat × List UInt8)) (c : Nat) (lg : Option (List (List D))) (fused : Bool) (fuse : Int) :
    DetA Try.prog 29 [.ptr 2 0] (dObs l m c lg fused fuse) (.own (dObs l m c lg fused fuse).length 1 l.length) (dObs l m c lg fused fuse ++ [dLast l]) := by
  cases lg
  all_goals
    refine callsK_of Try.call29 Try.func29 (c := _) rfl (by kernel_rfl) (Nat.le_of_ble_eq_true rfl) ?_
    ((conv => whnf); repeat (refine SeqW.go ?_; conv => whnf))
    repeat (first | (refine Br.t ?_; conv => whnf) | (refine Cd.mk (by omega) ?_; conv => whnf) | (refine Br.f ?_; conv => whnf) | (refine SeqW.go ?_; conv => whnf))
    refine ⟨by simp [liftR], ?_⟩
    ((conv => whnf); repeat (refine SeqW.go ?_; conv => whnf))
    refine ⟨⟨allLen_lift (rowsB_all _), by simp; omega, by simp; omega⟩, ?_⟩
    ((conv => whnf); repeat (refine SeqW.go ?_; conv => whnf))
    repeat (first | (refine Br.t ?_; conv => whnf) | (refine Cd.mk (by omega) ?_; conv => whnf) | (refine Br.f ?_; conv => whnf) | (refine SeqW.go ?_; conv => whnf))
    rw [show (liftR (rowsB l)).length = l.length by simp]
    refine RetM.drop 0 rfl ?_
    conv => whnf
    refine ⟨⟨Nat.le_of_ble_eq_true rfl, by (repeat (first | exact allN | refine allC (by first | exact sc_lift _ _ | exact sc_wes _ _ _ | exact sc_arr rfl | rfl) ?_))⟩, ?_⟩
    conv => whnf
    exact ⟨rfl, rfl⟩

theorem nodup_map_inj {α β : Type} {f : α → β} : ∀ {l : List α}, (l.map f).Nodup → ∀ {a b : α}, a ∈ l → b ∈ l → f a = f b → a = b
  | [], _, a, b, ha, _, _ => by simp at ha
  | x :: r, h, a, b, ha, hb, e => by
    simp only [List.map_cons, List.nodup_cons] at h
    rcases List.mem_cons.1 ha with h1 | h1 <;> rcases List.mem_cons.1 hb with h2 | h2
    · rw [h1, h2]
    · exact absurd (List.mem_map.2 ⟨b, h2, by rw [← h1]; exact e.symm⟩) h.1
    · exact absurd (List.mem_map.2 ⟨a, h1, by rw [← h2]; exact e⟩) h.1
    · exact nodup_map_inj h.2 h1 h2 e
/-- The map of what is read is in order. -/
structure MapOk (l : List UInt8) (m : List (Int × Nat × List UInt8)) (c : Nat) : Prop where
  born : ∀ e ∈ m, e.2.1 < c
  nodupB : (m.map (·.2.1)).Nodup
  nodupK : (m.map (·.1)).Nodup
  rng : ∀ e ∈ m, 0 ≤ e.1 ∧ e.1 < (l.length / 64 : Nat)
  full : Full m
/-- All that Read sees. -/
def imgB (l : List UInt8) (m : List (Int × Nat × List UInt8)) : List UInt8 := (List.range l.length).map fun i => match findB (i / 64 : Nat) m with
  | some (_, b) => b.getD (i % 64) 0
  | none => l.getD i 0

/-- The image, where the entries of these stamps are laid upon it. -/
structure ImgJ (l : List UInt8) (m : List (Int × Nat × List UInt8)) (X : List UInt8) (seen : List Nat) : Prop where
  len : X.length = l.length
  on : ∀ e ∈ m, e.2.1 ∈ seen → ∀ j, j < 64 → X[e.1.toNat * 64 + j]? = e.2.2[j]?
  off : ∀ i, i < l.length → (∀ e ∈ m, e.1 = ((i / 64 : Nat) : Int) → e.2.1 ∉ seen) → X[i]? = l[i]?

theorem findB_mem {n : Int} : ∀ {m : List (Int × Nat × List UInt8)} {j : Nat} {b : List UInt8}, findB n m = some (j, b) → ∃ e ∈ m, e.1 = n ∧ e.2.2 = b
  | [], j, b, h => by simp [findB] at h
  | (k, bn, p) :: r, j, b, h => by
    simp only [findB] at h
    split at h
    · rename_i e; cases h; exact ⟨_, List.mem_cons_self, e.symm, rfl⟩
    · obtain ⟨x, h1, h2⟩ := Option.map_eq_some_iff.1 h
      cases h2
      obtain ⟨e, he, g⟩ := findB_mem h1
      exact ⟨e, List.mem_cons_of_mem _ he, g⟩
theorem findB_none {n : Int} : ∀ {m : List (Int × Nat × List UInt8)}, findB n m = none → ∀ e ∈ m, e.1 ≠ n
  | [], h, e, he => by simp at he
  | (k, bn, p) :: r, h, e, he => by
    simp only [findB] at h
    split at h
    · cases h
    · rename_i hne
      rcases List.mem_cons.1 he with rfl | he
      · exact fun e => hne e.symm
      · exact findB_none (Option.map_eq_none_iff.1 h) e he

theorem ImgJ.all {l : List UInt8} {m : List (Int × Nat × List UInt8)} {c : Nat} {X : List UInt8} {seen : List Nat} (hm : MapOk l m c) (h : ImgJ l m X seen) (ha : ∀ e ∈ m, e.2.1 ∈ seen) : X = imgB l m := by
  apply List.ext_getElem?
  intro i
  by_cases hi : i < l.length
  · simp only [imgB, List.getElem?_map, List.getElem?_range hi, Option.map_some]
    split
    · rename_i j b hf
      obtain ⟨e, he, h1, rfl⟩ := findB_mem hf
      have hb := hm.full e he
      have := h.on e he (ha e he) (i % 64) (by omega)
      rw [h1, Int.toNat_natCast, show i / 64 * 64 + i % 64 = i by omega] at this
      rw [this, List.getElem?_eq_getElem (by omega), List.getD_eq_getElem?_getD, List.getElem?_eq_getElem (by omega)]
      rfl
    · rename_i hf
      rw [h.off i hi (fun e he e1 => absurd e1 (findB_none hf e he)), List.getElem?_eq_getElem hi, List.getD_eq_getElem?_getD, List.getElem?_eq_getElem hi]
      rfl
  · rw [List.getElem?_eq_none (by rw [h.len]; omega), List.getElem?_eq_none (by simp [imgB]; omega)]

theorem ImgJ.step {l : List UInt8} {m : List (Int × Nat × List UInt8)} {c : Nat} {X : List UInt8} {seen : List Nat} (hm : MapOk l m c) (h : ImgJ l m X seen) {e : Int × Nat × List UInt8} (he : e ∈ m) (hs : e.2.1 ∉ seen) :
    ImgJ l m (splice X (e.1.toNat * 64) e.2.2) (seen ++ [e.2.1]) := by
  have hr := hm.rng e he
  have hb := hm.full e he
  have hlen := h.len
  have hk : ∀ e' ∈ m, e'.1 = e.1 → e' = e := fun e' he' h1 => nodup_map_inj hm.nodupK he' he h1
  have hbn : ∀ e' ∈ m, e'.2.1 = e.2.1 → e' = e := fun e' he' h1 => nodup_map_inj hm.nodupB he' he h1
  refine ⟨by rw [splice_length _ _ _ (by omega)]; exact hlen, fun e' he' hs' j hj => ?_, fun i hi hn => ?_⟩
  · rw [splice_get _ _ _ (by omega)]
    by_cases e1 : e' = e
    · subst e1
      rw [if_pos (by omega)]
      congr 1; omega
    · have hr' := hm.rng e' he'
      have hne : e'.1 ≠ e.1 := fun q => e1 (hk e' he' q)
      rw [if_neg (by omega)]
      refine h.on e' he' ?_ j hj
      rcases List.mem_append.1 hs' with g | g
      · exact g
      · exact absurd (hbn e' he' (by simpa using g)) e1
  · rw [splice_get _ _ _ (by omega)]
    have hne : e.1 ≠ ((i / 64 : Nat) : Int) := fun q => hn e he q (by simp)
    rw [if_neg (by omega)]
    exact h.off i hi fun e' he' q g => hn e' he' q (List.mem_append_left _ g)

theorem ImgJ.start (l : List UInt8) (m : List (Int × Nat × List UInt8)) : ImgJ l m l [] := ⟨rfl, fun _ _ h => by simp at h, fun _ _ _ => rfl⟩
/-- How many entries are left. -/
def unseen (m : List (Int × Nat × List UInt8)) (seen : List Nat) : Nat := (m.filter fun e => !seen.contains e.2.1).length
theorem unseen_lt {m : List (Int × Nat × List UInt8)} {seen : List Nat} {e : Int × Nat × List UInt8} (he : e ∈ m) (hs : e.2.1 ∉ seen) : unseen m (seen ++ [e.2.1]) < unseen m seen := by
  unfold unseen
  induction m with
  | nil => simp at he
  | cons x r ih =>
    have mono : (r.filter fun e' => !(seen ++ [e.2.1]).contains e'.2.1).length ≤ (r.filter fun e' => !seen.contains e'.2.1).length := by
      clear ih he
      induction r with
      | nil => simp
      | cons y r ih =>
        simp only [List.filter_cons]
        by_cases h1 : y.2.1 ∈ seen
        · simp [h1]; simpa using ih
        · by_cases h2 : y.2.1 = e.2.1
          · simp [h1, h2, hs]; have := ih; simp at this; omega
          · simp [h1, h2]; simpa using ih
    simp only [List.filter_cons]
    rcases List.mem_cons.1 he with rfl | he'
    · simp [hs]; simpa using Nat.lt_succ_of_le mono
    · have := ih he'
      by_cases h1 : x.2.1 ∈ seen
      · simp [h1]; simpa using this
      · by_cases h2 : x.2.1 = e.2.1
        · simp [h1, h2, hs]; simp at this; omega
        · simp [h1, h2]; simpa using this
theorem wes_mem {m : List (Int × Nat × List UInt8)} {x : D × Nat × PV} (h : x ∈ wesB m) : ∃ e ∈ m, x = (.i .i64 e.1, e.2.1, .wag [] 64 (e.2.2.map byD) []) := by
  simp only [wesB, wes, List.map_map, List.mem_map] at h
  obtain ⟨e, he, rfl⟩ := h
  exact ⟨e, he, rfl⟩
theorem mem_wes {m : List (Int × Nat × List UInt8)} {e : Int × Nat × List UInt8} (h : e ∈ m) : ((.i .i64 e.1, e.2.1, .wag [] 64 (e.2.2.map byD) []) : D × Nat × PV) ∈ wesB m := by
  simp only [wesB, wes, List.map_map, List.mem_map]
  exact ⟨e, h, rfl⟩
theorem wes_born {m : List (Int × Nat × List UInt8)} {c : Nat} (h : ∀ e ∈ m, e.2.1 < c) : ∀ x ∈ wesB m, x.2.1 < c := fun x hx => by
  obtain ⟨e, he, rfl⟩ := wes_mem hx
  exact h e he
theorem wes_all {m : List (Int × Nat × List UInt8)} {seen : List Nat} (h : ∀ x ∈ wesB m, x.2.1 ∈ seen) : ∀ e ∈ m, e.2.1 ∈ seen := fun e he => h _ (mem_wes he)
theorem wes_nodup {m : List (Int × Nat × List UInt8)} (h : (m.map (·.2.1)).Nodup) : ((wesB m).map fun x => x.2.1).Nodup := by
  simpa [wesB, wes, Function.comp_def] using h

theorem splB (X b : List UInt8) (o : Nat) (hb : b.length = 64) : splice (liftR (rowsB X)) o ((liftR (rowsB b)).take 64) = liftR (rowsB (splice X o b)) := by
  rw [List.take_of_length_le (by simp; omega)]
  simp [splice, liftR, rowsB, List.map_take, List.map_drop]
section
variable (l : List UInt8) (hl : l.length ≤ 16777216) (m : List (Int × Nat × List UInt8)) (c : Nat) (lg : Option (List (List D))) (fused : Bool) (fuse : Int) (hm : MapOk l m c)
include hl hm
theorem diskImage_calls :
    DetA Try.prog 28 [.ptr 2 0] (dObs l m c lg fused fuse) (.own (dObs l m c lg fused fuse).length 1 l.length) (dObs l m c lg fused fuse ++ [dLast (imgB l m)]) := by
  have hd := diskDurable_calls l hl m c lg fused fuse
  cases lg with
  | none =>
    refine callsK_of Try.call28 Try.func28 (c := _) rfl (by kernel_rfl) (Nat.le_of_ble_eq_true rfl) ?_
    ((conv => whnf); repeat (refine SeqW.go ?_; conv => whnf))
    repeat (first | (refine Br.t ?_; conv => whnf) | (refine Cd.mk (by omega) ?_; conv => whnf) | (refine Br.f ?_; conv => whnf) | (refine SeqW.go ?_; conv => whnf))
    refine hd.call fun _ => ?_
    ((conv => whnf); repeat (refine SeqW.go ?_; conv => whnf))
    repeat (first | (refine Br.t ?_; conv => whnf) | (refine Cd.mk (by omega) ?_; conv => whnf) | (refine Br.f ?_; conv => whnf) | (refine SeqW.go ?_; conv => whnf))
    refine loopK (by kernel_rfl) (γ := List UInt8 × List Nat) 5 (fun g => ImgJ l m g.1 g.2) (fun _ => []) (fun g => [(3, dLast g.1), (4, .itr 1 c g.2 c)]) (fun g => unseen m g.2)
      ⟨rfl, rfl⟩ (fun _ _ => by (repeat (first | exact allN | refine allC (by first | exact sc_lift _ _ | exact sc_wes _ _ _ | exact sc_arr rfl | rfl) ?_))) (l, []) (ImgJ.start l m) (by repeat (first | exact trivial | refine ⟨.refl _, ?_⟩)) trivial ?_
    rintro ⟨X, seen⟩ hj
    have hX := hj.len
    simp only at hX
    ((conv => whnf); repeat (refine SeqW.go ?_; conv => whnf))
    refine ⟨wes_born hm.born, Nat.le_refl _, fun hall => ?_, fun k bn p hx hn => ?_⟩
    · ((conv => whnf); repeat (refine SeqW.go ?_; conv => whnf))
      repeat (first | (refine Br.t ?_; conv => whnf) | (refine Cd.mk (by omega) ?_; conv => whnf) | (refine Br.f ?_; conv => whnf) | (refine SeqW.go ?_; conv => whnf))
      rw [hj.all hm (wes_all hall)]
      refine RetM.drop 1 rfl ?_
      conv => whnf
      refine ⟨⟨Nat.le_of_ble_eq_true rfl, by (repeat (first | exact allN | refine allC (by first | exact sc_lift _ _ | exact sc_wes _ _ _ | exact sc_arr rfl | rfl) ?_))⟩, ?_⟩
      conv => whnf
      exact ⟨rfl, rfl⟩
    obtain ⟨e, he, hxe⟩ := wes_mem hx
    simp only [Prod.mk.injEq] at hxe
    obtain ⟨rfl, rfl, rfl⟩ := hxe
    have hr := hm.rng e he
    have hb := hm.full e he
    ((conv => whnf); repeat (refine SeqW.go ?_; conv => whnf))
    repeat (first | (refine Br.t ?_; conv => whnf) | (refine Cd.mk (by omega) ?_; conv => whnf) | (refine Br.f ?_; conv => whnf) | (refine SeqW.go ?_; conv => whnf))
    refine ⟨seen, _, _, _, rfl, hx, wes_nodup hm.nodupB, rfl, ?_⟩
    ((conv => whnf); repeat (refine SeqW.go ?_; conv => whnf))
    refine ⟨by kernel_rfl, ?_⟩
    ((conv => whnf); repeat (refine SeqW.go ?_; conv => whnf))
    refine ⟨⟨rfl, rfl, rfl, rfl, rfl⟩, ?_⟩
    ((conv => whnf); repeat (refine SeqW.go ?_; conv => whnf))
    have e1 : IntKind.i64.wrap (e.1 * 64) = ((e.1.toNat * 64 : Nat) : Int) := by rw [wrap_i64 (by omega) (by omega)]; omega
    refine drawW [] mixed (by kernel_rfl) (by kernel_rfl) ?_
    ((conv => whnf); repeat (refine SeqW.go ?_; conv => whnf))
    rw [e1]
    refine OpF.rd rfl ⟨⟨by simp [liftR]; omega, rfl⟩, ⟨by omega, by omega⟩, rfl, rfl⟩ ?_
    ((conv => whnf); repeat (refine SeqW.go ?_; conv => whnf))
    refine OpF.pure (fun _ => ⟨⟨(show (0 : Nat) < 64 by omega), (show (64 : Nat) ≤ 16777216 by omega)⟩, rfl, rfl⟩) ?_
    ((conv => whnf); repeat (refine SeqW.go ?_; conv => whnf))
    refine OpF.wr rfl ⟨⟨rfl, (show 0 + (64 - 0) ≤ 64 by omega)⟩, ⟨rfl, ?_, ?_, ?_, ?_⟩, rfl, rfl⟩ ?_
    · rw [srcB]; exact allLen_lift (rowsB_all _)
    · simp [liftR]; omega
    · exact allLen_lift (rowsB_all _)
    · simp only [Int.toNat_natCast]; omega
    ((conv => whnf); repeat (refine SeqW.go ?_; conv => whnf))
    repeat (first | (refine Br.t ?_; conv => whnf) | (refine Cd.mk (by omega) ?_; conv => whnf) | (refine Br.f ?_; conv => whnf) | (refine SeqW.go ?_; conv => whnf))
    have hb0 : (e.2.2.drop 0).take (64 - 0) = e.2.2 := by rw [List.drop_zero, List.take_of_length_le]; omega
    rw [srcB, hb0]
    rw [show min (liftR (rowsB e.2.2)).length (l.length - ((e.1.toNat * 64 : Nat) : Int).toNat) = 64 by simp only [Int.toNat_natCast, liftR, List.length_map, rowsB_len]; omega]
    rw [Int.toNat_natCast, splB X e.2.2 _ hb]
    refine ⟨(splice X (e.1.toNat * 64) e.2.2, seen ++ [e.2.1]), hj.step hm he hn, unseen_lt he hn, (by repeat (first | exact trivial | refine ⟨.refl _, ?_⟩)), trivial, (by repeat (first | exact trivial | refine ⟨rfl, ?_⟩))⟩
  | some rows =>
    refine callsK_of Try.call28 Try.func28 (c := _) rfl (by kernel_rfl) (Nat.le_of_ble_eq_true rfl) ?_
    ((conv => whnf); repeat (refine SeqW.go ?_; conv => whnf))
    repeat (first | (refine Br.t ?_; conv => whnf) | (refine Cd.mk (by omega) ?_; conv => whnf) | (refine Br.f ?_; conv => whnf) | (refine SeqW.go ?_; conv => whnf))
    refine hd.call fun _ => ?_
    ((conv => whnf); repeat (refine SeqW.go ?_; conv => whnf))
    repeat (first | (refine Br.t ?_; conv => whnf) | (refine Cd.mk (by omega) ?_; conv => whnf) | (refine Br.f ?_; conv => whnf) | (refine SeqW.go ?_; conv => whnf))
    refine loopK (by kernel_rfl) (γ := List UInt8 × List Nat) 6 (fun g => ImgJ l m g.1 g.2) (fun _ => []) (fun g => [(4, dLast g.1), (5, .itr 1 c g.2 c)]) (fun g => unseen m g.2)
      ⟨rfl, rfl⟩ (fun _ _ => by (repeat (first | exact allN | refine allC (by first | exact sc_lift _ _ | exact sc_wes _ _ _ | exact sc_arr rfl | rfl) ?_))) (l, []) (ImgJ.start l m) (by repeat (first | exact trivial | refine ⟨.refl _, ?_⟩)) trivial ?_
    rintro ⟨X, seen⟩ hj
    have hX := hj.len
    simp only at hX
    ((conv => whnf); repeat (refine SeqW.go ?_; conv => whnf))
    refine ⟨wes_born hm.born, Nat.le_refl _, fun hall => ?_, fun k bn p hx hn => ?_⟩
    · ((conv => whnf); repeat (refine SeqW.go ?_; conv => whnf))
      repeat (first | (refine Br.t ?_; conv => whnf) | (refine Cd.mk (by omega) ?_; conv => whnf) | (refine Br.f ?_; conv => whnf) | (refine SeqW.go ?_; conv => whnf))
      rw [hj.all hm (wes_all hall)]
      refine RetM.drop 1 rfl ?_
      conv => whnf
      refine ⟨⟨Nat.le_of_ble_eq_true rfl, by (repeat (first | exact allN | refine allC (by first | exact sc_lift _ _ | exact sc_wes _ _ _ | exact sc_arr rfl | rfl) ?_))⟩, ?_⟩
      conv => whnf
      exact ⟨rfl, rfl⟩
    obtain ⟨e, he, hxe⟩ := wes_mem hx
    simp only [Prod.mk.injEq] at hxe
    obtain ⟨rfl, rfl, rfl⟩ := hxe
    have hr := hm.rng e he
    have hb := hm.full e he
    ((conv => whnf); repeat (refine SeqW.go ?_; conv => whnf))
    repeat (first | (refine Br.t ?_; conv => whnf) | (refine Cd.mk (by omega) ?_; conv => whnf) | (refine Br.f ?_; conv => whnf) | (refine SeqW.go ?_; conv => whnf))
    refine ⟨seen, _, _, _, rfl, hx, wes_nodup hm.nodupB, rfl, ?_⟩
    ((conv => whnf); repeat (refine SeqW.go ?_; conv => whnf))
    refine ⟨by kernel_rfl, ?_⟩
    ((conv => whnf); repeat (refine SeqW.go ?_; conv => whnf))
    refine ⟨⟨rfl, rfl, rfl, rfl, rfl⟩, ?_⟩
    ((conv => whnf); repeat (refine SeqW.go ?_; conv => whnf))
    have e1 : IntKind.i64.wrap (e.1 * 64) = ((e.1.toNat * 64 : Nat) : Int) := by rw [wrap_i64 (by omega) (by omega)]; omega
    refine drawW [] mixed (by kernel_rfl) (by kernel_rfl) ?_
    ((conv => whnf); repeat (refine SeqW.go ?_; conv => whnf))
    rw [e1]
    refine OpF.rd rfl ⟨⟨by simp [liftR]; omega, rfl⟩, ⟨by omega, by omega⟩, rfl, rfl⟩ ?_
    ((conv => whnf); repeat (refine SeqW.go ?_; conv => whnf))
    refine OpF.pure (fun _ => ⟨⟨(show (0 : Nat) < 64 by omega), (show (64 : Nat) ≤ 16777216 by omega)⟩, rfl, rfl⟩) ?_
    ((conv => whnf); repeat (refine SeqW.go ?_; conv => whnf))
    refine OpF.wr rfl ⟨⟨rfl, (show 0 + (64 - 0) ≤ 64 by omega)⟩, ⟨rfl, ?_, ?_, ?_, ?_⟩, rfl, rfl⟩ ?_
    · rw [srcB]; exact allLen_lift (rowsB_all _)
    · simp [liftR]; omega
    · exact allLen_lift (rowsB_all _)
    · simp only [Int.toNat_natCast]; omega
    ((conv => whnf); repeat (refine SeqW.go ?_; conv => whnf))
    repeat (first | (refine Br.t ?_; conv => whnf) | (refine Cd.mk (by omega) ?_; conv => whnf) | (refine Br.f ?_; conv => whnf) | (refine SeqW.go ?_; conv => whnf))
    have hb0 : (e.2.2.drop 0).take (64 - 0) = e.2.2 := by rw [List.drop_zero, List.take_of_length_le]; omega
    rw [srcB, hb0]
    rw [show min (liftR (rowsB e.2.2)).length (l.length - ((e.1.toNat * 64 : Nat) : Int).toNat) = 64 by simp only [Int.toNat_natCast, liftR, List.length_map, rowsB_len]; omega]
    rw [Int.toNat_natCast, splB X e.2.2 _ hb]
    refine ⟨(splice X (e.1.toNat * 64) e.2.2, seen ++ [e.2.1]), hj.step hm he hn, unseen_lt he hn, (by repeat (first | exact trivial | refine ⟨.refl _, ?_⟩)), trivial, (by repeat (first | exact trivial | refine ⟨rfl, ?_⟩))⟩
end

end Go.Aw
