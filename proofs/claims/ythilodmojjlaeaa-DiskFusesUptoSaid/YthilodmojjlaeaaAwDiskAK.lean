/- Layer 12: what the disk's functions do: New, Load, Size. -/
import Derived.Test.YthilodmojjlaeaaAwBytesLK
import Derived.Test.YthilodmojjlaeaaAwPack3
set_option linter.unusedVariables false
set_option linter.unusedSimpArgs false
namespace Go.Aw
open Go.Proofs
set_option maxRecDepth 100000

/-- A byte as data. -/
abbrev byD (b : UInt8) : D := .i .u8 b.toNat
/-- The entries of a map from sectors to bytes. -/
abbrev wesB (l : List (Int × Nat × List UInt8)) : List (D × Nat × PV) := wes (l.map fun e => (e.1, e.2.1, e.2.2.map byD))
abbrev dLast (l : List UInt8) : Ob := .buf (liftR (rowsB l))
abbrev dBox (n : Nat) (lg : PV) (fused : Bool) (fuse : Int) : Ob := .box [.own 0 1 n, lg, .mp 1, .d (.b fused), .d (.i .i64 fuse)]
abbrev errP (n : Int) : PV := .d (.i .i64 n)

/-- The log's slice, its rows. -/
abbrev lgP : Option (List (List D)) → PV
  | none => .nils
  | some rows => .own 3 66 rows.length
abbrev lgX : Option (List (List D)) → Heap
  | none => []
  | some rows => [.buf (liftR rows)]
/-- A disk's objects. -/
abbrev dObs (l : List UInt8) (m : List (Int × Nat × List UInt8)) (c : Nat) (lg : Option (List (List D))) (fused : Bool) (fuse : Int) : Heap := [dLast l, .mapo (wesB m) c, dBox l.length (lgP lg) fused fuse] ++ lgX lg

theorem quo64 {n : Nat} (h : n ≤ 16777216) : IntKind.i64.wrap ((n : Int).tdiv 64) = ((n / 64 : Nat) : Int) := by
  have : (n : Int).tdiv 64 = ((n / 64 : Nat) : Int) := by rw [Int.tdiv_eq_ediv_of_nonneg (by omega)]; omega
  rw [this, wrap_i64 (by omega) (by omega)]

theorem diskNew_no (n : Int) (h : n < 1 ∨ 65536 < n) : DetA Try.prog 13 [.d (.i .i64 n)] [] (.tup [.d .nilp, errP 120]) [] := by
  refine callsK_of Try.call13 Try.func13 (c := _) rfl (by kernel_rfl) (Nat.le_of_ble_eq_true rfl) ?_
  ((conv => whnf); repeat (refine SeqW.go ?_; conv => whnf))
  first | refine Br.dec (fun h1 => ?_) (fun h1 => ?_) | refine Br.beq (fun h1 => ?_) (fun h1 => ?_) | refine Br.bne (fun h1 => ?_) (fun h1 => ?_) | refine Br.nbeq (fun h1 => ?_) (fun h1 => ?_) | refine Br.not (fun h1 => ?_) (fun h1 => ?_) | refine Br.mk (fun h1 => ?_) (fun h1 => ?_)
  · ((conv => whnf); repeat (refine SeqW.go ?_; conv => whnf))
    repeat (first | (refine Br.t ?_; conv => whnf) | (refine Cd.mk (by omega) ?_; conv => whnf) | (refine Br.f ?_; conv => whnf) | (refine SeqW.go ?_; conv => whnf))
    exact ⟨0, Nat.le_refl _, rfl, rfl⟩
  · ((conv => whnf); repeat (refine SeqW.go ?_; conv => whnf))
    repeat (first | (refine Br.t ?_; conv => whnf) | (refine Cd.mk (by omega) ?_; conv => whnf) | (refine Br.f ?_; conv => whnf) | (refine SeqW.go ?_; conv => whnf))
    first | refine Br.dec (fun h2 => ?_) (fun h2 => ?_) | refine Br.beq (fun h2 => ?_) (fun h2 => ?_) | refine Br.bne (fun h2 => ?_) (fun h2 => ?_) | refine Br.nbeq (fun h2 => ?_) (fun h2 => ?_) | refine Br.not (fun h2 => ?_) (fun h2 => ?_) | refine Br.mk (fun h2 => ?_) (fun h2 => ?_)
    · ((conv => whnf); repeat (refine SeqW.go ?_; conv => whnf))
      repeat (first | (refine Br.t ?_; conv => whnf) | (refine Cd.mk (by omega) ?_; conv => whnf) | (refine Br.f ?_; conv => whnf) | (refine SeqW.go ?_; conv => whnf))
      exact ⟨0, Nat.le_refl _, rfl, rfl⟩
    · ((conv => whnf); repeat (refine SeqW.go ?_; conv => whnf))
      repeat (first | (refine Br.t ?_; conv => whnf) | (refine Cd.mk (by omega) ?_; conv => whnf) | (refine Br.f ?_; conv => whnf) | (refine SeqW.go ?_; conv => whnf))
      omega
theorem diskNew_ok (n : Nat) (h : 1 ≤ n ∧ n ≤ 65536) : DetA Try.prog 13 [.d (.i .i64 n)] [] (.tup [.ptr 2 0, errP 0]) (dObs (List.replicate (n * 64) 0) [] 0 none false 0) := by
  refine callsK_of Try.call13 Try.func13 (c := _) rfl (by kernel_rfl) (Nat.le_of_ble_eq_true rfl) ?_
  ((conv => whnf); repeat (refine SeqW.go ?_; conv => whnf))
  first | refine Br.dec (fun h1 => ?_) (fun h1 => ?_) | refine Br.beq (fun h1 => ?_) (fun h1 => ?_) | refine Br.bne (fun h1 => ?_) (fun h1 => ?_) | refine Br.nbeq (fun h1 => ?_) (fun h1 => ?_) | refine Br.not (fun h1 => ?_) (fun h1 => ?_) | refine Br.mk (fun h1 => ?_) (fun h1 => ?_)
  · omega
  ((conv => whnf); repeat (refine SeqW.go ?_; conv => whnf))
  repeat (first | (refine Br.t ?_; conv => whnf) | (refine Cd.mk (by omega) ?_; conv => whnf) | (refine Br.f ?_; conv => whnf) | (refine SeqW.go ?_; conv => whnf))
  first | refine Br.dec (fun h2 => ?_) (fun h2 => ?_) | refine Br.beq (fun h2 => ?_) (fun h2 => ?_) | refine Br.bne (fun h2 => ?_) (fun h2 => ?_) | refine Br.nbeq (fun h2 => ?_) (fun h2 => ?_) | refine Br.not (fun h2 => ?_) (fun h2 => ?_) | refine Br.mk (fun h2 => ?_) (fun h2 => ?_)
  · omega
  ((conv => whnf); repeat (refine SeqW.go ?_; conv => whnf))
  repeat (first | (refine Br.t ?_; conv => whnf) | (refine Cd.mk (by omega) ?_; conv => whnf) | (refine Br.f ?_; conv => whnf) | (refine SeqW.go ?_; conv => whnf))
  have e : IntKind.i64.wrap ((n : Int) * 64) = ((n * 64 : Nat) : Int) := by rw [wrap_i64 (by omega) (by omega)]; omega
  refine ⟨by rw [e]; refine ⟨by omega, Int.le_refl _, by omega, by omega⟩, ?_⟩
  ((conv => whnf); repeat (refine SeqW.go ?_; conv => whnf))
  repeat (first | (refine Br.t ?_; conv => whnf) | (refine Cd.mk (by omega) ?_; conv => whnf) | (refine Br.f ?_; conv => whnf) | (refine SeqW.go ?_; conv => whnf))
  have er : List.replicate (IntKind.i64.wrap ((n : Int) * 64)).toNat (List.map cst (Value.int IntKind.u8 0).cells.toList) = liftR (rowsB (List.replicate (n * 64) 0)) := by
    rw [e, Int.toNat_natCast]; simp [liftR, rowsB]; exact .inr ⟨_, rfl, rfl⟩
  rw [er, e, Int.toNat_natCast]
  refine ⟨3, Nat.zero_le _, ?_⟩
  conv => whnf
  refine ⟨⟨Nat.le_of_ble_eq_true rfl, by (repeat (first | exact allN | refine allC (by first | exact sc_lift _ _ | exact sc_wes _ _ _ | exact sc_arr rfl | rfl) ?_))⟩, ?_⟩
  conv => whnf
  exact ⟨rfl, by simp [dLast, dBox, wesB, wes]⟩

theorem diskSize_nil : PureA Try.prog 18 [.d .nilp] (errP 0) := by
  refine callsW_of 0 Try.call18 Try.func18 (c := _) rfl (by kernel_rfl) (Nat.le_of_ble_eq_true rfl) (Nat.le_refl 0) ?_
  ((conv => whnf); repeat (refine SeqW.go ?_; conv => whnf))
  repeat (first | (refine Br.t ?_; conv => whnf) | (refine Cd.mk (by omega) ?_; conv => whnf) | (refine Br.f ?_; conv => whnf) | (refine SeqW.go ?_; conv => whnf))
  exact ⟨rfl, rfl⟩

theorem dObs_sc (l : List UInt8) (m : List (Int × Nat × List UInt8)) (c : Nat) (lg : Option (List (List D))) (fused : Bool) (fuse : Int) : (dObs l m c lg fused fuse).all (Ob.sc (dObs l m c lg fused fuse).length) = true := by
  cases lg <;> (repeat (first | exact allN | refine allC (by first | exact sc_lift _ _ | exact sc_wes _ _ _ | exact sc_arr rfl | rfl) ?_))

section
variable (l : List UInt8) (hl : l.length ≤ 16777216) (m : List (Int × Nat × List UInt8)) (c : Nat) (lg : Option (List (List D))) (fused : Bool) (fuse : Int)
include hl
theorem diskSize_calls :
    DetA Try.prog 18 [.ptr 2 0] (dObs l m c lg fused fuse) (errP (l.length / 64 : Nat)) (dObs l m c lg fused fuse) := by
  cases lg
  all_goals
    refine callsW_of (dObs l m c _ fused fuse).length Try.call18 Try.func18 (c := _) rfl (by kernel_rfl) (Nat.le_of_ble_eq_true rfl) (Nat.le_refl _) ?_
    ((conv => whnf); repeat (refine SeqW.go ?_; conv => whnf))
    repeat (first | (refine Br.t ?_; conv => whnf) | (refine Cd.mk (by omega) ?_; conv => whnf) | (refine Br.f ?_; conv => whnf) | (refine SeqW.go ?_; conv => whnf))
    refine ⟨⟨Nat.le_of_ble_eq_true rfl, by (repeat (first | exact allN | refine allC (by first | exact sc_lift _ _ | exact sc_wes _ _ _ | exact sc_arr rfl | rfl) ?_))⟩, ?_⟩
    conv => whnf
    exact ⟨by rw [quo64 (by omega)], rfl⟩
/-- What lasts of a sector. -/
theorem diskLasting_calls (at_ : Nat) (ha : at_ < l.length / 64) :
    DetA Try.prog 47 [.ptr 2 0, .d (.i .i64 at_)] (dObs l m c lg fused fuse) (.sub 0 1 (at_ * 64) 64 l.length) (dObs l m c lg fused fuse) := by
  cases lg
  all_goals
    refine callsW_of (dObs l m c _ fused fuse).length Try.call47 Try.func47 (c := _) rfl (by kernel_rfl) (Nat.le_of_ble_eq_true rfl) (Nat.le_refl _) ?_
    ((conv => whnf); repeat (refine SeqW.go ?_; conv => whnf))
    repeat (first | (refine Br.t ?_; conv => whnf) | (refine Cd.mk (by omega) ?_; conv => whnf) | (refine Br.f ?_; conv => whnf) | (refine SeqW.go ?_; conv => whnf))
    have e1 : IntKind.i64.wrap ((at_ : Int) * 64) = ((at_ * 64 : Nat) : Int) := by rw [wrap_i64 (by omega) (by omega)]; omega
    have e2 : IntKind.i64.wrap (IntKind.i64.wrap ((at_ : Int) + 1) * 64) = ((at_ * 64 + 64 : Nat) : Int) := by rw [wrap_i64 (n := (at_ : Int) + 1) (by omega) (by omega), wrap_i64 (by omega) (by omega)]; omega
    refine ⟨⟨by simp [liftR], rfl⟩, ?_⟩
    ((conv => whnf); repeat (refine SeqW.go ?_; conv => whnf))
    rw [e2]
    refine ⟨⟨by omega, by omega⟩, ?_⟩
    ((conv => whnf); repeat (refine SeqW.go ?_; conv => whnf))
    rw [e1]
    refine ⟨⟨by omega, by omega⟩, ?_⟩
    ((conv => whnf); repeat (refine SeqW.go ?_; conv => whnf))
    repeat (first | (refine Br.t ?_; conv => whnf) | (refine Cd.mk (by omega) ?_; conv => whnf) | (refine Br.f ?_; conv => whnf) | (refine SeqW.go ?_; conv => whnf))
    refine ⟨⟨Nat.le_of_ble_eq_true rfl, by (repeat (first | exact allN | refine allC (by first | exact sc_lift _ _ | exact sc_wes _ _ _ | exact sc_arr rfl | rfl) ?_))⟩, ?_⟩
    conv => whnf
    refine ⟨?_, rfl⟩
    rw [show ((at_ * 64 + 64 : Nat) : Int).toNat - ((at_ * 64 : Nat) : Int).toNat = 64 by simp only [Int.toNat_natCast]; omega]
    rfl
end

/-- What a map says of a sector. -/
def findB (n : Int) : List (Int × Nat × List UInt8) → Option (Nat × List UInt8)
  | [] => none
  | (m, _, p) :: r => if n = m then some (0, p) else (findB n r).map fun x => (x.1 + 1, x.2)
theorem findE_wesB (n : Int) : ∀ m : List (Int × Nat × List UInt8), findE n (wesB m) = (findB n m).map fun x => (x.1, .wag [] 64 (x.2.map byD) [])
  | [] => rfl
  | (k, b, p) :: r => by
    have ih := findE_wesB n r
    simp only [wesB, wes, List.map_cons, findE, findB] at ih ⊢
    split
    · rfl
    · rw [ih]; cases findB n r <;> rfl
/-- What a disk reads. -/
def readB (l : List UInt8) (m : List (Int × Nat × List UInt8)) (at_ : Int) : List UInt8 := match findB at_ m with
  | some (_, b) => b
  | none => (l.drop (at_.toNat * 64)).take 64
def Full (m : List (Int × Nat × List UInt8)) : Prop := ∀ e ∈ m, e.2.2.length = 64

theorem srcB (b : List UInt8) (lo n : Nat) : ((((b.map byD).drop lo).take n).map fun d => [d]).map (·.map PV.d) = liftR (rowsB ((b.drop lo).take n)) := by
  simp [liftR, rowsB, List.map_drop, List.map_take, Function.comp_def]
theorem liftB_dt (l : List UInt8) (a n : Nat) : ((liftR (rowsB l)).drop a).take n = liftR (rowsB ((l.drop a).take n)) := by
  simp [liftR, rowsB, List.map_drop, List.map_take]
theorem findB_full {n : Int} : ∀ {m : List (Int × Nat × List UInt8)} {j : Nat} {b : List UInt8}, Full m → findB n m = some (j, b) → b.length = 64
  | [], j, b, hm, h => by simp [findB] at h
  | (k, bn, p) :: r, j, b, hm, h => by
    simp only [findB] at h
    split at h
    · cases h; exact hm _ List.mem_cons_self
    · obtain ⟨x, h1, h2⟩ := Option.map_eq_some_iff.1 h
      cases h2
      exact findB_full (fun e he => hm e (List.mem_cons_of_mem _ he)) h1

theorem diskRead_nil (at_ : Int) : PureA Try.prog 20 [.d .nilp, .d (.i .i64 at_)] (.tup [bytesP [], errP 1]) := by
  refine callsW_of 0 Try.call20 Try.func20 (c := _) rfl (by kernel_rfl) (Nat.le_of_ble_eq_true rfl) (Nat.le_refl _) ?_
  ((conv => whnf); repeat (refine SeqW.go ?_; conv => whnf))
  repeat (first | (refine Br.t ?_; conv => whnf) | (refine Cd.mk (by omega) ?_; conv => whnf) | (refine Br.f ?_; conv => whnf) | (refine SeqW.go ?_; conv => whnf))
  exact ⟨rfl, rfl⟩
section
variable (l : List UInt8) (hl : l.length ≤ 16777216) (m : List (Int × Nat × List UInt8)) (c : Nat) (lg : Option (List (List D))) (fused : Bool) (fuse : Int)
include hl
theorem diskRead_no (at_ : Int) (ha : at_ < 0 ∨ (l.length / 64 : Nat) ≤ at_) :
    DetA Try.prog 20 [.ptr 2 0, .d (.i .i64 at_)] (dObs l m c lg fused fuse) (.tup [bytesP [], errP 120]) (dObs l m c lg fused fuse) := by
  cases lg
  all_goals
    refine callsW_of (dObs l m c _ fused fuse).length Try.call20 Try.func20 (c := _) rfl (by kernel_rfl) (Nat.le_of_ble_eq_true rfl) (Nat.le_refl _) ?_
    ((conv => whnf); repeat (refine SeqW.go ?_; conv => whnf))
    repeat (first | (refine Br.t ?_; conv => whnf) | (refine Cd.mk (by omega) ?_; conv => whnf) | (refine Br.f ?_; conv => whnf) | (refine SeqW.go ?_; conv => whnf))
    first | refine Br.dec (fun h1 => ?_) (fun h1 => ?_) | refine Br.beq (fun h1 => ?_) (fun h1 => ?_) | refine Br.bne (fun h1 => ?_) (fun h1 => ?_) | refine Br.nbeq (fun h1 => ?_) (fun h1 => ?_) | refine Br.not (fun h1 => ?_) (fun h1 => ?_) | refine Br.mk (fun h1 => ?_) (fun h1 => ?_)
    · ((conv => whnf); repeat (refine SeqW.go ?_; conv => whnf))
      repeat (first | (refine Br.t ?_; conv => whnf) | (refine Cd.mk (by omega) ?_; conv => whnf) | (refine Br.f ?_; conv => whnf) | (refine SeqW.go ?_; conv => whnf))
      refine ⟨⟨Nat.le_of_ble_eq_true rfl, by (repeat (first | exact allN | refine allC (by first | exact sc_lift _ _ | exact sc_wes _ _ _ | exact sc_arr rfl | rfl) ?_))⟩, ?_⟩
      conv => whnf
      exact ⟨rfl, rfl⟩
    · ((conv => whnf); repeat (refine SeqW.go ?_; conv => whnf))
      repeat (first | (refine Br.t ?_; conv => whnf) | (refine Cd.mk (by omega) ?_; conv => whnf) | (refine Br.f ?_; conv => whnf) | (refine SeqW.go ?_; conv => whnf))
      refine (diskSize_calls l hl m c _ fused fuse).call fun _ => ?_
      ((conv => whnf); repeat (refine SeqW.go ?_; conv => whnf))
      repeat (first | (refine Br.t ?_; conv => whnf) | (refine Cd.mk (by omega) ?_; conv => whnf) | (refine Br.f ?_; conv => whnf) | (refine SeqW.go ?_; conv => whnf))
      first | refine Br.dec (fun h2 => ?_) (fun h2 => ?_) | refine Br.beq (fun h2 => ?_) (fun h2 => ?_) | refine Br.bne (fun h2 => ?_) (fun h2 => ?_) | refine Br.nbeq (fun h2 => ?_) (fun h2 => ?_) | refine Br.not (fun h2 => ?_) (fun h2 => ?_) | refine Br.mk (fun h2 => ?_) (fun h2 => ?_)
      · ((conv => whnf); repeat (refine SeqW.go ?_; conv => whnf))
        repeat (first | (refine Br.t ?_; conv => whnf) | (refine Cd.mk (by omega) ?_; conv => whnf) | (refine Br.f ?_; conv => whnf) | (refine SeqW.go ?_; conv => whnf))
        refine ⟨⟨Nat.le_of_ble_eq_true rfl, by (repeat (first | exact allN | refine allC (by first | exact sc_lift _ _ | exact sc_wes _ _ _ | exact sc_arr rfl | rfl) ?_))⟩, ?_⟩
        conv => whnf
        exact ⟨rfl, rfl⟩
      · omega
theorem diskRead_ok (hm : Full m) (at_ : Nat) (ha : at_ < l.length / 64) :
    DetA Try.prog 20 [.ptr 2 0, .d (.i .i64 at_)] (dObs l m c lg fused fuse) (.tup [bytesP (readB l m at_), errP 0]) (dObs l m c lg fused fuse) := by
  have hla := fun X => (diskLasting_calls l hl m c lg fused fuse at_ ha).more X rfl (by cases lg <;> rfl) (dObs_sc ..) (dObs_sc ..)
  have full : ∀ j b, findB at_ m = some (j, b) → b.length = 64 := fun j b hb => findB_full hm hb
  cases lg
  all_goals
    refine callsW_of (dObs l m c _ fused fuse).length Try.call20 Try.func20 (c := _) rfl (by kernel_rfl) (Nat.le_of_ble_eq_true rfl) (Nat.le_refl _) ?_
    ((conv => whnf); repeat (refine SeqW.go ?_; conv => whnf))
    repeat (first | (refine Br.t ?_; conv => whnf) | (refine Cd.mk (by omega) ?_; conv => whnf) | (refine Br.f ?_; conv => whnf) | (refine SeqW.go ?_; conv => whnf))
    refine (diskSize_calls l hl m c _ fused fuse).call fun _ => ?_
    ((conv => whnf); repeat (refine SeqW.go ?_; conv => whnf))
    repeat (first | (refine Br.t ?_; conv => whnf) | (refine Cd.mk (by omega) ?_; conv => whnf) | (refine Br.f ?_; conv => whnf) | (refine SeqW.go ?_; conv => whnf))
    first | refine Br.dec (fun h2 => ?_) (fun h2 => ?_) | refine Br.beq (fun h2 => ?_) (fun h2 => ?_) | refine Br.bne (fun h2 => ?_) (fun h2 => ?_) | refine Br.nbeq (fun h2 => ?_) (fun h2 => ?_) | refine Br.not (fun h2 => ?_) (fun h2 => ?_) | refine Br.mk (fun h2 => ?_) (fun h2 => ?_)
    · omega
    ((conv => whnf); repeat (refine SeqW.go ?_; conv => whnf))
    repeat (first | (refine Br.t ?_; conv => whnf) | (refine Cd.mk (by omega) ?_; conv => whnf) | (refine Br.f ?_; conv => whnf) | (refine SeqW.go ?_; conv => whnf))
    refine ⟨⟨rfl, rfl, rfl, rfl⟩, ?_⟩
    rcases hf : findB at_ m with _ | ⟨j, b⟩
    · refine .miss (wes_int _) (by rw [findE_wesB, hf]; rfl) ?_
      ((conv => whnf); repeat (refine SeqW.go ?_; conv => whnf))
      refine ⟨by kernel_rfl, ?_⟩
      ((conv => whnf); repeat (refine SeqW.go ?_; conv => whnf))
      refine ⟨⟨rfl, rfl, rfl, rfl, rfl⟩, ?_⟩
      ((conv => whnf); repeat (refine SeqW.go ?_; conv => whnf))
      repeat (first | (refine Br.t ?_; conv => whnf) | (refine Cd.mk (by omega) ?_; conv => whnf) | (refine Br.f ?_; conv => whnf) | (refine SeqW.go ?_; conv => whnf))
      refine (hla [_]).call fun _ => ?_
      ((conv => whnf); repeat (refine SeqW.go ?_; conv => whnf))
      repeat (first | (refine Br.t ?_; conv => whnf) | (refine Cd.mk (by omega) ?_; conv => whnf) | (refine Br.f ?_; conv => whnf) | (refine SeqW.go ?_; conv => whnf))
      refine ⟨⟨rfl, by simp [liftR], allLen_lift (rowsB_all _), by omega⟩, ?_⟩
      ((conv => whnf); repeat (refine SeqW.go ?_; conv => whnf))
      rw [liftB_dt]
      refine ⟨⟨allLen_lift (rowsB_all _), by simp; omega, by simp; omega⟩, ?_⟩
      ((conv => whnf); repeat (refine SeqW.go ?_; conv => whnf))
      repeat (first | (refine Br.t ?_; conv => whnf) | (refine Cd.mk (by omega) ?_; conv => whnf) | (refine Br.f ?_; conv => whnf) | (refine SeqW.go ?_; conv => whnf))
      refine ⟨_, rfl, toRows_map _, ?_⟩
      conv => whnf
      refine ⟨⟨Nat.le_of_ble_eq_true rfl, by (repeat (first | exact allN | refine allC (by first | exact sc_lift _ _ | exact sc_wes _ _ _ | exact sc_arr rfl | rfl) ?_))⟩, ?_⟩
      conv => whnf
      exact ⟨by rw [readB, hf]; rfl, rfl⟩
    · refine .hit j _ (wes_int _) (by rw [findE_wesB, hf]; rfl) ?_
      ((conv => whnf); repeat (refine SeqW.go ?_; conv => whnf))
      refine ⟨by kernel_rfl, ?_⟩
      ((conv => whnf); repeat (refine SeqW.go ?_; conv => whnf))
      refine ⟨⟨rfl, rfl, rfl, rfl, rfl⟩, ?_⟩
      ((conv => whnf); repeat (refine SeqW.go ?_; conv => whnf))
      repeat (first | (refine Br.t ?_; conv => whnf) | (refine Cd.mk (by omega) ?_; conv => whnf) | (refine Br.f ?_; conv => whnf) | (refine SeqW.go ?_; conv => whnf))
      refine ⟨⟨rfl, by omega⟩, ?_⟩
      ((conv => whnf); repeat (refine SeqW.go ?_; conv => whnf))
      rw [srcB]
      have hb : (b.drop 0).take (64 - 0) = b := by rw [List.drop_zero, List.take_of_length_le]; have := full j b hf; omega
      rw [hb]
      refine ⟨⟨allLen_lift (rowsB_all _), by have := full j b hf; simp; omega, by have := full j b hf; simp; omega⟩, ?_⟩
      ((conv => whnf); repeat (refine SeqW.go ?_; conv => whnf))
      repeat (first | (refine Br.t ?_; conv => whnf) | (refine Cd.mk (by omega) ?_; conv => whnf) | (refine Br.f ?_; conv => whnf) | (refine SeqW.go ?_; conv => whnf))
      refine ⟨_, rfl, toRows_map _, ?_⟩
      conv => whnf
      refine ⟨⟨Nat.le_of_ble_eq_true rfl, by (repeat (first | exact allN | refine allC (by first | exact sc_lift _ _ | exact sc_wes _ _ _ | exact sc_arr rfl | rfl) ?_))⟩, ?_⟩
      conv => whnf
      exact ⟨by rw [readB, hf], rfl⟩
/-- What Read answers: bytes and a number. -/
def rdB (l : List UInt8) (m : List (Int × Nat × List UInt8)) (at_ : Int) : List UInt8 := if 0 ≤ at_ ∧ at_ < (l.length / 64 : Nat) then readB l m at_ else []
def rdE (l : List UInt8) (at_ : Int) : Int := if 0 ≤ at_ ∧ at_ < (l.length / 64 : Nat) then 0 else 120
theorem diskRead_calls (hm : Full m) (at_ : Int) :
    DetA Try.prog 20 [.ptr 2 0, .d (.i .i64 at_)] (dObs l m c lg fused fuse) (.tup [bytesP (rdB l m at_), errP (rdE l at_)]) (dObs l m c lg fused fuse) := by
  by_cases h : 0 ≤ at_ ∧ at_ < (l.length / 64 : Nat)
  · obtain ⟨n, rfl⟩ : ∃ n : Nat, at_ = n := ⟨at_.toNat, by omega⟩
    rw [rdB, rdE, if_pos h, if_pos h]
    exact diskRead_ok l hl m c lg fused fuse hm n (by omega)
  · rw [rdB, rdE, if_neg h, if_neg h]
    exact diskRead_no l hl m c lg fused fuse at_ (by omega)
end

end Go.Aw
