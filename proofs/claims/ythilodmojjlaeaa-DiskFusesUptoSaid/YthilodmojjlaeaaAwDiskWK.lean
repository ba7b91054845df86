/- Layer 12: Write. -/
import Derived.Test.YthilodmojjlaeaaAwDiskBK
set_option linter.unusedVariables false
set_option linter.unusedSimpArgs false
namespace Go.Aw
open Go.Proofs
set_option maxRecDepth 100000

/-- Does the fuse let one more act pass? What is left of it. -/
def spendB (fused : Bool) (fuse : Int) : Bool := !fused || !(fuse == 0)
def spendN (fused : Bool) (fuse : Int) : Int := if fused = true ∧ fuse ≠ 0 then fuse - 1 else fuse
section
variable (l : List UInt8) (m : List (Int × Nat × List UInt8)) (c : Nat) (lg : Option (List (List D))) (fused : Bool) (fuse : Int) (hf : 0 ≤ fuse ∧ fuse ≤ 9223372036854775807)
include hf
theorem spend_calls : DetA Try.prog 49 [.ptr 2 0] (dObs l m c lg fused fuse) (.d (.b (spendB fused fuse))) (dObs l m c lg fused (spendN fused fuse)) := by
  cases lg
  all_goals
    refine callsW_of (dObs l m c _ fused fuse).length Try.call49 Try.func49 (c := _) rfl (by kernel_rfl) (Nat.le_of_ble_eq_true rfl) (Nat.le_refl _) ?_
    cases fused
    · ((conv => whnf); repeat (refine SeqW.go ?_; conv => whnf))
      repeat (first | (refine Br.t ?_; conv => whnf) | (refine Cd.mk (by omega) ?_; conv => whnf) | (refine Br.f ?_; conv => whnf) | (refine SeqW.go ?_; conv => whnf))
      refine ⟨⟨Nat.le_of_ble_eq_true rfl, by (repeat (first | exact allN | refine allC (by first | exact sc_lift _ _ | exact sc_wes _ _ _ | exact sc_arr rfl | rfl) ?_))⟩, ?_⟩
      conv => whnf
      exact ⟨rfl, rfl⟩
    · ((conv => whnf); repeat (refine SeqW.go ?_; conv => whnf))
      repeat (first | (refine Br.t ?_; conv => whnf) | (refine Cd.mk (by omega) ?_; conv => whnf) | (refine Br.f ?_; conv => whnf) | (refine SeqW.go ?_; conv => whnf))
      first | refine Br.dec (fun h1 => ?_) (fun h1 => ?_) | refine Br.beq (fun h1 => ?_) (fun h1 => ?_) | refine Br.bne (fun h1 => ?_) (fun h1 => ?_) | refine Br.nbeq (fun h1 => ?_) (fun h1 => ?_) | refine Br.not (fun h1 => ?_) (fun h1 => ?_) | refine Br.mk (fun h1 => ?_) (fun h1 => ?_)
      · ((conv => whnf); repeat (refine SeqW.go ?_; conv => whnf))
        repeat (first | (refine Br.t ?_; conv => whnf) | (refine Cd.mk (by omega) ?_; conv => whnf) | (refine Br.f ?_; conv => whnf) | (refine SeqW.go ?_; conv => whnf))
        refine ⟨⟨Nat.le_of_ble_eq_true rfl, by (repeat (first | exact allN | refine allC (by first | exact sc_lift _ _ | exact sc_wes _ _ _ | exact sc_arr rfl | rfl) ?_))⟩, ?_⟩
        conv => whnf
        subst h1
        exact ⟨rfl, rfl⟩
      · ((conv => whnf); repeat (refine SeqW.go ?_; conv => whnf))
        repeat (first | (refine Br.t ?_; conv => whnf) | (refine Cd.mk (by omega) ?_; conv => whnf) | (refine Br.f ?_; conv => whnf) | (refine SeqW.go ?_; conv => whnf))
        refine ⟨⟨Nat.le_of_ble_eq_true rfl, by (repeat (first | exact allN | refine allC (by first | exact sc_lift _ _ | exact sc_wes _ _ _ | exact sc_arr rfl | rfl) ?_))⟩, ?_⟩
        conv => whnf
        rw [wrap_i64 (by omega) (by omega)]
        have e1 : spendB true fuse = true := by simp [spendB, h1]
        have e2 : spendN true fuse = fuse - 1 := by rw [spendN, if_pos ⟨rfl, h1⟩]
        rw [e1, e2]
        exact ⟨rfl, rfl⟩
end

/-- What is read there, behind a write. -/
def updB (n : Int) (b : List UInt8) (m : List (Int × Nat × List UInt8)) (c : Nat) : List (Int × Nat × List UInt8) × Nat := match findB n m with
  | some (j, _) => (m.modify j fun e => (e.1, e.2.1, b), c)
  | none => (m ++ [(n, c, b)], c + 1)
theorem modify_map {α β : Type} (f : α → β) (g : α → α) (g' : β → β) (h : ∀ x, f (g x) = g' (f x)) : ∀ (l : List α) (j : Nat), (l.map f).modify j g' = (l.modify j g).map f
  | [], j => by simp
  | x :: r, 0 => by simp [h]
  | x :: r, j + 1 => by simp [modify_map f g g' h r j]
theorem updE_wesB (n : Int) (b : List UInt8) (m : List (Int × Nat × List UInt8)) (c : Nat) : updE .i64 n (.wag [] 64 (b.map byD) []) (wesB m) c = (wesB (updB n b m c).1, (updB n b m c).2) := by
  unfold updE updB
  rw [findE_wesB]
  cases findB n m with
  | none => simp [wesB, wes]
  | some x =>
    simp only [Option.map_some]
    congr 1
    simp only [wesB, wes, List.map_map]
    exact modify_map (fun e : Int × Nat × List UInt8 => ((D.i .i64 e.1 : D), e.2.1, PV.wag [] 64 (e.2.2.map byD) [])) (fun e => (e.1, e.2.1, b)) (fun e => (e.1, e.2.1, PV.wag [] 64 (b.map byD) [])) (fun _ => rfl) m x.1
/-- A row of the log. -/
abbrev lgRow (x : Wr) : List D := .i .i64 x.1 :: (x.2.1.map byD ++ [.b x.2.2])

theorem allLen_lg {x : Wr} (h : x.2.1.length = 64) : AllLen 66 (liftR [lgRow x]) := by
  intro r hr
  simp only [liftR, List.map_cons, List.map_nil, List.mem_singleton] at hr
  subst hr
  simp [h]
theorem flatB (b : List UInt8) : (liftR (rowsB b)).flatten = [] ++ ((b.map byD).map PV.d ++ []) := by
  induction b with
  | nil => rfl
  | cons x r ih => simp [liftR, rowsB] at ih ⊢; simpa using ih
section
variable (l : List UInt8) (hl : l.length ≤ 16777216) (m : List (Int × Nat × List UInt8)) (c : Nat) (fused : Bool) (fuse : Int) (hf : 0 ≤ fuse ∧ fuse ≤ 9223372036854775807)
include hl hf
theorem diskWrite_none (at_ : Nat) (ha : at_ < l.length / 64) (b : List UInt8) (hb : b.length = 64) :
    DetA Try.prog 36 [.ptr 2 0, .d (.i .i64 at_), bytesP b] (dObs l m c none fused fuse) (errP 0)
      (dObs l (updB at_ b m c).1 (updB at_ b m c).2 (some [lgRow (at_, b, !spendB fused fuse)]) fused (spendN fused fuse)) := by
  refine DetA.pick (v := errP 0) (H := [dLast l, .mapo (wesB (updB at_ b m c).1) (updB at_ b m c).2, .box [.own 0 1 l.length, .own 4 66 1, .mp 1, .d (.b fused), .d (.i .i64 (spendN fused fuse))], .arr [.d (.i .i64 at_)] 64 (b.map byD) [.d (.b (!spendB fused fuse))], .buf (liftR [lgRow (at_, b, !spendB fused fuse)])]) ?_ [0, 1, 2, 4] (by (repeat (first | exact True.intro | (refine And.intro ?_ ?_; · first | exact congrArg some (renLift _ _).symm | exact congrArg some (renWes _ _ _).symm | exact rfl)))) rfl (by (repeat (first | exact allN | refine allC (by first | exact sc_lift _ _ | exact sc_wes _ _ _ | exact sc_arr rfl | rfl) ?_))) rfl
  · refine callsK_of Try.call36 Try.func36 (c := _) rfl (by kernel_rfl) (Nat.le_of_ble_eq_true rfl) ?_
    ((conv => whnf); repeat (refine SeqW.go ?_; conv => whnf))
    repeat (first | (refine Br.t ?_; conv => whnf) | (refine Cd.mk (by omega) ?_; conv => whnf) | (refine Br.f ?_; conv => whnf) | (refine SeqW.go ?_; conv => whnf))
    refine (diskSize_calls l hl m c none fused fuse).call fun _ => ?_
    ((conv => whnf); repeat (refine SeqW.go ?_; conv => whnf))
    repeat (first | (refine Br.t ?_; conv => whnf) | (refine Cd.mk (by omega) ?_; conv => whnf) | (refine Br.f ?_; conv => whnf) | (refine SeqW.go ?_; conv => whnf))
    first | refine Br.dec (fun h2 => ?_) (fun h2 => ?_) | refine Br.beq (fun h2 => ?_) (fun h2 => ?_) | refine Br.bne (fun h2 => ?_) (fun h2 => ?_) | refine Br.nbeq (fun h2 => ?_) (fun h2 => ?_) | refine Br.not (fun h2 => ?_) (fun h2 => ?_) | refine Br.mk (fun h2 => ?_) (fun h2 => ?_)
    · omega
    ((conv => whnf); repeat (refine SeqW.go ?_; conv => whnf))
    repeat (first | (refine Br.t ?_; conv => whnf) | (refine Cd.mk (by omega) ?_; conv => whnf) | (refine Br.f ?_; conv => whnf) | (refine SeqW.go ?_; conv => whnf))
    rw [rowsB_len]
    first | refine Br.dec (fun h3 => ?_) (fun h3 => ?_) | refine Br.beq (fun h3 => ?_) (fun h3 => ?_) | refine Br.bne (fun h3 => ?_) (fun h3 => ?_) | refine Br.nbeq (fun h3 => ?_) (fun h3 => ?_) | refine Br.not (fun h3 => ?_) (fun h3 => ?_) | refine Br.mk (fun h3 => ?_) (fun h3 => ?_)
    · omega
    ((conv => whnf); repeat (refine SeqW.go ?_; conv => whnf))
    repeat (first | (refine Br.t ?_; conv => whnf) | (refine Cd.mk (by omega) ?_; conv => whnf) | (refine Br.f ?_; conv => whnf) | (refine SeqW.go ?_; conv => whnf))
    refine (spend_calls l m c none fused fuse hf).call fun _ => ?_
    ((conv => whnf); repeat (refine SeqW.go ?_; conv => whnf))
    repeat (first | (refine Br.t ?_; conv => whnf) | (refine Cd.mk (by omega) ?_; conv => whnf) | (refine Br.f ?_; conv => whnf) | (refine SeqW.go ?_; conv => whnf))
    refine ⟨rfl, ?_⟩
    ((conv => whnf); repeat (refine SeqW.go ?_; conv => whnf))
    refine ⟨by kernel_rfl, ?_⟩
    ((conv => whnf); repeat (refine SeqW.go ?_; conv => whnf))
    refine ⟨⟨rfl, rfl, rfl, rfl, rfl⟩, ?_⟩
    ((conv => whnf); repeat (refine SeqW.go ?_; conv => whnf))
    repeat (first | (refine Br.t ?_; conv => whnf) | (refine Cd.mk (by omega) ?_; conv => whnf) | (refine Br.f ?_; conv => whnf) | (refine SeqW.go ?_; conv => whnf))
    refine ⟨[], b.map byD, [], flatB b, rfl, by simp, rfl, ?_⟩
    refine ⟨⟨allLen_lift (rowsB_all _), rfl, by omega⟩, ?_⟩
    ((conv => whnf); repeat (refine SeqW.go ?_; conv => whnf))
    repeat (first | (refine Br.t ?_; conv => whnf) | (refine Cd.mk (by omega) ?_; conv => whnf) | (refine Br.f ?_; conv => whnf) | (refine SeqW.go ?_; conv => whnf))
    have es : splice (List.replicate 64 (D.i .u8 0)) 0 ((b.map byD).take (min (liftR (rowsB b)).length (64 - 0))) = b.map byD := by
      have h1 : min (liftR (rowsB b)).length (64 - 0) = 64 := by simp [rowsB_len, hb]
      rw [h1, List.take_of_length_le (by simp; omega)]
      simp [splice, hb]
    rw [es]
    refine drawW [] mixed (by kernel_rfl) (by kernel_rfl) ?_
    ((conv => whnf); repeat (refine SeqW.go ?_; conv => whnf))
    refine OpF.rd rfl ⟨⟨rfl, rfl⟩, rfl, rfl⟩ ?_
    ((conv => whnf); repeat (refine SeqW.go ?_; conv => whnf))
    refine OpF.pure (fun S2 => ⟨⟨rfl, (show (0 : Nat) < 66 by omega), (show 66 ≤ 16777216 by omega), rfl⟩, rfl, rfl⟩) ?_
    ((conv => whnf); repeat (refine SeqW.go ?_; conv => whnf))
    refine ⟨⟨allLen_lg (x := (at_, b, !spendB fused fuse)) hb, by simp, by simp⟩, ?_⟩
    ((conv => whnf); repeat (refine SeqW.go ?_; conv => whnf))
    repeat (first | (refine Br.t ?_; conv => whnf) | (refine Cd.mk (by omega) ?_; conv => whnf) | (refine Br.f ?_; conv => whnf) | (refine SeqW.go ?_; conv => whnf))
    refine drawW [] mixed (by kernel_rfl) (by kernel_rfl) ?_
    ((conv => whnf); repeat (refine SeqW.go ?_; conv => whnf))
    refine OpF.rd rfl ⟨⟨rfl, rfl⟩, rfl, rfl⟩ ?_
    ((conv => whnf); repeat (refine SeqW.go ?_; conv => whnf))
    refine OpF.wr rfl ⟨⟨rfl, wes_int _⟩, rfl, rfl⟩ ?_
    ((conv => whnf); repeat (refine SeqW.go ?_; conv => whnf))
    repeat (first | (refine Br.t ?_; conv => whnf) | (refine Cd.mk (by omega) ?_; conv => whnf) | (refine Br.f ?_; conv => whnf) | (refine SeqW.go ?_; conv => whnf))
    rw [updE_wesB]
    refine ⟨5, Nat.le_of_ble_eq_true rfl, ?_⟩
    conv => whnf
    refine ⟨⟨Nat.le_of_ble_eq_true rfl, by (repeat (first | exact allN | refine allC (by first | exact sc_lift _ _ | exact sc_wes _ _ _ | exact sc_arr rfl | rfl) ?_))⟩, ?_⟩
    conv => whnf
    exact ⟨rfl, rfl⟩
theorem diskWrite_some (rows : List (List D)) (hr : AllLen 66 (liftR rows)) (hk : rows.length ≤ 1048576) (at_ : Nat) (ha : at_ < l.length / 64) (b : List UInt8) (hb : b.length = 64) :
    DetA Try.prog 36 [.ptr 2 0, .d (.i .i64 at_), bytesP b] (dObs l m c (some rows) fused fuse) (errP 0)
      (dObs l (updB at_ b m c).1 (updB at_ b m c).2 (some (rows ++ [lgRow (at_, b, !spendB fused fuse)])) fused (spendN fused fuse)) := by
  refine callsW_of 4 Try.call36 Try.func36 (c := _) rfl (by kernel_rfl) (Nat.le_of_ble_eq_true rfl) (Nat.le_refl _) ?_
  ((conv => whnf); repeat (refine SeqW.go ?_; conv => whnf))
  repeat (first | (refine Br.t ?_; conv => whnf) | (refine Cd.mk (by omega) ?_; conv => whnf) | (refine Br.f ?_; conv => whnf) | (refine SeqW.go ?_; conv => whnf))
  refine (diskSize_calls l hl m c (some rows) fused fuse).call fun _ => ?_
  ((conv => whnf); repeat (refine SeqW.go ?_; conv => whnf))
  repeat (first | (refine Br.t ?_; conv => whnf) | (refine Cd.mk (by omega) ?_; conv => whnf) | (refine Br.f ?_; conv => whnf) | (refine SeqW.go ?_; conv => whnf))
  first | refine Br.dec (fun h2 => ?_) (fun h2 => ?_) | refine Br.beq (fun h2 => ?_) (fun h2 => ?_) | refine Br.bne (fun h2 => ?_) (fun h2 => ?_) | refine Br.nbeq (fun h2 => ?_) (fun h2 => ?_) | refine Br.not (fun h2 => ?_) (fun h2 => ?_) | refine Br.mk (fun h2 => ?_) (fun h2 => ?_)
  · omega
  ((conv => whnf); repeat (refine SeqW.go ?_; conv => whnf))
  repeat (first | (refine Br.t ?_; conv => whnf) | (refine Cd.mk (by omega) ?_; conv => whnf) | (refine Br.f ?_; conv => whnf) | (refine SeqW.go ?_; conv => whnf))
  rw [rowsB_len]
  first | refine Br.dec (fun h3 => ?_) (fun h3 => ?_) | refine Br.beq (fun h3 => ?_) (fun h3 => ?_) | refine Br.bne (fun h3 => ?_) (fun h3 => ?_) | refine Br.nbeq (fun h3 => ?_) (fun h3 => ?_) | refine Br.not (fun h3 => ?_) (fun h3 => ?_) | refine Br.mk (fun h3 => ?_) (fun h3 => ?_)
  · omega
  ((conv => whnf); repeat (refine SeqW.go ?_; conv => whnf))
  repeat (first | (refine Br.t ?_; conv => whnf) | (refine Cd.mk (by omega) ?_; conv => whnf) | (refine Br.f ?_; conv => whnf) | (refine SeqW.go ?_; conv => whnf))
  refine (spend_calls l m c (some rows) fused fuse hf).call fun _ => ?_
  ((conv => whnf); repeat (refine SeqW.go ?_; conv => whnf))
  repeat (first | (refine Br.t ?_; conv => whnf) | (refine Cd.mk (by omega) ?_; conv => whnf) | (refine Br.f ?_; conv => whnf) | (refine SeqW.go ?_; conv => whnf))
  refine ⟨rfl, ?_⟩
  ((conv => whnf); repeat (refine SeqW.go ?_; conv => whnf))
  refine ⟨by kernel_rfl, ?_⟩
  ((conv => whnf); repeat (refine SeqW.go ?_; conv => whnf))
  refine ⟨⟨rfl, rfl, rfl, rfl, rfl⟩, ?_⟩
  ((conv => whnf); repeat (refine SeqW.go ?_; conv => whnf))
  repeat (first | (refine Br.t ?_; conv => whnf) | (refine Cd.mk (by omega) ?_; conv => whnf) | (refine Br.f ?_; conv => whnf) | (refine SeqW.go ?_; conv => whnf))
  refine ⟨[], b.map byD, [], flatB b, rfl, by simp, rfl, ?_⟩
  refine ⟨⟨allLen_lift (rowsB_all _), rfl, by omega⟩, ?_⟩
  ((conv => whnf); repeat (refine SeqW.go ?_; conv => whnf))
  repeat (first | (refine Br.t ?_; conv => whnf) | (refine Cd.mk (by omega) ?_; conv => whnf) | (refine Br.f ?_; conv => whnf) | (refine SeqW.go ?_; conv => whnf))
  have es : splice (List.replicate 64 (D.i .u8 0)) 0 ((b.map byD).take (min (liftR (rowsB b)).length (64 - 0))) = b.map byD := by
    have h1 : min (liftR (rowsB b)).length (64 - 0) = 64 := by simp [rowsB_len, hb]
    rw [h1, List.take_of_length_le (by simp; omega)]
    simp [splice, hb]
  rw [es]
  refine drawW [] mixed (by kernel_rfl) (by kernel_rfl) ?_
  ((conv => whnf); repeat (refine SeqW.go ?_; conv => whnf))
  refine OpF.rd rfl ⟨⟨rfl, rfl⟩, rfl, rfl⟩ ?_
  ((conv => whnf); repeat (refine SeqW.go ?_; conv => whnf))
  refine OpF.pure (fun S2 => ⟨⟨rfl, (show (0 : Nat) < 66 by omega), (show 66 ≤ 16777216 by omega), rfl⟩, rfl, rfl⟩) ?_
  ((conv => whnf); repeat (refine SeqW.go ?_; conv => whnf))
  refine ⟨⟨allLen_lg (x := (at_, b, !spendB fused fuse)) hb, by simp [liftR], hr, by simp; omega, by simp; omega⟩, ?_⟩
  ((conv => whnf); repeat (refine SeqW.go ?_; conv => whnf))
  repeat (first | (refine Br.t ?_; conv => whnf) | (refine Cd.mk (by omega) ?_; conv => whnf) | (refine Br.f ?_; conv => whnf) | (refine SeqW.go ?_; conv => whnf))
  refine drawW [] mixed (by kernel_rfl) (by kernel_rfl) ?_
  ((conv => whnf); repeat (refine SeqW.go ?_; conv => whnf))
  refine OpF.rd rfl ⟨⟨rfl, rfl⟩, rfl, rfl⟩ ?_
  ((conv => whnf); repeat (refine SeqW.go ?_; conv => whnf))
  refine OpF.wr rfl ⟨⟨rfl, wes_int _⟩, rfl, rfl⟩ ?_
  ((conv => whnf); repeat (refine SeqW.go ?_; conv => whnf))
  repeat (first | (refine Br.t ?_; conv => whnf) | (refine Cd.mk (by omega) ?_; conv => whnf) | (refine Br.f ?_; conv => whnf) | (refine SeqW.go ?_; conv => whnf))
  rw [updE_wesB, show (liftR rows ++ List.map (fun x => List.map PV.d x) [[D.i .i64 (at_ : Int)] ++ (b.map byD ++ [D.b !spendB fused fuse])]) = liftR (rows ++ [lgRow (at_, b, !spendB fused fuse)]) by simp [liftR]]
  rw [show rows.length + (List.map (fun x => List.map PV.d x) [[D.i .i64 (at_ : Int)] ++ (b.map byD ++ [D.b !spendB fused fuse])]).length = (rows ++ [lgRow (at_, b, !spendB fused fuse)]).length by simp]
  refine ⟨⟨Nat.le_of_ble_eq_true rfl, by (repeat (first | exact allN | refine allC (by first | exact sc_lift _ _ | exact sc_wes _ _ _ | exact sc_arr rfl | rfl) ?_))⟩, ?_⟩
  conv => whnf
  exact ⟨rfl, rfl⟩
end

end Go.Aw
