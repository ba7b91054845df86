/- Layer 12: New and Load make the document's disks. -/
import Derived.Test.YthilodmojjlaeaaAwDiskBK
set_option linter.unusedVariables false
set_option linter.unusedSimpArgs false
namespace Go.Aw
open Go.Proofs
set_option maxRecDepth 100000

theorem bytesSame_self (a : List UInt8) : PureA Try.prog 17 [bytesP a, bytesP a] (.d (.b true)) := by
  have := bytesSame_calls a a
  rwa [decide_eq_true rfl] at this
theorem rd_same (l : List UInt8) (at_ : Int) : rdB l [] at_ = rdR l none at_ := rfl

theorem makes_yy (n : Nat) (hn : 1 ≤ n ∧ n ≤ 65536) (l : List UInt8) (hl : l.length ≤ 16777216) (h : imgOk l) (at_ : Int) : PureA Try.prog 3 [.d (.i .i64 n), bytesP l, .d (.i .i64 at_)] (.d (.b true)) := by
  obtain ⟨z, hz, d1, d2⟩ : ∃ z : List UInt8, z.length = n * 64 ∧ DetA Try.prog 13 [.d (.i .i64 n)] [] (.tup [.ptr 2 0, errP 0]) (dObs z [] 0 none false 0) ∧ DetA Try.prog 14 [.d (.i .i64 n)] [] (.tup [.ptr 1 0, errP 0]) (rObs z none false 0) :=
    ⟨_, by simp, diskNew_ok n hn, refNew_ok n hn⟩
  have hz : z.length ≤ 16777216 := by omega
  refine callsW_of 0 Try.call3 Try.func3 (c := _) rfl (by kernel_rfl) (Nat.le_of_ble_eq_true rfl) (Nat.le_refl 0) ?_
  ((conv => whnf); repeat (refine SeqW.go ?_; conv => whnf))
  refine callP (twinO_calls l hl) rfl rfl fun _ => ?_
  ((conv => whnf); repeat (refine SeqW.go ?_; conv => whnf))
  repeat (first | (refine Br.t ?_; conv => whnf) | (refine Cd.mk (by omega) ?_; conv => whnf) | (refine Br.f ?_; conv => whnf) | (refine SeqW.go ?_; conv => whnf))
  refine d1.call fun _ => ?_
  ((conv => whnf); repeat (refine SeqW.go ?_; conv => whnf))
  repeat (first | (refine Br.t ?_; conv => whnf) | (refine Cd.mk (by omega) ?_; conv => whnf) | (refine Br.f ?_; conv => whnf) | (refine SeqW.go ?_; conv => whnf))
  refine callD (d2) [] (by (repeat (first | exact True.intro | (refine And.intro ?_ ?_; · first | exact congrArg some (renLift _ _).symm | exact congrArg some (renWes _ _ _).symm | exact rfl)))) rfl (by (repeat (first | exact allN | refine allC (by first | exact sc_lift _ _ | exact sc_wes _ _ _ | rfl) ?_))) (by (repeat (first | exact allN | refine allC (by first | exact sc_lift _ _ | exact sc_wes _ _ _ | rfl) ?_))) rfl rfl rfl (by (repeat (first | exact RenL.nil | (apply RenL.cons; · first | exact renLift _ _ | exact renWes _ _ _ | exact rfl)))) fun _ => ?_
  ((conv => whnf); repeat (refine SeqW.go ?_; conv => whnf))
  repeat (first | (refine Br.t ?_; conv => whnf) | (refine Cd.mk (by omega) ?_; conv => whnf) | (refine Br.f ?_; conv => whnf) | (refine SeqW.go ?_; conv => whnf))
  refine callD (diskLoad_ok l h) [] (by (repeat (first | exact True.intro | (refine And.intro ?_ ?_; · first | exact congrArg some (renLift _ _).symm | exact congrArg some (renWes _ _ _).symm | exact rfl)))) rfl (by (repeat (first | exact allN | refine allC (by first | exact sc_lift _ _ | exact sc_wes _ _ _ | rfl) ?_))) (by (repeat (first | exact allN | refine allC (by first | exact sc_lift _ _ | exact sc_wes _ _ _ | rfl) ?_))) rfl rfl rfl (by (repeat (first | exact RenL.nil | (apply RenL.cons; · first | exact renLift _ _ | exact renWes _ _ _ | exact rfl)))) fun _ => ?_
  ((conv => whnf); repeat (refine SeqW.go ?_; conv => whnf))
  repeat (first | (refine Br.t ?_; conv => whnf) | (refine Cd.mk (by omega) ?_; conv => whnf) | (refine Br.f ?_; conv => whnf) | (refine SeqW.go ?_; conv => whnf))
  refine callD (refLoad_ok l h) [] (by (repeat (first | exact True.intro | (refine And.intro ?_ ?_; · first | exact congrArg some (renLift _ _).symm | exact congrArg some (renWes _ _ _).symm | exact rfl)))) rfl (by (repeat (first | exact allN | refine allC (by first | exact sc_lift _ _ | exact sc_wes _ _ _ | rfl) ?_))) (by (repeat (first | exact allN | refine allC (by first | exact sc_lift _ _ | exact sc_wes _ _ _ | rfl) ?_))) rfl rfl rfl (by (repeat (first | exact RenL.nil | (apply RenL.cons; · first | exact renLift _ _ | exact renWes _ _ _ | exact rfl)))) fun _ => ?_
  ((conv => whnf); repeat (refine SeqW.go ?_; conv => whnf))
  repeat (first | (refine Br.t ?_; conv => whnf) | (refine Cd.mk (by omega) ?_; conv => whnf) | (refine Br.f ?_; conv => whnf) | (refine SeqW.go ?_; conv => whnf))
  refine callP (bytesSame_self l) rfl rfl fun _ => ?_
  ((conv => whnf); repeat (refine SeqW.go ?_; conv => whnf))
  repeat (first | (refine Br.t ?_; conv => whnf) | (refine Cd.mk (by omega) ?_; conv => whnf) | (refine Br.f ?_; conv => whnf) | (refine SeqW.go ?_; conv => whnf))
  refine callD (diskSize_calls z hz [] 0 none false 0) [0, 1, 2] (by (repeat (first | exact True.intro | (refine And.intro ?_ ?_; · first | exact congrArg some (renLift _ _).symm | exact congrArg some (renWes _ _ _).symm | exact rfl)))) rfl (by (repeat (first | exact allN | refine allC (by first | exact sc_lift _ _ | exact sc_wes _ _ _ | rfl) ?_))) (by (repeat (first | exact allN | refine allC (by first | exact sc_lift _ _ | exact sc_wes _ _ _ | rfl) ?_))) rfl rfl rfl (by (repeat (first | exact RenL.nil | (apply RenL.cons; · first | exact renLift _ _ | exact renWes _ _ _ | exact rfl)))) fun _ => ?_
  ((conv => whnf); repeat (refine SeqW.go ?_; conv => whnf))
  repeat (first | (refine Br.t ?_; conv => whnf) | (refine Cd.mk (by omega) ?_; conv => whnf) | (refine Br.f ?_; conv => whnf) | (refine SeqW.go ?_; conv => whnf))
  refine callD (refSize_calls z hz none false 0) [3, 4] (by (repeat (first | exact True.intro | (refine And.intro ?_ ?_; · first | exact congrArg some (renLift _ _).symm | exact congrArg some (renWes _ _ _).symm | exact rfl)))) rfl (by (repeat (first | exact allN | refine allC (by first | exact sc_lift _ _ | exact sc_wes _ _ _ | rfl) ?_))) (by (repeat (first | exact allN | refine allC (by first | exact sc_lift _ _ | exact sc_wes _ _ _ | rfl) ?_))) rfl rfl rfl (by (repeat (first | exact RenL.nil | (apply RenL.cons; · first | exact renLift _ _ | exact renWes _ _ _ | exact rfl)))) fun _ => ?_
  ((conv => whnf); repeat (refine SeqW.go ?_; conv => whnf))
  repeat (first | (refine Br.t ?_; conv => whnf) | (refine Cd.mk (by omega) ?_; conv => whnf) | (refine Br.f ?_; conv => whnf) | (refine SeqW.go ?_; conv => whnf))
  refine Br.ne_self ?_
  ((conv => whnf); repeat (refine SeqW.go ?_; conv => whnf))
  repeat (first | (refine Br.t ?_; conv => whnf) | (refine Cd.mk (by omega) ?_; conv => whnf) | (refine Br.f ?_; conv => whnf) | (refine SeqW.go ?_; conv => whnf))
  refine callD (diskSize_calls l hl [] 0 none false 0) [5, 6, 7] (by (repeat (first | exact True.intro | (refine And.intro ?_ ?_; · first | exact congrArg some (renLift _ _).symm | exact congrArg some (renWes _ _ _).symm | exact rfl)))) rfl (by (repeat (first | exact allN | refine allC (by first | exact sc_lift _ _ | exact sc_wes _ _ _ | rfl) ?_))) (by (repeat (first | exact allN | refine allC (by first | exact sc_lift _ _ | exact sc_wes _ _ _ | rfl) ?_))) rfl rfl rfl (by (repeat (first | exact RenL.nil | (apply RenL.cons; · first | exact renLift _ _ | exact renWes _ _ _ | exact rfl)))) fun _ => ?_
  ((conv => whnf); repeat (refine SeqW.go ?_; conv => whnf))
  repeat (first | (refine Br.t ?_; conv => whnf) | (refine Cd.mk (by omega) ?_; conv => whnf) | (refine Br.f ?_; conv => whnf) | (refine SeqW.go ?_; conv => whnf))
  refine callD (refSize_calls l hl none false 0) [8, 9] (by (repeat (first | exact True.intro | (refine And.intro ?_ ?_; · first | exact congrArg some (renLift _ _).symm | exact congrArg some (renWes _ _ _).symm | exact rfl)))) rfl (by (repeat (first | exact allN | refine allC (by first | exact sc_lift _ _ | exact sc_wes _ _ _ | rfl) ?_))) (by (repeat (first | exact allN | refine allC (by first | exact sc_lift _ _ | exact sc_wes _ _ _ | rfl) ?_))) rfl rfl rfl (by (repeat (first | exact RenL.nil | (apply RenL.cons; · first | exact renLift _ _ | exact renWes _ _ _ | exact rfl)))) fun _ => ?_
  ((conv => whnf); repeat (refine SeqW.go ?_; conv => whnf))
  repeat (first | (refine Br.t ?_; conv => whnf) | (refine Cd.mk (by omega) ?_; conv => whnf) | (refine Br.f ?_; conv => whnf) | (refine SeqW.go ?_; conv => whnf))
  refine Br.ne_self ?_
  ((conv => whnf); repeat (refine SeqW.go ?_; conv => whnf))
  repeat (first | (refine Br.t ?_; conv => whnf) | (refine Cd.mk (by omega) ?_; conv => whnf) | (refine Br.f ?_; conv => whnf) | (refine SeqW.go ?_; conv => whnf))
  refine callD (diskRead_calls z hz [] 0 none false 0 (fun _ h => by cases h) at_) [0, 1, 2] (by (repeat (first | exact True.intro | (refine And.intro ?_ ?_; · first | exact congrArg some (renLift _ _).symm | exact congrArg some (renWes _ _ _).symm | exact rfl)))) rfl (by (repeat (first | exact allN | refine allC (by first | exact sc_lift _ _ | exact sc_wes _ _ _ | rfl) ?_))) (by (repeat (first | exact allN | refine allC (by first | exact sc_lift _ _ | exact sc_wes _ _ _ | rfl) ?_))) rfl rfl rfl (by (repeat (first | exact RenL.nil | (apply RenL.cons; · first | exact renLift _ _ | exact renWes _ _ _ | exact rfl)))) fun _ => ?_
  ((conv => whnf); repeat (refine SeqW.go ?_; conv => whnf))
  repeat (first | (refine Br.t ?_; conv => whnf) | (refine Cd.mk (by omega) ?_; conv => whnf) | (refine Br.f ?_; conv => whnf) | (refine SeqW.go ?_; conv => whnf))
  refine callD (refRead_calls z hz none false 0 ⟨Nat.zero_le _, fun _ h => by cases h⟩ at_) [3, 4] (by (repeat (first | exact True.intro | (refine And.intro ?_ ?_; · first | exact congrArg some (renLift _ _).symm | exact congrArg some (renWes _ _ _).symm | exact rfl)))) rfl (by (repeat (first | exact allN | refine allC (by first | exact sc_lift _ _ | exact sc_wes _ _ _ | rfl) ?_))) (by (repeat (first | exact allN | refine allC (by first | exact sc_lift _ _ | exact sc_wes _ _ _ | rfl) ?_))) rfl rfl rfl (by (repeat (first | exact RenL.nil | (apply RenL.cons; · first | exact renLift _ _ | exact renWes _ _ _ | exact rfl)))) fun _ => ?_
  ((conv => whnf); repeat (refine SeqW.go ?_; conv => whnf))
  repeat (first | (refine Br.t ?_; conv => whnf) | (refine Cd.mk (by omega) ?_; conv => whnf) | (refine Br.f ?_; conv => whnf) | (refine SeqW.go ?_; conv => whnf))
  refine callD (diskRead_calls l hl [] 0 none false 0 (fun _ h => by cases h) at_) [5, 6, 7] (by (repeat (first | exact True.intro | (refine And.intro ?_ ?_; · first | exact congrArg some (renLift _ _).symm | exact congrArg some (renWes _ _ _).symm | exact rfl)))) rfl (by (repeat (first | exact allN | refine allC (by first | exact sc_lift _ _ | exact sc_wes _ _ _ | rfl) ?_))) (by (repeat (first | exact allN | refine allC (by first | exact sc_lift _ _ | exact sc_wes _ _ _ | rfl) ?_))) rfl rfl rfl (by (repeat (first | exact RenL.nil | (apply RenL.cons; · first | exact renLift _ _ | exact renWes _ _ _ | exact rfl)))) fun _ => ?_
  ((conv => whnf); repeat (refine SeqW.go ?_; conv => whnf))
  repeat (first | (refine Br.t ?_; conv => whnf) | (refine Cd.mk (by omega) ?_; conv => whnf) | (refine Br.f ?_; conv => whnf) | (refine SeqW.go ?_; conv => whnf))
  refine callD (refRead_calls l hl none false 0 ⟨Nat.zero_le _, fun _ h => by cases h⟩ at_) [8, 9] (by (repeat (first | exact True.intro | (refine And.intro ?_ ?_; · first | exact congrArg some (renLift _ _).symm | exact congrArg some (renWes _ _ _).symm | exact rfl)))) rfl (by (repeat (first | exact allN | refine allC (by first | exact sc_lift _ _ | exact sc_wes _ _ _ | rfl) ?_))) (by (repeat (first | exact allN | refine allC (by first | exact sc_lift _ _ | exact sc_wes _ _ _ | rfl) ?_))) rfl rfl rfl (by (repeat (first | exact RenL.nil | (apply RenL.cons; · first | exact renLift _ _ | exact renWes _ _ _ | exact rfl)))) fun _ => ?_
  ((conv => whnf); repeat (refine SeqW.go ?_; conv => whnf))
  repeat (first | (refine Br.t ?_; conv => whnf) | (refine Cd.mk (by omega) ?_; conv => whnf) | (refine Br.f ?_; conv => whnf) | (refine SeqW.go ?_; conv => whnf))
  refine Br.eq_self ?_
  ((conv => whnf); repeat (refine SeqW.go ?_; conv => whnf))
  repeat (first | (refine Br.t ?_; conv => whnf) | (refine Cd.mk (by omega) ?_; conv => whnf) | (refine Br.f ?_; conv => whnf) | (refine SeqW.go ?_; conv => whnf))
  refine Br.eq_self ?_
  ((conv => whnf); repeat (refine SeqW.go ?_; conv => whnf))
  repeat (first | (refine Br.t ?_; conv => whnf) | (refine Cd.mk (by omega) ?_; conv => whnf) | (refine Br.f ?_; conv => whnf) | (refine SeqW.go ?_; conv => whnf))
  rw [rd_same, rd_same]
  refine callP (bytesSame_self _) rfl rfl fun _ => ?_
  ((conv => whnf); repeat (refine SeqW.go ?_; conv => whnf))
  repeat (first | (refine Br.t ?_; conv => whnf) | (refine Cd.mk (by omega) ?_; conv => whnf) | (refine Br.f ?_; conv => whnf) | (refine SeqW.go ?_; conv => whnf))
  refine callP (bytesSame_self _) rfl rfl fun _ => ?_
  ((conv => whnf); repeat (refine SeqW.go ?_; conv => whnf))
  repeat (first | (refine Br.t ?_; conv => whnf) | (refine Cd.mk (by omega) ?_; conv => whnf) | (refine Br.f ?_; conv => whnf) | (refine SeqW.go ?_; conv => whnf))
  refine callD (diskPending_none z [] 0 false 0) [0, 1, 2] (by (repeat (first | exact True.intro | (refine And.intro ?_ ?_; · first | exact congrArg some (renLift _ _).symm | exact congrArg some (renWes _ _ _).symm | exact rfl)))) rfl (by (repeat (first | exact allN | refine allC (by first | exact sc_lift _ _ | exact sc_wes _ _ _ | rfl) ?_))) (by (repeat (first | exact allN | refine allC (by first | exact sc_lift _ _ | exact sc_wes _ _ _ | rfl) ?_))) rfl rfl rfl (by (repeat (first | exact RenL.nil | (apply RenL.cons; · first | exact renLift _ _ | exact renWes _ _ _ | exact rfl)))) fun _ => ?_
  ((conv => whnf); repeat (refine SeqW.go ?_; conv => whnf))
  repeat (first | (refine Br.t ?_; conv => whnf) | (refine Cd.mk (by omega) ?_; conv => whnf) | (refine Br.f ?_; conv => whnf) | (refine SeqW.go ?_; conv => whnf))
  refine callD (diskPending_none l [] 0 false 0) [5, 6, 7] (by (repeat (first | exact True.intro | (refine And.intro ?_ ?_; · first | exact congrArg some (renLift _ _).symm | exact congrArg some (renWes _ _ _).symm | exact rfl)))) rfl (by (repeat (first | exact allN | refine allC (by first | exact sc_lift _ _ | exact sc_wes _ _ _ | rfl) ?_))) (by (repeat (first | exact allN | refine allC (by first | exact sc_lift _ _ | exact sc_wes _ _ _ | rfl) ?_))) rfl rfl rfl (by (repeat (first | exact RenL.nil | (apply RenL.cons; · first | exact renLift _ _ | exact renWes _ _ _ | exact rfl)))) fun _ => ?_
  ((conv => whnf); repeat (refine SeqW.go ?_; conv => whnf))
  repeat (first | (refine Br.t ?_; conv => whnf) | (refine Cd.mk (by omega) ?_; conv => whnf) | (refine Br.f ?_; conv => whnf) | (refine SeqW.go ?_; conv => whnf))
  exact ⟨rfl, rfl⟩
theorem makes_yn (n : Nat) (hn : 1 ≤ n ∧ n ≤ 65536) (l : List UInt8) (hl : l.length ≤ 16777216) (h : ¬ imgOk l) (at_ : Int) : PureA Try.prog 3 [.d (.i .i64 n), bytesP l, .d (.i .i64 at_)] (.d (.b true)) := by
  obtain ⟨z, hz, d1, d2⟩ : ∃ z : List UInt8, z.length = n * 64 ∧ DetA Try.prog 13 [.d (.i .i64 n)] [] (.tup [.ptr 2 0, errP 0]) (dObs z [] 0 none false 0) ∧ DetA Try.prog 14 [.d (.i .i64 n)] [] (.tup [.ptr 1 0, errP 0]) (rObs z none false 0) :=
    ⟨_, by simp, diskNew_ok n hn, refNew_ok n hn⟩
  have hz : z.length ≤ 16777216 := by omega
  refine callsW_of 0 Try.call3 Try.func3 (c := _) rfl (by kernel_rfl) (Nat.le_of_ble_eq_true rfl) (Nat.le_refl 0) ?_
  ((conv => whnf); repeat (refine SeqW.go ?_; conv => whnf))
  refine callP (twinO_calls l hl) rfl rfl fun _ => ?_
  ((conv => whnf); repeat (refine SeqW.go ?_; conv => whnf))
  repeat (first | (refine Br.t ?_; conv => whnf) | (refine Cd.mk (by omega) ?_; conv => whnf) | (refine Br.f ?_; conv => whnf) | (refine SeqW.go ?_; conv => whnf))
  refine d1.call fun _ => ?_
  ((conv => whnf); repeat (refine SeqW.go ?_; conv => whnf))
  repeat (first | (refine Br.t ?_; conv => whnf) | (refine Cd.mk (by omega) ?_; conv => whnf) | (refine Br.f ?_; conv => whnf) | (refine SeqW.go ?_; conv => whnf))
  refine callD (d2) [] (by (repeat (first | exact True.intro | (refine And.intro ?_ ?_; · first | exact congrArg some (renLift _ _).symm | exact congrArg some (renWes _ _ _).symm | exact rfl)))) rfl (by (repeat (first | exact allN | refine allC (by first | exact sc_lift _ _ | exact sc_wes _ _ _ | rfl) ?_))) (by (repeat (first | exact allN | refine allC (by first | exact sc_lift _ _ | exact sc_wes _ _ _ | rfl) ?_))) rfl rfl rfl (by (repeat (first | exact RenL.nil | (apply RenL.cons; · first | exact renLift _ _ | exact renWes _ _ _ | exact rfl)))) fun _ => ?_
  ((conv => whnf); repeat (refine SeqW.go ?_; conv => whnf))
  repeat (first | (refine Br.t ?_; conv => whnf) | (refine Cd.mk (by omega) ?_; conv => whnf) | (refine Br.f ?_; conv => whnf) | (refine SeqW.go ?_; conv => whnf))
  refine callD (diskLoad_no l hl h) [] (by (repeat (first | exact True.intro | (refine And.intro ?_ ?_; · first | exact congrArg some (renLift _ _).symm | exact congrArg some (renWes _ _ _).symm | exact rfl)))) rfl (by (repeat (first | exact allN | refine allC (by first | exact sc_lift _ _ | exact sc_wes _ _ _ | rfl) ?_))) (by (repeat (first | exact allN | refine allC (by first | exact sc_lift _ _ | exact sc_wes _ _ _ | rfl) ?_))) rfl rfl rfl (by (repeat (first | exact RenL.nil | (apply RenL.cons; · first | exact renLift _ _ | exact renWes _ _ _ | exact rfl)))) fun _ => ?_
  ((conv => whnf); repeat (refine SeqW.go ?_; conv => whnf))
  repeat (first | (refine Br.t ?_; conv => whnf) | (refine Cd.mk (by omega) ?_; conv => whnf) | (refine Br.f ?_; conv => whnf) | (refine SeqW.go ?_; conv => whnf))
  refine callD (refLoad_no l hl h) [] (by (repeat (first | exact True.intro | (refine And.intro ?_ ?_; · first | exact congrArg some (renLift _ _).symm | exact congrArg some (renWes _ _ _).symm | exact rfl)))) rfl (by (repeat (first | exact allN | refine allC (by first | exact sc_lift _ _ | exact sc_wes _ _ _ | rfl) ?_))) (by (repeat (first | exact allN | refine allC (by first | exact sc_lift _ _ | exact sc_wes _ _ _ | rfl) ?_))) rfl rfl rfl (by (repeat (first | exact RenL.nil | (apply RenL.cons; · first | exact renLift _ _ | exact renWes _ _ _ | exact rfl)))) fun _ => ?_
  ((conv => whnf); repeat (refine SeqW.go ?_; conv => whnf))
  repeat (first | (refine Br.t ?_; conv => whnf) | (refine Cd.mk (by omega) ?_; conv => whnf) | (refine Br.f ?_; conv => whnf) | (refine SeqW.go ?_; conv => whnf))
  refine callP (bytesSame_self l) rfl rfl fun _ => ?_
  ((conv => whnf); repeat (refine SeqW.go ?_; conv => whnf))
  repeat (first | (refine Br.t ?_; conv => whnf) | (refine Cd.mk (by omega) ?_; conv => whnf) | (refine Br.f ?_; conv => whnf) | (refine SeqW.go ?_; conv => whnf))
  refine callD (diskSize_calls z hz [] 0 none false 0) [0, 1, 2] (by (repeat (first | exact True.intro | (refine And.intro ?_ ?_; · first | exact congrArg some (renLift _ _).symm | exact congrArg some (renWes _ _ _).symm | exact rfl)))) rfl (by (repeat (first | exact allN | refine allC (by first | exact sc_lift _ _ | exact sc_wes _ _ _ | rfl) ?_))) (by (repeat (first | exact allN | refine allC (by first | exact sc_lift _ _ | exact sc_wes _ _ _ | rfl) ?_))) rfl rfl rfl (by (repeat (first | exact RenL.nil | (apply RenL.cons; · first | exact renLift _ _ | exact renWes _ _ _ | exact rfl)))) fun _ => ?_
  ((conv => whnf); repeat (refine SeqW.go ?_; conv => whnf))
  repeat (first | (refine Br.t ?_; conv => whnf) | (refine Cd.mk (by omega) ?_; conv => whnf) | (refine Br.f ?_; conv => whnf) | (refine SeqW.go ?_; conv => whnf))
  refine callD (refSize_calls z hz none false 0) [3, 4] (by (repeat (first | exact True.intro | (refine And.intro ?_ ?_; · first | exact congrArg some (renLift _ _).symm | exact congrArg some (renWes _ _ _).symm | exact rfl)))) rfl (by (repeat (first | exact allN | refine allC (by first | exact sc_lift _ _ | exact sc_wes _ _ _ | rfl) ?_))) (by (repeat (first | exact allN | refine allC (by first | exact sc_lift _ _ | exact sc_wes _ _ _ | rfl) ?_))) rfl rfl rfl (by (repeat (first | exact RenL.nil | (apply RenL.cons; · first | exact renLift _ _ | exact renWes _ _ _ | exact rfl)))) fun _ => ?_
  ((conv => whnf); repeat (refine SeqW.go ?_; conv => whnf))
  repeat (first | (refine Br.t ?_; conv => whnf) | (refine Cd.mk (by omega) ?_; conv => whnf) | (refine Br.f ?_; conv => whnf) | (refine SeqW.go ?_; conv => whnf))
  refine Br.ne_self ?_
  ((conv => whnf); repeat (refine SeqW.go ?_; conv => whnf))
  repeat (first | (refine Br.t ?_; conv => whnf) | (refine Cd.mk (by omega) ?_; conv => whnf) | (refine Br.f ?_; conv => whnf) | (refine SeqW.go ?_; conv => whnf))
  refine callP (diskSize_nil) rfl rfl fun _ => ?_
  ((conv => whnf); repeat (refine SeqW.go ?_; conv => whnf))
  repeat (first | (refine Br.t ?_; conv => whnf) | (refine Cd.mk (by omega) ?_; conv => whnf) | (refine Br.f ?_; conv => whnf) | (refine SeqW.go ?_; conv => whnf))
  refine callP (refSize_nil) rfl rfl fun _ => ?_
  ((conv => whnf); repeat (refine SeqW.go ?_; conv => whnf))
  repeat (first | (refine Br.t ?_; conv => whnf) | (refine Cd.mk (by omega) ?_; conv => whnf) | (refine Br.f ?_; conv => whnf) | (refine SeqW.go ?_; conv => whnf))
  refine callD (diskRead_calls z hz [] 0 none false 0 (fun _ h => by cases h) at_) [0, 1, 2] (by (repeat (first | exact True.intro | (refine And.intro ?_ ?_; · first | exact congrArg some (renLift _ _).symm | exact congrArg some (renWes _ _ _).symm | exact rfl)))) rfl (by (repeat (first | exact allN | refine allC (by first | exact sc_lift _ _ | exact sc_wes _ _ _ | rfl) ?_))) (by (repeat (first | exact allN | refine allC (by first | exact sc_lift _ _ | exact sc_wes _ _ _ | rfl) ?_))) rfl rfl rfl (by (repeat (first | exact RenL.nil | (apply RenL.cons; · first | exact renLift _ _ | exact renWes _ _ _ | exact rfl)))) fun _ => ?_
  ((conv => whnf); repeat (refine SeqW.go ?_; conv => whnf))
  repeat (first | (refine Br.t ?_; conv => whnf) | (refine Cd.mk (by omega) ?_; conv => whnf) | (refine Br.f ?_; conv => whnf) | (refine SeqW.go ?_; conv => whnf))
  refine callD (refRead_calls z hz none false 0 ⟨Nat.zero_le _, fun _ h => by cases h⟩ at_) [3, 4] (by (repeat (first | exact True.intro | (refine And.intro ?_ ?_; · first | exact congrArg some (renLift _ _).symm | exact congrArg some (renWes _ _ _).symm | exact rfl)))) rfl (by (repeat (first | exact allN | refine allC (by first | exact sc_lift _ _ | exact sc_wes _ _ _ | rfl) ?_))) (by (repeat (first | exact allN | refine allC (by first | exact sc_lift _ _ | exact sc_wes _ _ _ | rfl) ?_))) rfl rfl rfl (by (repeat (first | exact RenL.nil | (apply RenL.cons; · first | exact renLift _ _ | exact renWes _ _ _ | exact rfl)))) fun _ => ?_
  ((conv => whnf); repeat (refine SeqW.go ?_; conv => whnf))
  repeat (first | (refine Br.t ?_; conv => whnf) | (refine Cd.mk (by omega) ?_; conv => whnf) | (refine Br.f ?_; conv => whnf) | (refine SeqW.go ?_; conv => whnf))
  refine callP (diskRead_nil at_) rfl rfl fun _ => ?_
  ((conv => whnf); repeat (refine SeqW.go ?_; conv => whnf))
  repeat (first | (refine Br.t ?_; conv => whnf) | (refine Cd.mk (by omega) ?_; conv => whnf) | (refine Br.f ?_; conv => whnf) | (refine SeqW.go ?_; conv => whnf))
  refine callP (refRead_nil at_) rfl rfl fun _ => ?_
  ((conv => whnf); repeat (refine SeqW.go ?_; conv => whnf))
  repeat (first | (refine Br.t ?_; conv => whnf) | (refine Cd.mk (by omega) ?_; conv => whnf) | (refine Br.f ?_; conv => whnf) | (refine SeqW.go ?_; conv => whnf))
  refine Br.eq_self ?_
  ((conv => whnf); repeat (refine SeqW.go ?_; conv => whnf))
  repeat (first | (refine Br.t ?_; conv => whnf) | (refine Cd.mk (by omega) ?_; conv => whnf) | (refine Br.f ?_; conv => whnf) | (refine SeqW.go ?_; conv => whnf))
  rw [rd_same]
  refine callP (bytesSame_self _) rfl rfl fun _ => ?_
  ((conv => whnf); repeat (refine SeqW.go ?_; conv => whnf))
  repeat (first | (refine Br.t ?_; conv => whnf) | (refine Cd.mk (by omega) ?_; conv => whnf) | (refine Br.f ?_; conv => whnf) | (refine SeqW.go ?_; conv => whnf))
  refine callP (bytesSame_self _) rfl rfl fun _ => ?_
  ((conv => whnf); repeat (refine SeqW.go ?_; conv => whnf))
  repeat (first | (refine Br.t ?_; conv => whnf) | (refine Cd.mk (by omega) ?_; conv => whnf) | (refine Br.f ?_; conv => whnf) | (refine SeqW.go ?_; conv => whnf))
  refine callD (diskPending_none z [] 0 false 0) [0, 1, 2] (by (repeat (first | exact True.intro | (refine And.intro ?_ ?_; · first | exact congrArg some (renLift _ _).symm | exact congrArg some (renWes _ _ _).symm | exact rfl)))) rfl (by (repeat (first | exact allN | refine allC (by first | exact sc_lift _ _ | exact sc_wes _ _ _ | rfl) ?_))) (by (repeat (first | exact allN | refine allC (by first | exact sc_lift _ _ | exact sc_wes _ _ _ | rfl) ?_))) rfl rfl rfl (by (repeat (first | exact RenL.nil | (apply RenL.cons; · first | exact renLift _ _ | exact renWes _ _ _ | exact rfl)))) fun _ => ?_
  ((conv => whnf); repeat (refine SeqW.go ?_; conv => whnf))
  repeat (first | (refine Br.t ?_; conv => whnf) | (refine Cd.mk (by omega) ?_; conv => whnf) | (refine Br.f ?_; conv => whnf) | (refine SeqW.go ?_; conv => whnf))
  refine callP (diskPending_nil) rfl rfl fun _ => ?_
  ((conv => whnf); repeat (refine SeqW.go ?_; conv => whnf))
  repeat (first | (refine Br.t ?_; conv => whnf) | (refine Cd.mk (by omega) ?_; conv => whnf) | (refine Br.f ?_; conv => whnf) | (refine SeqW.go ?_; conv => whnf))
  exact ⟨rfl, rfl⟩
theorem makes_ny (n : Int) (hn : n < 1 ∨ 65536 < n) (l : List UInt8) (hl : l.length ≤ 16777216) (h : imgOk l) (at_ : Int) : PureA Try.prog 3 [.d (.i .i64 n), bytesP l, .d (.i .i64 at_)] (.d (.b true)) := by
  refine callsW_of 0 Try.call3 Try.func3 (c := _) rfl (by kernel_rfl) (Nat.le_of_ble_eq_true rfl) (Nat.le_refl 0) ?_
  ((conv => whnf); repeat (refine SeqW.go ?_; conv => whnf))
  refine callP (twinO_calls l hl) rfl rfl fun _ => ?_
  ((conv => whnf); repeat (refine SeqW.go ?_; conv => whnf))
  repeat (first | (refine Br.t ?_; conv => whnf) | (refine Cd.mk (by omega) ?_; conv => whnf) | (refine Br.f ?_; conv => whnf) | (refine SeqW.go ?_; conv => whnf))
  refine (diskNew_no n hn).call fun _ => ?_
  ((conv => whnf); repeat (refine SeqW.go ?_; conv => whnf))
  repeat (first | (refine Br.t ?_; conv => whnf) | (refine Cd.mk (by omega) ?_; conv => whnf) | (refine Br.f ?_; conv => whnf) | (refine SeqW.go ?_; conv => whnf))
  refine (refNew_no n hn).call fun _ => ?_
  ((conv => whnf); repeat (refine SeqW.go ?_; conv => whnf))
  repeat (first | (refine Br.t ?_; conv => whnf) | (refine Cd.mk (by omega) ?_; conv => whnf) | (refine Br.f ?_; conv => whnf) | (refine SeqW.go ?_; conv => whnf))
  refine callD (diskLoad_ok l h) [] (by (repeat (first | exact True.intro | (refine And.intro ?_ ?_; · first | exact congrArg some (renLift _ _).symm | exact congrArg some (renWes _ _ _).symm | exact rfl)))) rfl (by (repeat (first | exact allN | refine allC (by first | exact sc_lift _ _ | exact sc_wes _ _ _ | rfl) ?_))) (by (repeat (first | exact allN | refine allC (by first | exact sc_lift _ _ | exact sc_wes _ _ _ | rfl) ?_))) rfl rfl rfl (by (repeat (first | exact RenL.nil | (apply RenL.cons; · first | exact renLift _ _ | exact renWes _ _ _ | exact rfl)))) fun _ => ?_
  ((conv => whnf); repeat (refine SeqW.go ?_; conv => whnf))
  repeat (first | (refine Br.t ?_; conv => whnf) | (refine Cd.mk (by omega) ?_; conv => whnf) | (refine Br.f ?_; conv => whnf) | (refine SeqW.go ?_; conv => whnf))
  refine callD (refLoad_ok l h) [] (by (repeat (first | exact True.intro | (refine And.intro ?_ ?_; · first | exact congrArg some (renLift _ _).symm | exact congrArg some (renWes _ _ _).symm | exact rfl)))) rfl (by (repeat (first | exact allN | refine allC (by first | exact sc_lift _ _ | exact sc_wes _ _ _ | rfl) ?_))) (by (repeat (first | exact allN | refine allC (by first | exact sc_lift _ _ | exact sc_wes _ _ _ | rfl) ?_))) rfl rfl rfl (by (repeat (first | exact RenL.nil | (apply RenL.cons; · first | exact renLift _ _ | exact renWes _ _ _ | exact rfl)))) fun _ => ?_
  ((conv => whnf); repeat (refine SeqW.go ?_; conv => whnf))
  repeat (first | (refine Br.t ?_; conv => whnf) | (refine Cd.mk (by omega) ?_; conv => whnf) | (refine Br.f ?_; conv => whnf) | (refine SeqW.go ?_; conv => whnf))
  refine callP (bytesSame_self l) rfl rfl fun _ => ?_
  ((conv => whnf); repeat (refine SeqW.go ?_; conv => whnf))
  repeat (first | (refine Br.t ?_; conv => whnf) | (refine Cd.mk (by omega) ?_; conv => whnf) | (refine Br.f ?_; conv => whnf) | (refine SeqW.go ?_; conv => whnf))
  refine callP (diskSize_nil) rfl rfl fun _ => ?_
  ((conv => whnf); repeat (refine SeqW.go ?_; conv => whnf))
  repeat (first | (refine Br.t ?_; conv => whnf) | (refine Cd.mk (by omega) ?_; conv => whnf) | (refine Br.f ?_; conv => whnf) | (refine SeqW.go ?_; conv => whnf))
  refine callP (refSize_nil) rfl rfl fun _ => ?_
  ((conv => whnf); repeat (refine SeqW.go ?_; conv => whnf))
  repeat (first | (refine Br.t ?_; conv => whnf) | (refine Cd.mk (by omega) ?_; conv => whnf) | (refine Br.f ?_; conv => whnf) | (refine SeqW.go ?_; conv => whnf))
  refine callD (diskSize_calls l hl [] 0 none false 0) [0, 1, 2] (by (repeat (first | exact True.intro | (refine And.intro ?_ ?_; · first | exact congrArg some (renLift _ _).symm | exact congrArg some (renWes _ _ _).symm | exact rfl)))) rfl (by (repeat (first | exact allN | refine allC (by first | exact sc_lift _ _ | exact sc_wes _ _ _ | rfl) ?_))) (by (repeat (first | exact allN | refine allC (by first | exact sc_lift _ _ | exact sc_wes _ _ _ | rfl) ?_))) rfl rfl rfl (by (repeat (first | exact RenL.nil | (apply RenL.cons; · first | exact renLift _ _ | exact renWes _ _ _ | exact rfl)))) fun _ => ?_
  ((conv => whnf); repeat (refine SeqW.go ?_; conv => whnf))
  repeat (first | (refine Br.t ?_; conv => whnf) | (refine Cd.mk (by omega) ?_; conv => whnf) | (refine Br.f ?_; conv => whnf) | (refine SeqW.go ?_; conv => whnf))
  refine callD (refSize_calls l hl none false 0) [3, 4] (by (repeat (first | exact True.intro | (refine And.intro ?_ ?_; · first | exact congrArg some (renLift _ _).symm | exact congrArg some (renWes _ _ _).symm | exact rfl)))) rfl (by (repeat (first | exact allN | refine allC (by first | exact sc_lift _ _ | exact sc_wes _ _ _ | rfl) ?_))) (by (repeat (first | exact allN | refine allC (by first | exact sc_lift _ _ | exact sc_wes _ _ _ | rfl) ?_))) rfl rfl rfl (by (repeat (first | exact RenL.nil | (apply RenL.cons; · first | exact renLift _ _ | exact renWes _ _ _ | exact rfl)))) fun _ => ?_
  ((conv => whnf); repeat (refine SeqW.go ?_; conv => whnf))
  repeat (first | (refine Br.t ?_; conv => whnf) | (refine Cd.mk (by omega) ?_; conv => whnf) | (refine Br.f ?_; conv => whnf) | (refine SeqW.go ?_; conv => whnf))
  refine Br.ne_self ?_
  ((conv => whnf); repeat (refine SeqW.go ?_; conv => whnf))
  repeat (first | (refine Br.t ?_; conv => whnf) | (refine Cd.mk (by omega) ?_; conv => whnf) | (refine Br.f ?_; conv => whnf) | (refine SeqW.go ?_; conv => whnf))
  refine callP (diskRead_nil at_) rfl rfl fun _ => ?_
  ((conv => whnf); repeat (refine SeqW.go ?_; conv => whnf))
  repeat (first | (refine Br.t ?_; conv => whnf) | (refine Cd.mk (by omega) ?_; conv => whnf) | (refine Br.f ?_; conv => whnf) | (refine SeqW.go ?_; conv => whnf))
  refine callP (refRead_nil at_) rfl rfl fun _ => ?_
  ((conv => whnf); repeat (refine SeqW.go ?_; conv => whnf))
  repeat (first | (refine Br.t ?_; conv => whnf) | (refine Cd.mk (by omega) ?_; conv => whnf) | (refine Br.f ?_; conv => whnf) | (refine SeqW.go ?_; conv => whnf))
  refine callD (diskRead_calls l hl [] 0 none false 0 (fun _ h => by cases h) at_) [0, 1, 2] (by (repeat (first | exact True.intro | (refine And.intro ?_ ?_; · first | exact congrArg some (renLift _ _).symm | exact congrArg some (renWes _ _ _).symm | exact rfl)))) rfl (by (repeat (first | exact allN | refine allC (by first | exact sc_lift _ _ | exact sc_wes _ _ _ | rfl) ?_))) (by (repeat (first | exact allN | refine allC (by first | exact sc_lift _ _ | exact sc_wes _ _ _ | rfl) ?_))) rfl rfl rfl (by (repeat (first | exact RenL.nil | (apply RenL.cons; · first | exact renLift _ _ | exact renWes _ _ _ | exact rfl)))) fun _ => ?_
  ((conv => whnf); repeat (refine SeqW.go ?_; conv => whnf))
  repeat (first | (refine Br.t ?_; conv => whnf) | (refine Cd.mk (by omega) ?_; conv => whnf) | (refine Br.f ?_; conv => whnf) | (refine SeqW.go ?_; conv => whnf))
  refine callD (refRead_calls l hl none false 0 ⟨Nat.zero_le _, fun _ h => by cases h⟩ at_) [3, 4] (by (repeat (first | exact True.intro | (refine And.intro ?_ ?_; · first | exact congrArg some (renLift _ _).symm | exact congrArg some (renWes _ _ _).symm | exact rfl)))) rfl (by (repeat (first | exact allN | refine allC (by first | exact sc_lift _ _ | exact sc_wes _ _ _ | rfl) ?_))) (by (repeat (first | exact allN | refine allC (by first | exact sc_lift _ _ | exact sc_wes _ _ _ | rfl) ?_))) rfl rfl rfl (by (repeat (first | exact RenL.nil | (apply RenL.cons; · first | exact renLift _ _ | exact renWes _ _ _ | exact rfl)))) fun _ => ?_
  ((conv => whnf); repeat (refine SeqW.go ?_; conv => whnf))
  repeat (first | (refine Br.t ?_; conv => whnf) | (refine Cd.mk (by omega) ?_; conv => whnf) | (refine Br.f ?_; conv => whnf) | (refine SeqW.go ?_; conv => whnf))
  refine Br.eq_self ?_
  ((conv => whnf); repeat (refine SeqW.go ?_; conv => whnf))
  repeat (first | (refine Br.t ?_; conv => whnf) | (refine Cd.mk (by omega) ?_; conv => whnf) | (refine Br.f ?_; conv => whnf) | (refine SeqW.go ?_; conv => whnf))
  rw [rd_same]
  refine callP (bytesSame_self _) rfl rfl fun _ => ?_
  ((conv => whnf); repeat (refine SeqW.go ?_; conv => whnf))
  repeat (first | (refine Br.t ?_; conv => whnf) | (refine Cd.mk (by omega) ?_; conv => whnf) | (refine Br.f ?_; conv => whnf) | (refine SeqW.go ?_; conv => whnf))
  refine callP (bytesSame_self _) rfl rfl fun _ => ?_
  ((conv => whnf); repeat (refine SeqW.go ?_; conv => whnf))
  repeat (first | (refine Br.t ?_; conv => whnf) | (refine Cd.mk (by omega) ?_; conv => whnf) | (refine Br.f ?_; conv => whnf) | (refine SeqW.go ?_; conv => whnf))
  refine callP (diskPending_nil) rfl rfl fun _ => ?_
  ((conv => whnf); repeat (refine SeqW.go ?_; conv => whnf))
  repeat (first | (refine Br.t ?_; conv => whnf) | (refine Cd.mk (by omega) ?_; conv => whnf) | (refine Br.f ?_; conv => whnf) | (refine SeqW.go ?_; conv => whnf))
  refine callD (diskPending_none l [] 0 false 0) [0, 1, 2] (by (repeat (first | exact True.intro | (refine And.intro ?_ ?_; · first | exact congrArg some (renLift _ _).symm | exact congrArg some (renWes _ _ _).symm | exact rfl)))) rfl (by (repeat (first | exact allN | refine allC (by first | exact sc_lift _ _ | exact sc_wes _ _ _ | rfl) ?_))) (by (repeat (first | exact allN | refine allC (by first | exact sc_lift _ _ | exact sc_wes _ _ _ | rfl) ?_))) rfl rfl rfl (by (repeat (first | exact RenL.nil | (apply RenL.cons; · first | exact renLift _ _ | exact renWes _ _ _ | exact rfl)))) fun _ => ?_
  ((conv => whnf); repeat (refine SeqW.go ?_; conv => whnf))
  repeat (first | (refine Br.t ?_; conv => whnf) | (refine Cd.mk (by omega) ?_; conv => whnf) | (refine Br.f ?_; conv => whnf) | (refine SeqW.go ?_; conv => whnf))
  exact ⟨rfl, rfl⟩
theorem makes_nn (n : Int) (hn : n < 1 ∨ 65536 < n) (l : List UInt8) (hl : l.length ≤ 16777216) (h : ¬ imgOk l) (at_ : Int) : PureA Try.prog 3 [.d (.i .i64 n), bytesP l, .d (.i .i64 at_)] (.d (.b true)) := by
  refine callsW_of 0 Try.call3 Try.func3 (c := _) rfl (by kernel_rfl) (Nat.le_of_ble_eq_true rfl) (Nat.le_refl 0) ?_
  ((conv => whnf); repeat (refine SeqW.go ?_; conv => whnf))
  refine callP (twinO_calls l hl) rfl rfl fun _ => ?_
  ((conv => whnf); repeat (refine SeqW.go ?_; conv => whnf))
  repeat (first | (refine Br.t ?_; conv => whnf) | (refine Cd.mk (by omega) ?_; conv => whnf) | (refine Br.f ?_; conv => whnf) | (refine SeqW.go ?_; conv => whnf))
  refine (diskNew_no n hn).call fun _ => ?_
  ((conv => whnf); repeat (refine SeqW.go ?_; conv => whnf))
  repeat (first | (refine Br.t ?_; conv => whnf) | (refine Cd.mk (by omega) ?_; conv => whnf) | (refine Br.f ?_; conv => whnf) | (refine SeqW.go ?_; conv => whnf))
  refine (refNew_no n hn).call fun _ => ?_
  ((conv => whnf); repeat (refine SeqW.go ?_; conv => whnf))
  repeat (first | (refine Br.t ?_; conv => whnf) | (refine Cd.mk (by omega) ?_; conv => whnf) | (refine Br.f ?_; conv => whnf) | (refine SeqW.go ?_; conv => whnf))
  refine callD (diskLoad_no l hl h) [] (by (repeat (first | exact True.intro | (refine And.intro ?_ ?_; · first | exact congrArg some (renLift _ _).symm | exact congrArg some (renWes _ _ _).symm | exact rfl)))) rfl (by (repeat (first | exact allN | refine allC (by first | exact sc_lift _ _ | exact sc_wes _ _ _ | rfl) ?_))) (by (repeat (first | exact allN | refine allC (by first | exact sc_lift _ _ | exact sc_wes _ _ _ | rfl) ?_))) rfl rfl rfl (by (repeat (first | exact RenL.nil | (apply RenL.cons; · first | exact renLift _ _ | exact renWes _ _ _ | exact rfl)))) fun _ => ?_
  ((conv => whnf); repeat (refine SeqW.go ?_; conv => whnf))
  repeat (first | (refine Br.t ?_; conv => whnf) | (refine Cd.mk (by omega) ?_; conv => whnf) | (refine Br.f ?_; conv => whnf) | (refine SeqW.go ?_; conv => whnf))
  refine callD (refLoad_no l hl h) [] (by (repeat (first | exact True.intro | (refine And.intro ?_ ?_; · first | exact congrArg some (renLift _ _).symm | exact congrArg some (renWes _ _ _).symm | exact rfl)))) rfl (by (repeat (first | exact allN | refine allC (by first | exact sc_lift _ _ | exact sc_wes _ _ _ | rfl) ?_))) (by (repeat (first | exact allN | refine allC (by first | exact sc_lift _ _ | exact sc_wes _ _ _ | rfl) ?_))) rfl rfl rfl (by (repeat (first | exact RenL.nil | (apply RenL.cons; · first | exact renLift _ _ | exact renWes _ _ _ | exact rfl)))) fun _ => ?_
  ((conv => whnf); repeat (refine SeqW.go ?_; conv => whnf))
  repeat (first | (refine Br.t ?_; conv => whnf) | (refine Cd.mk (by omega) ?_; conv => whnf) | (refine Br.f ?_; conv => whnf) | (refine SeqW.go ?_; conv => whnf))
  refine callP (bytesSame_self l) rfl rfl fun _ => ?_
  ((conv => whnf); repeat (refine SeqW.go ?_; conv => whnf))
  repeat (first | (refine Br.t ?_; conv => whnf) | (refine Cd.mk (by omega) ?_; conv => whnf) | (refine Br.f ?_; conv => whnf) | (refine SeqW.go ?_; conv => whnf))
  refine callP (diskSize_nil) rfl rfl fun _ => ?_
  ((conv => whnf); repeat (refine SeqW.go ?_; conv => whnf))
  repeat (first | (refine Br.t ?_; conv => whnf) | (refine Cd.mk (by omega) ?_; conv => whnf) | (refine Br.f ?_; conv => whnf) | (refine SeqW.go ?_; conv => whnf))
  refine callP (refSize_nil) rfl rfl fun _ => ?_
  ((conv => whnf); repeat (refine SeqW.go ?_; conv => whnf))
  repeat (first | (refine Br.t ?_; conv => whnf) | (refine Cd.mk (by omega) ?_; conv => whnf) | (refine Br.f ?_; conv => whnf) | (refine SeqW.go ?_; conv => whnf))
  refine callP (diskSize_nil) rfl rfl fun _ => ?_
  ((conv => whnf); repeat (refine SeqW.go ?_; conv => whnf))
  repeat (first | (refine Br.t ?_; conv => whnf) | (refine Cd.mk (by omega) ?_; conv => whnf) | (refine Br.f ?_; conv => whnf) | (refine SeqW.go ?_; conv => whnf))
  refine callP (refSize_nil) rfl rfl fun _ => ?_
  ((conv => whnf); repeat (refine SeqW.go ?_; conv => whnf))
  repeat (first | (refine Br.t ?_; conv => whnf) | (refine Cd.mk (by omega) ?_; conv => whnf) | (refine Br.f ?_; conv => whnf) | (refine SeqW.go ?_; conv => whnf))
  refine callP (diskRead_nil at_) rfl rfl fun _ => ?_
  ((conv => whnf); repeat (refine SeqW.go ?_; conv => whnf))
  repeat (first | (refine Br.t ?_; conv => whnf) | (refine Cd.mk (by omega) ?_; conv => whnf) | (refine Br.f ?_; conv => whnf) | (refine SeqW.go ?_; conv => whnf))
  refine callP (refRead_nil at_) rfl rfl fun _ => ?_
  ((conv => whnf); repeat (refine SeqW.go ?_; conv => whnf))
  repeat (first | (refine Br.t ?_; conv => whnf) | (refine Cd.mk (by omega) ?_; conv => whnf) | (refine Br.f ?_; conv => whnf) | (refine SeqW.go ?_; conv => whnf))
  refine callP (diskRead_nil at_) rfl rfl fun _ => ?_
  ((conv => whnf); repeat (refine SeqW.go ?_; conv => whnf))
  repeat (first | (refine Br.t ?_; conv => whnf) | (refine Cd.mk (by omega) ?_; conv => whnf) | (refine Br.f ?_; conv => whnf) | (refine SeqW.go ?_; conv => whnf))
  refine callP (refRead_nil at_) rfl rfl fun _ => ?_
  ((conv => whnf); repeat (refine SeqW.go ?_; conv => whnf))
  repeat (first | (refine Br.t ?_; conv => whnf) | (refine Cd.mk (by omega) ?_; conv => whnf) | (refine Br.f ?_; conv => whnf) | (refine SeqW.go ?_; conv => whnf))
  refine callP (bytesSame_self _) rfl rfl fun _ => ?_
  ((conv => whnf); repeat (refine SeqW.go ?_; conv => whnf))
  repeat (first | (refine Br.t ?_; conv => whnf) | (refine Cd.mk (by omega) ?_; conv => whnf) | (refine Br.f ?_; conv => whnf) | (refine SeqW.go ?_; conv => whnf))
  refine callP (bytesSame_self _) rfl rfl fun _ => ?_
  ((conv => whnf); repeat (refine SeqW.go ?_; conv => whnf))
  repeat (first | (refine Br.t ?_; conv => whnf) | (refine Cd.mk (by omega) ?_; conv => whnf) | (refine Br.f ?_; conv => whnf) | (refine SeqW.go ?_; conv => whnf))
  refine callP (diskPending_nil) rfl rfl fun _ => ?_
  ((conv => whnf); repeat (refine SeqW.go ?_; conv => whnf))
  repeat (first | (refine Br.t ?_; conv => whnf) | (refine Cd.mk (by omega) ?_; conv => whnf) | (refine Br.f ?_; conv => whnf) | (refine SeqW.go ?_; conv => whnf))
  refine callP (diskPending_nil) rfl rfl fun _ => ?_
  ((conv => whnf); repeat (refine SeqW.go ?_; conv => whnf))
  repeat (first | (refine Br.t ?_; conv => whnf) | (refine Cd.mk (by omega) ?_; conv => whnf) | (refine Br.f ?_; conv => whnf) | (refine SeqW.go ?_; conv => whnf))
  exact ⟨rfl, rfl⟩
theorem makes_calls (n : Int) (l : List UInt8) (hl : l.length ≤ 16777216) (at_ : Int) : PureA Try.prog 3 [.d (.i .i64 n), bytesP l, .d (.i .i64 at_)] (.d (.b true)) := by
  by_cases hn : n < 1 ∨ 65536 < n <;> by_cases h : imgOk l
  · exact makes_ny n hn l hl h at_
  · exact makes_nn n hn l hl h at_
  · obtain ⟨k, rfl⟩ : ∃ k : Nat, n = k := ⟨n.toNat, by omega⟩
    exact makes_yy k (by omega) l hl h at_
  · obtain ⟨k, rfl⟩ : ∃ k : Nat, n = k := ⟨n.toNat, by omega⟩
    exact makes_yn k (by omega) l hl h at_
end Go.Aw
