/- Layer 12: Fuse. -/
import Derived.Test.YthilodmojjlaeaaAwDiskCK
set_option linter.unusedVariables false
set_option linter.unusedSimpArgs false
namespace Go.Aw
open Go.Proofs
set_option maxRecDepth 100000

/-- What Fuse leaves. -/
def fuseN (fused : Bool) (fuse : Int) (n : Int) : Int := if fused = true ∧ fuse = 0 then fuse else n
theorem diskFuse_ok (l : List UInt8) (m : List (Int × Nat × List UInt8)) (c : Nat) (lg : Option (List (List D))) (fused : Bool) (fuse : Int) (n : Nat) :
    DetA Try.prog 35 [.ptr 2 0, .d (.i .i64 n)] (dObs l m c lg fused fuse) (errP 0) (dObs l m c lg true (fuseN fused fuse n)) := by
  cases lg
  all_goals
    refine callsW_of (dObs l m c _ fused fuse).length Try.call35 Try.func35 (c := _) rfl (by kernel_rfl) (Nat.le_of_ble_eq_true rfl) (Nat.le_refl _) ?_
    cases fused
    · ((conv => whnf); repeat (refine SeqW.go ?_; conv => whnf))
      repeat (first | (refine Br.t ?_; conv => whnf) | (refine Cd.mk (by omega) ?_; conv => whnf) | (refine Br.f ?_; conv => whnf) | (refine SeqW.go ?_; conv => whnf))
      refine ⟨⟨Nat.le_of_ble_eq_true rfl, by (repeat (first | exact allN | refine allC (by first | exact sc_lift _ _ | exact sc_wes _ _ _ | exact sc_arr rfl | rfl) ?_))⟩, ?_⟩
      conv => whnf
      exact ⟨rfl, by rw [fuseN, if_neg (fun h => by cases h.1)]; rfl⟩
    · ((conv => whnf); repeat (refine SeqW.go ?_; conv => whnf))
      repeat (first | (refine Br.t ?_; conv => whnf) | (refine Cd.mk (by omega) ?_; conv => whnf) | (refine Br.f ?_; conv => whnf) | (refine SeqW.go ?_; conv => whnf))
      first | refine Br.dec (fun h1 => ?_) (fun h1 => ?_) | refine Br.beq (fun h1 => ?_) (fun h1 => ?_) | refine Br.bne (fun h1 => ?_) (fun h1 => ?_) | refine Br.nbeq (fun h1 => ?_) (fun h1 => ?_) | refine Br.not (fun h1 => ?_) (fun h1 => ?_) | refine Br.mk (fun h1 => ?_) (fun h1 => ?_)
      · ((conv => whnf); repeat (refine SeqW.go ?_; conv => whnf))
        repeat (first | (refine Br.t ?_; conv => whnf) | (refine Cd.mk (by omega) ?_; conv => whnf) | (refine Br.f ?_; conv => whnf) | (refine SeqW.go ?_; conv => whnf))
        refine ⟨⟨Nat.le_of_ble_eq_true rfl, by (repeat (first | exact allN | refine allC (by first | exact sc_lift _ _ | exact sc_wes _ _ _ | exact sc_arr rfl | rfl) ?_))⟩, ?_⟩
        conv => whnf
        exact ⟨rfl, by rw [fuseN, if_pos ⟨rfl, h1⟩]; rfl⟩
      · ((conv => whnf); repeat (refine SeqW.go ?_; conv => whnf))
        repeat (first | (refine Br.t ?_; conv => whnf) | (refine Cd.mk (by omega) ?_; conv => whnf) | (refine Br.f ?_; conv => whnf) | (refine SeqW.go ?_; conv => whnf))
        refine ⟨⟨Nat.le_of_ble_eq_true rfl, by (repeat (first | exact allN | refine allC (by first | exact sc_lift _ _ | exact sc_wes _ _ _ | exact sc_arr rfl | rfl) ?_))⟩, ?_⟩
        conv => whnf
        exact ⟨rfl, by rw [fuseN, if_neg (fun h => h1 h.2)]; rfl⟩
end Go.Aw
