/- Layer 12: Sync. -/
import Derived.Test.YthilodmojjlaeaaAwDiskIK
set_option linter.unusedVariables false
set_option linter.unusedSimpArgs false
namespace Go.Aw
open Go.Proofs
set_option maxRecDepth 100000

theorem forget_calls (l : List UInt8) (m : List (Int × Nat × List UInt8)) (c : Nat) (lg : Option (List (List D))) (fused : Bool) (fuse : Int) :
    DetA Try.prog 50 [.ptr 2 0] (dObs l m c lg fused fuse) (.tup []) (dObs l [] c none fused fuse ++ lgX lg) := by
  cases lg
  all_goals
    refine callsW_of (dObs l m c _ fused fuse).length Try.call50 Try.func50 (c := _) rfl (by kernel_rfl) (Nat.le_of_ble_eq_true rfl) (Nat.le_refl _) ?_
    ((conv => whnf); repeat (refine SeqW.go ?_; conv => whnf))
    repeat (first | (refine Br.t ?_; conv => whnf) | (refine Cd.mk (by omega) ?_; conv => whnf) | (refine Br.f ?_; conv => whnf) | (refine SeqW.go ?_; conv => whnf))
    refine ⟨⟨Nat.le_of_ble_eq_true rfl, by (repeat (first | exact allN | refine allC (by first | exact sc_lift _ _ | exact sc_wes _ _ _ | exact sc_arr rfl | rfl) ?_))⟩, ?_⟩
    conv => whnf
    exact ⟨rfl, rfl⟩

theorem imgB_len (l : List UInt8) (m : List (Int × Nat × List UInt8)) : (imgB l m).length = l.length := by simp [imgB]
section
variable (l : List UInt8) (hl : l.length ≤ 16777216) (m : List (Int × Nat × List UInt8)) (c : Nat) (lg : Option (List (List D))) (fused : Bool) (fuse : Int) (hf : 0 ≤ fuse ∧ fuse ≤ 9223372036854775807)
include hl hf
omit hl in
theorem diskSync_blown (hs : spendB fused fuse = false) :
    DetA Try.prog 30 [.ptr 2 0] (dObs l m c lg fused fuse) (errP 0) (dObs l m c lg fused (spendN fused fuse)) := by
  have hsp := spend_calls l m c lg fused fuse hf
  cases lg
  all_goals
    refine callsW_of (dObs l m c _ fused fuse).length Try.call30 Try.func30 (c := _) rfl (by kernel_rfl) (Nat.le_of_ble_eq_true rfl) (Nat.le_refl _) ?_
    ((conv => whnf); repeat (refine SeqW.go ?_; conv => whnf))
    repeat (first | (refine Br.t ?_; conv => whnf) | (refine Cd.mk (by omega) ?_; conv => whnf) | (refine Br.f ?_; conv => whnf) | (refine SeqW.go ?_; conv => whnf))
    refine hsp.call fun _ => ?_
    rw [hs]
    ((conv => whnf); repeat (refine SeqW.go ?_; conv => whnf))
    repeat (first | (refine Br.t ?_; conv => whnf) | (refine Cd.mk (by omega) ?_; conv => whnf) | (refine Br.f ?_; conv => whnf) | (refine SeqW.go ?_; conv => whnf))
    refine ⟨⟨Nat.le_of_ble_eq_true rfl, by (repeat (first | exact allN | refine allC (by first | exact sc_lift _ _ | exact sc_wes _ _ _ | exact sc_arr rfl | rfl) ?_))⟩, ?_⟩
    conv => whnf
    exact ⟨rfl, rfl⟩
theorem diskSync_ok (hm : MapOk l m c) (hs : spendB fused fuse = true) :
    DetA Try.prog 30 [.ptr 2 0] (dObs l m c lg fused fuse) (errP 0) (dObs (imgB l m) [] c none fused (spendN fused fuse) ++ lgX lg) := by
  have hsp := spend_calls l m c lg fused fuse hf
  have hfo := forget_calls (imgB l m) m c lg fused (spendN fused fuse)
  have hla := fun (X : List UInt8) (hX : X.length ≤ 16777216) (at_ : Nat) (ha : at_ < X.length / 64) (Y : Heap) => (diskLasting_calls X hX m c lg fused (spendN fused fuse) at_ ha).more Y rfl (by cases lg <;> rfl) (dObs_sc ..) (dObs_sc ..)
  cases lg with
  | none =>
    refine callsW_of 3 Try.call30 Try.func30 (c := _) rfl (by kernel_rfl) (Nat.le_of_ble_eq_true rfl) (Nat.le_refl _) ?_
    ((conv => whnf); repeat (refine SeqW.go ?_; conv => whnf))
    repeat (first | (refine Br.t ?_; conv => whnf) | (refine Cd.mk (by omega) ?_; conv => whnf) | (refine Br.f ?_; conv => whnf) | (refine SeqW.go ?_; conv => whnf))
    refine hsp.call fun _ => ?_
    rw [hs]
    ((conv => whnf); repeat (refine SeqW.go ?_; conv => whnf))
    repeat (first | (refine Br.t ?_; conv => whnf) | (refine Cd.mk (by omega) ?_; conv => whnf) | (refine Br.f ?_; conv => whnf) | (refine SeqW.go ?_; conv => whnf))
    refine loopK (by kernel_rfl) (γ := List UInt8 × List Nat) 4 (fun g => ImgJ l m g.1 g.2) (fun _ => []) (fun g => [(0, dLast g.1), (3, .itr 1 c g.2 c)]) (fun g => unseen m g.2)
      ⟨rfl, rfl⟩ (fun _ _ => by (repeat (first | exact allN | refine allC (by first | exact sc_lift _ _ | exact sc_wes _ _ _ | exact sc_arr rfl | rfl) ?_))) (l, []) (ImgJ.start l m) (by repeat (first | exact trivial | refine ⟨.refl _, ?_⟩)) trivial ?_
    rintro ⟨X, seen⟩ hj
    have hX := hj.len
    simp only at hX
    rw [← hX]
    ((conv => whnf); repeat (refine SeqW.go ?_; conv => whnf))
    refine ⟨wes_born hm.born, Nat.le_refl _, fun hall => ?_, fun k bn p hx hn => ?_⟩
    · ((conv => whnf); repeat (refine SeqW.go ?_; conv => whnf))
      repeat (first | (refine Br.t ?_; conv => whnf) | (refine Cd.mk (by omega) ?_; conv => whnf) | (refine Br.f ?_; conv => whnf) | (refine SeqW.go ?_; conv => whnf))
      obtain rfl : X = imgB l m := hj.all hm (wes_all hall)
      refine ((hfo).more [_] rfl (by rfl) (by (repeat (first | exact allN | refine allC (by first | exact sc_lift _ _ | exact sc_wes _ _ _ | exact sc_arr rfl | rfl) ?_))) (by (repeat (first | exact allN | refine allC (by first | exact sc_lift _ _ | exact sc_wes _ _ _ | exact sc_arr rfl | rfl) ?_)))).call fun _ => ?_
      ((conv => whnf); repeat (refine SeqW.go ?_; conv => whnf))
      repeat (first | (refine Br.t ?_; conv => whnf) | (refine Cd.mk (by omega) ?_; conv => whnf) | (refine Br.f ?_; conv => whnf) | (refine SeqW.go ?_; conv => whnf))
      refine ⟨⟨Nat.le_of_ble_eq_true rfl, by (repeat (first | exact allN | refine allC (by first | exact sc_lift _ _ | exact sc_wes _ _ _ | exact sc_arr rfl | rfl) ?_))⟩, ?_⟩
      conv => whnf
      exact ⟨rfl, rfl⟩
    obtain ⟨e, he, hxe⟩ := wes_mem hx
    simp only [Prod.mk.injEq] at hxe
    obtain ⟨rfl, rfl, rfl⟩ := hxe
    have hr := hm.rng e he
    have hb := hm.full e he
    obtain ⟨at_, hat⟩ : ∃ n : Nat, e.1 = n := ⟨e.1.toNat, by omega⟩
    ((conv => whnf); repeat (refine SeqW.go ?_; conv => whnf))
    repeat (first | (refine Br.t ?_; conv => whnf) | (refine Cd.mk (by omega) ?_; conv => whnf) | (refine Br.f ?_; conv => whnf) | (refine SeqW.go ?_; conv => whnf))
    refine ⟨seen, _, _, _, rfl, hx, wes_nodup hm.nodupB, rfl, ?_⟩
    ((conv => whnf); repeat (refine SeqW.go ?_; conv => whnf))
    refine ⟨by kernel_rfl, ?_⟩
    ((conv => whnf); repeat (refine SeqW.go ?_; conv => whnf))
    refine ⟨⟨rfl, rfl, rfl, rfl, rfl⟩, ?_⟩
    ((conv => whnf); repeat (refine SeqW.go ?_; conv => whnf))
    refine drawW [] mixed (by kernel_rfl) (by kernel_rfl) ?_
    ((conv => whnf); repeat (refine SeqW.go ?_; conv => whnf))
    rw [hat]
    refine (hla X (by omega) at_ (by omega) [_, _]).callF ?_
    ((conv => whnf); repeat (refine SeqW.go ?_; conv => whnf))
    refine OpF.pure (fun _ => ⟨⟨(show (0 : Nat) < 64 by omega), (show (64 : Nat) ≤ 16777216 by omega)⟩, rfl, rfl⟩) ?_
    ((conv => whnf); repeat (refine SeqW.go ?_; conv => whnf))
    refine OpF.wr rfl ⟨⟨rfl, (show 0 + (64 - 0) ≤ 64 by omega)⟩, ⟨rfl, ?_, ?_, ?_, ?_⟩, rfl, rfl⟩ ?_
    · rw [srcB]; exact allLen_lift (rowsB_all _)
    · simp [liftR]
    · exact allLen_lift (rowsB_all _)
    · omega
    ((conv => whnf); repeat (refine SeqW.go ?_; conv => whnf))
    repeat (first | (refine Br.t ?_; conv => whnf) | (refine Cd.mk (by omega) ?_; conv => whnf) | (refine Br.f ?_; conv => whnf) | (refine SeqW.go ?_; conv => whnf))
    have hb0 : (e.2.2.drop 0).take (64 - 0) = e.2.2 := by rw [List.drop_zero, List.take_of_length_le]; omega
    rw [srcB, hb0]
    rw [show min (liftR (rowsB e.2.2)).length 64 = 64 by simp only [liftR, List.length_map, rowsB_len]; omega]
    rw [splB X e.2.2 _ hb]
    refine ⟨(splice X (at_ * 64) e.2.2, seen ++ [e.2.1]), by have := hj.step hm he hn; rwa [hat, Int.toNat_natCast] at this, unseen_lt he hn, (by repeat (first | exact trivial | refine ⟨.refl _, ?_⟩)), trivial, (by repeat (first | exact trivial | refine ⟨rfl, ?_⟩))⟩
  | some rows =>
    refine callsW_of 4 Try.call30 Try.func30 (c := _) rfl (by kernel_rfl) (Nat.le_of_ble_eq_true rfl) (Nat.le_refl _) ?_
    ((conv => whnf); repeat (refine SeqW.go ?_; conv => whnf))
    repeat (first | (refine Br.t ?_; conv => whnf) | (refine Cd.mk (by omega) ?_; conv => whnf) | (refine Br.f ?_; conv => whnf) | (refine SeqW.go ?_; conv => whnf))
    refine hsp.call fun _ => ?_
    rw [hs]
    ((conv => whnf); repeat (refine SeqW.go ?_; conv => whnf))
    repeat (first | (refine Br.t ?_; conv => whnf) | (refine Cd.mk (by omega) ?_; conv => whnf) | (refine Br.f ?_; conv => whnf) | (refine SeqW.go ?_; conv => whnf))
    refine loopK (by kernel_rfl) (γ := List UInt8 × List Nat) 5 (fun g => ImgJ l m g.1 g.2) (fun _ => []) (fun g => [(0, dLast g.1), (4, .itr 1 c g.2 c)]) (fun g => unseen m g.2)
      ⟨rfl, rfl⟩ (fun _ _ => by (repeat (first | exact allN | refine allC (by first | exact sc_lift _ _ | exact sc_wes _ _ _ | exact sc_arr rfl | rfl) ?_))) (l, []) (ImgJ.start l m) (by repeat (first | exact trivial | refine ⟨.refl _, ?_⟩)) trivial ?_
    rintro ⟨X, seen⟩ hj
    have hX := hj.len
    simp only at hX
    rw [← hX]
    ((conv => whnf); repeat (refine SeqW.go ?_; conv => whnf))
    refine ⟨wes_born hm.born, Nat.le_refl _, fun hall => ?_, fun k bn p hx hn => ?_⟩
    · ((conv => whnf); repeat (refine SeqW.go ?_; conv => whnf))
      repeat (first | (refine Br.t ?_; conv => whnf) | (refine Cd.mk (by omega) ?_; conv => whnf) | (refine Br.f ?_; conv => whnf) | (refine SeqW.go ?_; conv => whnf))
      obtain rfl : X = imgB l m := hj.all hm (wes_all hall)
      refine ((hfo).more [_] rfl (by rfl) (by (repeat (first | exact allN | refine allC (by first | exact sc_lift _ _ | exact sc_wes _ _ _ | exact sc_arr rfl | rfl) ?_))) (by (repeat (first | exact allN | refine allC (by first | exact sc_lift _ _ | exact sc_wes _ _ _ | exact sc_arr rfl | rfl) ?_)))).call fun _ => ?_
      ((conv => whnf); repeat (refine SeqW.go ?_; conv => whnf))
      repeat (first | (refine Br.t ?_; conv => whnf) | (refine Cd.mk (by omega) ?_; conv => whnf) | (refine Br.f ?_; conv => whnf) | (refine SeqW.go ?_; conv => whnf))
      refine ⟨⟨Nat.le_of_ble_eq_true rfl, by (repeat (first | exact allN | refine allC (by first | exact sc_lift _ _ | exact sc_wes _ _ _ | exact sc_arr rfl | rfl) ?_))⟩, ?_⟩
      conv => whnf
      exact ⟨rfl, rfl⟩
    obtain ⟨e, he, hxe⟩ := wes_mem hx
    simp only [Prod.mk.injEq] at hxe
    obtain ⟨rfl, rfl, rfl⟩ := hxe
    have hr := hm.rng e he
    have hb := hm.full e he
    obtain ⟨at_, hat⟩ : ∃ n : Nat, e.1 = n := ⟨e.1.toNat, by omega⟩
    ((conv => whnf); repeat (refine SeqW.go ?_; conv => whnf))
    repeat (first | (refine Br.t ?_; conv => whnf) | (refine Cd.mk (by omega) ?_; conv => whnf) | (refine Br.f ?_; conv => whnf) | (refine SeqW.go ?_; conv => whnf))
    refine ⟨seen, _, _, _, rfl, hx, wes_nodup hm.nodupB, rfl, ?_⟩
    ((conv => whnf); repeat (refine SeqW.go ?_; conv => whnf))
    refine ⟨by kernel_rfl, ?_⟩
    ((conv => whnf); repeat (refine SeqW.go ?_; conv => whnf))
    refine ⟨⟨rfl, rfl, rfl, rfl, rfl⟩, ?_⟩
    ((conv => whnf); repeat (refine SeqW.go ?_; conv => whnf))
    refine drawW [] mixed (by kernel_rfl) (by kernel_rfl) ?_
    ((conv => whnf); repeat (refine SeqW.go ?_; conv => whnf))
    rw [hat]
    refine (hla X (by omega) at_ (by omega) [_, _]).callF ?_
    ((conv => whnf); repeat (refine SeqW.go ?_; conv => whnf))
    refine OpF.pure (fun _ => ⟨⟨(show (0 : Nat) < 64 by omega), (show (64 : Nat) ≤ 16777216 by omega)⟩, rfl, rfl⟩) ?_
    ((conv => whnf); repeat (refine SeqW.go ?_; conv => whnf))
    refine OpF.wr rfl ⟨⟨rfl, (show 0 + (64 - 0) ≤ 64 by omega)⟩, ⟨rfl, ?_, ?_, ?_, ?_⟩, rfl, rfl⟩ ?_
    · rw [srcB]; exact allLen_lift (rowsB_all _)
    · simp [liftR]
    · exact allLen_lift (rowsB_all _)
    · omega
    ((conv => whnf); repeat (refine SeqW.go ?_; conv => whnf))
    repeat (first | (refine Br.t ?_; conv => whnf) | (refine Cd.mk (by omega) ?_; conv => whnf) | (refine Br.f ?_; conv => whnf) | (refine SeqW.go ?_; conv => whnf))
    have hb0 : (e.2.2.drop 0).take (64 - 0) = e.2.2 := by rw [List.drop_zero, List.take_of_length_le]; omega
    rw [srcB, hb0]
    rw [show min (liftR (rowsB e.2.2)).length 64 = 64 by simp only [liftR, List.length_map, rowsB_len]; omega]
    rw [splB X e.2.2 _ hb]
    refine ⟨(splice X (at_ * 64) e.2.2, seen ++ [e.2.1]), by have := hj.step hm he hn; rwa [hat, Int.toNat_natCast] at this, unseen_lt he hn, (by repeat (first | exact trivial | refine ⟨.refl _, ?_⟩)), trivial, (by repeat (first | exact trivial | refine ⟨rfl, ?_⟩))⟩
end

end Go.Aw
