/- Layer 12: Crash: with nothing torn, whatever cut is; refused. -/
import Derived.Test.YthilodmojjlaeaaAwDiskToK
set_option linter.unusedVariables false
set_option linter.unusedSimpArgs false
namespace Go.Aw
open Go.Proofs
set_option maxRecDepth 100000
set_option maxHeartbeats 1000000
section
variable (l : List UInt8) (hl : l.length ≤ 16777216) (m : List (Int × Nat × List UInt8)) (c : Nat) (fused : Bool) (fuse : Int)
theorem diskCrash_bad (rows : List (List D)) (hn : rows.length ≤ 1048576) (keep : List Bool) (hk : keep.length = rows.length) (torn cut : Int) (ht : torn < -1 ∨ rows.length ≤ torn ∨ 0 ≤ torn ∧ (cut < 0 ∨ 64 < cut)) :
    DetA Try.prog 31 [.ptr 2 0, keepP keep, .d (.i .i64 torn), .d (.i .i64 cut)] (dObs l m c (some rows) fused fuse) (errP 2) (dObs l m c (some rows) fused fuse) := by
  refine callsW_of 4 Try.call31 Try.func31 (c := _) rfl (by kernel_rfl) (Nat.le_of_ble_eq_true rfl) (Nat.le_refl _) ?_
  have hkl : (keep.map fun b => [D.b b]).length = keep.length := by simp
  ((conv => whnf); repeat (refine SeqW.go ?_; conv => whnf))
  repeat' (first | (refine brIs ?_; (first | (refine Br.t ?_; conv => whnf) | (refine Br.f ?_; conv => whnf) | (refine Br.ne_self ?_; conv => whnf) | (refine Br.eq_self ?_; conv => whnf) | rw [rowsB_length] | rw [rowsB_td] | rw [liftB_app] | rw [Int.toNat_natCast] | rw [quoL] | rw [remL] | rw [wrap_i64 (n := ((_ : Nat) : Int)) (by omega) (by omega)] | rw [wrap_i64 (by omega) (by omega)] | (refine Br.dec (fun h => absurd h (by omega)) (fun h => ?_); conv => whnf) | (refine Br.dec (fun h => ?_) (fun h => absurd h (by omega)); conv => whnf) | (refine Br.beq (fun h => absurd h (by omega)) (fun h => ?_); conv => whnf) | (refine Br.beq (fun h => ?_) (fun h => absurd h (by omega)); conv => whnf) | (refine Br.bne (fun h => absurd h (by omega)) (fun h => ?_); conv => whnf) | (refine Br.bne (fun h => ?_) (fun h => absurd h (by omega)); conv => whnf) | (refine Br.nbeq (fun h => absurd h (by omega)) (fun h => ?_); conv => whnf) | (refine Br.nbeq (fun h => ?_) (fun h => absurd h (by omega)); conv => whnf) | (refine Br.dec (fun h => ?_) (fun h => ?_) <;> (conv => whnf)) | (refine Br.beq (fun h => ?_) (fun h => ?_) <;> (conv => whnf)) | (refine Br.bne (fun h => ?_) (fun h => ?_) <;> (conv => whnf)) | (refine Br.nbeq (fun h => ?_) (fun h => ?_) <;> (conv => whnf)) | (refine Br.not (fun h => ?_) (fun h => ?_) <;> (conv => whnf)) | (refine Br.mk (fun h => ?_) (fun h => ?_) <;> (conv => whnf)) | fail)) | (refine SeqW.go ?_; conv => whnf) | (refine cdIs ?_; (first | (refine Cd.mk ?_ ?_; (focus ((repeat' (refine And.intro ?_ ?_)) <;> (first | omega | assumption | exact True.intro | exact rfl | exact allLen_lift (rowsB_all _) | exact rowsB_all _ | (simp only [rowsB_length, liftR, List.length_map, Int.toNat_natCast]; omega) | (simp (disch := omega) only [wrap_i64, rowsB_length, liftR, List.length_map, Int.toNat_natCast, List.length_take, List.length_drop, List.length_append, List.length_replicate]; omega) | exact Nat.le_refl _ | exact allLen_lift (by assumption) | exact allLen_lift (allLen_one rfl) | (simp; done) | (simp; omega)))); conv => whnf) | (refine Cd.mk ⟨Nat.le_of_ble_eq_true rfl, ?_⟩ ?_; (focus ((repeat (first | exact allN | refine allC (by first | exact sc_lift _ _ | exact sc_wes _ _ _ | exact sc_arr rfl | rfl) ?_)); done)); conv => whnf) | rw [rowsB_length] | rw [rowsB_td] | rw [liftB_app] | rw [Int.toNat_natCast] | rw [quoL] | rw [remL] | rw [wrap_i64 (n := ((_ : Nat) : Int)) (by omega) (by omega)] | rw [wrap_i64 (by omega) (by omega)] | fail)) | (refine PubRows.mk _ ?_ (toRows_map _) ?_; (focus (first | exact rfl | (simp only [List.length_map, rowsB_length, List.length_append]; done) | (simp only [List.length_map, rowsB_length, List.length_append]; omega) | (simp; done) | (simp; omega))); conv => whnf) | (refine PubRows.mk _ rfl rfl ?_; conv => whnf) | rw [rowsB_length] | rw [rowsB_td] | rw [liftB_app] | rw [Int.toNat_natCast] | rw [quoL] | rw [remL] | rw [wrap_i64 (n := ((_ : Nat) : Int)) (by omega) (by omega)] | rw [wrap_i64 (by omega) (by omega)] | fail)
  all_goals first | exact ⟨rfl, rfl⟩ | (exfalso; omega)
include hl
theorem diskCrash_keep (ws : List Wr) (hn : ws.length ≤ 1048576) (hw : ∀ x ∈ ws, x.2.1.length = 64 ∧ 0 ≤ x.1 ∧ x.1 < (l.length / 64 : Nat)) (keep : List Bool) (hk : keep.length = ws.length) (cut : Int) :
    DetA Try.prog 31 [.ptr 2 0, keepP keep, .d (.i .i64 (-1)), .d (.i .i64 cut)] (dObs l m c (some (ws.map lgRow)) fused fuse) (errP 0)
      (dObs (crashB keep (-1) 0 0 ws l) [] c none false fuse ++ lgX (some (ws.map lgRow))) := by
  have hla := fun (X : List UInt8) (hX : X.length ≤ 16777216) (at_ : Nat) (ha : at_ < X.length / 64) (Y : Heap) => (diskLasting_calls X hX m c (some (ws.map lgRow)) fused fuse at_ ha).more Y rfl rfl (dObs_sc ..) (dObs_sc ..)
  have hrows := allLen_lgs ws fun x hx => (hw x hx).1
  have hlen : (ws.map lgRow).length = ws.length := List.length_map ..
  have hkl : (keep.map fun b => [D.b b]).length = keep.length := by simp
  have hka := keepAll keep
  have hkg := keep_get keep
  refine callsW_of 4 Try.call31 Try.func31 (c := _) rfl (by kernel_rfl) (Nat.le_of_ble_eq_true rfl) (Nat.le_refl _) ?_
  ((conv => whnf); repeat (refine SeqW.go ?_; conv => whnf))
  repeat' (first | (refine brIs ?_; (first | (refine Br.t ?_; conv => whnf) | (refine Br.f ?_; conv => whnf) | (refine Br.ne_self ?_; conv => whnf) | (refine Br.eq_self ?_; conv => whnf) | rw [rowsB_length] | rw [rowsB_td] | rw [liftB_app] | rw [Int.toNat_natCast] | rw [quoL] | rw [remL] | rw [wrap_i64 (n := ((_ : Nat) : Int)) (by omega) (by omega)] | rw [wrap_i64 (by omega) (by omega)] | (refine Br.dec (fun h => absurd h (by omega)) (fun h => ?_); conv => whnf) | (refine Br.dec (fun h => ?_) (fun h => absurd h (by omega)); conv => whnf) | (refine Br.beq (fun h => absurd h (by omega)) (fun h => ?_); conv => whnf) | (refine Br.beq (fun h => ?_) (fun h => absurd h (by omega)); conv => whnf) | (refine Br.bne (fun h => absurd h (by omega)) (fun h => ?_); conv => whnf) | (refine Br.bne (fun h => ?_) (fun h => absurd h (by omega)); conv => whnf) | (refine Br.nbeq (fun h => absurd h (by omega)) (fun h => ?_); conv => whnf) | (refine Br.nbeq (fun h => ?_) (fun h => absurd h (by omega)); conv => whnf) | (refine Br.dec (fun h => ?_) (fun h => ?_) <;> (conv => whnf)) | (refine Br.beq (fun h => ?_) (fun h => ?_) <;> (conv => whnf)) | (refine Br.bne (fun h => ?_) (fun h => ?_) <;> (conv => whnf)) | (refine Br.nbeq (fun h => ?_) (fun h => ?_) <;> (conv => whnf)) | (refine Br.not (fun h => ?_) (fun h => ?_) <;> (conv => whnf)) | (refine Br.mk (fun h => ?_) (fun h => ?_) <;> (conv => whnf)) | fail)) | (refine SeqW.go ?_; conv => whnf) | (refine cdIs ?_; (first | (refine Cd.mk ?_ ?_; (focus ((repeat' (refine And.intro ?_ ?_)) <;> (first | omega | assumption | exact True.intro | exact rfl | exact allLen_lift (rowsB_all _) | exact rowsB_all _ | (simp only [rowsB_length, liftR, List.length_map, Int.toNat_natCast]; omega) | (simp (disch := omega) only [wrap_i64, rowsB_length, liftR, List.length_map, Int.toNat_natCast, List.length_take, List.length_drop, List.length_append, List.length_replicate]; omega) | exact Nat.le_refl _ | exact allLen_lift (by assumption) | exact allLen_lift (allLen_one rfl) | (simp; done) | (simp; omega)))); conv => whnf) | (refine Cd.mk ⟨Nat.le_of_ble_eq_true rfl, ?_⟩ ?_; (focus ((repeat (first | exact allN | refine allC (by first | exact sc_lift _ _ | exact sc_wes _ _ _ | exact sc_arr rfl | rfl) ?_)); done)); conv => whnf) | rw [rowsB_length] | rw [rowsB_td] | rw [liftB_app] | rw [Int.toNat_natCast] | rw [quoL] | rw [remL] | rw [wrap_i64 (n := ((_ : Nat) : Int)) (by omega) (by omega)] | rw [wrap_i64 (by omega) (by omega)] | fail)) | (refine PubRows.mk _ ?_ (toRows_map _) ?_; (focus (first | exact rfl | (simp only [List.length_map, rowsB_length, List.length_append]; done) | (simp only [List.length_map, rowsB_length, List.length_append]; omega) | (simp; done) | (simp; omega))); conv => whnf) | (refine PubRows.mk _ rfl rfl ?_; conv => whnf) | rw [rowsB_length] | rw [rowsB_td] | rw [liftB_app] | rw [Int.toNat_natCast] | rw [quoL] | rw [remL] | rw [wrap_i64 (n := ((_ : Nat) : Int)) (by omega) (by omega)] | rw [wrap_i64 (by omega) (by omega)] | fail)
  refine loopK (by kernel_rfl) (γ := Nat × List UInt8) 4 (fun g => g.1 ≤ ws.length ∧ g.2.length = l.length ∧ crashB keep (-1) 0 g.1 (ws.drop g.1) g.2 = crashB keep (-1) 0 0 ws l) (fun g => [(52, .d (.i .i64 g.1))]) (fun g => [(0, dLast g.2)]) (fun g => ws.length - g.1)
    ⟨rfl, rfl⟩ (fun _ _ => by (repeat (first | exact allN | refine allC (by first | exact sc_lift _ _ | exact sc_wes _ _ _ | exact sc_arr rfl | rfl) ?_))) (0, l) ⟨Nat.zero_le _, rfl, rfl⟩ (by repeat (first | exact trivial | refine ⟨.refl _, ?_⟩)) ⟨rfl, rfl, trivial⟩ ?_
  rintro ⟨i, X⟩ ⟨hi, hX, hj⟩
  simp only at hi hX hj
  rw [← hX]
  have hrow := fun h : i < ws.length => lgRow_get ws i h
  simp only [Int.toNat_natCast] at hrow
  have hwi := fun h : i < ws.length => hw ws[i] (List.getElem_mem _)
  ((conv => whnf); repeat (refine SeqW.go ?_; conv => whnf))
  repeat' (first | (refine brIs ?_; (first | (refine Br.t ?_; conv => whnf) | (refine Br.f ?_; conv => whnf) | (refine Br.ne_self ?_; conv => whnf) | (refine Br.eq_self ?_; conv => whnf) | rw [rowsB_length] | rw [rowsB_td] | rw [liftB_app] | rw [Int.toNat_natCast] | rw [quoL] | rw [remL] | rw [wrap_i64 (n := ((_ : Nat) : Int)) (by omega) (by omega)] | rw [wrap_i64 (by omega) (by omega)] | (rw [hkg i (by omega)]; conv => whnf) | (refine Br.dec (fun h => absurd h (by omega)) (fun h => ?_); conv => whnf) | (refine Br.dec (fun h => ?_) (fun h => absurd h (by omega)); conv => whnf) | (refine Br.beq (fun h => absurd h (by omega)) (fun h => ?_); conv => whnf) | (refine Br.beq (fun h => ?_) (fun h => absurd h (by omega)); conv => whnf) | (refine Br.bne (fun h => absurd h (by omega)) (fun h => ?_); conv => whnf) | (refine Br.bne (fun h => ?_) (fun h => absurd h (by omega)); conv => whnf) | (refine Br.nbeq (fun h => absurd h (by omega)) (fun h => ?_); conv => whnf) | (refine Br.nbeq (fun h => ?_) (fun h => absurd h (by omega)); conv => whnf) | (refine Br.dec (fun h => ?_) (fun h => ?_) <;> (conv => whnf)) | (refine Br.beq (fun h => ?_) (fun h => ?_) <;> (conv => whnf)) | (refine Br.bne (fun h => ?_) (fun h => ?_) <;> (conv => whnf)) | (refine Br.nbeq (fun h => ?_) (fun h => ?_) <;> (conv => whnf)) | (refine Br.not (fun h => ?_) (fun h => ?_) <;> (conv => whnf)) | (refine Br.mk (fun h => ?_) (fun h => ?_) <;> (conv => whnf)) | fail)) | (refine SeqW.go ?_; conv => whnf) | (refine cdIs ?_; (first | (refine Cd.mk ?_ ?_; (focus ((repeat' (refine And.intro ?_ ?_)) <;> (first | omega | assumption | exact True.intro | exact rfl | exact allLen_lift (rowsB_all _) | exact rowsB_all _ | (simp only [rowsB_length, liftR, List.length_map, Int.toNat_natCast]; omega) | (simp (disch := omega) only [wrap_i64, rowsB_length, liftR, List.length_map, Int.toNat_natCast, List.length_take, List.length_drop, List.length_append, List.length_replicate]; omega) | exact Nat.le_refl _ | exact allLen_lift (by assumption) | exact allLen_lift (allLen_one rfl) | (simp; done) | (simp; omega)))); conv => whnf) | (refine Cd.mk ⟨Nat.le_of_ble_eq_true rfl, ?_⟩ ?_; (focus ((repeat (first | exact allN | refine allC (by first | exact sc_lift _ _ | exact sc_wes _ _ _ | exact sc_arr rfl | rfl) ?_)); done)); conv => whnf) | rw [rowsB_length] | rw [rowsB_td] | rw [liftB_app] | rw [Int.toNat_natCast] | rw [quoL] | rw [remL] | rw [wrap_i64 (n := ((_ : Nat) : Int)) (by omega) (by omega)] | rw [wrap_i64 (by omega) (by omega)] | (rw [hkg i (by omega)]; conv => whnf) | fail)) | (refine PubRows.mk _ ?_ (toRows_map _) ?_; (focus (first | exact rfl | (simp only [List.length_map, rowsB_length, List.length_append]; done) | (simp only [List.length_map, rowsB_length, List.length_append]; omega) | (simp; done) | (simp; omega))); conv => whnf) | (refine PubRows.mk _ rfl rfl ?_; conv => whnf) | ((refine ⟨_, _, _, hrow (by omega), rfl, ?_, rfl, ?_⟩; (focus (rw [List.length_map]; exact (hwi (by omega)).1)); conv => whnf)) | ((refine Cd.mk (by kernel_rfl) ?_; conv => whnf)) | rw [rowsB_length] | rw [rowsB_td] | rw [liftB_app] | rw [Int.toNat_natCast] | rw [quoL] | rw [remL] | rw [wrap_i64 (n := ((_ : Nat) : Int)) (by omega) (by omega)] | rw [wrap_i64 (by omega) (by omega)] | (rw [hkg i (by omega)]; conv => whnf) | fail)
  · have hi' : i < ws.length := by omega
    have hd : ws[i].2.2 = true := by assumption
    rw [List.drop_eq_getElem_cons hi'] at hj
    simp only [crashB] at hj
    rw [if_pos hd] at hj
    refine ⟨(i + 1, X), ⟨hi', rfl, hj⟩, by simp only; omega, (by repeat (first | exact trivial | refine ⟨.refl _, ?_⟩)), ⟨rfl, rfl, trivial⟩, (by repeat (first | exact trivial | refine ⟨rfl, ?_⟩))⟩
  · have hi' : i < ws.length := by omega
    have hx := hw ws[i] (List.getElem_mem _)
    have hd : ¬ ws[i].2.2 = true := by rw [Bool.not_eq_true]; assumption
    have hkp : keep.getD i false = true := by assumption
    rw [List.drop_eq_getElem_cons hi'] at hj
    simp only [crashB] at hj
    rw [if_neg hd, if_neg (show ¬ ((i : Int) = -1) by omega), if_pos hkp] at hj
    obtain ⟨a, ha⟩ : ∃ n : Nat, ws[i].1 = n := ⟨ws[i].1.toNat, by omega⟩
    refine drawW [] mixed (by kernel_rfl) (by kernel_rfl) ?_
    ((conv => whnf); repeat (refine SeqW.go ?_; conv => whnf))
    refine OpF.rd rfl ⟨(show 0 < 1 by omega), rfl, rfl⟩ ?_
    ((conv => whnf); repeat (refine SeqW.go ?_; conv => whnf))
    rw [ha]
    try rw [← hX]
    refine (hla X (by omega) a (by omega) [_]).callF ?_
    ((conv => whnf); repeat (refine SeqW.go ?_; conv => whnf))
    refine OpF.pure (fun _ => ⟨⟨(show (0 : Nat) < 64 by omega), (show (64 : Nat) ≤ 16777216 by omega)⟩, rfl, rfl⟩) ?_
    ((conv => whnf); repeat (refine SeqW.go ?_; conv => whnf))
    refine OpF.wr rfl ⟨⟨rfl, (show 0 + (64 - 0) ≤ 64 by omega)⟩, ⟨rfl, ?_, ?_, ?_, ?_⟩, rfl, rfl⟩ ?_
    · rw [srcB]; exact allLen_lift (rowsB_all _)
    · simp [liftR]
    · exact allLen_lift (rowsB_all _)
    · omega
    ((conv => whnf); repeat (refine SeqW.go ?_; conv => whnf))
    repeat (first | (refine Br.t ?_; conv => whnf) | (refine Cd.mk (by omega) ?_; conv => whnf) | (refine Br.f ?_; conv => whnf) | (refine SeqW.go ?_; conv => whnf))
    have hb0 : (ws[i].2.1.drop 0).take (64 - 0) = ws[i].2.1 := by rw [List.drop_zero, List.take_of_length_le]; omega
    rw [srcB, hb0]
    rw [show min (liftR (rowsB ws[i].2.1)).length 64 = 64 by simp only [liftR, List.length_map, rowsB_len]; omega]
    rw [splB X ws[i].2.1 _ hx.1]
    rw [ha, Int.toNat_natCast] at hj
    try rw [hX]
    refine ⟨(i + 1, splice X (a * 64) ws[i].2.1), ⟨hi', (splice_length _ _ _ (by omega)).trans hX, hj⟩, by simp only; omega, (by repeat (first | exact trivial | refine ⟨.refl _, ?_⟩)), ⟨wrap_next (by omega), rfl, trivial⟩, (by repeat (first | exact trivial | refine ⟨rfl, ?_⟩))⟩
  · have hi' : i < ws.length := by omega
    have hd : ¬ ws[i].2.2 = true := by rw [Bool.not_eq_true]; assumption
    have hkp : ¬ keep.getD i false = true := by rw [Bool.not_eq_true]; assumption
    rw [List.drop_eq_getElem_cons hi'] at hj
    simp only [crashB] at hj
    rw [if_neg hd, if_neg (show ¬ ((i : Int) = -1) by omega), if_neg hkp] at hj
    refine ⟨(i + 1, X), ⟨hi', rfl, hj⟩, by simp only; omega, (by repeat (first | exact trivial | refine ⟨.refl _, ?_⟩)), ⟨rfl, rfl, trivial⟩, (by repeat (first | exact trivial | refine ⟨rfl, ?_⟩))⟩
  · have hi' : i = ws.length := by omega
    subst hi'
    rw [List.drop_length] at hj
    simp only [crashB] at hj
    subst hj
    rw [← hX]
    refine (forget_calls _ m c (some (ws.map lgRow)) fused fuse).call fun _ => ?_
    ((conv => whnf); repeat (refine SeqW.go ?_; conv => whnf))
    repeat (first | (refine Br.t ?_; conv => whnf) | (refine Cd.mk (by omega) ?_; conv => whnf) | (refine Br.f ?_; conv => whnf) | (refine SeqW.go ?_; conv => whnf))
    refine ⟨⟨Nat.le_of_ble_eq_true rfl, by (repeat (first | exact allN | refine allC (by first | exact sc_lift _ _ | exact sc_wes _ _ _ | exact sc_arr rfl | rfl) ?_))⟩, ?_⟩
    conv => whnf
    exact ⟨rfl, rfl⟩
end
end Go.Aw
