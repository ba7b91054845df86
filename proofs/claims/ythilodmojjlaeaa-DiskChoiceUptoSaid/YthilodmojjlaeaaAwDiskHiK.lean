/- Layer 12: a crash that keeps some writes leaves what those alone leave; torn at the ends. -/
import Derived.Test.YthilodmojjlaeaaAwDiskTyK
set_option linter.unusedVariables false
set_option linter.unusedSimpArgs false
namespace Go.Aw
open Go.Proofs
set_option maxRecDepth 100000
set_option maxHeartbeats 1000000

/-- The writes that are kept. -/
def keepL (k : List Bool) (l : List (Int × List UInt8)) : List (Int × List UInt8) := (l.zipIdx).filterMap fun x => if k.getD x.2 false then some x.1 else none
theorem keepL_succ (k : List Bool) (l : List (Int × List UInt8)) (i : Nat) (h : i < l.length) : keepL k (l.take (i + 1)) = keepL k (l.take i) ++ (if k.getD i false then [l[i]] else []) := by
  rw [List.take_succ_eq_append_getElem h]
  simp only [keepL, List.zipIdx_append, List.filterMap_append, List.length_take, Nat.zero_add]
  rw [Nat.min_eq_left (by omega)]
  congr 1
  simp only [List.zipIdx_cons, List.zipIdx_nil, List.filterMap_cons, List.filterMap_nil]
  split <;> simp_all
theorem keepL_len (k : List Bool) (l : List (Int × List UInt8)) : (keepL k l).length ≤ l.length := by
  have := List.length_filterMap_le (fun x : (Int × List UInt8) × Nat => if k.getD x.2 false then some x.1 else none) l.zipIdx
  simpa [keepL] using this
theorem keepL_mem (k : List Bool) (l : List (Int × List UInt8)) : ∀ x ∈ keepL k l, x ∈ l := by
  intro x hx
  obtain ⟨⟨y, j⟩, h1, h2⟩ := List.mem_filterMap.1 hx
  simp only at h2
  split at h2
  · cases h2; exact List.fst_mem_of_mem_zipIdx h1
  · cases h2

theorem keep_get' (keep : List Bool) (i : Nat) (h : i < keep.length) : (keep.map fun b => [D.b b]).getD i [] = [D.b (keep.getD i false)] := keep_get keep i h
/-- What the laws begin with. -/
structure Head (image : List UInt8) (ws : List (Int × List UInt8)) (old : List UInt8) (l : List (Int × List UInt8)) : Prop where
  whole : PureA Try.prog 24 [bytesP image] (bytesP old)
  img : imgOk old
  len : old.length ≤ 32768
  ins : PureA Try.prog 25 [wsP ws, .d (.i .i64 (old.length / 64 : Nat))] (wsP l)
  lw : ∀ x ∈ l, inB (old.length / 64) x = true
  lb : ∀ x ∈ l, x.2.length ≤ 1048576
  ln : l.length ≤ 1048576
theorem head_of (image : List UInt8) (hi : image.length ≤ 1048576) (ws : List (Int × List UInt8)) (hb : ∀ x ∈ ws, x.2.length ≤ 1048576) (hn : ws.length ≤ 1048576) : Head image ws (wholeB image) (ws.filter (inB ((wholeB image).length / 64))) where
  whole := whole_calls image (by omega)
  img := wholeB_ok image
  len := by rw [wholeB_len]; omega
  ins := inside_calls ws hn _ (by have := (wholeB_ok image).2.2; omega)
  lw := fun x hx => (List.mem_filter.1 hx).2
  lb := fun x hx => hb x (List.mem_filter.1 hx).1
  ln := Nat.le_trans (List.length_filter_le _ _) hn

theorem history_calls (image : List UInt8) (hi : image.length ≤ 1048576) (ws : List (Int × List UInt8)) (hb : ∀ x ∈ ws, x.2.length ≤ 1048576) (hn : ws.length ≤ 1048576) (keep : List Bool) (hkn : keep.length ≤ 1048576) :
    PureA Try.prog 6 [bytesP image, wsP ws, keepP keep] (.d (.b true)) := by
  have hH := head_of image hi ws hb hn
  generalize wholeB image = old at hH
  generalize ws.filter (inB (old.length / 64)) = l at hH
  have hwh := hH.whole
  have hin := hH.ins
  have hol := hH.len
  have hln := hH.ln
  have hall := wsAll l
  have hget := ws_get l
  have hkk := kept_calls keep hkn (l.map wsRow).length (by simp; omega)
  have hkl := keptB_len keep (l.map wsRow).length
  generalize keptB keep (l.map wsRow).length = k at hkk hkl
  have hka := keepAll k
  have hkg := keep_get k
  have hwl : (l.map wsRow).length = l.length := by simp
  refine callsW_of 0 Try.call6 Try.func6 (c := _) rfl (by kernel_rfl) (Nat.le_of_ble_eq_true rfl) (Nat.le_refl 0) ?_
  ((conv => whnf); repeat (refine SeqW.go ?_; conv => whnf))
  repeat' (first | (refine brIs ?_; (first | (refine Br.t ?_; conv => whnf) | (refine Br.f ?_; conv => whnf) | (refine Br.ne_self ?_; conv => whnf) | (refine Br.eq_self ?_; conv => whnf) | rw [rowsB_length] | rw [rowsB_td] | rw [liftB_app] | rw [Int.toNat_natCast] | rw [quoL] | rw [remL] | rw [wrap_i64 (n := ((_ : Nat) : Int)) (by omega) (by omega)] | rw [wrap_i64 (by omega) (by omega)] | (refine Br.dec (fun h => absurd h (by omega)) (fun h => ?_); conv => whnf) | (refine Br.dec (fun h => ?_) (fun h => absurd h (by omega)); conv => whnf) | (refine Br.beq (fun h => absurd h (by omega)) (fun h => ?_); conv => whnf) | (refine Br.beq (fun h => ?_) (fun h => absurd h (by omega)); conv => whnf) | (refine Br.bne (fun h => absurd h (by omega)) (fun h => ?_); conv => whnf) | (refine Br.bne (fun h => ?_) (fun h => absurd h (by omega)); conv => whnf) | (refine Br.nbeq (fun h => absurd h (by omega)) (fun h => ?_); conv => whnf) | (refine Br.nbeq (fun h => ?_) (fun h => absurd h (by omega)); conv => whnf) | (refine Br.dec (fun h => ?_) (fun h => ?_) <;> (conv => whnf)) | (refine Br.beq (fun h => ?_) (fun h => ?_) <;> (conv => whnf)) | (refine Br.bne (fun h => ?_) (fun h => ?_) <;> (conv => whnf)) | (refine Br.nbeq (fun h => ?_) (fun h => ?_) <;> (conv => whnf)) | (refine Br.not (fun h => ?_) (fun h => ?_) <;> (conv => whnf)) | (refine Br.mk (fun h => ?_) (fun h => ?_) <;> (conv => whnf)) | fail)) | (refine SeqW.go ?_; conv => whnf) | (refine cdIs ?_; (first | (refine Cd.mk ?_ ?_; (focus ((repeat' (refine And.intro ?_ ?_)) <;> (first | omega | assumption | exact True.intro | exact rfl | exact allLen_lift (rowsB_all _) | exact rowsB_all _ | (simp only [rowsB_length, liftR, List.length_map, Int.toNat_natCast]; omega) | (simp (disch := omega) only [wrap_i64, rowsB_length, liftR, List.length_map, Int.toNat_natCast, List.length_take, List.length_drop, List.length_append, List.length_replicate]; omega) | exact Nat.le_refl _ | exact allLen_lift (by assumption) | exact allLen_lift (allLen_one rfl) | (simp; done) | (simp; omega)))); conv => whnf) | (refine Cd.mk ⟨Nat.le_of_ble_eq_true rfl, ?_⟩ ?_; (focus ((repeat (first | exact allN | refine allC (by first | exact sc_lift _ _ | exact sc_wes _ _ _ | exact sc_arr rfl | rfl) ?_)); done)); conv => whnf) | rw [rowsB_length] | rw [rowsB_td] | rw [liftB_app] | rw [Int.toNat_natCast] | rw [quoL] | rw [remL] | rw [wrap_i64 (n := ((_ : Nat) : Int)) (by omega) (by omega)] | rw [wrap_i64 (by omega) (by omega)] | fail)) | (refine callIs ?_; (first | (refine callGo (awake_calls) ?_; refine callP (awake_calls) rfl rfl fun _ => ?_; conv => whnf) | (refine callGo (hwh) ?_; refine callP (hwh) rfl rfl fun _ => ?_; conv => whnf) | (refine callGo (hin) ?_; refine callP (hin) rfl rfl fun _ => ?_; conv => whnf) | (refine callGo (hkk) ?_; refine callP (hkk) rfl rfl fun _ => ?_; conv => whnf) | fail)) | (refine PubRows.mk _ ?_ (toRows_map _) ?_; (focus (first | exact rfl | (simp only [List.length_map, rowsB_length, List.length_append]; done) | (simp only [List.length_map, rowsB_length, List.length_append]; omega) | (simp; done) | (simp; omega))); conv => whnf) | (refine PubRows.mk _ rfl rfl ?_; conv => whnf) | rw [rowsB_length] | rw [rowsB_td] | rw [liftB_app] | rw [Int.toNat_natCast] | rw [quoL] | rw [remL] | rw [wrap_i64 (n := ((_ : Nat) : Int)) (by omega) (by omega)] | rw [wrap_i64 (by omega) (by omega)] | fail)
  refine loopN (.slot 11 2 rfl .done) ?_
  refine loopK (by kernel_rfl) (γ := Nat) 1 (fun i => i ≤ l.length) (fun i => [(12, .d (.i .i64 i)), (11, .own 0 2 (keepL k (l.take i)).length)]) (fun i => [(0, .buf (liftR ((keepL k (l.take i)).map wsRow)))]) (fun i => l.length - i)
    ⟨rfl, rfl⟩ (fun _ _ => by (repeat (first | exact allN | refine allC (by first | exact sc_lift _ _ | exact sc_wes _ _ _ | exact sc_arr rfl | rfl) ?_))) 0 (Nat.zero_le _) (by repeat (first | exact trivial | refine ⟨.refl _, ?_⟩)) ⟨rfl, rfl, rfl, rfl, trivial⟩ ?_
  intro i hil
  have hall2 := wsAll (keepL k (l.take i))
  have hkl2 := keepL_len k (l.take i)
  have hkl3 := List.length_take_le i l
  have hkl4 : ((keepL k (l.take i)).map wsRow).length = (keepL k (l.take i)).length := by simp
  have hkm : (k.map fun b => [D.b b]).length = k.length := by simp
  ((conv => whnf); repeat (refine SeqW.go ?_; conv => whnf))
  repeat' (first | (refine brIs ?_; (first | (refine Br.t ?_; conv => whnf) | (refine Br.f ?_; conv => whnf) | (refine Br.ne_self ?_; conv => whnf) | (refine Br.eq_self ?_; conv => whnf) | rw [rowsB_length] | rw [rowsB_td] | rw [liftB_app] | rw [Int.toNat_natCast] | rw [quoL] | rw [remL] | rw [wrap_i64 (n := ((_ : Nat) : Int)) (by omega) (by omega)] | rw [wrap_i64 (by omega) (by omega)] | (rw [hget i (by omega)]; conv => whnf) | (rw [hkg i (by omega)]; conv => whnf) | (refine Br.dec (fun h => absurd h (by omega)) (fun h => ?_); conv => whnf) | (refine Br.dec (fun h => ?_) (fun h => absurd h (by omega)); conv => whnf) | (refine Br.beq (fun h => absurd h (by omega)) (fun h => ?_); conv => whnf) | (refine Br.beq (fun h => ?_) (fun h => absurd h (by omega)); conv => whnf) | (refine Br.bne (fun h => absurd h (by omega)) (fun h => ?_); conv => whnf) | (refine Br.bne (fun h => ?_) (fun h => absurd h (by omega)); conv => whnf) | (refine Br.nbeq (fun h => absurd h (by omega)) (fun h => ?_); conv => whnf) | (refine Br.nbeq (fun h => ?_) (fun h => absurd h (by omega)); conv => whnf) | (refine Br.dec (fun h => ?_) (fun h => ?_) <;> (conv => whnf)) | (refine Br.beq (fun h => ?_) (fun h => ?_) <;> (conv => whnf)) | (refine Br.bne (fun h => ?_) (fun h => ?_) <;> (conv => whnf)) | (refine Br.nbeq (fun h => ?_) (fun h => ?_) <;> (conv => whnf)) | (refine Br.not (fun h => ?_) (fun h => ?_) <;> (conv => whnf)) | (refine Br.mk (fun h => ?_) (fun h => ?_) <;> (conv => whnf)) | fail)) | (refine SeqW.go ?_; conv => whnf) | (refine cdIs ?_; (first | (refine Cd.mk ?_ ?_; (focus ((repeat' (refine And.intro ?_ ?_)) <;> (first | omega | assumption | exact True.intro | exact rfl | exact allLen_lift (rowsB_all _) | exact rowsB_all _ | (simp only [rowsB_length, liftR, List.length_map, Int.toNat_natCast]; omega) | (simp (disch := omega) only [wrap_i64, rowsB_length, liftR, List.length_map, Int.toNat_natCast, List.length_take, List.length_drop, List.length_append, List.length_replicate]; omega) | exact Nat.le_refl _ | exact allLen_lift (by assumption) | exact allLen_lift (allLen_one rfl) | (simp; done) | (simp; omega)))); conv => whnf) | (refine Cd.mk ⟨Nat.le_of_ble_eq_true rfl, ?_⟩ ?_; (focus ((repeat (first | exact allN | refine allC (by first | exact sc_lift _ _ | exact sc_wes _ _ _ | exact sc_arr rfl | rfl) ?_)); done)); conv => whnf) | rw [rowsB_length] | rw [rowsB_td] | rw [liftB_app] | rw [Int.toNat_natCast] | rw [quoL] | rw [remL] | rw [wrap_i64 (n := ((_ : Nat) : Int)) (by omega) (by omega)] | rw [wrap_i64 (by omega) (by omega)] | (rw [hget i (by omega)]; conv => whnf) | (rw [hkg i (by omega)]; conv => whnf) | fail)) | (refine PubRows.mk _ ?_ (toRows_map _) ?_; (focus (first | exact rfl | (simp only [List.length_map, rowsB_length, List.length_append]; done) | (simp only [List.length_map, rowsB_length, List.length_append]; omega) | (simp; done) | (simp; omega))); conv => whnf) | (refine PubRows.mk _ rfl rfl ?_; conv => whnf) | (refine Lit.data ?_; conv => whnf) | rw [rowsB_length] | rw [rowsB_td] | rw [liftB_app] | rw [Int.toNat_natCast] | rw [quoL] | rw [remL] | rw [wrap_i64 (n := ((_ : Nat) : Int)) (by omega) (by omega)] | rw [wrap_i64 (by omega) (by omega)] | (rw [hget i (by omega)]; conv => whnf) | (rw [hkg i (by omega)]; conv => whnf) | fail)
  · have hp : k.getD i false = true := by assumption
    refine ⟨i + 1, by omega, by omega, ?_, ⟨rfl, rfl, ?_, rfl, trivial⟩, (by repeat (first | exact trivial | refine ⟨rfl, ?_⟩))⟩
    all_goals rw [keepL_succ k l i (by omega), if_pos hp]
    · rw [List.map_append]; simp only [liftR, List.map_append]; exact (by repeat (first | exact trivial | refine ⟨.refl _, ?_⟩))
    · rw [List.length_append]; rfl
  · have hp : ¬ k.getD i false = true := by rw [Bool.not_eq_true]; assumption
    refine ⟨i + 1, by omega, by omega, ?_, ⟨rfl, rfl, ?_, rfl, trivial⟩, (by repeat (first | exact trivial | refine ⟨rfl, ?_⟩))⟩
    all_goals rw [keepL_succ k l i (by omega), if_neg hp, List.append_nil]
    · exact (by repeat (first | exact trivial | refine ⟨.refl _, ?_⟩))
    · rfl
  rw [show l.take i = l from List.take_of_length_le (by omega)]
  generalize ht : keepL k l = those
  have htm : ∀ x ∈ those, x ∈ l := fun x hx => keepL_mem k l x (by rw [ht]; exact hx)
  have htl : those.length ≤ l.length := by rw [← ht]; exact keepL_len k l
  have hma := made_DS old hH.img l hH.lw hH.lb hln
  have hA := DS.made old (by omega) l hH.lw
  generalize (DS.new old).writes l = a at hma hA
  have hmb := made_DS old hH.img those (fun x hx => hH.lw x (htm x hx)) (fun x hx => hH.lb x (htm x hx)) (by omega)
  have hB := DS.made old (by omega) those (fun x hx => hH.lw x (htm x hx))
  generalize (DS.new old).writes those = b at hmb hB
  have hcr := crash_X hA hln k (by omega) (-1) (by omega) 0 (by omega)
  have hE := hA.crash2 k (-1) 0 (by omega)
  have hX : crashB k (-1) 0 0 (l.map mkW) old = applyB those old := by rw [crashB_all, ← ht]; rfl
  rw [hX] at hE
  generalize a.crash k (-1) 0 = e at hcr hE
  have hsy := sync_dk b hB.ok
  have hF := hB.sync2
  generalize b.sync = f at hsy hF
  generalize applyB those old = X at hE hF
  have hei := image_X hE (X := X) rfl
  have hfi := image_X hF (X := X) rfl
  have hed := durable_X hE
  have hfd := durable_X hF
  have hel : e.l.length = X.length := by rw [hE.last]
  have hfl : f.l.length = X.length := by rw [hF.last]
  repeat' (first | (refine brIs ?_; (first | (refine Br.t ?_; conv => whnf) | (refine Br.f ?_; conv => whnf) | (refine Br.ne_self ?_; conv => whnf) | (refine Br.eq_self ?_; conv => whnf) | rw [rowsB_length] | rw [rowsB_td] | rw [liftB_app] | rw [Int.toNat_natCast] | rw [quoL] | rw [remL] | rw [wrap_i64 (n := ((_ : Nat) : Int)) (by omega) (by omega)] | rw [wrap_i64 (by omega) (by omega)] | (refine Br.dec (fun h => absurd h (by omega)) (fun h => ?_); conv => whnf) | (refine Br.dec (fun h => ?_) (fun h => absurd h (by omega)); conv => whnf) | (refine Br.beq (fun h => absurd h (by omega)) (fun h => ?_); conv => whnf) | (refine Br.beq (fun h => ?_) (fun h => absurd h (by omega)); conv => whnf) | (refine Br.bne (fun h => absurd h (by omega)) (fun h => ?_); conv => whnf) | (refine Br.bne (fun h => ?_) (fun h => absurd h (by omega)); conv => whnf) | (refine Br.nbeq (fun h => absurd h (by omega)) (fun h => ?_); conv => whnf) | (refine Br.nbeq (fun h => ?_) (fun h => absurd h (by omega)); conv => whnf) | (refine Br.dec (fun h => ?_) (fun h => ?_) <;> (conv => whnf)) | (refine Br.beq (fun h => ?_) (fun h => ?_) <;> (conv => whnf)) | (refine Br.bne (fun h => ?_) (fun h => ?_) <;> (conv => whnf)) | (refine Br.nbeq (fun h => ?_) (fun h => ?_) <;> (conv => whnf)) | (refine Br.not (fun h => ?_) (fun h => ?_) <;> (conv => whnf)) | (refine Br.mk (fun h => ?_) (fun h => ?_) <;> (conv => whnf)) | fail)) | (refine SeqW.go ?_; conv => whnf) | (refine cdIs ?_; (first | (refine Cd.mk ?_ ?_; (focus ((repeat' (refine And.intro ?_ ?_)) <;> (first | omega | assumption | exact True.intro | exact rfl | exact allLen_lift (rowsB_all _) | exact rowsB_all _ | (simp only [rowsB_length, liftR, List.length_map, Int.toNat_natCast]; omega) | (simp (disch := omega) only [wrap_i64, rowsB_length, liftR, List.length_map, Int.toNat_natCast, List.length_take, List.length_drop, List.length_append, List.length_replicate]; omega) | exact Nat.le_refl _ | exact allLen_lift (by assumption) | exact allLen_lift (allLen_one rfl) | (simp; done) | (simp; omega)))); conv => whnf) | (refine Cd.mk ⟨Nat.le_of_ble_eq_true rfl, ?_⟩ ?_; (focus ((repeat (first | exact allN | refine allC (by first | exact sc_lift _ _ | exact sc_wes _ _ _ | exact sc_arr rfl | rfl) ?_)); done)); conv => whnf) | rw [rowsB_length] | rw [rowsB_td] | rw [liftB_app] | rw [Int.toNat_natCast] | rw [quoL] | rw [remL] | rw [wrap_i64 (n := ((_ : Nat) : Int)) (by omega) (by omega)] | rw [wrap_i64 (by omega) (by omega)] | fail)) | (refine callIs ?_; (first | (refine callGo (hma) ?_; refine callD (hma) [] ?_ rfl ?_ ?_ rfl rfl rfl (by (repeat (first | exact RenL.nil | (apply RenL.cons; · first | exact renLift _ _ | exact renWes _ _ _ | exact rfl)))) fun _ => ?_; (focus ((repeat (first | exact True.intro | (refine And.intro ?_ ?_; · first | exact congrArg some (renLift _ _).symm | exact congrArg some (renWes _ _ _).symm | exact rfl))); done)); (focus ((repeat (first | exact allN | refine allC (by first | exact sc_lift _ _ | exact sc_wes _ _ _ | exact sc_arr rfl | rfl) ?_)); done)); (focus ((repeat (first | exact allN | refine allC (by first | exact sc_lift _ _ | exact sc_wes _ _ _ | exact sc_arr rfl | rfl) ?_)); done)); conv => whnf) | (refine callGo (hmb) ?_; refine callD (hmb) [] ?_ rfl ?_ ?_ rfl rfl rfl (by (repeat (first | exact RenL.nil | (apply RenL.cons; · first | exact renLift _ _ | exact renWes _ _ _ | exact rfl)))) fun _ => ?_; (focus ((repeat (first | exact True.intro | (refine And.intro ?_ ?_; · first | exact congrArg some (renLift _ _).symm | exact congrArg some (renWes _ _ _).symm | exact rfl))); done)); (focus ((repeat (first | exact allN | refine allC (by first | exact sc_lift _ _ | exact sc_wes _ _ _ | exact sc_arr rfl | rfl) ?_)); done)); (focus ((repeat (first | exact allN | refine allC (by first | exact sc_lift _ _ | exact sc_wes _ _ _ | exact sc_arr rfl | rfl) ?_)); done)); conv => whnf) | (refine callFrz rfl (by (repeat (first | exact FrzL.nil | (apply FrzL.nils) | (apply FrzL.own _ rfl (by (first | exact rfl | assumption | (simp; done) | (simp; omega) | omega)) (toRows_map _)) | (apply FrzL.fro rfl (by (first | exact rfl | assumption | (simp; done) | (simp; omega) | omega))) | apply FrzL.keep))) ?_; conv => whnf) | (refine callGo (hcr) ?_; refine callD (hcr) [1, 2, 3, 4] ?_ rfl ?_ ?_ rfl rfl rfl (by (repeat (first | exact RenL.nil | (apply RenL.cons; · first | exact renLift _ _ | exact renWes _ _ _ | exact rfl)))) fun _ => ?_; (focus ((repeat (first | exact True.intro | (refine And.intro ?_ ?_; · first | exact congrArg some (renLift _ _).symm | exact congrArg some (renWes _ _ _).symm | exact rfl))); done)); (focus ((repeat (first | exact allN | refine allC (by first | exact sc_lift _ _ | exact sc_wes _ _ _ | exact sc_arr rfl | rfl) ?_)); done)); (focus ((repeat (first | exact allN | refine allC (by first | exact sc_lift _ _ | exact sc_wes _ _ _ | exact sc_arr rfl | rfl) ?_)); done)); conv => whnf) | (refine callGo (hsy) ?_; refine callD (hsy) [5, 6, 7, 8] ?_ rfl ?_ ?_ rfl rfl rfl (by (repeat (first | exact RenL.nil | (apply RenL.cons; · first | exact renLift _ _ | exact renWes _ _ _ | exact rfl)))) fun _ => ?_; (focus ((repeat (first | exact True.intro | (refine And.intro ?_ ?_; · first | exact congrArg some (renLift _ _).symm | exact congrArg some (renWes _ _ _).symm | exact rfl))); done)); (focus ((repeat (first | exact allN | refine allC (by first | exact sc_lift _ _ | exact sc_wes _ _ _ | exact sc_arr rfl | rfl) ?_)); done)); (focus ((repeat (first | exact allN | refine allC (by first | exact sc_lift _ _ | exact sc_wes _ _ _ | exact sc_arr rfl | rfl) ?_)); done)); conv => whnf) | (refine callGo (hei) ?_; refine callD (hei) [1, 2, 3, 9] ?_ rfl ?_ ?_ rfl rfl rfl (by (repeat (first | exact RenL.nil | (apply RenL.cons; · first | exact renLift _ _ | exact renWes _ _ _ | exact rfl)))) fun _ => ?_; (focus ((repeat (first | exact True.intro | (refine And.intro ?_ ?_; · first | exact congrArg some (renLift _ _).symm | exact congrArg some (renWes _ _ _).symm | exact rfl))); done)); (focus ((repeat (first | exact allN | refine allC (by first | exact sc_lift _ _ | exact sc_wes _ _ _ | exact sc_arr rfl | rfl) ?_)); done)); (focus ((repeat (first | exact allN | refine allC (by first | exact sc_lift _ _ | exact sc_wes _ _ _ | exact sc_arr rfl | rfl) ?_)); done)); conv => whnf) | (refine callGo (hfi) ?_; refine callD (hfi) [5, 6, 7, 10] ?_ rfl ?_ ?_ rfl rfl rfl (by (repeat (first | exact RenL.nil | (apply RenL.cons; · first | exact renLift _ _ | exact renWes _ _ _ | exact rfl)))) fun _ => ?_; (focus ((repeat (first | exact True.intro | (refine And.intro ?_ ?_; · first | exact congrArg some (renLift _ _).symm | exact congrArg some (renWes _ _ _).symm | exact rfl))); done)); (focus ((repeat (first | exact allN | refine allC (by first | exact sc_lift _ _ | exact sc_wes _ _ _ | exact sc_arr rfl | rfl) ?_)); done)); (focus ((repeat (first | exact allN | refine allC (by first | exact sc_lift _ _ | exact sc_wes _ _ _ | exact sc_arr rfl | rfl) ?_)); done)); conv => whnf) | (refine callGo (hed) ?_; refine callD (hed) [1, 2, 3, 9] ?_ rfl ?_ ?_ rfl rfl rfl (by (repeat (first | exact RenL.nil | (apply RenL.cons; · first | exact renLift _ _ | exact renWes _ _ _ | exact rfl)))) fun _ => ?_; (focus ((repeat (first | exact True.intro | (refine And.intro ?_ ?_; · first | exact congrArg some (renLift _ _).symm | exact congrArg some (renWes _ _ _).symm | exact rfl))); done)); (focus ((repeat (first | exact allN | refine allC (by first | exact sc_lift _ _ | exact sc_wes _ _ _ | exact sc_arr rfl | rfl) ?_)); done)); (focus ((repeat (first | exact allN | refine allC (by first | exact sc_lift _ _ | exact sc_wes _ _ _ | exact sc_arr rfl | rfl) ?_)); done)); conv => whnf) | (refine callGo (hfd) ?_; refine callD (hfd) [5, 6, 7, 10] ?_ rfl ?_ ?_ rfl rfl rfl (by (repeat (first | exact RenL.nil | (apply RenL.cons; · first | exact renLift _ _ | exact renWes _ _ _ | exact rfl)))) fun _ => ?_; (focus ((repeat (first | exact True.intro | (refine And.intro ?_ ?_; · first | exact congrArg some (renLift _ _).symm | exact congrArg some (renWes _ _ _).symm | exact rfl))); done)); (focus ((repeat (first | exact allN | refine allC (by first | exact sc_lift _ _ | exact sc_wes _ _ _ | exact sc_arr rfl | rfl) ?_)); done)); (focus ((repeat (first | exact allN | refine allC (by first | exact sc_lift _ _ | exact sc_wes _ _ _ | exact sc_arr rfl | rfl) ?_)); done)); conv => whnf) | (refine callZ (bytesSame_refl X) (by (repeat (first | exact FrzL.nil | (apply FrzL.nils) | (apply FrzL.own _ rfl (by (first | exact rfl | assumption | (simp; done) | (simp; omega) | omega)) (toRows_map _)) | (apply FrzL.fro rfl (by (first | exact rfl | assumption | (simp; done) | (simp; omega) | omega))) | apply FrzL.keep))) rfl rfl fun _ => ?_; conv => whnf) | fail)) | (refine PubRows.mk _ ?_ (toRows_map _) ?_; (focus (first | exact rfl | (simp only [List.length_map, rowsB_length, List.length_append]; done) | (simp only [List.length_map, rowsB_length, List.length_append]; omega) | (simp; done) | (simp; omega))); conv => whnf) | (refine PubRows.mk _ rfl rfl ?_; conv => whnf) | rw [rowsB_length] | rw [rowsB_td] | rw [liftB_app] | rw [Int.toNat_natCast] | rw [quoL] | rw [remL] | rw [wrap_i64 (n := ((_ : Nat) : Int)) (by omega) (by omega)] | rw [wrap_i64 (by omega) (by omega)] | fail)
  exact ⟨rfl, rfl⟩

theorem crashB_torn0 (keep : List Bool) : ∀ (ws : List Wr) (i : Nat) (X : List UInt8) (t : Nat), i ≤ t → t < keep.length → crashB keep t 0 i ws X = crashB (keep.set t false) (-1) 0 i ws X
  | [], i, X, t, _, _ => rfl
  | x :: r, i, X, t, h, hk => by
    have e : ¬ ((i : Int) = -1) := by omega
    simp only [crashB]
    rw [if_neg e]
    rcases Nat.eq_or_lt_of_le h with rfl | hlt
    · rw [if_pos rfl]
      have e2 : (keep.set i false).getD i false = false := by simp [List.getD_eq_getElem?_getD, hk]
      rw [e2]
      simp only [List.take_zero, Bool.false_eq_true, if_false]
      rw [show splice X (x.1.toNat * 64) ([] : List UInt8) = X by simp [splice]]
      simp only [ite_self]
      have key : ∀ (r : List Wr) (j : Nat) (X : List UInt8), i < j → crashB keep i 0 j r X = crashB (keep.set i false) (-1) 0 j r X := by
        intro r
        induction r with
        | nil => intro j X _; rfl
        | cons y r ih =>
          intro j X hj
          simp only [crashB]
          rw [if_neg (show ¬ ((j : Int) = (i : Int)) by omega), if_neg (show ¬ ((j : Int) = -1) by omega)]
          have e3 : (keep.set i false).getD j false = keep.getD j false := by simp only [List.getD_eq_getElem?_getD]; rw [List.getElem?_set_ne (by omega)]
          rw [e3]
          exact ih (j + 1) _ (by omega)
      exact key r (i + 1) X (by omega)
    · rw [if_neg (show ¬ ((i : Int) = (t : Int)) by omega)]
      have e3 : (keep.set t false).getD i false = keep.getD i false := by simp only [List.getD_eq_getElem?_getD]; rw [List.getElem?_set_ne (by omega)]
      rw [e3]
      exact crashB_torn0 keep r (i + 1) _ t (by omega) hk
theorem crashB_torn64 (keep : List Bool) : ∀ (ws : List Wr) (i : Nat) (X : List UInt8) (t : Nat), (∀ x ∈ ws, x.2.1.length = 64) → i ≤ t → t < keep.length → crashB keep t 64 i ws X = crashB (keep.set t true) (-1) 0 i ws X
  | [], i, X, t, _, _, _ => rfl
  | x :: r, i, X, t, hw, h, hk => by
    have e : ¬ ((i : Int) = -1) := by omega
    simp only [crashB]
    rw [if_neg e]
    rcases Nat.eq_or_lt_of_le h with rfl | hlt
    · rw [if_pos rfl]
      have e2 : (keep.set i true).getD i false = true := by simp [List.getD_eq_getElem?_getD, hk]
      rw [e2, if_pos rfl, List.take_of_length_le (by have := hw x (by simp); omega)]
      have key : ∀ (r : List Wr) (j : Nat) (X : List UInt8), i < j → crashB keep i 64 j r X = crashB (keep.set i true) (-1) 0 j r X := by
        intro r
        induction r with
        | nil => intro j X _; rfl
        | cons y r ih =>
          intro j X hj
          simp only [crashB]
          rw [if_neg (show ¬ ((j : Int) = (i : Int)) by omega), if_neg (show ¬ ((j : Int) = -1) by omega)]
          have e3 : (keep.set i true).getD j false = keep.getD j false := by simp only [List.getD_eq_getElem?_getD]; rw [List.getElem?_set_ne (by omega)]
          rw [e3]
          exact ih (j + 1) _ (by omega)
      exact key r (i + 1) _ (by omega)
    · rw [if_neg (show ¬ ((i : Int) = (t : Int)) by omega)]
      have e3 : (keep.set t true).getD i false = keep.getD i false := by simp only [List.getD_eq_getElem?_getD]; rw [List.getElem?_set_ne (by omega)]
      rw [e3]
      exact crashB_torn64 keep r (i + 1) _ t (fun y hy => hw y (List.mem_cons_of_mem _ hy)) (by omega) hk
/-- Of n writes, which are kept: as an object. -/
theorem kept_own (k : List Bool) (hk : k.length ≤ 1048576) (n : Nat) (hn : n ≤ 1048576) : DetA Try.prog 32 [keepP k, .d (.i .i64 n)] [] (.own 0 1 n) [.buf (liftR ((keptB k n).map fun b => [D.b b]))] := by
  refine callsK_of Try.call32 Try.func32 (c := _) rfl (by kernel_rfl) (Nat.le_of_ble_eq_true rfl) ?_
  ((conv => whnf); repeat (refine SeqW.go ?_; conv => whnf))
  refine loopN (.slot 5 1 rfl .done) ?_
  refine loopK (by kernel_rfl) (γ := Nat) 1 (fun i => i ≤ n) (fun i => [(5, .own 0 1 i), (6, .d (.i .i64 i))]) (fun i => [(0, .buf (liftR ((keptB k i).map fun b => [D.b b])))]) (fun i => n - i)
    ⟨rfl, rfl⟩ (fun _ _ => by (repeat (first | exact allN | refine allC (by first | exact sc_lift _ _ | exact sc_wes _ _ _ | exact sc_arr rfl | rfl) ?_))) 0 (Nat.zero_le _) (by repeat (first | exact trivial | refine ⟨.refl _, ?_⟩)) ⟨rfl, rfl, rfl, rfl, trivial⟩ ?_
  intro i hi
  have hget := fun h : i < k.length => keep_get k i h
  have hall := keepAll k
  have hall2 := keepAll (keptB k i)
  have hkl := keptB_len k i
  ((conv => whnf); repeat (refine SeqW.go ?_; conv => whnf))
  repeat' (first | (refine brIs ?_; (first | (refine Br.t ?_; conv => whnf) | (refine Br.f ?_; conv => whnf) | (refine Br.ne_self ?_; conv => whnf) | (refine Br.eq_self ?_; conv => whnf) | rw [rowsB_length] | rw [rowsB_td] | rw [liftB_app] | rw [Int.toNat_natCast] | rw [quoL] | rw [remL] | rw [wrap_i64 (n := ((_ : Nat) : Int)) (by omega) (by omega)] | rw [wrap_i64 (by omega) (by omega)] | (rw [List.length_map]; conv => whnf) | (rw [hget (by omega)]; conv => whnf) | (refine Br.dec (fun h => absurd h (by omega)) (fun h => ?_); conv => whnf) | (refine Br.dec (fun h => ?_) (fun h => absurd h (by omega)); conv => whnf) | (refine Br.beq (fun h => absurd h (by omega)) (fun h => ?_); conv => whnf) | (refine Br.beq (fun h => ?_) (fun h => absurd h (by omega)); conv => whnf) | (refine Br.bne (fun h => absurd h (by omega)) (fun h => ?_); conv => whnf) | (refine Br.bne (fun h => ?_) (fun h => absurd h (by omega)); conv => whnf) | (refine Br.nbeq (fun h => absurd h (by omega)) (fun h => ?_); conv => whnf) | (refine Br.nbeq (fun h => ?_) (fun h => absurd h (by omega)); conv => whnf) | (refine Br.dec (fun h => ?_) (fun h => ?_) <;> (conv => whnf)) | (refine Br.beq (fun h => ?_) (fun h => ?_) <;> (conv => whnf)) | (refine Br.bne (fun h => ?_) (fun h => ?_) <;> (conv => whnf)) | (refine Br.nbeq (fun h => ?_) (fun h => ?_) <;> (conv => whnf)) | (refine Br.not (fun h => ?_) (fun h => ?_) <;> (conv => whnf)) | (refine Br.mk (fun h => ?_) (fun h => ?_) <;> (conv => whnf)) | fail)) | (refine SeqW.go ?_; conv => whnf) | (refine cdIs ?_; (first | (refine Cd.mk ?_ ?_; (focus ((repeat' (refine And.intro ?_ ?_)) <;> (first | omega | assumption | exact True.intro | exact rfl | exact allLen_lift (rowsB_all _) | exact rowsB_all _ | (simp only [rowsB_length, liftR, List.length_map, Int.toNat_natCast]; omega) | (simp (disch := omega) only [wrap_i64, rowsB_length, liftR, List.length_map, Int.toNat_natCast, List.length_take, List.length_drop, List.length_append, List.length_replicate]; omega) | exact Nat.le_refl _ | exact allLen_lift (by assumption) | exact allLen_lift (allLen_one rfl) | (simp; done) | (simp; omega)))); conv => whnf) | (refine Cd.mk ⟨Nat.le_of_ble_eq_true rfl, ?_⟩ ?_; (focus ((repeat (first | exact allN | refine allC (by first | exact sc_lift _ _ | exact sc_wes _ _ _ | exact sc_arr rfl | rfl) ?_)); done)); conv => whnf) | rw [rowsB_length] | rw [rowsB_td] | rw [liftB_app] | rw [Int.toNat_natCast] | rw [quoL] | rw [remL] | rw [wrap_i64 (n := ((_ : Nat) : Int)) (by omega) (by omega)] | rw [wrap_i64 (by omega) (by omega)] | (rw [List.length_map]; conv => whnf) | (rw [hget (by omega)]; conv => whnf) | fail)) | (refine PubRows.mk _ ?_ (toRows_map _) ?_; (focus (first | exact rfl | (simp only [List.length_map, rowsB_length, List.length_append]; done) | (simp only [List.length_map, rowsB_length, List.length_append]; omega) | (simp; done) | (simp; omega))); conv => whnf) | (refine PubRows.mk _ rfl rfl ?_; conv => whnf) | (refine Lit.data ?_; conv => whnf) | rw [rowsB_length] | rw [rowsB_td] | rw [liftB_app] | rw [Int.toNat_natCast] | rw [quoL] | rw [remL] | rw [wrap_i64 (n := ((_ : Nat) : Int)) (by omega) (by omega)] | rw [wrap_i64 (by omega) (by omega)] | (rw [List.length_map]; conv => whnf) | (rw [hget (by omega)]; conv => whnf) | fail)
  · have hkk : k.getD i false = k[i] := by rw [List.getD_eq_getElem?_getD, List.getElem?_eq_getElem (by omega)]; rfl
    refine ⟨i + 1, by omega, by omega, ?_, ⟨rfl, rfl, rfl, rfl, trivial⟩, (by repeat (first | exact trivial | refine ⟨rfl, ?_⟩))⟩
    rw [keptB_succ, List.map_append]; simp only [liftR, List.map_append]; exact (by repeat (first | exact trivial | refine ⟨.refl _, ?_⟩))
  · have hkk : k.getD i false = false := by rw [List.getD_eq_getElem?_getD, List.getElem?_eq_none (by omega)]; rfl
    refine ⟨i + 1, by omega, by omega, ?_, ⟨rfl, rfl, rfl, rfl, trivial⟩, (by repeat (first | exact trivial | refine ⟨rfl, ?_⟩))⟩
    rw [keptB_succ, List.map_append, hkk]; simp only [liftR, List.map_append]; exact (by repeat (first | exact trivial | refine ⟨.refl _, ?_⟩))
  · have hin : i = n := by omega
    subst hin
    refine ⟨1, Nat.zero_le _, ?_⟩
    conv => whnf
    refine ⟨⟨Nat.le_of_ble_eq_true rfl, by (repeat (first | exact allN | refine allC (by first | exact sc_lift _ _ | exact sc_wes _ _ _ | exact sc_arr rfl | rfl) ?_))⟩, ?_⟩
    conv => whnf
    exact ⟨rfl, rfl⟩
end Go.Aw
