/- Layer 2: a dictionary with one key set. -/
import Derived.Test.YtjibpedeandalaaAwGetB
import Derived.Test.YtjibpedeandalaaAwSet
set_option linter.unusedVariables false
set_option linter.unusedSimpArgs false
namespace Go.Aw
open Go.Proofs
set_option maxRecDepth 100000

theorem thereK_eq (d : List (ByteArray × Val)) (k : ByteArray) : thereK d k = (match d[posK d k]? with | some p => decide (p.1 = k) | none => false) := rfl
theorem restK_le {d : List (ByteArray × Val)} {k : ByteArray} : restK d k (thereK d k) ≤ d.length := by
  have h1 := posK_le d k
  unfold restK
  split
  · rename_i h
    rw [thereK] at h
    cases hx : d[posK d k]? with
    | none => rw [hx] at h; cases h
    | some p => have := (List.getElem?_eq_some_iff.1 hx).1; omega
  · exact h1
theorem setD_eq {d : List (ByteArray × Val)} {k : ByteArray} {x : Val} (hr : Rise d) : setD d k x = d.take (posK d k) ++ (k, x) :: d.drop (restK d k (thereK d k)) := by
  rw [setD, filter_lt hr, filter_gt hr]; rfl

theorem with_calls (v : Val) (k : ByteArray) (x : Val) (hv : bulkV v ≤ 1048576) (hx : bulkV x ≤ 1048576) (hw : bulkV (.mk 4 0 ⟨#[]⟩ [] (setD v.dict k x)) ≤ 16777216) :
    PureA Try.prog 16 [valC v, .d (.s k), valC x] (.tup [valC (setR v k x).1, .d (.i .i64 (setR v k x).2)]) := by
  have hs := bulkV_sizes v
  refine callsW_of 0 Try.call16 Try.func16 (c := _) rfl (by kernel_rfl) (Nat.le_of_ble_eq_true rfl) (Nat.le_refl 0) ?_
  ((conv => whnf); repeat (refine SeqW.go ?_; conv => whnf))
  refine callP (valid_calls v (by omega)) rfl rfl fun _ => ?_
  ((conv => whnf); repeat (refine SeqW.go ?_; conv => whnf))
  repeat (first | (refine Br.t ?_; conv => whnf) | (refine Cd.mk (by omega) ?_; conv => whnf) | (refine Br.f ?_; conv => whnf) | (refine SeqW.go ?_; conv => whnf))
  first | refine Br.dec (fun he => ?_) (fun he => ?_) | refine Br.beq (fun he => ?_) (fun he => ?_) | refine Br.bne (fun he => ?_) (fun he => ?_) | refine Br.nbeq (fun he => ?_) (fun he => ?_) | refine Br.not (fun he => ?_) (fun he => ?_) | refine Br.mk (fun he => ?_) (fun he => ?_)
  · ((conv => whnf); repeat (refine SeqW.go ?_; conv => whnf))
    exact ⟨by rw [setR, if_neg he]; rfl, rfl⟩
  ((conv => whnf); repeat (refine SeqW.go ?_; conv => whnf))
  first | refine Br.dec (fun h4 => ?_) (fun h4 => ?_) | refine Br.beq (fun h4 => ?_) (fun h4 => ?_) | refine Br.bne (fun h4 => ?_) (fun h4 => ?_) | refine Br.nbeq (fun h4 => ?_) (fun h4 => ?_) | refine Br.not (fun h4 => ?_) (fun h4 => ?_) | refine Br.mk (fun h4 => ?_) (fun h4 => ?_)
  · ((conv => whnf); repeat (refine SeqW.go ?_; conv => whnf))
    exact ⟨by rw [setR, if_pos he, if_neg h4]; rfl, rfl⟩
  ((conv => whnf); repeat (refine SeqW.go ?_; conv => whnf))
  refine callP (valid_calls x (by omega)) rfl rfl fun _ => ?_
  ((conv => whnf); repeat (refine SeqW.go ?_; conv => whnf))
  repeat (first | (refine Br.t ?_; conv => whnf) | (refine Cd.mk (by omega) ?_; conv => whnf) | (refine Br.f ?_; conv => whnf) | (refine SeqW.go ?_; conv => whnf))
  first | refine Br.dec (fun hx0 => ?_) (fun hx0 => ?_) | refine Br.beq (fun hx0 => ?_) (fun hx0 => ?_) | refine Br.bne (fun hx0 => ?_) (fun hx0 => ?_) | refine Br.nbeq (fun hx0 => ?_) (fun hx0 => ?_) | refine Br.not (fun hx0 => ?_) (fun hx0 => ?_) | refine Br.mk (fun hx0 => ?_) (fun hx0 => ?_)
  · ((conv => whnf); repeat (refine SeqW.go ?_; conv => whnf))
    exact ⟨by rw [setR, if_pos he, if_pos h4, if_neg hx0]; rfl, rfl⟩
  ((conv => whnf); repeat (refine SeqW.go ?_; conv => whnf))
  refine callP (check_calls' x 1 (by omega) (by omega) (by omega)) rfl rfl fun _ => ?_
  ((conv => whnf); repeat (refine SeqW.go ?_; conv => whnf))
  repeat (first | (refine Br.t ?_; conv => whnf) | (refine Cd.mk (by omega) ?_; conv => whnf) | (refine Br.f ?_; conv => whnf) | (refine SeqW.go ?_; conv => whnf))
  first | refine Br.dec (fun hx1 => ?_) (fun hx1 => ?_) | refine Br.beq (fun hx1 => ?_) (fun hx1 => ?_) | refine Br.bne (fun hx1 => ?_) (fun hx1 => ?_) | refine Br.nbeq (fun hx1 => ?_) (fun hx1 => ?_) | refine Br.not (fun hx1 => ?_) (fun hx1 => ?_) | refine Br.mk (fun hx1 => ?_) (fun hx1 => ?_)
  · ((conv => whnf); repeat (refine SeqW.go ?_; conv => whnf))
    exact ⟨by rw [setR, if_pos he, if_pos h4, if_pos hx0, if_neg hx1]; rfl, rfl⟩
  obtain ⟨_, _, _, _, hd, hr⟩ := fine_of he
  have hpl := posK_le v.dict k
  have hrl := restK_le (d := v.dict) (k := k)
  ((conv => whnf); repeat (refine SeqW.go ?_; conv => whnf))
  refine callP (seek_calls v.dict k hr (by omega)) rfl rfl fun _ => ?_
  conv => whnf
  refine cutK (γ := Unit) 3 (fun _ => True) (fun _ => [(13, .d (.i .i64 (restK v.dict k (thereK v.dict k))))]) (fun _ => []) ⟨rfl, rfl⟩ (fun _ _ => rfl) ?_ ?_
  · ((conv => whnf); repeat (refine SeqW.go ?_; conv => whnf))
    cases ht : thereK v.dict k with
    | false =>
      repeat (first | (refine Br.t ?_; conv => whnf) | (refine Cd.mk (by omega) ?_; conv => whnf) | (refine Br.f ?_; conv => whnf) | (refine SeqW.go ?_; conv => whnf))
      exact ⟨(), trivial, (by repeat (first | exact trivial | refine ⟨.refl _, ?_⟩)), ⟨by simp [look, restK], rfl, trivial⟩, (by repeat (first | exact trivial | refine ⟨rfl, ?_⟩))⟩
    | true =>
      repeat (first | (refine Br.t ?_; conv => whnf) | (refine Cd.mk (by omega) ?_; conv => whnf) | (refine Br.f ?_; conv => whnf) | (refine SeqW.go ?_; conv => whnf))
      exact ⟨(), trivial, (by repeat (first | exact trivial | refine ⟨.refl _, ?_⟩)), ⟨by simp [look, restK]; rw [wrap_i64 (by omega) (by omega)], rfl, trivial⟩, (by repeat (first | exact trivial | refine ⟨rfl, ?_⟩))⟩
  intro _ _
  ((conv => whnf); repeat (refine SeqW.go ?_; conv => whnf))
  refine drawW [] mixed (by kernel_rfl) (by kernel_rfl) ?_
  ((conv => whnf); repeat (refine SeqW.go ?_; conv => whnf))
  refine ⟨rowsP_all _, ?_⟩
  ((conv => whnf); repeat (refine SeqW.go ?_; conv => whnf))
  refine ⟨⟨by omega, by simp; omega⟩, ?_⟩
  ((conv => whnf); repeat (refine SeqW.go ?_; conv => whnf))
  rw [show ((posK v.dict k : Nat) : Int).toNat = posK v.dict k from rfl, List.drop_zero, rowsP_tk]
  refine ⟨⟨allLen_lift (rowsP_all _), by simp; omega, by simp; omega⟩, ?_⟩
  ((conv => whnf); repeat (refine SeqW.go ?_; conv => whnf))
  refine Lit.data ?_
  ((conv => whnf); repeat (refine SeqW.go ?_; conv => whnf))
  refine ⟨⟨by simp [AllLen], by simp, allLen_lift (rowsP_all _), by simp; omega, by simp; omega⟩, ?_⟩
  ((conv => whnf); repeat (refine SeqW.go ?_; conv => whnf))
  refine drawW [] mixed (by kernel_rfl) (by kernel_rfl) ?_
  ((conv => whnf); repeat (refine SeqW.go ?_; conv => whnf))
  refine ⟨rowsP_all _, ?_⟩
  ((conv => whnf); repeat (refine SeqW.go ?_; conv => whnf))
  refine ⟨⟨by omega, by simp; omega⟩, ?_⟩
  ((conv => whnf); repeat (refine SeqW.go ?_; conv => whnf))
  rw [show ((restK v.dict k (thereK v.dict k) : Nat) : Int).toNat = restK v.dict k (thereK v.dict k) from rfl, List.take_length, rowsP_dp]
  refine ⟨⟨allLen_lift (rowsP_all _), by simp, (allLen_lift (rowsP_all _)).append (by simp [AllLen]), by simp; omega, by simp; omega⟩, ?_⟩
  ((conv => whnf); repeat (refine SeqW.go ?_; conv => whnf))
  have hrows : toRows (liftR (rowsP (v.dict.take (posK v.dict k))) ++ liftR [[D.s k, D.i .i64 x.kind, D.i .i64 x.int, D.s x.str, D.sl (rowsV x.list), D.sl (rowsP x.dict)]] ++ liftR (rowsP (v.dict.drop (restK v.dict k (thereK v.dict k))))) = some (rowsP (setD v.dict k x)) := by
    rw [← liftR_append, ← liftR_append, toRows_map, setD_eq hr, rowsP_app, List.append_assoc, show ∀ B, rowsP ((k, x) :: B) = (.s k :: cellsV x) :: rowsP B from fun _ => rfl, cellsV_eq]; rfl
  have hwalk : walkV (.mk 4 0 ⟨#[]⟩ [] (setD v.dict k x)) 0 = 0 := by rw [walk_set he h4, hx1]
  refine callZ (lift_calls _ (.mk 4 0 ⟨#[]⟩ [] (setD v.dict k x)) (Nat.le_refl _) (by omega)) (.agg (.keep (.keep (.keep (.nils (.own (rowsP (setD v.dict k x)) rfl (by simp; omega) hrows .nil))))) .nil) rfl rfl fun _ => ?_
  ((conv => whnf); repeat (refine SeqW.go ?_; conv => whnf))
  refine callP (plain_calls _ (.mk 4 0 ⟨#[]⟩ [] (setD v.dict k x)) (Nat.le_refl _) (by omega)) rfl rfl fun _ => ?_
  rw [clean_fine _ _ 0 (Nat.le_refl _) hwalk]
  ((conv => whnf); repeat (refine SeqW.go ?_; conv => whnf))
  exact ⟨by rw [setR, if_pos he, if_pos h4, if_pos hx0, if_pos hx1], rfl⟩

theorem refWith_calls (v : Val) (k : ByteArray) (x : Val) (hv : bulkV v ≤ 1048576) (hx : bulkV x ≤ 1048576) (hw : bulkV (.mk 4 0 ⟨#[]⟩ [] (setD v.dict k x)) ≤ 16777216) :
    PureA Try.prog 17 [valC v, .d (.s k), valC x] (.tup [valC (setR v k x).1, .d (.i .i64 (setR v k x).2)]) := by
  have hs := bulkV_sizes v
  refine callsW_of 0 Try.call17 Try.func17 (c := _) rfl (by kernel_rfl) (Nat.le_of_ble_eq_true rfl) (Nat.le_refl 0) ?_
  ((conv => whnf); repeat (refine SeqW.go ?_; conv => whnf))
  refine callP (refValid_calls v (by omega)) rfl rfl fun _ => ?_
  ((conv => whnf); repeat (refine SeqW.go ?_; conv => whnf))
  repeat (first | (refine Br.t ?_; conv => whnf) | (refine Cd.mk (by omega) ?_; conv => whnf) | (refine Br.f ?_; conv => whnf) | (refine SeqW.go ?_; conv => whnf))
  first | refine Br.dec (fun he => ?_) (fun he => ?_) | refine Br.beq (fun he => ?_) (fun he => ?_) | refine Br.bne (fun he => ?_) (fun he => ?_) | refine Br.nbeq (fun he => ?_) (fun he => ?_) | refine Br.not (fun he => ?_) (fun he => ?_) | refine Br.mk (fun he => ?_) (fun he => ?_)
  · ((conv => whnf); repeat (refine SeqW.go ?_; conv => whnf))
    exact ⟨by rw [setR, if_neg he]; rfl, rfl⟩
  ((conv => whnf); repeat (refine SeqW.go ?_; conv => whnf))
  first | refine Br.dec (fun h4 => ?_) (fun h4 => ?_) | refine Br.beq (fun h4 => ?_) (fun h4 => ?_) | refine Br.bne (fun h4 => ?_) (fun h4 => ?_) | refine Br.nbeq (fun h4 => ?_) (fun h4 => ?_) | refine Br.not (fun h4 => ?_) (fun h4 => ?_) | refine Br.mk (fun h4 => ?_) (fun h4 => ?_)
  · ((conv => whnf); repeat (refine SeqW.go ?_; conv => whnf))
    exact ⟨by rw [setR, if_pos he, if_neg h4]; rfl, rfl⟩
  ((conv => whnf); repeat (refine SeqW.go ?_; conv => whnf))
  refine callP (refValid_calls x (by omega)) rfl rfl fun _ => ?_
  ((conv => whnf); repeat (refine SeqW.go ?_; conv => whnf))
  repeat (first | (refine Br.t ?_; conv => whnf) | (refine Cd.mk (by omega) ?_; conv => whnf) | (refine Br.f ?_; conv => whnf) | (refine SeqW.go ?_; conv => whnf))
  first | refine Br.dec (fun hx0 => ?_) (fun hx0 => ?_) | refine Br.beq (fun hx0 => ?_) (fun hx0 => ?_) | refine Br.bne (fun hx0 => ?_) (fun hx0 => ?_) | refine Br.nbeq (fun hx0 => ?_) (fun hx0 => ?_) | refine Br.not (fun hx0 => ?_) (fun hx0 => ?_) | refine Br.mk (fun hx0 => ?_) (fun hx0 => ?_)
  · ((conv => whnf); repeat (refine SeqW.go ?_; conv => whnf))
    exact ⟨by rw [setR, if_pos he, if_pos h4, if_neg hx0]; rfl, rfl⟩
  obtain ⟨_, _, _, _, hd, hr⟩ := fine_of he
  ((conv => whnf); repeat (refine SeqW.go ?_; conv => whnf))
  refine loopN (.slot 9 6 rfl .done) ?_
  refine loopK (by kernel_rfl) (γ := Nat) 4 (fun i => i ≤ v.dict.length) (fun i => [(9, .own 3 6 ((v.dict.take i).filter (fun p => keyLt p.1 k)).length), (10, .d (.i .i64 i))])
    (fun i => [(3, .buf (liftR (rowsP ((v.dict.take i).filter (fun p => keyLt p.1 k)))))]) (fun i => v.dict.length - i)
    ⟨rfl, rfl⟩ (fun _ _ => by simp [ovl, sc_lift, sc_fro, sc_app, sc_cons]; try (repeat (first | rfl | apply And.intro))) 0 (Nat.zero_le _) (by repeat (first | exact trivial | refine ⟨.refl _, ?_⟩)) ⟨rfl, rfl, rfl, rfl, trivial⟩ ?_
  intro i hi
  have hfl : ((v.dict.take i).filter (fun p => keyLt p.1 k)).length ≤ v.dict.length := Nat.le_trans (List.length_filter_le _ _) (by simp; omega)
  ((conv => whnf); repeat (refine SeqW.go ?_; conv => whnf))
  first | refine Br.dec (fun hlt => ?_) (fun hlt => ?_) | refine Br.beq (fun hlt => ?_) (fun hlt => ?_) | refine Br.bne (fun hlt => ?_) (fun hlt => ?_) | refine Br.nbeq (fun hlt => ?_) (fun hlt => ?_) | refine Br.not (fun hlt => ?_) (fun hlt => ?_) | refine Br.mk (fun hlt => ?_) (fun hlt => ?_)
  · have hlt : i < v.dict.length := by simpa using hlt
    have hsn := filter_snoc (q := fun p => keyLt p.1 k) hlt
    ((conv => whnf); repeat (refine SeqW.go ?_; conv => whnf))
    refine ⟨⟨rowsP_all _, by omega, by simpa using hlt⟩, ?_⟩
    rw [show (i : Int).toNat = i from rfl, rowsP_get hlt]
    ((conv => whnf); repeat (refine SeqW.go ?_; conv => whnf))
    first | refine Br.dec (fun hk => ?_) (fun hk => ?_) | refine Br.beq (fun hk => ?_) (fun hk => ?_) | refine Br.bne (fun hk => ?_) (fun hk => ?_) | refine Br.nbeq (fun hk => ?_) (fun hk => ?_) | refine Br.not (fun hk => ?_) (fun hk => ?_) | refine Br.mk (fun hk => ?_) (fun hk => ?_)
    · rw [if_pos hk] at hsn
      ((conv => whnf); repeat (refine SeqW.go ?_; conv => whnf))
      refine ⟨⟨rowsP_all _, by omega, by simpa using hlt⟩, ?_⟩
      rw [show (i : Int).toNat = i from rfl, rowsP_get hlt]
      ((conv => whnf); repeat (refine SeqW.go ?_; conv => whnf))
      refine ⟨by simp, ?_⟩
      rw [show List.map PV.d (List.take 6 (D.s v.dict[i].1 :: cellsV v.dict[i].2)) = (.d (.s v.dict[i].1)) :: (cellsV v.dict[i].2).map .d by simp [cellsV_eq]]
      rw [cellsV_eq]
      ((conv => whnf); repeat (refine SeqW.go ?_; conv => whnf))
      refine Lit.data ?_
      ((conv => whnf); repeat (refine SeqW.go ?_; conv => whnf))
      refine ⟨⟨by simp [AllLen], by simp, allLen_lift (rowsP_all _), by simp; omega, by simp; omega⟩, ?_⟩
      ((conv => whnf); repeat (refine SeqW.go ?_; conv => whnf))
      refine ⟨i + 1, hlt, by omega, ?_, ⟨?_, rfl, wrap_next (by omega), rfl, trivial⟩, (by repeat (first | exact trivial | refine ⟨rfl, ?_⟩))⟩
      · simp only [hsn, rowsP_app, liftR_append]
        rw [show rowsP [v.dict[i]] = [.s v.dict[i].1 :: cellsV v.dict[i].2] from rfl, cellsV_eq]
        exact (by repeat (first | exact trivial | refine ⟨.refl _, ?_⟩))
      · simp only [hsn, List.length_append]; rfl
    · rw [if_neg (by simpa using hk)] at hsn
      ((conv => whnf); repeat (refine SeqW.go ?_; conv => whnf))
      refine ⟨i + 1, hlt, by omega, ?_, ⟨?_, rfl, wrap_next (by omega), rfl, trivial⟩, (by repeat (first | exact trivial | refine ⟨rfl, ?_⟩))⟩
      · simp only [hsn]; exact (by repeat (first | exact trivial | refine ⟨.refl _, ?_⟩))
      · simp only [hsn]; rfl
  have hge : i = v.dict.length := by simp at hlt; omega
  subst hge
  rw [List.take_length] at hfl ⊢
  clear hlt hi
  ((conv => whnf); repeat (refine SeqW.go ?_; conv => whnf))
  refine Lit.data ?_
  ((conv => whnf); repeat (refine SeqW.go ?_; conv => whnf))
  refine ⟨⟨by simp [AllLen], by simp, allLen_lift (rowsP_all _), by simp; omega, by simp; omega⟩, ?_⟩
  ((conv => whnf); repeat (refine SeqW.go ?_; conv => whnf))
  refine loopK (by kernel_rfl) (γ := Nat) 4 (fun i => i ≤ v.dict.length) (fun i => [(9, .own 3 6 ((v.dict.filter (fun p => keyLt p.1 k)).length + 1 + ((v.dict.take i).filter (fun p => keyLt k p.1)).length)), (11, .d (.i .i64 i))])
    (fun i => [(3, .buf (liftR (rowsP (v.dict.filter (fun p => keyLt p.1 k))) ++ (liftR [[D.s k, D.i .i64 x.kind, D.i .i64 x.int, D.s x.str, D.sl (rowsV x.list), D.sl (rowsP x.dict)]] ++ liftR (rowsP ((v.dict.take i).filter (fun p => keyLt k p.1))))))]) (fun i => v.dict.length - i)
    ⟨rfl, rfl⟩ (fun _ _ => by simp [ovl, sc_lift, sc_fro, sc_app, sc_cons]; try (repeat (first | rfl | apply And.intro))) 0 (Nat.zero_le _) (by repeat (first | exact trivial | refine ⟨.refl _, ?_⟩)) ⟨rfl, rfl, rfl, rfl, trivial⟩ ?_
  intro i hi
  have hfg : ((v.dict.take i).filter (fun p => keyLt k p.1)).length ≤ v.dict.length := Nat.le_trans (List.length_filter_le _ _) (by simp; omega)
  ((conv => whnf); repeat (refine SeqW.go ?_; conv => whnf))
  first | refine Br.dec (fun hlt => ?_) (fun hlt => ?_) | refine Br.beq (fun hlt => ?_) (fun hlt => ?_) | refine Br.bne (fun hlt => ?_) (fun hlt => ?_) | refine Br.nbeq (fun hlt => ?_) (fun hlt => ?_) | refine Br.not (fun hlt => ?_) (fun hlt => ?_) | refine Br.mk (fun hlt => ?_) (fun hlt => ?_)
  · have hlt : i < v.dict.length := by simpa using hlt
    have hsn := filter_snoc (q := fun p => keyLt k p.1) hlt
    ((conv => whnf); repeat (refine SeqW.go ?_; conv => whnf))
    refine ⟨⟨rowsP_all _, by omega, by simpa using hlt⟩, ?_⟩
    rw [show (i : Int).toNat = i from rfl, rowsP_get hlt]
    ((conv => whnf); repeat (refine SeqW.go ?_; conv => whnf))
    rw [bytesGt]
    first | refine Br.dec (fun hk => ?_) (fun hk => ?_) | refine Br.beq (fun hk => ?_) (fun hk => ?_) | refine Br.bne (fun hk => ?_) (fun hk => ?_) | refine Br.nbeq (fun hk => ?_) (fun hk => ?_) | refine Br.not (fun hk => ?_) (fun hk => ?_) | refine Br.mk (fun hk => ?_) (fun hk => ?_)
    · rw [if_pos hk] at hsn
      ((conv => whnf); repeat (refine SeqW.go ?_; conv => whnf))
      refine ⟨⟨rowsP_all _, by omega, by simpa using hlt⟩, ?_⟩
      rw [show (i : Int).toNat = i from rfl, rowsP_get hlt]
      ((conv => whnf); repeat (refine SeqW.go ?_; conv => whnf))
      refine ⟨by simp, ?_⟩
      rw [show List.map PV.d (List.take 6 (D.s v.dict[i].1 :: cellsV v.dict[i].2)) = (.d (.s v.dict[i].1)) :: (cellsV v.dict[i].2).map .d by simp [cellsV_eq]]
      rw [cellsV_eq]
      ((conv => whnf); repeat (refine SeqW.go ?_; conv => whnf))
      refine Lit.data ?_
      ((conv => whnf); repeat (refine SeqW.go ?_; conv => whnf))
      refine ⟨⟨by simp [AllLen], by simp; omega, (allLen_lift (rowsP_all _)).append (AllLen.append (by simp [AllLen]) (allLen_lift (rowsP_all _))), by simp; omega, by simp; omega⟩, ?_⟩
      ((conv => whnf); repeat (refine SeqW.go ?_; conv => whnf))
      refine ⟨i + 1, hlt, by omega, ?_, ⟨?_, rfl, wrap_next (by omega), rfl, trivial⟩, (by repeat (first | exact trivial | refine ⟨rfl, ?_⟩))⟩
      · simp only [hsn, rowsP_app, liftR_append, List.append_assoc]
        rw [show rowsP [v.dict[i]] = [.s v.dict[i].1 :: cellsV v.dict[i].2] from rfl, cellsV_eq]
        exact (by repeat (first | exact trivial | refine ⟨.refl _, ?_⟩))
      · simp only [hsn, List.length_append]; rfl
    · rw [if_neg (by simpa using hk)] at hsn
      ((conv => whnf); repeat (refine SeqW.go ?_; conv => whnf))
      refine ⟨i + 1, hlt, by omega, ?_, ⟨?_, rfl, wrap_next (by omega), rfl, trivial⟩, (by repeat (first | exact trivial | refine ⟨rfl, ?_⟩))⟩
      · simp only [hsn]; exact (by repeat (first | exact trivial | refine ⟨.refl _, ?_⟩))
      · simp only [hsn]; rfl
  have hge : i = v.dict.length := by simp at hlt; omega
  subst hge
  rw [List.take_length] at hfg ⊢
  clear hlt hi
  ((conv => whnf); repeat (refine SeqW.go ?_; conv => whnf))
  have hrows : toRows (liftR (rowsP (v.dict.filter (fun p => keyLt p.1 k))) ++ (liftR [[D.s k, D.i .i64 x.kind, D.i .i64 x.int, D.s x.str, D.sl (rowsV x.list), D.sl (rowsP x.dict)]] ++ liftR (rowsP (v.dict.filter (fun p => keyLt k p.1))))) = some (rowsP (setD v.dict k x)) := by
    rw [← liftR_append, ← liftR_append, toRows_map, setD, rowsP_app, show ∀ B, rowsP ((k, x) :: B) = (.s k :: cellsV x) :: rowsP B from fun _ => rfl, cellsV_eq]; rfl
  have hwalk := walk_set (x := x) (k := k) he h4
  refine callZ (refValid_calls (.mk 4 0 ⟨#[]⟩ [] (setD v.dict k x)) (by omega)) (.agg (.keep (.keep (.keep (.nils (.own (rowsP (setD v.dict k x)) rfl (by simp; omega) hrows .nil))))) .nil) rfl rfl fun _ => ?_
  rw [hwalk]
  ((conv => whnf); repeat (refine SeqW.go ?_; conv => whnf))
  first | refine Br.dec (fun hx1 => ?_) (fun hx1 => ?_) | refine Br.beq (fun hx1 => ?_) (fun hx1 => ?_) | refine Br.bne (fun hx1 => ?_) (fun hx1 => ?_) | refine Br.nbeq (fun hx1 => ?_) (fun hx1 => ?_) | refine Br.not (fun hx1 => ?_) (fun hx1 => ?_) | refine Br.mk (fun hx1 => ?_) (fun hx1 => ?_)
  · ((conv => whnf); repeat (refine SeqW.go ?_; conv => whnf))
    exact ⟨by rw [setR, if_pos he, if_pos h4, if_pos hx0, if_neg hx1]; rfl, rfl⟩
  ((conv => whnf); repeat (refine SeqW.go ?_; conv => whnf))
  refine ⟨by simp [setD]; omega, ?_⟩
  ((conv => whnf); repeat (refine SeqW.go ?_; conv => whnf))
  exact ⟨by rw [setR, if_pos he, if_pos h4, if_pos hx0, if_pos hx1]; rfl, rfl⟩

theorem setD_bulk (d : List (ByteArray × Val)) (k : ByteArray) (x : Val) : bulkR (rowsP (setD d k x)) ≤ 2 * bulkR (rowsP d) + k.size + 1 + bulkV x := by
  have h1 := bulk_filter (fun p => keyLt p.1 k) d
  have h2 := bulk_filter (fun p => keyLt k p.1) d
  rw [setD, rowsP_app, bulkR_app, show ∀ B, rowsP ((k, x) :: B) = (.s k :: cellsV x) :: rowsP B from fun _ => rfl]
  simp only [bulkR, bulkL, bulkD]
  unfold bulkV
  omega
theorem law_sets (v x : Val) (k : ByteArray) (hv : bulkV v ≤ 1048576) (hk : k.size ≤ 1048576) (hx : bulkV x ≤ 1048576) : CallsA Try.prog 6 [valC v, .d (.s k), valC x] [] YesR := by
  have hw : bulkV (.mk 4 0 ⟨#[]⟩ [] (setD v.dict k x)) ≤ 16777216 := by
    have h1 := setD_bulk v.dict k x
    have h2 := bulkV_eq v
    have h3 : bulkV (.mk 4 0 ⟨#[]⟩ [] (setD v.dict k x)) = 1 + (1 + ((0 + 1) + ((0 + 1) + ((bulkR (rowsP (setD v.dict k x)) + 1) + 0)))) := bulkV_eq _
    omega
  have hr : bulkV (setR v k x).1 ≤ 16777216 := by
    have h0 : bulkV zeroV ≤ 16777216 := by rw [bulkV_eq]; simp [zeroV, Val.str, Val.list, Val.dict, rowsV, rowsP, bulkR, ByteArray.size]
    unfold setR
    repeat' split
    all_goals first | exact h0 | exact hw
  refine callsW_of 0 Try.call6 Try.func6 (c := _) rfl (by kernel_rfl) (Nat.le_of_ble_eq_true rfl) (Nat.le_refl 0) ?_
  ((conv => whnf); repeat (refine SeqW.go ?_; conv => whnf))
  refine callSome (farValue_calls' v (by omega)) rfl fun y => ?_
  ((conv => whnf); repeat (refine SeqW.go ?_; conv => whnf))
  refine Br.mk (fun h => ?_) (fun h => ?_)
  · ((conv => whnf); repeat (refine SeqW.go ?_; conv => whnf))
    repeat (first | (refine Br.t ?_; conv => whnf) | (refine Cd.mk (by omega) ?_; conv => whnf) | (refine Br.f ?_; conv => whnf) | (refine SeqW.go ?_; conv => whnf))
    exact ⟨rfl, rfl⟩
  ((conv => whnf); repeat (refine SeqW.go ?_; conv => whnf))
  repeat (first | (refine Br.t ?_; conv => whnf) | (refine Cd.mk (by omega) ?_; conv => whnf) | (refine Br.f ?_; conv => whnf) | (refine SeqW.go ?_; conv => whnf))
  refine callSome (farValue_calls' x (by omega)) rfl fun y => ?_
  ((conv => whnf); repeat (refine SeqW.go ?_; conv => whnf))
  repeat (first | (refine Br.t ?_; conv => whnf) | (refine Cd.mk (by omega) ?_; conv => whnf) | (refine Br.f ?_; conv => whnf) | (refine SeqW.go ?_; conv => whnf))
  refine Br.mk (fun h => ?_) (fun h => ?_)
  · ((conv => whnf); repeat (refine SeqW.go ?_; conv => whnf))
    repeat (first | (refine Br.t ?_; conv => whnf) | (refine Cd.mk (by omega) ?_; conv => whnf) | (refine Br.f ?_; conv => whnf) | (refine SeqW.go ?_; conv => whnf))
    exact ⟨rfl, rfl⟩
  ((conv => whnf); repeat (refine SeqW.go ?_; conv => whnf))
  repeat (first | (refine Br.t ?_; conv => whnf) | (refine Cd.mk (by omega) ?_; conv => whnf) | (refine Br.f ?_; conv => whnf) | (refine SeqW.go ?_; conv => whnf))
  refine callP (copy_calls' v (by omega)) rfl rfl fun _ => ?_
  ((conv => whnf); repeat (refine SeqW.go ?_; conv => whnf))
  repeat (first | (refine Br.t ?_; conv => whnf) | (refine Cd.mk (by omega) ?_; conv => whnf) | (refine Br.f ?_; conv => whnf) | (refine SeqW.go ?_; conv => whnf))
  refine callP (copy_calls' x (by omega)) rfl rfl fun _ => ?_
  ((conv => whnf); repeat (refine SeqW.go ?_; conv => whnf))
  repeat (first | (refine Br.t ?_; conv => whnf) | (refine Cd.mk (by omega) ?_; conv => whnf) | (refine Br.f ?_; conv => whnf) | (refine SeqW.go ?_; conv => whnf))
  refine callP (with_calls v k x hv hx hw) rfl rfl fun _ => ?_
  ((conv => whnf); repeat (refine SeqW.go ?_; conv => whnf))
  repeat (first | (refine Br.t ?_; conv => whnf) | (refine Cd.mk (by omega) ?_; conv => whnf) | (refine Br.f ?_; conv => whnf) | (refine SeqW.go ?_; conv => whnf))
  refine callP (refWith_calls v k x hv hx hw) rfl rfl fun _ => ?_
  ((conv => whnf); repeat (refine SeqW.go ?_; conv => whnf))
  repeat (first | (refine Br.t ?_; conv => whnf) | (refine Cd.mk (by omega) ?_; conv => whnf) | (refine Br.f ?_; conv => whnf) | (refine SeqW.go ?_; conv => whnf))
  refine Br.mk (fun _ => ?_) (fun h => absurd h (by simp))
  ((conv => whnf); repeat (refine SeqW.go ?_; conv => whnf))
  repeat (first | (refine Br.t ?_; conv => whnf) | (refine Cd.mk (by omega) ?_; conv => whnf) | (refine Br.f ?_; conv => whnf) | (refine SeqW.go ?_; conv => whnf))
  refine callP (same_calls' (setR v k x).1 (setR v k x).1 hr hr) rfl rfl fun _ => ?_
  ((conv => whnf); repeat (refine SeqW.go ?_; conv => whnf))
  repeat (first | (refine Br.t ?_; conv => whnf) | (refine Cd.mk (by omega) ?_; conv => whnf) | (refine Br.f ?_; conv => whnf) | (refine SeqW.go ?_; conv => whnf))
  refine Br.mk (fun _ => ?_) (fun h => absurd h (by simp [eqV]))
  ((conv => whnf); repeat (refine SeqW.go ?_; conv => whnf))
  repeat (first | (refine Br.t ?_; conv => whnf) | (refine Cd.mk (by omega) ?_; conv => whnf) | (refine Br.f ?_; conv => whnf) | (refine SeqW.go ?_; conv => whnf))
  refine callP (same_calls' v v (by omega) (by omega)) rfl rfl fun _ => ?_
  ((conv => whnf); repeat (refine SeqW.go ?_; conv => whnf))
  repeat (first | (refine Br.t ?_; conv => whnf) | (refine Cd.mk (by omega) ?_; conv => whnf) | (refine Br.f ?_; conv => whnf) | (refine SeqW.go ?_; conv => whnf))
  refine Br.mk (fun _ => ?_) (fun h => absurd h (by simp [eqV]))
  ((conv => whnf); repeat (refine SeqW.go ?_; conv => whnf))
  repeat (first | (refine Br.t ?_; conv => whnf) | (refine Cd.mk (by omega) ?_; conv => whnf) | (refine Br.f ?_; conv => whnf) | (refine SeqW.go ?_; conv => whnf))
  refine callP (same_calls' x x (by omega) (by omega)) rfl rfl fun _ => ?_
  ((conv => whnf); repeat (refine SeqW.go ?_; conv => whnf))
  repeat (first | (refine Br.t ?_; conv => whnf) | (refine Cd.mk (by omega) ?_; conv => whnf) | (refine Br.f ?_; conv => whnf) | (refine SeqW.go ?_; conv => whnf))
  exact ⟨by simp [eqV], rfl⟩
end Go.Aw
