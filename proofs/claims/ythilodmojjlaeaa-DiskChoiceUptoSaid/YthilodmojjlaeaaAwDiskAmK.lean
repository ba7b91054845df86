/- Layer 12: among: what a sector may read behind a crash. -/
import Derived.Test.YthilodmojjlaeaaAwDiskCkK
set_option linter.unusedVariables false
set_option linter.unusedSimpArgs false
namespace Go.Aw
open Go.Proofs
set_option maxRecDepth 100000
set_option maxHeartbeats 1000000

def mixB (t : List UInt8) (cut : Nat) (u : List UInt8) : List UInt8 := t.take cut ++ u.drop cut
def mayL (old : List UInt8) (ws : List (Int × List UInt8)) (at_ tornAt : Int) : List (List UInt8) := old :: (ws.zipIdx).filterMap fun x => if x.1.1 = at_ ∧ (x.2 : Int) ≠ tornAt then some (fullB x.1.2) else none
theorem mayL_succ (old : List UInt8) (ws : List (Int × List UInt8)) (at_ tornAt : Int) (i : Nat) (h : i < ws.length) : mayL old (ws.take (i + 1)) at_ tornAt = mayL old (ws.take i) at_ tornAt ++ (if ws[i].1 = at_ ∧ (i : Int) ≠ tornAt then [fullB ws[i].2] else []) := by
  rw [List.take_succ_eq_append_getElem h]
  simp only [mayL, List.zipIdx_append, List.filterMap_append, List.length_take, Nat.zero_add, List.cons_append]
  rw [Nat.min_eq_left (by omega)]
  congr 2
  simp only [List.zipIdx_cons, List.zipIdx_nil, List.filterMap_cons, List.filterMap_nil]
  split <;> simp_all
theorem mayL_len (old : List UInt8) (ws : List (Int × List UInt8)) (at_ tornAt : Int) : (mayL old ws at_ tornAt).length ≤ ws.length + 1 := by
  have := List.length_filterMap_le (fun x : (Int × List UInt8) × Nat => if x.1.1 = at_ ∧ (x.2 : Int) ≠ tornAt then some (fullB x.1.2) else none) ws.zipIdx
  simp [mayL] at this ⊢; omega
theorem mayL_64 (old : List UInt8) (ho : old.length = 64) (ws : List (Int × List UInt8)) (at_ tornAt : Int) : ∀ u ∈ mayL old ws at_ tornAt, u.length = 64 := by
  intro u hu
  rcases List.mem_cons.1 hu with rfl | hu
  · exact ho
  · obtain ⟨x, _, h2⟩ := List.mem_filterMap.1 hu
    split at h2
    · cases h2; exact fullB_len _
    · cases h2
abbrev bsRow (u : List UInt8) : List D := [.sl (rowsB u)]
theorem bsAll (l : List (List UInt8)) : AllLen 1 (l.map bsRow) := by
  intro r hr
  obtain ⟨x, _, rfl⟩ := List.mem_map.1 hr
  rfl
theorem bs_get (l : List (List UInt8)) (i : Nat) (h : i < l.length) : (liftR (l.map bsRow)).getD i [] = [.d (.sl (rowsB l[i]))] := by
  rw [List.getD_eq_getElem?_getD, List.getElem?_eq_getElem (by simp [liftR]; exact h)]; simp [liftR]
theorem take_eq_succ {a b : List UInt8} {k : Nat} (ha : k < a.length) (hb : k < b.length) : a.take (k + 1) = b.take (k + 1) ↔ a.take k = b.take k ∧ a[k] = b[k] := by
  rw [List.take_succ_eq_append_getElem ha, List.take_succ_eq_append_getElem hb]
  constructor
  · intro h
    have := List.append_inj' h rfl
    exact ⟨this.1, by simpa using this.2⟩
  · rintro ⟨h1, h2⟩; rw [h1, h2]
theorem mixB_get {t u : List UInt8} {cut k : Nat} (ht : t.length = 64) (hu : u.length = 64) (hc : cut ≤ 64) (hk : k < 64) (h : k < (mixB t cut u).length) : (mixB t cut u)[k] = if k < cut then t[k] else u[k] := by
  simp only [mixB]
  split
  · rw [List.getElem_append_left (by simp; omega)]; simp
  · rw [List.getElem_append_right (by simp; omega)]; simp; congr 1; omega
theorem mixB_len {t u : List UInt8} {cut : Nat} (ht : t.length = 64) (hu : u.length = 64) (hc : cut ≤ 64) : (mixB t cut u).length = 64 := by simp [mixB]; omega

/-- What makes a sector's bytes good. -/
def goodU (b : List UInt8) (ws : List (Int × List UInt8)) (tornAt : Int) (cut : Nat) (u : List UInt8) : Prop := b = u ∨ 0 ≤ tornAt ∧ ∃ h : tornAt.toNat < ws.length, b = mixB (fullB ws[tornAt.toNat].2) cut u

theorem among_calls (b old : List UInt8) (hbl : b.length = 64) (ho : old.length = 64) (ws : List (Int × List UInt8)) (hn : ws.length ≤ 1048576) (hb : ∀ x ∈ ws, x.2.length ≤ 1048576) (at_ tornAt cut : Int)
    (ht : -1 ≤ tornAt ∧ tornAt < ws.length) (hc : 0 ≤ tornAt → 0 ≤ cut ∧ cut ≤ 64) (hg : ∃ u ∈ mayL old ws at_ tornAt, goodU b ws tornAt cut.toNat u) :
    PureA Try.prog 33 [bytesP b, bytesP old, wsP ws, .d (.i .i64 at_), .d (.i .i64 tornAt), .d (.i .i64 cut)] (.d (.b true)) := by
  refine callsW_of 0 Try.call33 Try.func33 (c := _) rfl (by kernel_rfl) (Nat.le_of_ble_eq_true rfl) (Nat.le_refl 0) ?_
  have hall := wsAll ws
  have hget := ws_get ws
  have hwl : (ws.map wsRow).length = ws.length := by simp
  ((conv => whnf); repeat (refine SeqW.go ?_; conv => whnf))
  repeat' (first | (refine brIs ?_; (first | (refine Br.t ?_; conv => whnf) | (refine Br.f ?_; conv => whnf) | (refine Br.ne_self ?_; conv => whnf) | (refine Br.eq_self ?_; conv => whnf) | rw [rowsB_length] | rw [rowsB_td] | rw [liftB_app] | rw [Int.toNat_natCast] | rw [quoL] | rw [remL] | rw [wrap_i64 (n := ((_ : Nat) : Int)) (by omega) (by omega)] | rw [wrap_i64 (by omega) (by omega)] | (refine Br.dec (fun h => absurd h (by omega)) (fun h => ?_); conv => whnf) | (refine Br.dec (fun h => ?_) (fun h => absurd h (by omega)); conv => whnf) | (refine Br.beq (fun h => absurd h (by omega)) (fun h => ?_); conv => whnf) | (refine Br.beq (fun h => ?_) (fun h => absurd h (by omega)); conv => whnf) | (refine Br.bne (fun h => absurd h (by omega)) (fun h => ?_); conv => whnf) | (refine Br.bne (fun h => ?_) (fun h => absurd h (by omega)); conv => whnf) | (refine Br.nbeq (fun h => absurd h (by omega)) (fun h => ?_); conv => whnf) | (refine Br.nbeq (fun h => ?_) (fun h => absurd h (by omega)); conv => whnf) | (refine Br.dec (fun h => ?_) (fun h => ?_) <;> (conv => whnf)) | (refine Br.beq (fun h => ?_) (fun h => ?_) <;> (conv => whnf)) | (refine Br.bne (fun h => ?_) (fun h => ?_) <;> (conv => whnf)) | (refine Br.nbeq (fun h => ?_) (fun h => ?_) <;> (conv => whnf)) | (refine Br.not (fun h => ?_) (fun h => ?_) <;> (conv => whnf)) | (refine Br.mk (fun h => ?_) (fun h => ?_) <;> (conv => whnf)) | fail)) | (refine SeqW.go ?_; conv => whnf) | (refine cdIs ?_; (first | (refine Cd.mk ?_ ?_; (focus ((repeat' (refine And.intro ?_ ?_)) <;> (first | omega | assumption | exact True.intro | exact rfl | exact allLen_lift (rowsB_all _) | exact rowsB_all _ | (simp only [rowsB_length, liftR, List.length_map, Int.toNat_natCast]; omega) | (simp (disch := omega) only [wrap_i64, rowsB_length, liftR, List.length_map, Int.toNat_natCast, List.length_take, List.length_drop, List.length_append, List.length_replicate]; omega) | exact Nat.le_refl _ | exact allLen_lift (by assumption) | exact allLen_lift (allLen_one rfl) | (simp; done) | (simp; omega)))); conv => whnf) | (refine Cd.mk ⟨Nat.le_of_ble_eq_true rfl, ?_⟩ ?_; (focus ((repeat (first | exact allN | refine allC (by first | exact sc_lift _ _ | exact sc_wes _ _ _ | exact sc_arr rfl | rfl) ?_)); done)); conv => whnf) | rw [rowsB_length] | rw [rowsB_td] | rw [liftB_app] | rw [Int.toNat_natCast] | rw [quoL] | rw [remL] | rw [wrap_i64 (n := ((_ : Nat) : Int)) (by omega) (by omega)] | rw [wrap_i64 (by omega) (by omega)] | fail)) | (refine PubRows.mk _ ?_ (toRows_map _) ?_; (focus (first | exact rfl | (simp only [List.length_map, rowsB_length, List.length_append]; done) | (simp only [List.length_map, rowsB_length, List.length_append]; omega) | (simp; done) | (simp; omega))); conv => whnf) | (refine PubRows.mk _ rfl rfl ?_; conv => whnf) | (refine Lit.data ?_; conv => whnf) | rw [rowsB_length] | rw [rowsB_td] | rw [liftB_app] | rw [Int.toNat_natCast] | rw [quoL] | rw [remL] | rw [wrap_i64 (n := ((_ : Nat) : Int)) (by omega) (by omega)] | rw [wrap_i64 (by omega) (by omega)] | fail)
  refine loopK (by kernel_rfl) (γ := Nat) 1 (fun i => i ≤ ws.length) (fun i => [(13, .own 0 1 (mayL old (ws.take i) at_ tornAt).length), (14, .d (.i .i64 i))]) (fun i => [(0, .buf (liftR ((mayL old (ws.take i) at_ tornAt).map bsRow)))]) (fun i => ws.length - i)
    ⟨rfl, rfl⟩ (fun _ _ => by (repeat (first | exact allN | refine allC (by first | exact sc_lift _ _ | exact sc_wes _ _ _ | exact sc_arr rfl | rfl) ?_))) 0 (Nat.zero_le _) (by repeat (first | exact trivial | refine ⟨.refl _, ?_⟩)) ⟨rfl, rfl, rfl, rfl, trivial⟩ ?_
  intro i hi
  have hall2 := bsAll (mayL old (ws.take i) at_ tornAt)
  have hml := mayL_len old (ws.take i) at_ tornAt
  have htl := List.length_take_le i ws
  have hml2 : ((mayL old (ws.take i) at_ tornAt).map bsRow).length = (mayL old (ws.take i) at_ tornAt).length := by simp
  have hfu := fun (h : i < ws.length) => full_calls ws[i].2 (by have := hb ws[i] (List.getElem_mem _); omega)
  ((conv => whnf); repeat (refine SeqW.go ?_; conv => whnf))
  repeat' (first | (refine brIs ?_; (first | (refine Br.t ?_; conv => whnf) | (refine Br.f ?_; conv => whnf) | (refine Br.ne_self ?_; conv => whnf) | (refine Br.eq_self ?_; conv => whnf) | rw [rowsB_length] | rw [rowsB_td] | rw [liftB_app] | rw [Int.toNat_natCast] | rw [quoL] | rw [remL] | rw [wrap_i64 (n := ((_ : Nat) : Int)) (by omega) (by omega)] | rw [wrap_i64 (by omega) (by omega)] | (rw [hget i (by omega)]; conv => whnf) | (refine Br.dec (fun h => absurd h (by omega)) (fun h => ?_); conv => whnf) | (refine Br.dec (fun h => ?_) (fun h => absurd h (by omega)); conv => whnf) | (refine Br.beq (fun h => absurd h (by omega)) (fun h => ?_); conv => whnf) | (refine Br.beq (fun h => ?_) (fun h => absurd h (by omega)); conv => whnf) | (refine Br.bne (fun h => absurd h (by omega)) (fun h => ?_); conv => whnf) | (refine Br.bne (fun h => ?_) (fun h => absurd h (by omega)); conv => whnf) | (refine Br.nbeq (fun h => absurd h (by omega)) (fun h => ?_); conv => whnf) | (refine Br.nbeq (fun h => ?_) (fun h => absurd h (by omega)); conv => whnf) | (refine Br.dec (fun h => ?_) (fun h => ?_) <;> (conv => whnf)) | (refine Br.beq (fun h => ?_) (fun h => ?_) <;> (conv => whnf)) | (refine Br.bne (fun h => ?_) (fun h => ?_) <;> (conv => whnf)) | (refine Br.nbeq (fun h => ?_) (fun h => ?_) <;> (conv => whnf)) | (refine Br.not (fun h => ?_) (fun h => ?_) <;> (conv => whnf)) | (refine Br.mk (fun h => ?_) (fun h => ?_) <;> (conv => whnf)) | fail)) | (refine SeqW.go ?_; conv => whnf) | (refine cdIs ?_; (first | (refine Cd.mk ?_ ?_; (focus ((repeat' (refine And.intro ?_ ?_)) <;> (first | omega | assumption | exact True.intro | exact rfl | exact allLen_lift (rowsB_all _) | exact rowsB_all _ | (simp only [rowsB_length, liftR, List.length_map, Int.toNat_natCast]; omega) | (simp (disch := omega) only [wrap_i64, rowsB_length, liftR, List.length_map, Int.toNat_natCast, List.length_take, List.length_drop, List.length_append, List.length_replicate]; omega) | exact Nat.le_refl _ | exact allLen_lift (by assumption) | exact allLen_lift (allLen_one rfl) | (simp; done) | (simp; omega)))); conv => whnf) | (refine Cd.mk ⟨Nat.le_of_ble_eq_true rfl, ?_⟩ ?_; (focus ((repeat (first | exact allN | refine allC (by first | exact sc_lift _ _ | exact sc_wes _ _ _ | exact sc_arr rfl | rfl) ?_)); done)); conv => whnf) | rw [rowsB_length] | rw [rowsB_td] | rw [liftB_app] | rw [Int.toNat_natCast] | rw [quoL] | rw [remL] | rw [wrap_i64 (n := ((_ : Nat) : Int)) (by omega) (by omega)] | rw [wrap_i64 (by omega) (by omega)] | (rw [hget i (by omega)]; conv => whnf) | fail)) | (refine callIs ?_; (first | (refine callGo (hfu (by omega)) ?_; refine callP (hfu (by omega)) rfl rfl fun _ => ?_; conv => whnf) | fail)) | (refine PubRows.mk _ ?_ (toRows_map _) ?_; (focus (first | exact rfl | (simp only [List.length_map, rowsB_length, List.length_append]; done) | (simp only [List.length_map, rowsB_length, List.length_append]; omega) | (simp; done) | (simp; omega))); conv => whnf) | (refine PubRows.mk _ rfl rfl ?_; conv => whnf) | (refine Lit.data ?_; conv => whnf) | rw [rowsB_length] | rw [rowsB_td] | rw [liftB_app] | rw [Int.toNat_natCast] | rw [quoL] | rw [remL] | rw [wrap_i64 (n := ((_ : Nat) : Int)) (by omega) (by omega)] | rw [wrap_i64 (by omega) (by omega)] | (rw [hget i (by omega)]; conv => whnf) | fail)
  · have hp : ws[i].1 = at_ ∧ (i : Int) ≠ tornAt := ⟨by omega, by omega⟩
    refine ⟨i + 1, by omega, by omega, ?_, ⟨?_, rfl, rfl, rfl, trivial⟩, (by repeat (first | exact trivial | refine ⟨rfl, ?_⟩))⟩
    all_goals rw [mayL_succ old ws at_ tornAt i (by omega), if_pos hp]
    · rw [List.map_append]; simp only [liftR, List.map_append]; exact (by repeat (first | exact trivial | refine ⟨.refl _, ?_⟩))
    · rw [List.length_append]; rfl
  · have hp : ¬ (ws[i].1 = at_ ∧ (i : Int) ≠ tornAt) := by omega
    refine ⟨i + 1, by omega, by omega, ?_, ⟨?_, rfl, rfl, rfl, trivial⟩, (by repeat (first | exact trivial | refine ⟨rfl, ?_⟩))⟩
    all_goals rw [mayL_succ old ws at_ tornAt i (by omega), if_neg hp, List.append_nil]
    · exact (by repeat (first | exact trivial | refine ⟨.refl _, ?_⟩))
    · rfl
  · have hp : ¬ (ws[i].1 = at_ ∧ (i : Int) ≠ tornAt) := by omega
    refine ⟨i + 1, by omega, by omega, ?_, ⟨?_, rfl, rfl, rfl, trivial⟩, (by repeat (first | exact trivial | refine ⟨rfl, ?_⟩))⟩
    all_goals rw [mayL_succ old ws at_ tornAt i (by omega), if_neg hp, List.append_nil]
    · exact (by repeat (first | exact trivial | refine ⟨.refl _, ?_⟩))
    · rfl
  rw [show ws.take i = ws from List.take_of_length_le (by omega)] at hall2 hml hml2
  rw [show ws.take i = ws from List.take_of_length_le (by omega)]
  have h64 := mayL_64 old ho ws at_ tornAt
  generalize mayL old ws at_ tornAt = L at hg h64 hall2 hml hml2
  have hbg := bs_get L
  obtain ⟨T, hT, hft, hTe⟩ : ∃ T : List UInt8, T.length = 64 ∧ (∀ h : 0 ≤ tornAt, PureA Try.prog 27 [bytesP ws[tornAt.toNat].2] (bytesP T)) ∧ ∀ h : tornAt.toNat < ws.length, fullB ws[tornAt.toNat].2 = T := by
    by_cases h : 0 ≤ tornAt
    · exact ⟨fullB ws[tornAt.toNat].2, fullB_len _, fun h => full_calls ws[tornAt.toNat].2 (by have := hb ws[tornAt.toNat] (List.getElem_mem _); omega), fun _ => rfl⟩
    · exact ⟨(ws.map fun x => fullB x.2).getD tornAt.toNat (List.replicate 64 0), by
        rw [List.getD_eq_getElem?_getD, List.getElem?_map]
        cases ws[tornAt.toNat]? <;> simp [fullB_len], fun h' => absurd h' h, fun h' => by
        rw [List.getD_eq_getElem?_getD, List.getElem?_map, List.getElem?_eq_getElem h']; rfl⟩
  have hgt := fun h : 0 ≤ tornAt => ws_get ws tornAt.toNat (by omega)
  have hla := allLen_lift (n := 1) hall2
  refine loopK (by kernel_rfl) (γ := Nat) 1 (fun i => i ≤ L.length ∧ ∃ j, i ≤ j ∧ ∃ h : j < L.length, goodU b ws tornAt cut.toNat L[j]) (fun i => [(15, .d (.i .i64 i))]) (fun i => []) (fun i => L.length - i)
    ⟨rfl, rfl⟩ (fun _ _ => by (repeat (first | exact allN | refine allC (by first | exact sc_lift _ _ | exact sc_wes _ _ _ | exact sc_arr rfl | rfl) ?_))) 0 ⟨Nat.zero_le _, by obtain ⟨u, hu, hgu⟩ := hg; obtain ⟨j, hj, rfl⟩ := List.getElem_of_mem hu; exact ⟨j, Nat.zero_le _, hj, hgu⟩⟩ (by repeat (first | exact trivial | refine ⟨.refl _, ?_⟩)) ⟨rfl, rfl, trivial⟩ ?_
  rintro i ⟨hi, j, hij, hj, hgj⟩
  have hbi := hbg i
  have hlL : (liftR (L.map bsRow)).length = L.length := by simp [liftR]
  ((conv => whnf); repeat (refine SeqW.go ?_; conv => whnf))
  repeat' (first | (refine brIs ?_; (first | (refine Br.t ?_; conv => whnf) | (refine Br.f ?_; conv => whnf) | (refine Br.ne_self ?_; conv => whnf) | (refine Br.eq_self ?_; conv => whnf) | rw [rowsB_length] | rw [rowsB_td] | rw [liftB_app] | rw [Int.toNat_natCast] | rw [quoL] | rw [remL] | rw [wrap_i64 (n := ((_ : Nat) : Int)) (by omega) (by omega)] | rw [wrap_i64 (by omega) (by omega)] | (rw [hbi (by omega)]; conv => whnf) | (rw [hgt (by omega)]; conv => whnf) | (refine Br.dec (fun h => absurd h (by omega)) (fun h => ?_); conv => whnf) | (refine Br.dec (fun h => ?_) (fun h => absurd h (by omega)); conv => whnf) | (refine Br.beq (fun h => absurd h (by omega)) (fun h => ?_); conv => whnf) | (refine Br.beq (fun h => ?_) (fun h => absurd h (by omega)); conv => whnf) | (refine Br.bne (fun h => absurd h (by omega)) (fun h => ?_); conv => whnf) | (refine Br.bne (fun h => ?_) (fun h => absurd h (by omega)); conv => whnf) | (refine Br.nbeq (fun h => absurd h (by omega)) (fun h => ?_); conv => whnf) | (refine Br.nbeq (fun h => ?_) (fun h => absurd h (by omega)); conv => whnf) | (refine Br.dec (fun h => ?_) (fun h => ?_) <;> (conv => whnf)) | (refine Br.beq (fun h => ?_) (fun h => ?_) <;> (conv => whnf)) | (refine Br.bne (fun h => ?_) (fun h => ?_) <;> (conv => whnf)) | (refine Br.nbeq (fun h => ?_) (fun h => ?_) <;> (conv => whnf)) | (refine Br.not (fun h => ?_) (fun h => ?_) <;> (conv => whnf)) | (refine Br.mk (fun h => ?_) (fun h => ?_) <;> (conv => whnf)) | fail)) | (refine SeqW.go ?_; conv => whnf) | (refine cdIs ?_; (first | (refine Cd.mk ?_ ?_; (focus ((repeat' (refine And.intro ?_ ?_)) <;> (first | omega | assumption | exact True.intro | exact rfl | exact allLen_lift (rowsB_all _) | exact rowsB_all _ | (simp only [rowsB_length, liftR, List.length_map, Int.toNat_natCast]; omega) | (simp (disch := omega) only [wrap_i64, rowsB_length, liftR, List.length_map, Int.toNat_natCast, List.length_take, List.length_drop, List.length_append, List.length_replicate]; omega) | exact Nat.le_refl _ | exact allLen_lift (by assumption) | exact allLen_lift (allLen_one rfl) | (simp; done) | (simp; omega)))); conv => whnf) | (refine Cd.mk ⟨Nat.le_of_ble_eq_true rfl, ?_⟩ ?_; (focus ((repeat (first | exact allN | refine allC (by first | exact sc_lift _ _ | exact sc_wes _ _ _ | exact sc_arr rfl | rfl) ?_)); done)); conv => whnf) | rw [rowsB_length] | rw [rowsB_td] | rw [liftB_app] | rw [Int.toNat_natCast] | rw [quoL] | rw [remL] | rw [wrap_i64 (n := ((_ : Nat) : Int)) (by omega) (by omega)] | rw [wrap_i64 (by omega) (by omega)] | (rw [hbi (by omega)]; conv => whnf) | (rw [hgt (by omega)]; conv => whnf) | fail)) | (refine callIs ?_; (first | (refine callP (bytesSame_calls _ _) rfl rfl fun _ => ?_; conv => whnf) | (refine callGo (hft (by omega)) ?_; refine callP (hft (by omega)) rfl rfl fun _ => ?_; conv => whnf) | fail)) | (refine PubRows.mk _ ?_ (toRows_map _) ?_; (focus (first | exact rfl | (simp only [List.length_map, rowsB_length, List.length_append]; done) | (simp only [List.length_map, rowsB_length, List.length_append]; omega) | (simp; done) | (simp; omega))); conv => whnf) | (refine PubRows.mk _ rfl rfl ?_; conv => whnf) | rw [rowsB_length] | rw [rowsB_td] | rw [liftB_app] | rw [Int.toNat_natCast] | rw [quoL] | rw [remL] | rw [wrap_i64 (n := ((_ : Nat) : Int)) (by omega) (by omega)] | rw [wrap_i64 (by omega) (by omega)] | (rw [hbi (by omega)]; conv => whnf) | (rw [hgt (by omega)]; conv => whnf) | fail)
  · exact ⟨rfl, rfl⟩
  · have hne : ¬ b = L[i] := by assumption
    have ht0 : 0 ≤ tornAt := by omega
    have hc0 := hc ht0
    obtain ⟨cu, rfl⟩ : ∃ n : Nat, cut = n := ⟨cut.toNat, by omega⟩
    have hu : L[i].length = 64 := h64 _ (List.getElem_mem _)
    obtain ⟨M, hM⟩ : ∃ M, M = mixB T cu L[i] := ⟨_, rfl⟩
    have hml3 : M.length = 64 := by rw [hM]; exact mixB_len hT hu (by omega)
    have hmg : ∀ k (h : k < 64), M[k]'(by omega) = if k < cu then T[k]'(by omega) else L[i][k]'(by omega) := fun k h => by
      simp only [hM]; exact mixB_get hT hu (by omega) h _
    have hgi : goodU b ws tornAt cu L[i] ↔ b = M := by
      rw [hM]
      constructor
      · rintro (h | ⟨_, h', h⟩)
        · exact absurd h hne
        · rw [hTe h'] at h; exact h
      · intro h; exact .inr ⟨ht0, by omega, by rw [hTe (by omega)]; exact h⟩
    have hbg2 := fun k (h : k < 64) => rowsB_get (l := b) (i := k) (by omega)
    have htg2 := fun k (h : k < 64) => rowsB_get (l := T) (i := k) (by omega)
    have hug2 := fun k (h : k < 64) => rowsB_get (l := L[i]) (i := k) (by omega)
    refine loopK (by kernel_rfl) (γ := Nat) 1 (fun k => k ≤ 64) (fun k => [(18, .d (.i .i64 k)), (17, .d (.b (decide (b.take k = M.take k))))]) (fun k => []) (fun k => 64 - k)
      ⟨rfl, rfl⟩ (fun _ _ => by (repeat (first | exact allN | refine allC (by first | exact sc_lift _ _ | exact sc_wes _ _ _ | exact sc_arr rfl | rfl) ?_))) 0 (Nat.zero_le _) (by repeat (first | exact trivial | refine ⟨.refl _, ?_⟩)) ⟨rfl, rfl, rfl, rfl, trivial⟩ ?_
    intro k hk
    ((conv => whnf); repeat (refine SeqW.go ?_; conv => whnf))
    repeat' (first | (refine brIs ?_; (first | (refine Br.t ?_; conv => whnf) | (refine Br.f ?_; conv => whnf) | (refine Br.ne_self ?_; conv => whnf) | (refine Br.eq_self ?_; conv => whnf) | rw [rowsB_length] | rw [rowsB_td] | rw [liftB_app] | rw [Int.toNat_natCast] | rw [quoL] | rw [remL] | rw [wrap_i64 (n := ((_ : Nat) : Int)) (by omega) (by omega)] | rw [wrap_i64 (by omega) (by omega)] | (refine Br.dec (fun h => absurd h (by omega)) (fun h => ?_); conv => whnf) | (refine Br.dec (fun h => ?_) (fun h => absurd h (by omega)); conv => whnf) | (refine Br.beq (fun h => absurd h (by omega)) (fun h => ?_); conv => whnf) | (refine Br.beq (fun h => ?_) (fun h => absurd h (by omega)); conv => whnf) | (refine Br.bne (fun h => absurd h (by omega)) (fun h => ?_); conv => whnf) | (refine Br.bne (fun h => ?_) (fun h => absurd h (by omega)); conv => whnf) | (refine Br.nbeq (fun h => absurd h (by omega)) (fun h => ?_); conv => whnf) | (refine Br.nbeq (fun h => ?_) (fun h => absurd h (by omega)); conv => whnf) | (refine Br.dec (fun h => ?_) (fun h => ?_) <;> (conv => whnf)) | (refine Br.beq (fun h => ?_) (fun h => ?_) <;> (conv => whnf)) | (refine Br.bne (fun h => ?_) (fun h => ?_) <;> (conv => whnf)) | (refine Br.nbeq (fun h => ?_) (fun h => ?_) <;> (conv => whnf)) | (refine Br.not (fun h => ?_) (fun h => ?_) <;> (conv => whnf)) | (refine Br.mk (fun h => ?_) (fun h => ?_) <;> (conv => whnf)) | fail)) | (refine SeqW.go ?_; conv => whnf) | (refine cdIs ?_; (first | (refine Cd.mk ?_ ?_; (focus ((repeat' (refine And.intro ?_ ?_)) <;> (first | omega | assumption | exact True.intro | exact rfl | exact allLen_lift (rowsB_all _) | exact rowsB_all _ | (simp only [rowsB_length, liftR, List.length_map, Int.toNat_natCast]; omega) | (simp (disch := omega) only [wrap_i64, rowsB_length, liftR, List.length_map, Int.toNat_natCast, List.length_take, List.length_drop, List.length_append, List.length_replicate]; omega) | exact Nat.le_refl _ | exact allLen_lift (by assumption) | exact allLen_lift (allLen_one rfl) | (simp; done) | (simp; omega)))); conv => whnf) | (refine Cd.mk ⟨Nat.le_of_ble_eq_true rfl, ?_⟩ ?_; (focus ((repeat (first | exact allN | refine allC (by first | exact sc_lift _ _ | exact sc_wes _ _ _ | exact sc_arr rfl | rfl) ?_)); done)); conv => whnf) | rw [rowsB_length] | rw [rowsB_td] | rw [liftB_app] | rw [Int.toNat_natCast] | rw [quoL] | rw [remL] | rw [wrap_i64 (n := ((_ : Nat) : Int)) (by omega) (by omega)] | rw [wrap_i64 (by omega) (by omega)] | fail)) | (refine PubRows.mk _ ?_ (toRows_map _) ?_; (focus (first | exact rfl | (simp only [List.length_map, rowsB_length, List.length_append]; done) | (simp only [List.length_map, rowsB_length, List.length_append]; omega) | (simp; done) | (simp; omega))); conv => whnf) | (refine PubRows.mk _ rfl rfl ?_; conv => whnf) | rw [rowsB_length] | rw [rowsB_td] | rw [liftB_app] | rw [Int.toNat_natCast] | rw [quoL] | rw [remL] | rw [wrap_i64 (n := ((_ : Nat) : Int)) (by omega) (by omega)] | rw [wrap_i64 (by omega) (by omega)] | fail)
    refine drawW [6,7,10,11,21,22,28,29] mixed (by kernel_rfl) (by kernel_rfl) ?_
    conv => whnf
    first | refine Br.dec (fun g1 => ?_) (fun g1 => ?_) | refine Br.beq (fun g1 => ?_) (fun g1 => ?_) | refine Br.bne (fun g1 => ?_) (fun g1 => ?_) | refine Br.nbeq (fun g1 => ?_) (fun g1 => ?_) | refine Br.not (fun g1 => ?_) (fun g1 => ?_) | refine Br.mk (fun g1 => ?_) (fun g1 => ?_)
    · conv => whnf
      repeat (first | (refine Br.t ?_; conv => whnf) | (refine Cd.mk (by omega) ?_; conv => whnf) | (refine Br.f ?_; conv => whnf) | (refine SeqW.go ?_; conv => whnf))
      repeat' (first | (refine brIs ?_; (first | (refine Br.t ?_; conv => whnf) | (refine Br.f ?_; conv => whnf) | (refine Br.ne_self ?_; conv => whnf) | (refine Br.eq_self ?_; conv => whnf) | rw [rowsB_length] | rw [rowsB_td] | rw [liftB_app] | rw [Int.toNat_natCast] | rw [quoL] | rw [remL] | rw [wrap_i64 (n := ((_ : Nat) : Int)) (by omega) (by omega)] | rw [wrap_i64 (by omega) (by omega)] | (rw [hbg2 k (by omega)]; conv => whnf) | (rw [htg2 k (by omega)]; conv => whnf) | (refine Br.dec (fun h => absurd h (by omega)) (fun h => ?_); conv => whnf) | (refine Br.dec (fun h => ?_) (fun h => absurd h (by omega)); conv => whnf) | (refine Br.beq (fun h => absurd h (by omega)) (fun h => ?_); conv => whnf) | (refine Br.beq (fun h => ?_) (fun h => absurd h (by omega)); conv => whnf) | (refine Br.bne (fun h => absurd h (by omega)) (fun h => ?_); conv => whnf) | (refine Br.bne (fun h => ?_) (fun h => absurd h (by omega)); conv => whnf) | (refine Br.nbeq (fun h => absurd h (by omega)) (fun h => ?_); conv => whnf) | (refine Br.nbeq (fun h => ?_) (fun h => absurd h (by omega)); conv => whnf) | (refine Br.dec (fun h => ?_) (fun h => ?_) <;> (conv => whnf)) | (refine Br.beq (fun h => ?_) (fun h => ?_) <;> (conv => whnf)) | (refine Br.bne (fun h => ?_) (fun h => ?_) <;> (conv => whnf)) | (refine Br.nbeq (fun h => ?_) (fun h => ?_) <;> (conv => whnf)) | (refine Br.not (fun h => ?_) (fun h => ?_) <;> (conv => whnf)) | (refine Br.mk (fun h => ?_) (fun h => ?_) <;> (conv => whnf)) | fail)) | (refine SeqW.go ?_; conv => whnf) | (refine cdIs ?_; (first | (refine Cd.mk ?_ ?_; (focus ((repeat' (refine And.intro ?_ ?_)) <;> (first | omega | assumption | exact True.intro | exact rfl | exact allLen_lift (rowsB_all _) | exact rowsB_all _ | (simp only [rowsB_length, liftR, List.length_map, Int.toNat_natCast]; omega) | (simp (disch := omega) only [wrap_i64, rowsB_length, liftR, List.length_map, Int.toNat_natCast, List.length_take, List.length_drop, List.length_append, List.length_replicate]; omega) | exact Nat.le_refl _ | exact allLen_lift (by assumption) | exact allLen_lift (allLen_one rfl) | (simp; done) | (simp; omega)))); conv => whnf) | (refine Cd.mk ⟨Nat.le_of_ble_eq_true rfl, ?_⟩ ?_; (focus ((repeat (first | exact allN | refine allC (by first | exact sc_lift _ _ | exact sc_wes _ _ _ | exact sc_arr rfl | rfl) ?_)); done)); conv => whnf) | rw [rowsB_length] | rw [rowsB_td] | rw [liftB_app] | rw [Int.toNat_natCast] | rw [quoL] | rw [remL] | rw [wrap_i64 (n := ((_ : Nat) : Int)) (by omega) (by omega)] | rw [wrap_i64 (by omega) (by omega)] | (rw [hbg2 k (by omega)]; conv => whnf) | (rw [htg2 k (by omega)]; conv => whnf) | fail)) | (refine PubRows.mk _ ?_ (toRows_map _) ?_; (focus (first | exact rfl | (simp only [List.length_map, rowsB_length, List.length_append]; done) | (simp only [List.length_map, rowsB_length, List.length_append]; omega) | (simp; done) | (simp; omega))); conv => whnf) | (refine PubRows.mk _ rfl rfl ?_; conv => whnf) | rw [rowsB_length] | rw [rowsB_td] | rw [liftB_app] | rw [Int.toNat_natCast] | rw [quoL] | rw [remL] | rw [wrap_i64 (n := ((_ : Nat) : Int)) (by omega) (by omega)] | rw [wrap_i64 (by omega) (by omega)] | (rw [hbg2 k (by omega)]; conv => whnf) | (rw [htg2 k (by omega)]; conv => whnf) | fail)
      · have hx : ¬ b[k] = M[k] := by rw [hmg k (by omega), if_pos (by omega)]; intro e; exact h (by rw [e])
        refine ⟨k + 1, by omega, by omega, (by repeat (first | exact trivial | refine ⟨.refl _, ?_⟩)), ⟨rfl, rfl, ?_, rfl, trivial⟩, (by repeat (first | exact trivial | refine ⟨rfl, ?_⟩))⟩
        exact congrArg (fun z => PV.d (.b z)) (decide_eq_false (fun e => hx ((take_eq_succ (by omega) (by omega)).1 e).2)).symm
      · have hx : b[k] = M[k] := by rw [hmg k (by omega), if_pos (by omega)]; exact UInt8.toNat_inj.1 (by omega)
        refine ⟨k + 1, by omega, by omega, (by repeat (first | exact trivial | refine ⟨.refl _, ?_⟩)), ⟨rfl, rfl, ?_, rfl, trivial⟩, (by repeat (first | exact trivial | refine ⟨rfl, ?_⟩))⟩
        have hiff : (b.take k = M.take k) = (b.take (k + 1) = M.take (k + 1)) := propext ⟨fun e => (take_eq_succ (by omega) (by omega)).2 ⟨e, hx⟩, fun e => ((take_eq_succ (by omega) (by omega)).1 e).1⟩
        exact congrArg (fun z => PV.d (.b z)) (by simp only [hiff])
    · conv => whnf
      repeat (first | (refine Br.t ?_; conv => whnf) | (refine Cd.mk (by omega) ?_; conv => whnf) | (refine Br.f ?_; conv => whnf) | (refine SeqW.go ?_; conv => whnf))
      repeat' (first | (refine brIs ?_; (first | (refine Br.t ?_; conv => whnf) | (refine Br.f ?_; conv => whnf) | (refine Br.ne_self ?_; conv => whnf) | (refine Br.eq_self ?_; conv => whnf) | rw [rowsB_length] | rw [rowsB_td] | rw [liftB_app] | rw [Int.toNat_natCast] | rw [quoL] | rw [remL] | rw [wrap_i64 (n := ((_ : Nat) : Int)) (by omega) (by omega)] | rw [wrap_i64 (by omega) (by omega)] | (rw [hbi (by omega)]; conv => whnf) | (rw [hbg2 k (by omega)]; conv => whnf) | (rw [hug2 k (by omega)]; conv => whnf) | (refine Br.dec (fun h => absurd h (by omega)) (fun h => ?_); conv => whnf) | (refine Br.dec (fun h => ?_) (fun h => absurd h (by omega)); conv => whnf) | (refine Br.beq (fun h => absurd h (by omega)) (fun h => ?_); conv => whnf) | (refine Br.beq (fun h => ?_) (fun h => absurd h (by omega)); conv => whnf) | (refine Br.bne (fun h => absurd h (by omega)) (fun h => ?_); conv => whnf) | (refine Br.bne (fun h => ?_) (fun h => absurd h (by omega)); conv => whnf) | (refine Br.nbeq (fun h => absurd h (by omega)) (fun h => ?_); conv => whnf) | (refine Br.nbeq (fun h => ?_) (fun h => absurd h (by omega)); conv => whnf) | (refine Br.dec (fun h => ?_) (fun h => ?_) <;> (conv => whnf)) | (refine Br.beq (fun h => ?_) (fun h => ?_) <;> (conv => whnf)) | (refine Br.bne (fun h => ?_) (fun h => ?_) <;> (conv => whnf)) | (refine Br.nbeq (fun h => ?_) (fun h => ?_) <;> (conv => whnf)) | (refine Br.not (fun h => ?_) (fun h => ?_) <;> (conv => whnf)) | (refine Br.mk (fun h => ?_) (fun h => ?_) <;> (conv => whnf)) | fail)) | (refine SeqW.go ?_; conv => whnf) | (refine cdIs ?_; (first | (refine Cd.mk ?_ ?_; (focus ((repeat' (refine And.intro ?_ ?_)) <;> (first | omega | assumption | exact True.intro | exact rfl | exact allLen_lift (rowsB_all _) | exact rowsB_all _ | (simp only [rowsB_length, liftR, List.length_map, Int.toNat_natCast]; omega) | (simp (disch := omega) only [wrap_i64, rowsB_length, liftR, List.length_map, Int.toNat_natCast, List.length_take, List.length_drop, List.length_append, List.length_replicate]; omega) | exact Nat.le_refl _ | exact allLen_lift (by assumption) | exact allLen_lift (allLen_one rfl) | (simp; done) | (simp; omega)))); conv => whnf) | (refine Cd.mk ⟨Nat.le_of_ble_eq_true rfl, ?_⟩ ?_; (focus ((repeat (first | exact allN | refine allC (by first | exact sc_lift _ _ | exact sc_wes _ _ _ | exact sc_arr rfl | rfl) ?_)); done)); conv => whnf) | rw [rowsB_length] | rw [rowsB_td] | rw [liftB_app] | rw [Int.toNat_natCast] | rw [quoL] | rw [remL] | rw [wrap_i64 (n := ((_ : Nat) : Int)) (by omega) (by omega)] | rw [wrap_i64 (by omega) (by omega)] | (rw [hbi (by omega)]; conv => whnf) | (rw [hbg2 k (by omega)]; conv => whnf) | (rw [hug2 k (by omega)]; conv => whnf) | fail)) | (refine PubRows.mk _ ?_ (toRows_map _) ?_; (focus (first | exact rfl | (simp only [List.length_map, rowsB_length, List.length_append]; done) | (simp only [List.length_map, rowsB_length, List.length_append]; omega) | (simp; done) | (simp; omega))); conv => whnf) | (refine PubRows.mk _ rfl rfl ?_; conv => whnf) | rw [rowsB_length] | rw [rowsB_td] | rw [liftB_app] | rw [Int.toNat_natCast] | rw [quoL] | rw [remL] | rw [wrap_i64 (n := ((_ : Nat) : Int)) (by omega) (by omega)] | rw [wrap_i64 (by omega) (by omega)] | (rw [hbi (by omega)]; conv => whnf) | (rw [hbg2 k (by omega)]; conv => whnf) | (rw [hug2 k (by omega)]; conv => whnf) | fail)
      · have hx : ¬ b[k] = M[k] := by rw [hmg k (by omega), if_neg (by omega)]; intro e; exact h (by rw [e])
        refine ⟨k + 1, by omega, by omega, (by repeat (first | exact trivial | refine ⟨.refl _, ?_⟩)), ⟨rfl, rfl, ?_, rfl, trivial⟩, (by repeat (first | exact trivial | refine ⟨rfl, ?_⟩))⟩
        exact congrArg (fun z => PV.d (.b z)) (decide_eq_false (fun e => hx ((take_eq_succ (by omega) (by omega)).1 e).2)).symm
      · have hx : b[k] = M[k] := by rw [hmg k (by omega), if_neg (by omega)]; exact UInt8.toNat_inj.1 (by omega)
        refine ⟨k + 1, by omega, by omega, (by repeat (first | exact trivial | refine ⟨.refl _, ?_⟩)), ⟨rfl, rfl, ?_, rfl, trivial⟩, (by repeat (first | exact trivial | refine ⟨rfl, ?_⟩))⟩
        have hiff : (b.take k = M.take k) = (b.take (k + 1) = M.take (k + 1)) := propext ⟨fun e => (take_eq_succ (by omega) (by omega)).2 ⟨e, hx⟩, fun e => ((take_eq_succ (by omega) (by omega)).1 e).1⟩
        exact congrArg (fun z => PV.d (.b z)) (by simp only [hiff])
    · exact ⟨rfl, rfl⟩
    · have hnb : ¬ b = M := fun e => by
        have hd : ¬ b.take k = M.take k := by assumption
        exact hd (by rw [e])
      have hji : j ≠ i := fun e => by subst e; exact hnb (hgi.1 hgj)
      refine ⟨i + 1, ⟨by omega, j, by omega, hj, hgj⟩, by omega, (by repeat (first | exact trivial | refine ⟨.refl _, ?_⟩)), ⟨rfl, rfl, trivial⟩, (by repeat (first | exact trivial | refine ⟨rfl, ?_⟩))⟩
  · have hne : ¬ b = L[i] := by assumption
    have hji : j ≠ i := fun e => by
      subst e
      rcases hgj with h | ⟨h, _⟩
      · exact hne h
      · omega
    refine ⟨i + 1, ⟨by omega, j, by omega, hj, hgj⟩, by omega, (by repeat (first | exact trivial | refine ⟨.refl _, ?_⟩)), ⟨rfl, rfl, trivial⟩, (by repeat (first | exact trivial | refine ⟨rfl, ?_⟩))⟩
end Go.Aw
