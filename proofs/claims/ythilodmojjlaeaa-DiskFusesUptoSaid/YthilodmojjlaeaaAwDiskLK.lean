/- Layer 12: what the laws make: whole, inside, made, kept. -/
import Derived.Test.YthilodmojjlaeaaAwDiskGK
import Derived.Test.YthilodmojjlaeaaAwDiskCK
import Derived.Test.YthilodmojjlaeaaAwDiskFK
import Derived.Test.YthilodmojjlaeaaAwDiskPK
import Derived.Test.YthilodmojjlaeaaAwPack3
set_option linter.unusedVariables false
set_option linter.unusedSimpArgs false
namespace Go.Aw
open Go.Proofs
set_option maxRecDepth 100000

/-- An image of whole sectors. -/
def wholeB (b : List UInt8) : List UInt8 := if b.length / 64 = 0 then fullB b else b.take (64 * min (b.length / 64) 512)
theorem whole_calls (b : List UInt8) (hb : b.length ≤ 16777216) : PureA Try.prog 24 [bytesP b] (bytesP (wholeB b)) := by
  have hfu := full_calls b hb
  have hfl := fullB_len b
  refine callsW_of 0 Try.call24 Try.func24 (c := _) rfl (by kernel_rfl) (Nat.le_of_ble_eq_true rfl) (Nat.le_refl 0) ?_
  ((conv => whnf); repeat (refine SeqW.go ?_; conv => whnf))
  repeat' (first | (refine brIs ?_; (first | (refine Br.t ?_; conv => whnf) | (refine Br.f ?_; conv => whnf) | (refine Br.ne_self ?_; conv => whnf) | (refine Br.eq_self ?_; conv => whnf) | rw [rowsB_length] | rw [rowsB_td] | rw [liftB_app] | rw [Int.toNat_natCast] | rw [quoL] | rw [remL] | rw [wrap_i64 (n := ((_ : Nat) : Int)) (by omega) (by omega)] | rw [wrap_i64 (by omega) (by omega)] | (refine Br.dec (fun h => absurd h (by omega)) (fun h => ?_); conv => whnf) | (refine Br.dec (fun h => ?_) (fun h => absurd h (by omega)); conv => whnf) | (refine Br.beq (fun h => absurd h (by omega)) (fun h => ?_); conv => whnf) | (refine Br.beq (fun h => ?_) (fun h => absurd h (by omega)); conv => whnf) | (refine Br.bne (fun h => absurd h (by omega)) (fun h => ?_); conv => whnf) | (refine Br.bne (fun h => ?_) (fun h => absurd h (by omega)); conv => whnf) | (refine Br.nbeq (fun h => absurd h (by omega)) (fun h => ?_); conv => whnf) | (refine Br.nbeq (fun h => ?_) (fun h => absurd h (by omega)); conv => whnf) | (refine Br.dec (fun h => ?_) (fun h => ?_) <;> (conv => whnf)) | (refine Br.beq (fun h => ?_) (fun h => ?_) <;> (conv => whnf)) | (refine Br.bne (fun h => ?_) (fun h => ?_) <;> (conv => whnf)) | (refine Br.nbeq (fun h => ?_) (fun h => ?_) <;> (conv => whnf)) | (refine Br.not (fun h => ?_) (fun h => ?_) <;> (conv => whnf)) | (refine Br.mk (fun h => ?_) (fun h => ?_) <;> (conv => whnf)) | fail)) | (refine SeqW.go ?_; conv => whnf) | (refine cdIs ?_; (first | (refine Cd.mk ?_ ?_; (focus ((repeat' (refine And.intro ?_ ?_)) <;> (first | omega | assumption | exact True.intro | exact rfl | exact allLen_lift (rowsB_all _) | exact rowsB_all _ | (simp only [rowsB_length, liftR, List.length_map, Int.toNat_natCast]; omega) | (simp (disch := omega) only [wrap_i64, rowsB_length, liftR, List.length_map, Int.toNat_natCast, List.length_take, List.length_drop, List.length_append, List.length_replicate]; omega) | exact Nat.le_refl _ | exact allLen_lift (by assumption) | exact allLen_lift (allLen_one rfl) | (simp; done) | (simp; omega)))); conv => whnf) | (refine Cd.mk ⟨Nat.le_of_ble_eq_true rfl, ?_⟩ ?_; (focus ((repeat (first | exact allN | refine allC (by first | exact sc_lift _ _ | exact sc_wes _ _ _ | exact sc_arr rfl | rfl) ?_)); done)); conv => whnf) | rw [rowsB_length] | rw [rowsB_td] | rw [liftB_app] | rw [Int.toNat_natCast] | rw [quoL] | rw [remL] | rw [wrap_i64 (n := ((_ : Nat) : Int)) (by omega) (by omega)] | rw [wrap_i64 (by omega) (by omega)] | fail)) | (refine callIs ?_; (first | (refine callGo (hfu) ?_; refine callP (hfu) rfl rfl fun _ => ?_; conv => whnf) | fail)) | (refine PubRows.mk _ ?_ (toRows_map _) ?_; (focus (first | exact rfl | (simp only [List.length_map, rowsB_length, List.length_append]; done) | (simp only [List.length_map, rowsB_length, List.length_append]; omega) | (simp; done) | (simp; omega))); conv => whnf) | (refine PubRows.mk _ rfl rfl ?_; conv => whnf) | rw [rowsB_length] | rw [rowsB_td] | rw [liftB_app] | rw [Int.toNat_natCast] | rw [quoL] | rw [remL] | rw [wrap_i64 (n := ((_ : Nat) : Int)) (by omega) (by omega)] | rw [wrap_i64 (by omega) (by omega)] | fail)
  all_goals refine ⟨congrArg (fun x => ARes.ret (bytesP x)) ?_, rfl⟩
  · rw [wholeB, if_neg (by omega), show min (b.length / 64) 512 = 512 by omega]; rfl
  · have : b.length / 64 = 0 := by omega
    rw [wholeB, if_pos this, this]; rfl
  · rw [wholeB, if_neg (by omega), show min (b.length / 64) 512 = b.length / 64 by omega, List.drop_zero, toNat_mulL]
theorem wholeB_len (b : List UInt8) : (wholeB b).length = 64 * max 1 (min (b.length / 64) 512) := by
  unfold wholeB
  split
  · rw [fullB_len]; omega
  · simp; omega
theorem wholeB_ok (b : List UInt8) : imgOk (wholeB b) := by
  have := wholeB_len b
  refine ⟨fun e => ?_, by omega, by omega⟩
  rw [e] at this; simp at this; omega

/-- A write as a law has it. -/
abbrev wsRow (x : Int × List UInt8) : List D := [.i .i64 x.1, .sl (rowsB x.2)]
abbrev wsP (ws : List (Int × List UInt8)) : PV := .d (.sl (ws.map wsRow))
def inB (n : Nat) (x : Int × List UInt8) : Bool := decide (0 ≤ x.1 ∧ x.1 < n)
theorem wsAll (ws : List (Int × List UInt8)) : AllLen 2 (ws.map wsRow) := by
  intro r hr
  obtain ⟨x, _, rfl⟩ := List.mem_map.1 hr
  rfl
theorem ws_get (ws : List (Int × List UInt8)) (i : Nat) (h : i < ws.length) : (ws.map wsRow).getD i [] = wsRow ws[i] := by
  rw [List.getD_eq_getElem?_getD, List.getElem?_eq_getElem (by simpa using h)]; simp
theorem take_filter {α : Type} (p : α → Bool) (l : List α) (i : Nat) (h : i < l.length) : (l.take (i + 1)).filter p = (l.take i).filter p ++ (if p l[i] then [l[i]] else []) := by
  rw [List.take_succ_eq_append_getElem h, List.filter_append]
  congr 1
  simp [List.filter_cons]
theorem inside_calls (ws : List (Int × List UInt8)) (hw : ws.length ≤ 1048576) (n : Nat) (hn : n ≤ 1048576) : PureA Try.prog 25 [wsP ws, .d (.i .i64 n)] (wsP (ws.filter (inB n))) := by
  refine callsW_of 0 Try.call25 Try.func25 (c := _) rfl (by kernel_rfl) (Nat.le_of_ble_eq_true rfl) (Nat.le_refl 0) ?_
  ((conv => whnf); repeat (refine SeqW.go ?_; conv => whnf))
  refine loopN (.slot 5 2 rfl .done) ?_
  refine loopK (by kernel_rfl) (γ := Nat) 1 (fun i => i ≤ ws.length) (fun i => [(5, .own 0 2 ((ws.take i).filter (inB n)).length), (6, .d (.i .i64 i))]) (fun i => [(0, .buf (liftR (((ws.take i).filter (inB n)).map wsRow)))]) (fun i => ws.length - i)
    ⟨rfl, rfl⟩ (fun _ _ => by (repeat (first | exact allN | refine allC (by first | exact sc_lift _ _ | exact sc_wes _ _ _ | exact sc_arr rfl | rfl) ?_))) 0 (Nat.zero_le _) (by repeat (first | exact trivial | refine ⟨.refl _, ?_⟩)) ⟨rfl, rfl, rfl, rfl, trivial⟩ ?_
  intro i hi
  have hget := ws_get ws i
  have hall := wsAll ws
  have hall2 := wsAll ((ws.take i).filter (inB n))
  have hfl := List.length_filter_le (inB n) (ws.take i)
  have hft := List.length_take_le i ws
  ((conv => whnf); repeat (refine SeqW.go ?_; conv => whnf))
  repeat' (first | (refine brIs ?_; (first | (refine Br.t ?_; conv => whnf) | (refine Br.f ?_; conv => whnf) | (refine Br.ne_self ?_; conv => whnf) | (refine Br.eq_self ?_; conv => whnf) | rw [rowsB_length] | rw [rowsB_td] | rw [liftB_app] | rw [Int.toNat_natCast] | rw [quoL] | rw [remL] | rw [wrap_i64 (n := ((_ : Nat) : Int)) (by omega) (by omega)] | rw [wrap_i64 (by omega) (by omega)] | (rw [List.length_map]; conv => whnf) | (rw [hget (by omega)]; conv => whnf) | (refine Br.dec (fun h => absurd h (by omega)) (fun h => ?_); conv => whnf) | (refine Br.dec (fun h => ?_) (fun h => absurd h (by omega)); conv => whnf) | (refine Br.beq (fun h => absurd h (by omega)) (fun h => ?_); conv => whnf) | (refine Br.beq (fun h => ?_) (fun h => absurd h (by omega)); conv => whnf) | (refine Br.bne (fun h => absurd h (by omega)) (fun h => ?_); conv => whnf) | (refine Br.bne (fun h => ?_) (fun h => absurd h (by omega)); conv => whnf) | (refine Br.nbeq (fun h => absurd h (by omega)) (fun h => ?_); conv => whnf) | (refine Br.nbeq (fun h => ?_) (fun h => absurd h (by omega)); conv => whnf) | (refine Br.dec (fun h => ?_) (fun h => ?_) <;> (conv => whnf)) | (refine Br.beq (fun h => ?_) (fun h => ?_) <;> (conv => whnf)) | (refine Br.bne (fun h => ?_) (fun h => ?_) <;> (conv => whnf)) | (refine Br.nbeq (fun h => ?_) (fun h => ?_) <;> (conv => whnf)) | (refine Br.not (fun h => ?_) (fun h => ?_) <;> (conv => whnf)) | (refine Br.mk (fun h => ?_) (fun h => ?_) <;> (conv => whnf)) | fail)) | (refine SeqW.go ?_; conv => whnf) | (refine cdIs ?_; (first | (refine Cd.mk ?_ ?_; (focus ((repeat' (refine And.intro ?_ ?_)) <;> (first | omega | assumption | exact True.intro | exact rfl | exact allLen_lift (rowsB_all _) | exact rowsB_all _ | (simp only [rowsB_length, liftR, List.length_map, Int.toNat_natCast]; omega) | (simp (disch := omega) only [wrap_i64, rowsB_length, liftR, List.length_map, Int.toNat_natCast, List.length_take, List.length_drop, List.length_append, List.length_replicate]; omega) | exact Nat.le_refl _ | exact allLen_lift (by assumption) | exact allLen_lift (allLen_one rfl) | (simp; done) | (simp; omega)))); conv => whnf) | (refine Cd.mk ⟨Nat.le_of_ble_eq_true rfl, ?_⟩ ?_; (focus ((repeat (first | exact allN | refine allC (by first | exact sc_lift _ _ | exact sc_wes _ _ _ | exact sc_arr rfl | rfl) ?_)); done)); conv => whnf) | rw [rowsB_length] | rw [rowsB_td] | rw [liftB_app] | rw [Int.toNat_natCast] | rw [quoL] | rw [remL] | rw [wrap_i64 (n := ((_ : Nat) : Int)) (by omega) (by omega)] | rw [wrap_i64 (by omega) (by omega)] | (rw [List.length_map]; conv => whnf) | (rw [hget (by omega)]; conv => whnf) | fail)) | (refine PubRows.mk _ ?_ (toRows_map _) ?_; (focus (first | exact rfl | (simp only [List.length_map, rowsB_length, List.length_append]; done) | (simp only [List.length_map, rowsB_length, List.length_append]; omega) | (simp; done) | (simp; omega))); conv => whnf) | (refine PubRows.mk _ rfl rfl ?_; conv => whnf) | (refine Lit.data ?_; conv => whnf) | rw [rowsB_length] | rw [rowsB_td] | rw [liftB_app] | rw [Int.toNat_natCast] | rw [quoL] | rw [remL] | rw [wrap_i64 (n := ((_ : Nat) : Int)) (by omega) (by omega)] | rw [wrap_i64 (by omega) (by omega)] | (rw [List.length_map]; conv => whnf) | (rw [hget (by omega)]; conv => whnf) | fail)
  · have hp : inB n ws[i] = true := by simp only [inB, decide_eq_true_eq]; omega
    refine ⟨i + 1, by omega, by omega, ?_, ⟨?_, rfl, rfl, rfl, trivial⟩, (by repeat (first | exact trivial | refine ⟨rfl, ?_⟩))⟩
    all_goals rw [take_filter _ _ _ (by omega), if_pos hp]
    · rw [List.map_append]; simp only [liftR, List.map_append]; exact (by repeat (first | exact trivial | refine ⟨.refl _, ?_⟩))
    · rw [List.length_append]; rfl
  · have hp : ¬ inB n ws[i] = true := by simp only [inB, decide_eq_true_eq]; omega
    refine ⟨i + 1, by omega, by omega, ?_, ⟨?_, rfl, rfl, rfl, trivial⟩, (by repeat (first | exact trivial | refine ⟨rfl, ?_⟩))⟩
    all_goals rw [take_filter _ _ _ (by omega), if_neg hp, List.append_nil]
    · exact (by repeat (first | exact trivial | refine ⟨.refl _, ?_⟩))
    · rfl
  · have hp : ¬ inB n ws[i] = true := by simp only [inB, decide_eq_true_eq]; omega
    refine ⟨i + 1, by omega, by omega, ?_, ⟨?_, rfl, rfl, rfl, trivial⟩, (by repeat (first | exact trivial | refine ⟨rfl, ?_⟩))⟩
    all_goals rw [take_filter _ _ _ (by omega), if_neg hp, List.append_nil]
    · exact (by repeat (first | exact trivial | refine ⟨.refl _, ?_⟩))
    · rfl
  · refine ⟨?_, rfl⟩
    rw [List.take_of_length_le (by omega)]

/-- Of n writes, which are kept. -/
def keptB (k : List Bool) (n : Nat) : List Bool := (List.range n).map fun i => k.getD i false
theorem keptB_succ (k : List Bool) (n : Nat) : keptB k (n + 1) = keptB k n ++ [k.getD n false] := by simp [keptB, List.range_succ]
theorem keptB_len (k : List Bool) (n : Nat) : (keptB k n).length = n := by simp [keptB]
theorem kept_calls (k : List Bool) (hk : k.length ≤ 1048576) (n : Nat) (hn : n ≤ 1048576) : PureA Try.prog 32 [keepP k, .d (.i .i64 n)] (keepP (keptB k n)) := by
  refine callsW_of 0 Try.call32 Try.func32 (c := _) rfl (by kernel_rfl) (Nat.le_of_ble_eq_true rfl) (Nat.le_refl 0) ?_
  ((conv => whnf); repeat (refine SeqW.go ?_; conv => whnf))
  refine loopN (.slot 5 1 rfl .done) ?_
  refine loopK (by kernel_rfl) (γ := Nat) 1 (fun i => i ≤ n) (fun i => [(5, .own 0 1 i), (6, .d (.i .i64 i))]) (fun i => [(0, .buf (liftR ((keptB k i).map fun b => [D.b b])))]) (fun i => n - i)
    ⟨rfl, rfl⟩ (fun _ _ => by (repeat (first | exact allN | refine allC (by first | exact sc_lift _ _ | exact sc_wes _ _ _ | exact sc_arr rfl | rfl) ?_))) 0 (Nat.zero_le _) (by repeat (first | exact trivial | refine ⟨.refl _, ?_⟩)) ⟨rfl, rfl, rfl, rfl, trivial⟩ ?_
  intro i hi
  have hget := fun h : i < k.length => keep_get k i h
  have hall := keepAll k
  have hall2 := keepAll (keptB k i)
  have hkl := keptB_len k i
  ((conv => whnf); repeat (refine SeqW.go ?_; conv => whnf))
  repeat' (first | (refine brIs ?_; (first | (refine Br.t ?_; conv => whnf) | (refine Br.f ?_; conv => whnf) | (refine Br.ne_self ?_; conv => whnf) | (refine Br.eq_self ?_; conv => whnf) | rw [rowsB_length] | rw [rowsB_td] | rw [liftB_app] | rw [Int.toNat_natCast] | rw [quoL] | rw [remL] | rw [wrap_i64 (n := ((_ : Nat) : Int)) (by omega) (by omega)] | rw [wrap_i64 (by omega) (by omega)] | (rw [List.length_map]; conv => whnf) | (rw [hget (by omega)]; conv => whnf) | (refine Br.dec (fun h => absurd h (by omega)) (fun h => ?_); conv => whnf) | (refine Br.dec (fun h => ?_) (fun h => absurd h (by omega)); conv => whnf) | (refine Br.beq (fun h => absurd h (by omega)) (fun h => ?_); conv => whnf) | (refine Br.beq (fun h => ?_) (fun h => absurd h (by omega)); conv => whnf) | (refine Br.bne (fun h => absurd h (by omega)) (fun h => ?_); conv => whnf) | (refine Br.bne (fun h => ?_) (fun h => absurd h (by omega)); conv => whnf) | (refine Br.nbeq (fun h => absurd h (by omega)) (fun h => ?_); conv => whnf) | (refine Br.nbeq (fun h => ?_) (fun h => absurd h (by omega)); conv => whnf) | (refine Br.dec (fun h => ?_) (fun h => ?_) <;> (conv => whnf)) | (refine Br.beq (fun h => ?_) (fun h => ?_) <;> (conv => whnf)) | (refine Br.bne (fun h => ?_) (fun h => ?_) <;> (conv => whnf)) | (refine Br.nbeq (fun h => ?_) (fun h => ?_) <;> (conv => whnf)) | (refine Br.not (fun h => ?_) (fun h => ?_) <;> (conv => whnf)) | (refine Br.mk (fun h => ?_) (fun h => ?_) <;> (conv => whnf)) | fail)) | (refine SeqW.go ?_; conv => whnf) | (refine cdIs ?_; (first | (refine Cd.mk ?_ ?_; (focus ((repeat' (refine And.intro ?_ ?_)) <;> (first | omega | assumption | exact True.intro | exact rfl | exact allLen_lift (rowsB_all _) | exact rowsB_all _ | (simp only [rowsB_length, liftR, List.length_map, Int.toNat_natCast]; omega) | (simp (disch := omega) only [wrap_i64, rowsB_length, liftR, List.length_map, Int.toNat_natCast, List.length_take, List.length_drop, List.length_append, List.length_replicate]; omega) | exact Nat.le_refl _ | exact allLen_lift (by assumption) | exact allLen_lift (allLen_one rfl) | (simp; done) | (simp; omega)))); conv => whnf) | (refine Cd.mk ⟨Nat.le_of_ble_eq_true rfl, ?_⟩ ?_; (focus ((repeat (first | exact allN | refine allC (by first | exact sc_lift _ _ | exact sc_wes _ _ _ | exact sc_arr rfl | rfl) ?_)); done)); conv => whnf) | rw [rowsB_length] | rw [rowsB_td] | rw [liftB_app] | rw [Int.toNat_natCast] | rw [quoL] | rw [remL] | rw [wrap_i64 (n := ((_ : Nat) : Int)) (by omega) (by omega)] | rw [wrap_i64 (by omega) (by omega)] | (rw [List.length_map]; conv => whnf) | (rw [hget (by omega)]; conv => whnf) | fail)) | (refine PubRows.mk _ ?_ (toRows_map _) ?_; (focus (first | exact rfl | (simp only [List.length_map, rowsB_length, List.length_append]; done) | (simp only [List.length_map, rowsB_length, List.length_append]; omega) | (simp; done) | (simp; omega))); conv => whnf) | (refine PubRows.mk _ rfl rfl ?_; conv => whnf) | (refine Lit.data ?_; conv => whnf) | rw [rowsB_length] | rw [rowsB_td] | rw [liftB_app] | rw [Int.toNat_natCast] | rw [quoL] | rw [remL] | rw [wrap_i64 (n := ((_ : Nat) : Int)) (by omega) (by omega)] | rw [wrap_i64 (by omega) (by omega)] | (rw [List.length_map]; conv => whnf) | (rw [hget (by omega)]; conv => whnf) | fail)
  · have hkk : k.getD i false = k[i] := by rw [List.getD_eq_getElem?_getD, List.getElem?_eq_getElem (by omega)]; rfl
    refine ⟨i + 1, by omega, by omega, ?_, ⟨rfl, rfl, rfl, rfl, trivial⟩, (by repeat (first | exact trivial | refine ⟨rfl, ?_⟩))⟩
    rw [keptB_succ, List.map_append]; simp only [liftR, List.map_append]; exact (by repeat (first | exact trivial | refine ⟨.refl _, ?_⟩))
  · have hkk : k.getD i false = false := by rw [List.getD_eq_getElem?_getD, List.getElem?_eq_none (by omega)]; rfl
    refine ⟨i + 1, by omega, by omega, ?_, ⟨rfl, rfl, rfl, rfl, trivial⟩, (by repeat (first | exact trivial | refine ⟨rfl, ?_⟩))⟩
    rw [keptB_succ, List.map_append, hkk]; simp only [liftR, List.map_append]; exact (by repeat (first | exact trivial | refine ⟨.refl _, ?_⟩))
  · refine ⟨?_, rfl⟩
    rw [show i = n by omega]

/-! ### A disk whose log is always an object -/
abbrev dk (l : List UInt8) (m : List (Int × Nat × List UInt8)) (c : Nat) (ws : List Wr) (fused : Bool) (fuse : Int) : Heap := dObs l m c (some (ws.map lgRow)) fused fuse
theorem load_dk (l : List UInt8) (h : imgOk l) : DetA Try.prog 15 [bytesP l] [] (.tup [.ptr 2 0, errP 0]) (dk l [] 0 [] false 0) :=
  (diskLoad_ok l h).adopt 2 1 66 rfl rfl
/-- A map behind writes. -/
def wrM (ws : List Wr) (m : List (Int × Nat × List UInt8)) (c : Nat) : List (Int × Nat × List UInt8) × Nat := ws.foldl (fun g x => updB x.1 x.2.1 g.1 g.2) (m, c)
abbrev mkW (x : Int × List UInt8) : Wr := (x.1, fullB x.2, false)
theorem write_dk (l : List UInt8) (hl : l.length ≤ 16777216) (m : List (Int × Nat × List UInt8)) (c : Nat) (fused : Bool) (fuse : Int) (hf : 0 ≤ fuse ∧ fuse ≤ 9223372036854775807) (ws : List Wr) (hw : ∀ x ∈ ws, x.2.1.length = 64) (hk : ws.length ≤ 1048576)
    (a : Int) (ha : inB (l.length / 64) (a, ([] : List UInt8)) = true) (b : List UInt8) (hb : b.length = 64) :
    DetA Try.prog 36 [.ptr 2 0, .d (.i .i64 a), bytesP b] (dk l m c ws fused fuse) (errP 0)
      (dk l (updB a b m c).1 (updB a b m c).2 (ws ++ [(a, b, !spendB fused fuse)]) fused (spendN fused fuse)) := by
  simp only [inB, decide_eq_true_eq] at ha
  obtain ⟨n, rfl⟩ : ∃ n : Nat, a = n := ⟨a.toNat, by omega⟩
  have := diskWrite_some l hl m c fused fuse hf (ws.map lgRow) (allLen_lgs ws hw) (by simpa using hk) n (by omega) b hb
  simpa only [dk, List.map_append, List.map_cons, List.map_nil] using this
theorem made_calls (l : List UInt8) (h : imgOk l) (ws : List (Int × List UInt8)) (hw : ∀ x ∈ ws, inB (l.length / 64) x = true) (hb : ∀ x ∈ ws, x.2.length ≤ 1048576) (hn : ws.length ≤ 1048576) :
    DetA Try.prog 26 [bytesP l, wsP ws] [] (.ptr 2 0) (dk l (wrM (ws.map mkW) [] 0).1 (wrM (ws.map mkW) [] 0).2 (ws.map mkW) false 0) := by
  have hl : l.length ≤ 16777216 := by have := h.2.2; omega
  refine callsK_of Try.call26 Try.func26 (c := _) rfl (by kernel_rfl) (Nat.le_of_ble_eq_true rfl) ?_
  ((conv => whnf); repeat (refine SeqW.go ?_; conv => whnf))
  refine (load_dk l h).call fun _ => ?_
  ((conv => whnf); repeat (refine SeqW.go ?_; conv => whnf))
  repeat' (first | (refine brIs ?_; (first | (refine Br.t ?_; conv => whnf) | (refine Br.f ?_; conv => whnf) | (refine Br.ne_self ?_; conv => whnf) | (refine Br.eq_self ?_; conv => whnf) | rw [rowsB_length] | rw [rowsB_td] | rw [liftB_app] | rw [Int.toNat_natCast] | rw [quoL] | rw [remL] | rw [wrap_i64 (n := ((_ : Nat) : Int)) (by omega) (by omega)] | rw [wrap_i64 (by omega) (by omega)] | (refine Br.dec (fun h => absurd h (by omega)) (fun h => ?_); conv => whnf) | (refine Br.dec (fun h => ?_) (fun h => absurd h (by omega)); conv => whnf) | (refine Br.beq (fun h => absurd h (by omega)) (fun h => ?_); conv => whnf) | (refine Br.beq (fun h => ?_) (fun h => absurd h (by omega)); conv => whnf) | (refine Br.bne (fun h => absurd h (by omega)) (fun h => ?_); conv => whnf) | (refine Br.bne (fun h => ?_) (fun h => absurd h (by omega)); conv => whnf) | (refine Br.nbeq (fun h => absurd h (by omega)) (fun h => ?_); conv => whnf) | (refine Br.nbeq (fun h => ?_) (fun h => absurd h (by omega)); conv => whnf) | (refine Br.dec (fun h => ?_) (fun h => ?_) <;> (conv => whnf)) | (refine Br.beq (fun h => ?_) (fun h => ?_) <;> (conv => whnf)) | (refine Br.bne (fun h => ?_) (fun h => ?_) <;> (conv => whnf)) | (refine Br.nbeq (fun h => ?_) (fun h => ?_) <;> (conv => whnf)) | (refine Br.not (fun h => ?_) (fun h => ?_) <;> (conv => whnf)) | (refine Br.mk (fun h => ?_) (fun h => ?_) <;> (conv => whnf)) | fail)) | (refine SeqW.go ?_; conv => whnf) | (refine cdIs ?_; (first | (refine Cd.mk ?_ ?_; (focus ((repeat' (refine And.intro ?_ ?_)) <;> (first | omega | assumption | exact True.intro | exact rfl | exact allLen_lift (rowsB_all _) | exact rowsB_all _ | (simp only [rowsB_length, liftR, List.length_map, Int.toNat_natCast]; omega) | (simp (disch := omega) only [wrap_i64, rowsB_length, liftR, List.length_map, Int.toNat_natCast, List.length_take, List.length_drop, List.length_append, List.length_replicate]; omega) | exact Nat.le_refl _ | exact allLen_lift (by assumption) | exact allLen_lift (allLen_one rfl) | (simp; done) | (simp; omega)))); conv => whnf) | (refine Cd.mk ⟨Nat.le_of_ble_eq_true rfl, ?_⟩ ?_; (focus ((repeat (first | exact allN | refine allC (by first | exact sc_lift _ _ | exact sc_wes _ _ _ | exact sc_arr rfl | rfl) ?_)); done)); conv => whnf) | rw [rowsB_length] | rw [rowsB_td] | rw [liftB_app] | rw [Int.toNat_natCast] | rw [quoL] | rw [remL] | rw [wrap_i64 (n := ((_ : Nat) : Int)) (by omega) (by omega)] | rw [wrap_i64 (by omega) (by omega)] | fail)) | (refine PubRows.mk _ ?_ (toRows_map _) ?_; (focus (first | exact rfl | (simp only [List.length_map, rowsB_length, List.length_append]; done) | (simp only [List.length_map, rowsB_length, List.length_append]; omega) | (simp; done) | (simp; omega))); conv => whnf) | (refine PubRows.mk _ rfl rfl ?_; conv => whnf) | rw [rowsB_length] | rw [rowsB_td] | rw [liftB_app] | rw [Int.toNat_natCast] | rw [quoL] | rw [remL] | rw [wrap_i64 (n := ((_ : Nat) : Int)) (by omega) (by omega)] | rw [wrap_i64 (by omega) (by omega)] | fail)
  refine loopK (by kernel_rfl) (γ := Nat) 4 (fun i => i ≤ ws.length) (fun i => [(7, .d (.i .i64 i))]) (fun i => (List.range 4).zip (dk l (wrM ((ws.take i).map mkW) [] 0).1 (wrM ((ws.take i).map mkW) [] 0).2 ((ws.take i).map mkW) false 0)) (fun i => ws.length - i)
    ⟨rfl, rfl⟩ (fun _ _ => by (repeat (first | exact allN | refine allC (by first | exact sc_lift _ _ | exact sc_wes _ _ _ | exact sc_arr rfl | rfl) ?_))) 0 (Nat.zero_le _) (by repeat (first | exact trivial | refine ⟨.refl _, ?_⟩)) ⟨rfl, rfl, trivial⟩ ?_
  intro i hi
  have hget := ws_get ws i
  have hall := wsAll ws
  have hft := List.length_take_le i ws
  have hwi : ∀ h : i < ws.length, inB (l.length / 64) (ws[i].1, ([] : List UInt8)) = true := fun h => hw ws[i] (List.getElem_mem _)
  have hbi : ∀ h : i < ws.length, ws[i].2.length ≤ 16777216 := fun h => by have := hb ws[i] (List.getElem_mem _); omega
  have hwl : (ws.map wsRow).length = ws.length := by simp
  have hwd := fun h : i < ws.length => write_dk l hl (wrM ((ws.take i).map mkW) [] 0).1 (wrM ((ws.take i).map mkW) [] 0).2 false 0 ⟨Int.le_refl _, by omega⟩ ((ws.take i).map mkW) (fun x hx => by obtain ⟨y, _, rfl⟩ := List.mem_map.1 hx; exact fullB_len _) (by simp; omega) ws[i].1 (hwi h) (fullB ws[i].2) (fullB_len _)
  ((conv => whnf); repeat (refine SeqW.go ?_; conv => whnf))
  repeat' (first | (refine brIs ?_; (first | (refine Br.t ?_; conv => whnf) | (refine Br.f ?_; conv => whnf) | (refine Br.ne_self ?_; conv => whnf) | (refine Br.eq_self ?_; conv => whnf) | rw [rowsB_length] | rw [rowsB_td] | rw [liftB_app] | rw [Int.toNat_natCast] | rw [quoL] | rw [remL] | rw [wrap_i64 (n := ((_ : Nat) : Int)) (by omega) (by omega)] | rw [wrap_i64 (by omega) (by omega)] | (rw [hwl]; conv => whnf) | (rw [hget (by omega)]; conv => whnf) | (refine Br.dec (fun h => absurd h (by omega)) (fun h => ?_); conv => whnf) | (refine Br.dec (fun h => ?_) (fun h => absurd h (by omega)); conv => whnf) | (refine Br.beq (fun h => absurd h (by omega)) (fun h => ?_); conv => whnf) | (refine Br.beq (fun h => ?_) (fun h => absurd h (by omega)); conv => whnf) | (refine Br.bne (fun h => absurd h (by omega)) (fun h => ?_); conv => whnf) | (refine Br.bne (fun h => ?_) (fun h => absurd h (by omega)); conv => whnf) | (refine Br.nbeq (fun h => absurd h (by omega)) (fun h => ?_); conv => whnf) | (refine Br.nbeq (fun h => ?_) (fun h => absurd h (by omega)); conv => whnf) | (refine Br.dec (fun h => ?_) (fun h => ?_) <;> (conv => whnf)) | (refine Br.beq (fun h => ?_) (fun h => ?_) <;> (conv => whnf)) | (refine Br.bne (fun h => ?_) (fun h => ?_) <;> (conv => whnf)) | (refine Br.nbeq (fun h => ?_) (fun h => ?_) <;> (conv => whnf)) | (refine Br.not (fun h => ?_) (fun h => ?_) <;> (conv => whnf)) | (refine Br.mk (fun h => ?_) (fun h => ?_) <;> (conv => whnf)) | fail)) | (refine SeqW.go ?_; conv => whnf) | (refine cdIs ?_; (first | (refine Cd.mk ?_ ?_; (focus ((repeat' (refine And.intro ?_ ?_)) <;> (first | omega | assumption | exact True.intro | exact rfl | exact allLen_lift (rowsB_all _) | exact rowsB_all _ | (simp only [rowsB_length, liftR, List.length_map, Int.toNat_natCast]; omega) | (simp (disch := omega) only [wrap_i64, rowsB_length, liftR, List.length_map, Int.toNat_natCast, List.length_take, List.length_drop, List.length_append, List.length_replicate]; omega) | exact Nat.le_refl _ | exact allLen_lift (by assumption) | exact allLen_lift (allLen_one rfl) | (simp; done) | (simp; omega)))); conv => whnf) | (refine Cd.mk ⟨Nat.le_of_ble_eq_true rfl, ?_⟩ ?_; (focus ((repeat (first | exact allN | refine allC (by first | exact sc_lift _ _ | exact sc_wes _ _ _ | exact sc_arr rfl | rfl) ?_)); done)); conv => whnf) | rw [rowsB_length] | rw [rowsB_td] | rw [liftB_app] | rw [Int.toNat_natCast] | rw [quoL] | rw [remL] | rw [wrap_i64 (n := ((_ : Nat) : Int)) (by omega) (by omega)] | rw [wrap_i64 (by omega) (by omega)] | (rw [hwl]; conv => whnf) | (rw [hget (by omega)]; conv => whnf) | fail)) | (refine PubRows.mk _ ?_ (toRows_map _) ?_; (focus (first | exact rfl | (simp only [List.length_map, rowsB_length, List.length_append]; done) | (simp only [List.length_map, rowsB_length, List.length_append]; omega) | (simp; done) | (simp; omega))); conv => whnf) | (refine PubRows.mk _ rfl rfl ?_; conv => whnf) | (refine drawW [3,5,8,10,11] mixed (by kernel_rfl) (by kernel_rfl) ?_; conv => whnf) | (refine callQ (full_calls _ (hbi (by omega))) rfl rfl ?_; conv => whnf) | (refine (hwd (by omega)).callF ?_; conv => whnf) | rw [rowsB_length] | rw [rowsB_td] | rw [liftB_app] | rw [Int.toNat_natCast] | rw [quoL] | rw [remL] | rw [wrap_i64 (n := ((_ : Nat) : Int)) (by omega) (by omega)] | rw [wrap_i64 (by omega) (by omega)] | (rw [hwl]; conv => whnf) | (rw [hget (by omega)]; conv => whnf) | fail)
  · have e : (ws.take (i + 1)).map mkW = (ws.take i).map mkW ++ [mkW ws[i]] := by rw [List.take_succ_eq_append_getElem (by omega), List.map_append]; rfl
    refine ⟨i + 1, by omega, by omega, ?_, ⟨rfl, rfl, trivial⟩, (by repeat (first | exact trivial | refine ⟨rfl, ?_⟩))⟩
    rw [e]; simp only [wrM, List.foldl_append]; exact (by repeat (first | exact trivial | refine ⟨.refl _, ?_⟩))
  · rw [List.take_of_length_le (by omega)]
    refine ⟨4, Nat.zero_le _, ?_⟩
    conv => whnf
    refine ⟨⟨Nat.le_of_ble_eq_true rfl, by (repeat (first | exact allN | refine allC (by first | exact sc_lift _ _ | exact sc_wes _ _ _ | exact sc_arr rfl | rfl) ?_))⟩, ?_⟩
    conv => whnf
    exact ⟨rfl, rfl⟩
end Go.Aw
