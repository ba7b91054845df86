/- Layer 12: Load; the document's New, Load, Size, Read. -/
import Derived.Test.YthilodmojjlaeaaAwDiskAK
set_option linter.unusedVariables false
set_option linter.unusedSimpArgs false
namespace Go.Aw
open Go.Proofs
set_option maxRecDepth 100000

theorem rem64 (n : Nat) : (n : Int).tmod 64 = ((n % 64 : Nat) : Int) := by
  rw [Int.tmod_eq_emod_of_nonneg (by omega)]; omega
/-- An image that makes a disk. -/
def imgOk (l : List UInt8) : Prop := l ≠ [] ∧ l.length % 64 = 0 ∧ l.length ≤ 4194304

theorem rowsB_len (l : List UInt8) : (rowsB l).length = l.length := by simp [rowsB]
theorem liftB_nil : (liftR (rowsB [])) = [] := rfl

theorem diskLoad_no (l : List UInt8) (hl : l.length ≤ 16777216) (h : ¬ imgOk l) : DetA Try.prog 15 [bytesP l] [] (.tup [.d .nilp, errP 122]) [] := by
  refine callsK_of Try.call15 Try.func15 (c := _) rfl (by kernel_rfl) (Nat.le_of_ble_eq_true rfl) ?_
  ((conv => whnf); repeat (refine SeqW.go ?_; conv => whnf))
  repeat (first | (refine Br.t ?_; conv => whnf) | (refine Cd.mk (by omega) ?_; conv => whnf) | (refine Br.f ?_; conv => whnf) | (refine SeqW.go ?_; conv => whnf))
  rw [rowsB_len]
  first | refine Br.dec (fun g1 => ?_) (fun g1 => ?_) | refine Br.beq (fun g1 => ?_) (fun g1 => ?_) | refine Br.bne (fun g1 => ?_) (fun g1 => ?_) | refine Br.nbeq (fun g1 => ?_) (fun g1 => ?_) | refine Br.not (fun g1 => ?_) (fun g1 => ?_) | refine Br.mk (fun g1 => ?_) (fun g1 => ?_)
  · ((conv => whnf); repeat (refine SeqW.go ?_; conv => whnf))
    repeat (first | (refine Br.t ?_; conv => whnf) | (refine Cd.mk (by omega) ?_; conv => whnf) | (refine Br.f ?_; conv => whnf) | (refine SeqW.go ?_; conv => whnf))
    exact ⟨0, Nat.le_refl _, rfl, rfl⟩
  · ((conv => whnf); repeat (refine SeqW.go ?_; conv => whnf))
    repeat (first | (refine Br.t ?_; conv => whnf) | (refine Cd.mk (by omega) ?_; conv => whnf) | (refine Br.f ?_; conv => whnf) | (refine SeqW.go ?_; conv => whnf))
    rw [rem64]
    first | refine Br.dec (fun g2 => ?_) (fun g2 => ?_) | refine Br.beq (fun g2 => ?_) (fun g2 => ?_) | refine Br.bne (fun g2 => ?_) (fun g2 => ?_) | refine Br.nbeq (fun g2 => ?_) (fun g2 => ?_) | refine Br.not (fun g2 => ?_) (fun g2 => ?_) | refine Br.mk (fun g2 => ?_) (fun g2 => ?_)
    · ((conv => whnf); repeat (refine SeqW.go ?_; conv => whnf))
      repeat (first | (refine Br.t ?_; conv => whnf) | (refine Cd.mk (by omega) ?_; conv => whnf) | (refine Br.f ?_; conv => whnf) | (refine SeqW.go ?_; conv => whnf))
      exact ⟨0, Nat.le_refl _, rfl, rfl⟩
    · ((conv => whnf); repeat (refine SeqW.go ?_; conv => whnf))
      repeat (first | (refine Br.t ?_; conv => whnf) | (refine Cd.mk (by omega) ?_; conv => whnf) | (refine Br.f ?_; conv => whnf) | (refine SeqW.go ?_; conv => whnf))
      first | refine Br.dec (fun g3 => ?_) (fun g3 => ?_) | refine Br.beq (fun g3 => ?_) (fun g3 => ?_) | refine Br.bne (fun g3 => ?_) (fun g3 => ?_) | refine Br.nbeq (fun g3 => ?_) (fun g3 => ?_) | refine Br.not (fun g3 => ?_) (fun g3 => ?_) | refine Br.mk (fun g3 => ?_) (fun g3 => ?_)
      · ((conv => whnf); repeat (refine SeqW.go ?_; conv => whnf))
        repeat (first | (refine Br.t ?_; conv => whnf) | (refine Cd.mk (by omega) ?_; conv => whnf) | (refine Br.f ?_; conv => whnf) | (refine SeqW.go ?_; conv => whnf))
        exact ⟨0, Nat.le_refl _, rfl, rfl⟩
      · exact absurd ⟨fun e => g1 (by rw [e]; rfl), by omega, by omega⟩ h
theorem diskLoad_ok (l : List UInt8) (h : imgOk l) : DetA Try.prog 15 [bytesP l] [] (.tup [.ptr 2 0, errP 0]) (dObs l [] 0 none false 0) := by
  obtain ⟨h1, h2, h3⟩ := h
  have h0 : l.length ≠ 0 := fun e => h1 (List.eq_nil_of_length_eq_zero e)
  refine callsK_of Try.call15 Try.func15 (c := _) rfl (by kernel_rfl) (Nat.le_of_ble_eq_true rfl) ?_
  ((conv => whnf); repeat (refine SeqW.go ?_; conv => whnf))
  repeat (first | (refine Br.t ?_; conv => whnf) | (refine Cd.mk (by omega) ?_; conv => whnf) | (refine Br.f ?_; conv => whnf) | (refine SeqW.go ?_; conv => whnf))
  rw [rowsB_len]
  first | refine Br.dec (fun g1 => ?_) (fun g1 => ?_) | refine Br.beq (fun g1 => ?_) (fun g1 => ?_) | refine Br.bne (fun g1 => ?_) (fun g1 => ?_) | refine Br.nbeq (fun g1 => ?_) (fun g1 => ?_) | refine Br.not (fun g1 => ?_) (fun g1 => ?_) | refine Br.mk (fun g1 => ?_) (fun g1 => ?_)
  · omega
  ((conv => whnf); repeat (refine SeqW.go ?_; conv => whnf))
  repeat (first | (refine Br.t ?_; conv => whnf) | (refine Cd.mk (by omega) ?_; conv => whnf) | (refine Br.f ?_; conv => whnf) | (refine SeqW.go ?_; conv => whnf))
  rw [rem64]
  first | refine Br.dec (fun g2 => ?_) (fun g2 => ?_) | refine Br.beq (fun g2 => ?_) (fun g2 => ?_) | refine Br.bne (fun g2 => ?_) (fun g2 => ?_) | refine Br.nbeq (fun g2 => ?_) (fun g2 => ?_) | refine Br.not (fun g2 => ?_) (fun g2 => ?_) | refine Br.mk (fun g2 => ?_) (fun g2 => ?_)
  · omega
  ((conv => whnf); repeat (refine SeqW.go ?_; conv => whnf))
  repeat (first | (refine Br.t ?_; conv => whnf) | (refine Cd.mk (by omega) ?_; conv => whnf) | (refine Br.f ?_; conv => whnf) | (refine SeqW.go ?_; conv => whnf))
  first | refine Br.dec (fun g3 => ?_) (fun g3 => ?_) | refine Br.beq (fun g3 => ?_) (fun g3 => ?_) | refine Br.bne (fun g3 => ?_) (fun g3 => ?_) | refine Br.nbeq (fun g3 => ?_) (fun g3 => ?_) | refine Br.not (fun g3 => ?_) (fun g3 => ?_) | refine Br.mk (fun g3 => ?_) (fun g3 => ?_)
  · omega
  ((conv => whnf); repeat (refine SeqW.go ?_; conv => whnf))
  repeat (first | (refine Br.t ?_; conv => whnf) | (refine Cd.mk (by omega) ?_; conv => whnf) | (refine Br.f ?_; conv => whnf) | (refine SeqW.go ?_; conv => whnf))
  refine ⟨⟨allLen_lift (rowsB_all _), by simp; omega, by simp; omega⟩, ?_⟩
  ((conv => whnf); repeat (refine SeqW.go ?_; conv => whnf))
  repeat (first | (refine Br.t ?_; conv => whnf) | (refine Cd.mk (by omega) ?_; conv => whnf) | (refine Br.f ?_; conv => whnf) | (refine SeqW.go ?_; conv => whnf))
  refine ⟨3, Nat.zero_le _, ?_⟩
  conv => whnf
  refine ⟨⟨Nat.le_of_ble_eq_true rfl, by (repeat (first | exact allN | refine allC (by first | exact sc_lift _ _ | exact sc_wes _ _ _ | exact sc_arr rfl | rfl) ?_))⟩, ?_⟩
  conv => whnf
  refine ⟨rfl, ?_⟩
  simp [dObs, dBox, dLast, wesB, wes]

/-! ### The document's disk -/
/-- A write that is not synced: its place, its bytes, is it dead? -/
abbrev Wr := Int × List UInt8 × Bool
abbrev wrRow (x : Wr) : List D := [.i .i64 x.1, .sl (rowsB x.2.1), .b x.2.2]
abbrev rwP : Option (List Wr) → PV
  | none => .nils
  | some ws => .own 2 3 (ws.map wrRow).length
abbrev rwX : Option (List Wr) → Heap
  | none => []
  | some ws => [.buf (liftR (ws.map wrRow))]
abbrev rObs (l : List UInt8) (ws : Option (List Wr)) (fused : Bool) (left : Int) : Heap := [dLast l, .box [.own 0 1 l.length, rwP ws, .d (.b fused), .d (.i .i64 left)]] ++ rwX ws

theorem bytesOf_own (l : List UInt8) (hl : l.length ≤ 16777216) : DetA Try.prog 46 [bytesP l] [] (.own 0 1 l.length) [dLast l] := by
  refine callsK_of Try.call46 Try.func46 (c := _) rfl (by kernel_rfl) (Nat.le_of_ble_eq_true rfl) ?_
  ((conv => whnf); repeat (refine SeqW.go ?_; conv => whnf))
  refine ⟨⟨allLen_lift (rowsB_all _), by simp; omega, by simp; omega⟩, ?_⟩
  ((conv => whnf); repeat (refine SeqW.go ?_; conv => whnf))
  refine ⟨1, Nat.zero_le _, ?_⟩
  conv => whnf
  refine ⟨⟨Nat.le_of_ble_eq_true rfl, by (repeat (first | exact allN | refine allC (by first | exact sc_lift _ _ | exact sc_wes _ _ _ | exact sc_arr rfl | rfl) ?_))⟩, ?_⟩
  conv => whnf
  exact ⟨by simp, rfl⟩
theorem bytesOf_calls (l : List UInt8) (hl : l.length ≤ 16777216) : PureA Try.prog 46 [bytesP l] (bytesP l) := by
  refine callsW_of 0 Try.call46 Try.func46 (c := _) rfl (by kernel_rfl) (Nat.le_of_ble_eq_true rfl) (Nat.le_refl 0) ?_
  ((conv => whnf); repeat (refine SeqW.go ?_; conv => whnf))
  refine ⟨⟨allLen_lift (rowsB_all _), by simp; omega, by simp; omega⟩, ?_⟩
  ((conv => whnf); repeat (refine SeqW.go ?_; conv => whnf))
  refine ⟨rowsB l, rfl, toRows_map _, ?_⟩
  ((conv => whnf); repeat (refine SeqW.go ?_; conv => whnf))
  exact ⟨rfl, rfl⟩

theorem bytesOf_sub (l : List UInt8) (hl : l.length ≤ 16777216) (off n : Nat) (h : off + n ≤ l.length) : DetA Try.prog 46 [.sub 0 1 off n l.length] [dLast l] (bytesP ((l.drop off).take n)) [dLast l] := by
  refine callsW_of 1 Try.call46 Try.func46 (c := _) rfl (by kernel_rfl) (Nat.le_of_ble_eq_true rfl) (Nat.le_refl _) ?_
  ((conv => whnf); repeat (refine SeqW.go ?_; conv => whnf))
  refine ⟨⟨rfl, by simp [liftR], allLen_lift (rowsB_all _), by omega⟩, ?_⟩
  ((conv => whnf); repeat (refine SeqW.go ?_; conv => whnf))
  rw [liftB_dt]
  refine ⟨⟨allLen_lift (rowsB_all _), by simp; omega, by simp; omega⟩, ?_⟩
  ((conv => whnf); repeat (refine SeqW.go ?_; conv => whnf))
  refine ⟨_, rfl, toRows_map _, ?_⟩
  conv => whnf
  refine ⟨⟨Nat.le_of_ble_eq_true rfl, by (repeat (first | exact allN | refine allC (by first | exact sc_lift _ _ | exact sc_wes _ _ _ | exact sc_arr rfl | rfl) ?_))⟩, ?_⟩
  conv => whnf
  exact ⟨rfl, rfl⟩
theorem refNew_no (n : Int) (h : n < 1 ∨ 65536 < n) : DetA Try.prog 14 [.d (.i .i64 n)] [] (.tup [.d .nilp, errP 120]) [] := by
  refine callsK_of Try.call14 Try.func14 (c := _) rfl (by kernel_rfl) (Nat.le_of_ble_eq_true rfl) ?_
  ((conv => whnf); repeat (refine SeqW.go ?_; conv => whnf))
  first | refine Br.dec (fun h1 => ?_) (fun h1 => ?_) | refine Br.beq (fun h1 => ?_) (fun h1 => ?_) | refine Br.bne (fun h1 => ?_) (fun h1 => ?_) | refine Br.nbeq (fun h1 => ?_) (fun h1 => ?_) | refine Br.not (fun h1 => ?_) (fun h1 => ?_) | refine Br.mk (fun h1 => ?_) (fun h1 => ?_)
  · ((conv => whnf); repeat (refine SeqW.go ?_; conv => whnf))
    repeat (first | (refine Br.t ?_; conv => whnf) | (refine Cd.mk (by omega) ?_; conv => whnf) | (refine Br.f ?_; conv => whnf) | (refine SeqW.go ?_; conv => whnf))
    exact ⟨0, Nat.le_refl _, rfl, rfl⟩
  · ((conv => whnf); repeat (refine SeqW.go ?_; conv => whnf))
    repeat (first | (refine Br.t ?_; conv => whnf) | (refine Cd.mk (by omega) ?_; conv => whnf) | (refine Br.f ?_; conv => whnf) | (refine SeqW.go ?_; conv => whnf))
    first | refine Br.dec (fun h2 => ?_) (fun h2 => ?_) | refine Br.beq (fun h2 => ?_) (fun h2 => ?_) | refine Br.bne (fun h2 => ?_) (fun h2 => ?_) | refine Br.nbeq (fun h2 => ?_) (fun h2 => ?_) | refine Br.not (fun h2 => ?_) (fun h2 => ?_) | refine Br.mk (fun h2 => ?_) (fun h2 => ?_)
    · ((conv => whnf); repeat (refine SeqW.go ?_; conv => whnf))
      repeat (first | (refine Br.t ?_; conv => whnf) | (refine Cd.mk (by omega) ?_; conv => whnf) | (refine Br.f ?_; conv => whnf) | (refine SeqW.go ?_; conv => whnf))
      exact ⟨0, Nat.le_refl _, rfl, rfl⟩
    · ((conv => whnf); repeat (refine SeqW.go ?_; conv => whnf))
      repeat (first | (refine Br.t ?_; conv => whnf) | (refine Cd.mk (by omega) ?_; conv => whnf) | (refine Br.f ?_; conv => whnf) | (refine SeqW.go ?_; conv => whnf))
      omega
theorem refNew_ok (n : Nat) (h : 1 ≤ n ∧ n ≤ 65536) : DetA Try.prog 14 [.d (.i .i64 n)] [] (.tup [.ptr 1 0, errP 0]) (rObs (List.replicate (n * 64) 0) none false 0) := by
  refine callsK_of Try.call14 Try.func14 (c := _) rfl (by kernel_rfl) (Nat.le_of_ble_eq_true rfl) ?_
  ((conv => whnf); repeat (refine SeqW.go ?_; conv => whnf))
  first | refine Br.dec (fun h1 => ?_) (fun h1 => ?_) | refine Br.beq (fun h1 => ?_) (fun h1 => ?_) | refine Br.bne (fun h1 => ?_) (fun h1 => ?_) | refine Br.nbeq (fun h1 => ?_) (fun h1 => ?_) | refine Br.not (fun h1 => ?_) (fun h1 => ?_) | refine Br.mk (fun h1 => ?_) (fun h1 => ?_)
  · omega
  ((conv => whnf); repeat (refine SeqW.go ?_; conv => whnf))
  repeat (first | (refine Br.t ?_; conv => whnf) | (refine Cd.mk (by omega) ?_; conv => whnf) | (refine Br.f ?_; conv => whnf) | (refine SeqW.go ?_; conv => whnf))
  first | refine Br.dec (fun h2 => ?_) (fun h2 => ?_) | refine Br.beq (fun h2 => ?_) (fun h2 => ?_) | refine Br.bne (fun h2 => ?_) (fun h2 => ?_) | refine Br.nbeq (fun h2 => ?_) (fun h2 => ?_) | refine Br.not (fun h2 => ?_) (fun h2 => ?_) | refine Br.mk (fun h2 => ?_) (fun h2 => ?_)
  · omega
  ((conv => whnf); repeat (refine SeqW.go ?_; conv => whnf))
  repeat (first | (refine Br.t ?_; conv => whnf) | (refine Cd.mk (by omega) ?_; conv => whnf) | (refine Br.f ?_; conv => whnf) | (refine SeqW.go ?_; conv => whnf))
  have e : IntKind.i64.wrap ((n : Int) * 64) = ((n * 64 : Nat) : Int) := by rw [wrap_i64 (by omega) (by omega)]; omega
  refine ⟨by rw [e]; refine ⟨by omega, Int.le_refl _, by omega, by omega⟩, ?_⟩
  ((conv => whnf); repeat (refine SeqW.go ?_; conv => whnf))
  repeat (first | (refine Br.t ?_; conv => whnf) | (refine Cd.mk (by omega) ?_; conv => whnf) | (refine Br.f ?_; conv => whnf) | (refine SeqW.go ?_; conv => whnf))
  have er : List.replicate (IntKind.i64.wrap ((n : Int) * 64)).toNat (List.map cst (Value.int IntKind.u8 0).cells.toList) = liftR (rowsB (List.replicate (n * 64) 0)) := by
    rw [e, Int.toNat_natCast]; simp [liftR, rowsB]; exact .inr ⟨_, rfl, rfl⟩
  rw [er, e, Int.toNat_natCast]
  refine ⟨2, Nat.zero_le _, ?_⟩
  conv => whnf
  refine ⟨⟨Nat.le_of_ble_eq_true rfl, by (repeat (first | exact allN | refine allC (by first | exact sc_lift _ _ | exact sc_wes _ _ _ | exact sc_arr rfl | rfl) ?_))⟩, ?_⟩
  conv => whnf
  exact ⟨rfl, by simp [dLast, rObs]⟩
theorem refLoad_no (l : List UInt8) (hl : l.length ≤ 16777216) (h : ¬ imgOk l) : DetA Try.prog 16 [bytesP l] [] (.tup [.d .nilp, errP 122]) [] := by
  refine callsK_of Try.call16 Try.func16 (c := _) rfl (by kernel_rfl) (Nat.le_of_ble_eq_true rfl) ?_
  ((conv => whnf); repeat (refine SeqW.go ?_; conv => whnf))
  repeat (first | (refine Br.t ?_; conv => whnf) | (refine Cd.mk (by omega) ?_; conv => whnf) | (refine Br.f ?_; conv => whnf) | (refine SeqW.go ?_; conv => whnf))
  rw [rowsB_len]
  first | refine Br.dec (fun g1 => ?_) (fun g1 => ?_) | refine Br.beq (fun g1 => ?_) (fun g1 => ?_) | refine Br.bne (fun g1 => ?_) (fun g1 => ?_) | refine Br.nbeq (fun g1 => ?_) (fun g1 => ?_) | refine Br.not (fun g1 => ?_) (fun g1 => ?_) | refine Br.mk (fun g1 => ?_) (fun g1 => ?_)
  · ((conv => whnf); repeat (refine SeqW.go ?_; conv => whnf))
    repeat (first | (refine Br.t ?_; conv => whnf) | (refine Cd.mk (by omega) ?_; conv => whnf) | (refine Br.f ?_; conv => whnf) | (refine SeqW.go ?_; conv => whnf))
    exact ⟨0, Nat.le_refl _, rfl, rfl⟩
  · ((conv => whnf); repeat (refine SeqW.go ?_; conv => whnf))
    repeat (first | (refine Br.t ?_; conv => whnf) | (refine Cd.mk (by omega) ?_; conv => whnf) | (refine Br.f ?_; conv => whnf) | (refine SeqW.go ?_; conv => whnf))
    rw [rowsB_len, rem64]
    first | refine Br.dec (fun g2 => ?_) (fun g2 => ?_) | refine Br.beq (fun g2 => ?_) (fun g2 => ?_) | refine Br.bne (fun g2 => ?_) (fun g2 => ?_) | refine Br.nbeq (fun g2 => ?_) (fun g2 => ?_) | refine Br.not (fun g2 => ?_) (fun g2 => ?_) | refine Br.mk (fun g2 => ?_) (fun g2 => ?_)
    · ((conv => whnf); repeat (refine SeqW.go ?_; conv => whnf))
      repeat (first | (refine Br.t ?_; conv => whnf) | (refine Cd.mk (by omega) ?_; conv => whnf) | (refine Br.f ?_; conv => whnf) | (refine SeqW.go ?_; conv => whnf))
      exact ⟨0, Nat.le_refl _, rfl, rfl⟩
    · ((conv => whnf); repeat (refine SeqW.go ?_; conv => whnf))
      repeat (first | (refine Br.t ?_; conv => whnf) | (refine Cd.mk (by omega) ?_; conv => whnf) | (refine Br.f ?_; conv => whnf) | (refine SeqW.go ?_; conv => whnf))
      rw [rowsB_len]
      first | refine Br.dec (fun g3 => ?_) (fun g3 => ?_) | refine Br.beq (fun g3 => ?_) (fun g3 => ?_) | refine Br.bne (fun g3 => ?_) (fun g3 => ?_) | refine Br.nbeq (fun g3 => ?_) (fun g3 => ?_) | refine Br.not (fun g3 => ?_) (fun g3 => ?_) | refine Br.mk (fun g3 => ?_) (fun g3 => ?_)
      · ((conv => whnf); repeat (refine SeqW.go ?_; conv => whnf))
        repeat (first | (refine Br.t ?_; conv => whnf) | (refine Cd.mk (by omega) ?_; conv => whnf) | (refine Br.f ?_; conv => whnf) | (refine SeqW.go ?_; conv => whnf))
        exact ⟨0, Nat.le_refl _, rfl, rfl⟩
      · exact absurd ⟨fun e => g1 (by rw [e]; rfl), by omega, by omega⟩ h
theorem refLoad_ok (l : List UInt8) (h : imgOk l) : DetA Try.prog 16 [bytesP l] [] (.tup [.ptr 1 0, errP 0]) (rObs l none false 0) := by
  obtain ⟨h1, h2, h3⟩ := h
  have h0 : l.length ≠ 0 := fun e => h1 (List.eq_nil_of_length_eq_zero e)
  refine callsK_of Try.call16 Try.func16 (c := _) rfl (by kernel_rfl) (Nat.le_of_ble_eq_true rfl) ?_
  ((conv => whnf); repeat (refine SeqW.go ?_; conv => whnf))
  repeat (first | (refine Br.t ?_; conv => whnf) | (refine Cd.mk (by omega) ?_; conv => whnf) | (refine Br.f ?_; conv => whnf) | (refine SeqW.go ?_; conv => whnf))
  rw [rowsB_len]
  first | refine Br.dec (fun g1 => ?_) (fun g1 => ?_) | refine Br.beq (fun g1 => ?_) (fun g1 => ?_) | refine Br.bne (fun g1 => ?_) (fun g1 => ?_) | refine Br.nbeq (fun g1 => ?_) (fun g1 => ?_) | refine Br.not (fun g1 => ?_) (fun g1 => ?_) | refine Br.mk (fun g1 => ?_) (fun g1 => ?_)
  · omega
  ((conv => whnf); repeat (refine SeqW.go ?_; conv => whnf))
  repeat (first | (refine Br.t ?_; conv => whnf) | (refine Cd.mk (by omega) ?_; conv => whnf) | (refine Br.f ?_; conv => whnf) | (refine SeqW.go ?_; conv => whnf))
  rw [rowsB_len, rem64]
  first | refine Br.dec (fun g2 => ?_) (fun g2 => ?_) | refine Br.beq (fun g2 => ?_) (fun g2 => ?_) | refine Br.bne (fun g2 => ?_) (fun g2 => ?_) | refine Br.nbeq (fun g2 => ?_) (fun g2 => ?_) | refine Br.not (fun g2 => ?_) (fun g2 => ?_) | refine Br.mk (fun g2 => ?_) (fun g2 => ?_)
  · omega
  ((conv => whnf); repeat (refine SeqW.go ?_; conv => whnf))
  repeat (first | (refine Br.t ?_; conv => whnf) | (refine Cd.mk (by omega) ?_; conv => whnf) | (refine Br.f ?_; conv => whnf) | (refine SeqW.go ?_; conv => whnf))
  rw [rowsB_len]
  first | refine Br.dec (fun g3 => ?_) (fun g3 => ?_) | refine Br.beq (fun g3 => ?_) (fun g3 => ?_) | refine Br.bne (fun g3 => ?_) (fun g3 => ?_) | refine Br.nbeq (fun g3 => ?_) (fun g3 => ?_) | refine Br.not (fun g3 => ?_) (fun g3 => ?_) | refine Br.mk (fun g3 => ?_) (fun g3 => ?_)
  · omega
  ((conv => whnf); repeat (refine SeqW.go ?_; conv => whnf))
  repeat (first | (refine Br.t ?_; conv => whnf) | (refine Cd.mk (by omega) ?_; conv => whnf) | (refine Br.f ?_; conv => whnf) | (refine SeqW.go ?_; conv => whnf))
  refine (bytesOf_own l (by omega)).call fun _ => ?_
  ((conv => whnf); repeat (refine SeqW.go ?_; conv => whnf))
  repeat (first | (refine Br.t ?_; conv => whnf) | (refine Cd.mk (by omega) ?_; conv => whnf) | (refine Br.f ?_; conv => whnf) | (refine SeqW.go ?_; conv => whnf))
  refine ⟨2, Nat.zero_le _, ?_⟩
  conv => whnf
  refine ⟨⟨Nat.le_of_ble_eq_true rfl, by (repeat (first | exact allN | refine allC (by first | exact sc_lift _ _ | exact sc_wes _ _ _ | exact sc_arr rfl | rfl) ?_))⟩, ?_⟩
  conv => whnf
  exact ⟨rfl, rfl⟩

theorem refSize_nil : PureA Try.prog 19 [.d .nilp] (errP 0) := by
  refine callsW_of 0 Try.call19 Try.func19 (c := _) rfl (by kernel_rfl) (Nat.le_of_ble_eq_true rfl) (Nat.le_refl 0) ?_
  ((conv => whnf); repeat (refine SeqW.go ?_; conv => whnf))
  repeat (first | (refine Br.t ?_; conv => whnf) | (refine Cd.mk (by omega) ?_; conv => whnf) | (refine Br.f ?_; conv => whnf) | (refine SeqW.go ?_; conv => whnf))
  exact ⟨rfl, rfl⟩
theorem rObs_sc (l : List UInt8) (ws : Option (List Wr)) (fused : Bool) (left : Int) : (rObs l ws fused left).all (Ob.sc (rObs l ws fused left).length) = true := by
  cases ws <;> (repeat (first | exact allN | refine allC (by first | exact sc_lift _ _ | exact sc_wes _ _ _ | exact sc_arr rfl | rfl) ?_))
theorem refRead_nil (at_ : Int) : PureA Try.prog 21 [.d .nilp, .d (.i .i64 at_)] (.tup [bytesP [], errP 1]) := by
  refine callsW_of 0 Try.call21 Try.func21 (c := _) rfl (by kernel_rfl) (Nat.le_of_ble_eq_true rfl) (Nat.le_refl _) ?_
  ((conv => whnf); repeat (refine SeqW.go ?_; conv => whnf))
  repeat (first | (refine Br.t ?_; conv => whnf) | (refine Cd.mk (by omega) ?_; conv => whnf) | (refine Br.f ?_; conv => whnf) | (refine SeqW.go ?_; conv => whnf))
  exact ⟨rfl, rfl⟩

theorem wrRow_get (ws : List Wr) (i : Nat) (hi : i < ws.length) : (liftR (ws.map wrRow)).getD (i : Int).toNat [] = (wrRow ws[i]).map .d := by
  rw [Int.toNat_natCast, List.getD_eq_getElem?_getD, List.getElem?_eq_getElem (by simp [liftR]; exact hi)]
  simp [liftR]
theorem allLen_wr (ws : List Wr) : AllLen 3 (liftR (ws.map wrRow)) := by
  intro r hr
  simp only [liftR, List.map_map, List.mem_map] at hr
  obtain ⟨x, _, rfl⟩ := hr
  rfl
/-- What the document's disk reads: the last write there. -/
def lastW (at_ : Int) : List Wr → Option (List UInt8)
  | [] => none
  | x :: r => match lastW at_ r with
    | some b => some b
    | none => if x.1 = at_ then some x.2.1 else none
theorem lastW_at {a : Int} : ∀ (ws : List Wr) (i : Nat) (hi : i < ws.length), lastW a (ws.drop (i + 1)) = none → ws[i].1 = a → lastW a ws = some ws[i].2.1
  | [], i, hi, h, e => by simp at hi
  | x :: r, 0, hi, h, e => by
    simp only [List.drop_succ_cons, List.drop_zero] at h
    simp only [lastW, h]
    rw [if_pos (by simpa using e)]
    rfl
  | x :: r, i + 1, hi, h, e => by
    have := lastW_at r i (by simpa using hi) (by simpa using h) (by simpa using e)
    simp only [lastW, this]
    simp
def readR (l : List UInt8) (ws : Option (List Wr)) (at_ : Int) : List UInt8 := match lastW at_ (ws.getD []) with
  | some b => b
  | none => (l.drop (at_.toNat * 64)).take 64
section
variable (l : List UInt8) (hl : l.length ≤ 16777216) (ws : Option (List Wr)) (fused : Bool) (left : Int)
include hl
theorem refSize_calls :
    DetA Try.prog 19 [.ptr 1 0] (rObs l ws fused left) (errP (l.length / 64 : Nat)) (rObs l ws fused left) := by
  cases ws
  all_goals
    refine callsW_of (rObs l _ fused left).length Try.call19 Try.func19 (c := _) rfl (by kernel_rfl) (Nat.le_of_ble_eq_true rfl) (Nat.le_refl _) ?_
    ((conv => whnf); repeat (refine SeqW.go ?_; conv => whnf))
    repeat (first | (refine Br.t ?_; conv => whnf) | (refine Cd.mk (by omega) ?_; conv => whnf) | (refine Br.f ?_; conv => whnf) | (refine SeqW.go ?_; conv => whnf))
    refine ⟨⟨Nat.le_of_ble_eq_true rfl, by (repeat (first | exact allN | refine allC (by first | exact sc_lift _ _ | exact sc_wes _ _ _ | exact sc_arr rfl | rfl) ?_))⟩, ?_⟩
    conv => whnf
    exact ⟨by rw [quo64 (by omega)], rfl⟩
theorem refSeen_none (at_ : Nat) (ha : at_ < l.length / 64) :
    DetA Try.prog 48 [.ptr 1 0, .d (.i .i64 at_)] (rObs l none fused left) (bytesP ((l.drop (at_ * 64)).take 64)) (rObs l none fused left) := by
  refine callsW_of (rObs l none fused left).length Try.call48 Try.func48 (c := _) rfl (by kernel_rfl) (Nat.le_of_ble_eq_true rfl) (Nat.le_refl _) ?_
  ((conv => whnf); repeat (refine SeqW.go ?_; conv => whnf))
  repeat (first | (refine Br.t ?_; conv => whnf) | (refine Cd.mk (by omega) ?_; conv => whnf) | (refine Br.f ?_; conv => whnf) | (refine SeqW.go ?_; conv => whnf))
  refine loopK (by kernel_rfl) (γ := Unit) 2 (fun _ => True) (fun _ => [(5, .d (.i .i64 (-1)))]) (fun _ => []) (fun _ => 0)
    ⟨rfl, rfl⟩ (fun _ _ => by (repeat (first | exact allN | refine allC (by first | exact sc_lift _ _ | exact sc_wes _ _ _ | exact sc_arr rfl | rfl) ?_))) () trivial (by repeat (first | exact trivial | refine ⟨.refl _, ?_⟩)) ⟨rfl, rfl, trivial⟩ ?_
  rintro g -
  ((conv => whnf); repeat (refine SeqW.go ?_; conv => whnf))
  repeat (first | (refine Br.t ?_; conv => whnf) | (refine Cd.mk (by omega) ?_; conv => whnf) | (refine Br.f ?_; conv => whnf) | (refine SeqW.go ?_; conv => whnf))
  have e1 : IntKind.i64.wrap ((at_ : Int) * 64) = ((at_ * 64 : Nat) : Int) := by rw [wrap_i64 (by omega) (by omega)]; omega
  have e2 : IntKind.i64.wrap (IntKind.i64.wrap ((at_ : Int) + 1) * 64) = ((at_ * 64 + 64 : Nat) : Int) := by rw [wrap_i64 (n := (at_ : Int) + 1) (by omega) (by omega), wrap_i64 (by omega) (by omega)]; omega
  refine ⟨⟨by simp [liftR], rfl⟩, ?_⟩
  ((conv => whnf); repeat (refine SeqW.go ?_; conv => whnf))
  rw [e2]
  refine ⟨⟨by omega, by omega⟩, ?_⟩
  ((conv => whnf); repeat (refine SeqW.go ?_; conv => whnf))
  rw [e1]
  refine ⟨⟨by omega, by omega⟩, ?_⟩
  ((conv => whnf); repeat (refine SeqW.go ?_; conv => whnf))
  repeat (first | (refine Br.t ?_; conv => whnf) | (refine Cd.mk (by omega) ?_; conv => whnf) | (refine Br.f ?_; conv => whnf) | (refine SeqW.go ?_; conv => whnf))
  rw [show ((at_ * 64 + 64 : Nat) : Int).toNat - ((at_ * 64 : Nat) : Int).toNat = 64 by simp only [Int.toNat_natCast]; omega, Int.toNat_natCast]
  refine ((bytesOf_sub l hl (at_ * 64) 64 (by omega)).more [_] rfl (by rfl) (by (repeat (first | exact allN | refine allC (by first | exact sc_lift _ _ | exact sc_wes _ _ _ | exact sc_arr rfl | rfl) ?_))) (by (repeat (first | exact allN | refine allC (by first | exact sc_lift _ _ | exact sc_wes _ _ _ | exact sc_arr rfl | rfl) ?_)))).call fun _ => ?_
  ((conv => whnf); repeat (refine SeqW.go ?_; conv => whnf))
  repeat (first | (refine Br.t ?_; conv => whnf) | (refine Cd.mk (by omega) ?_; conv => whnf) | (refine Br.f ?_; conv => whnf) | (refine SeqW.go ?_; conv => whnf))
  refine ⟨⟨Nat.le_of_ble_eq_true rfl, by (repeat (first | exact allN | refine allC (by first | exact sc_lift _ _ | exact sc_wes _ _ _ | exact sc_arr rfl | rfl) ?_))⟩, ?_⟩
  conv => whnf
  exact ⟨rfl, rfl⟩
theorem refSeen_some (ws : List Wr) (hn : ws.length ≤ 16777216) (hb : ∀ x ∈ ws, x.2.1.length = 64) (at_ : Nat) (ha : at_ < l.length / 64) :
    DetA Try.prog 48 [.ptr 1 0, .d (.i .i64 at_)] (rObs l (some ws) fused left) (bytesP (readR l (some ws) at_)) (rObs l (some ws) fused left) := by
  refine callsW_of (rObs l (some ws) fused left).length Try.call48 Try.func48 (c := _) rfl (by kernel_rfl) (Nat.le_of_ble_eq_true rfl) (Nat.le_refl _) ?_
  ((conv => whnf); repeat (refine SeqW.go ?_; conv => whnf))
  repeat (first | (refine Br.t ?_; conv => whnf) | (refine Cd.mk (by omega) ?_; conv => whnf) | (refine Br.f ?_; conv => whnf) | (refine SeqW.go ?_; conv => whnf))
  refine loopK (by kernel_rfl) (γ := Nat) 3 (fun j => j ≤ ws.length ∧ lastW at_ (ws.drop j) = none) (fun j => [(5, .d (.i .i64 ((j : Int) - 1)))]) (fun _ => []) (fun j => j)
    ⟨rfl, rfl⟩ (fun _ _ => by (repeat (first | exact allN | refine allC (by first | exact sc_lift _ _ | exact sc_wes _ _ _ | exact sc_arr rfl | rfl) ?_))) ws.length ⟨Nat.le_refl _, by rw [List.drop_length]; rfl⟩ (by repeat (first | exact trivial | refine ⟨.refl _, ?_⟩)) ⟨by rw [List.length_map]; exact congrArg (fun z => PV.d (.i .i64 z)) (wrap_i64 (by omega) (by omega)), rfl, trivial⟩ ?_
  rintro j ⟨hj, hw⟩
  rcases j with _ | i
  · ((conv => whnf); repeat (refine SeqW.go ?_; conv => whnf))
    repeat (first | (refine Br.t ?_; conv => whnf) | (refine Cd.mk (by omega) ?_; conv => whnf) | (refine Br.f ?_; conv => whnf) | (refine SeqW.go ?_; conv => whnf))
    have e1 : IntKind.i64.wrap ((at_ : Int) * 64) = ((at_ * 64 : Nat) : Int) := by rw [wrap_i64 (by omega) (by omega)]; omega
    have e2 : IntKind.i64.wrap (IntKind.i64.wrap ((at_ : Int) + 1) * 64) = ((at_ * 64 + 64 : Nat) : Int) := by rw [wrap_i64 (n := (at_ : Int) + 1) (by omega) (by omega), wrap_i64 (by omega) (by omega)]; omega
    refine ⟨⟨by simp [liftR], rfl⟩, ?_⟩
    ((conv => whnf); repeat (refine SeqW.go ?_; conv => whnf))
    rw [e2]
    refine ⟨⟨by omega, by omega⟩, ?_⟩
    ((conv => whnf); repeat (refine SeqW.go ?_; conv => whnf))
    rw [e1]
    refine ⟨⟨by omega, by omega⟩, ?_⟩
    ((conv => whnf); repeat (refine SeqW.go ?_; conv => whnf))
    repeat (first | (refine Br.t ?_; conv => whnf) | (refine Cd.mk (by omega) ?_; conv => whnf) | (refine Br.f ?_; conv => whnf) | (refine SeqW.go ?_; conv => whnf))
    rw [show ((at_ * 64 + 64 : Nat) : Int).toNat - ((at_ * 64 : Nat) : Int).toNat = 64 by simp only [Int.toNat_natCast]; omega, Int.toNat_natCast]
    refine ((bytesOf_sub l hl (at_ * 64) 64 (by omega)).more [_, _] rfl (by rfl) (by (repeat (first | exact allN | refine allC (by first | exact sc_lift _ _ | exact sc_wes _ _ _ | exact sc_arr rfl | rfl) ?_))) (by (repeat (first | exact allN | refine allC (by first | exact sc_lift _ _ | exact sc_wes _ _ _ | exact sc_arr rfl | rfl) ?_)))).call fun _ => ?_
    ((conv => whnf); repeat (refine SeqW.go ?_; conv => whnf))
    repeat (first | (refine Br.t ?_; conv => whnf) | (refine Cd.mk (by omega) ?_; conv => whnf) | (refine Br.f ?_; conv => whnf) | (refine SeqW.go ?_; conv => whnf))
    refine ⟨⟨Nat.le_of_ble_eq_true rfl, by (repeat (first | exact allN | refine allC (by first | exact sc_lift _ _ | exact sc_wes _ _ _ | exact sc_arr rfl | rfl) ?_))⟩, ?_⟩
    conv => whnf
    refine ⟨?_, rfl⟩
    rw [List.drop_zero] at hw
    rw [readR, Option.getD_some, hw]
    rfl
  have ei : (((i + 1 : Nat) : Int) - 1) = (i : Int) := by omega
  rw [ei]
  have hrow : (liftR (ws.map wrRow)).getD (i : Int).toNat [] = (wrRow ws[i]).map .d := wrRow_get ws i (by omega)
  ((conv => whnf); repeat (refine SeqW.go ?_; conv => whnf))
  repeat (first | (refine Br.t ?_; conv => whnf) | (refine Cd.mk (by omega) ?_; conv => whnf) | (refine Br.f ?_; conv => whnf) | (refine SeqW.go ?_; conv => whnf))
  refine ⟨⟨rfl, by simp [liftR], by omega, by simp; omega⟩, ?_⟩
  ((conv => whnf); repeat (refine SeqW.go ?_; conv => whnf))
  refine ⟨⟨by simp [liftR], allLen_wr ws, by simp; omega⟩, ?_⟩
  ((conv => whnf); repeat (refine SeqW.go ?_; conv => whnf))
  refine ⟨(show (0 : Nat) < 3 by omega), ?_⟩
  rw [hrow]
  ((conv => whnf); repeat (refine SeqW.go ?_; conv => whnf))
  repeat (first | (refine Br.t ?_; conv => whnf) | (refine Cd.mk (by omega) ?_; conv => whnf) | (refine Br.f ?_; conv => whnf) | (refine SeqW.go ?_; conv => whnf))
  first | refine Br.dec (fun g1 => ?_) (fun g1 => ?_) | refine Br.beq (fun g1 => ?_) (fun g1 => ?_) | refine Br.bne (fun g1 => ?_) (fun g1 => ?_) | refine Br.nbeq (fun g1 => ?_) (fun g1 => ?_) | refine Br.not (fun g1 => ?_) (fun g1 => ?_) | refine Br.mk (fun g1 => ?_) (fun g1 => ?_)
  · ((conv => whnf); repeat (refine SeqW.go ?_; conv => whnf))
    repeat (first | (refine Br.t ?_; conv => whnf) | (refine Cd.mk (by omega) ?_; conv => whnf) | (refine Br.f ?_; conv => whnf) | (refine SeqW.go ?_; conv => whnf))
    refine ⟨⟨rfl, by simp [liftR], by omega, by simp; omega⟩, ?_⟩
    ((conv => whnf); repeat (refine SeqW.go ?_; conv => whnf))
    refine ⟨⟨by simp [liftR], allLen_wr ws, by simp; omega⟩, ?_⟩
    ((conv => whnf); repeat (refine SeqW.go ?_; conv => whnf))
    refine ⟨(show (1 : Nat) < 3 by omega), ?_⟩
    rw [hrow]
    ((conv => whnf); repeat (refine SeqW.go ?_; conv => whnf))
    repeat (first | (refine Br.t ?_; conv => whnf) | (refine Cd.mk (by omega) ?_; conv => whnf) | (refine Br.f ?_; conv => whnf) | (refine SeqW.go ?_; conv => whnf))
    have hlb := hb ws[i] (List.getElem_mem _)
    refine callP (bytesOf_calls ws[i].2.1 (by omega)) rfl rfl fun _ => ?_
    ((conv => whnf); repeat (refine SeqW.go ?_; conv => whnf))
    repeat (first | (refine Br.t ?_; conv => whnf) | (refine Cd.mk (by omega) ?_; conv => whnf) | (refine Br.f ?_; conv => whnf) | (refine SeqW.go ?_; conv => whnf))
    refine ⟨⟨Nat.le_of_ble_eq_true rfl, by (repeat (first | exact allN | refine allC (by first | exact sc_lift _ _ | exact sc_wes _ _ _ | exact sc_arr rfl | rfl) ?_))⟩, ?_⟩
    conv => whnf
    refine ⟨?_, rfl⟩
    have : lastW at_ ws = some ws[i].2.1 := lastW_at ws i (by omega) hw (by simpa using g1)
    rw [readR, Option.getD_some, this]
  · ((conv => whnf); repeat (refine SeqW.go ?_; conv => whnf))
    repeat (first | (refine Br.t ?_; conv => whnf) | (refine Cd.mk (by omega) ?_; conv => whnf) | (refine Br.f ?_; conv => whnf) | (refine SeqW.go ?_; conv => whnf))
    refine ⟨i, ⟨by omega, ?_⟩, by omega, (by repeat (first | exact trivial | refine ⟨.refl _, ?_⟩)), ⟨by rw [wrap_i64 (by omega) (by omega)]; rfl, rfl, trivial⟩, (by repeat (first | exact trivial | refine ⟨rfl, ?_⟩))⟩
    rw [List.drop_eq_getElem_cons (by omega), lastW, hw]
    simp only
    rw [if_neg g1]
/-- The writes are of whole sectors, and not too many. -/
def WOk (ws : Option (List Wr)) : Prop := (ws.getD []).length ≤ 16777216 ∧ ∀ x ∈ ws.getD [], x.2.1.length = 64
theorem refSeen_calls (hw : WOk ws) (at_ : Nat) (ha : at_ < l.length / 64) :
    DetA Try.prog 48 [.ptr 1 0, .d (.i .i64 at_)] (rObs l ws fused left) (bytesP (readR l ws at_)) (rObs l ws fused left) := by
  cases ws with
  | none => exact refSeen_none l hl fused left at_ ha
  | some ws => exact refSeen_some l hl fused left ws hw.1 hw.2 at_ ha
theorem refRead_no (at_ : Int) (ha : at_ < 0 ∨ (l.length / 64 : Nat) ≤ at_) :
    DetA Try.prog 21 [.ptr 1 0, .d (.i .i64 at_)] (rObs l ws fused left) (.tup [bytesP [], errP 120]) (rObs l ws fused left) := by
  cases ws
  all_goals
    refine callsW_of (rObs l _ fused left).length Try.call21 Try.func21 (c := _) rfl (by kernel_rfl) (Nat.le_of_ble_eq_true rfl) (Nat.le_refl _) ?_
    ((conv => whnf); repeat (refine SeqW.go ?_; conv => whnf))
    repeat (first | (refine Br.t ?_; conv => whnf) | (refine Cd.mk (by omega) ?_; conv => whnf) | (refine Br.f ?_; conv => whnf) | (refine SeqW.go ?_; conv => whnf))
    first | refine Br.dec (fun h1 => ?_) (fun h1 => ?_) | refine Br.beq (fun h1 => ?_) (fun h1 => ?_) | refine Br.bne (fun h1 => ?_) (fun h1 => ?_) | refine Br.nbeq (fun h1 => ?_) (fun h1 => ?_) | refine Br.not (fun h1 => ?_) (fun h1 => ?_) | refine Br.mk (fun h1 => ?_) (fun h1 => ?_)
    · ((conv => whnf); repeat (refine SeqW.go ?_; conv => whnf))
      repeat (first | (refine Br.t ?_; conv => whnf) | (refine Cd.mk (by omega) ?_; conv => whnf) | (refine Br.f ?_; conv => whnf) | (refine SeqW.go ?_; conv => whnf))
      refine ⟨⟨Nat.le_of_ble_eq_true rfl, by (repeat (first | exact allN | refine allC (by first | exact sc_lift _ _ | exact sc_wes _ _ _ | exact sc_arr rfl | rfl) ?_))⟩, ?_⟩
      conv => whnf
      exact ⟨rfl, rfl⟩
    · ((conv => whnf); repeat (refine SeqW.go ?_; conv => whnf))
      repeat (first | (refine Br.t ?_; conv => whnf) | (refine Cd.mk (by omega) ?_; conv => whnf) | (refine Br.f ?_; conv => whnf) | (refine SeqW.go ?_; conv => whnf))
      rw [quo64 (by omega)]
      first | refine Br.dec (fun h2 => ?_) (fun h2 => ?_) | refine Br.beq (fun h2 => ?_) (fun h2 => ?_) | refine Br.bne (fun h2 => ?_) (fun h2 => ?_) | refine Br.nbeq (fun h2 => ?_) (fun h2 => ?_) | refine Br.not (fun h2 => ?_) (fun h2 => ?_) | refine Br.mk (fun h2 => ?_) (fun h2 => ?_)
      · ((conv => whnf); repeat (refine SeqW.go ?_; conv => whnf))
        repeat (first | (refine Br.t ?_; conv => whnf) | (refine Cd.mk (by omega) ?_; conv => whnf) | (refine Br.f ?_; conv => whnf) | (refine SeqW.go ?_; conv => whnf))
        refine ⟨⟨Nat.le_of_ble_eq_true rfl, by (repeat (first | exact allN | refine allC (by first | exact sc_lift _ _ | exact sc_wes _ _ _ | exact sc_arr rfl | rfl) ?_))⟩, ?_⟩
        conv => whnf
        exact ⟨rfl, rfl⟩
      · omega
theorem refRead_ok (hw : WOk ws) (at_ : Nat) (ha : at_ < l.length / 64) :
    DetA Try.prog 21 [.ptr 1 0, .d (.i .i64 at_)] (rObs l ws fused left) (.tup [bytesP (readR l ws at_), errP 0]) (rObs l ws fused left) := by
  have hs := refSeen_calls l hl ws fused left hw at_ ha
  cases ws
  all_goals
    refine callsW_of (rObs l _ fused left).length Try.call21 Try.func21 (c := _) rfl (by kernel_rfl) (Nat.le_of_ble_eq_true rfl) (Nat.le_refl _) ?_
    ((conv => whnf); repeat (refine SeqW.go ?_; conv => whnf))
    repeat (first | (refine Br.t ?_; conv => whnf) | (refine Cd.mk (by omega) ?_; conv => whnf) | (refine Br.f ?_; conv => whnf) | (refine SeqW.go ?_; conv => whnf))
    rw [quo64 (by omega)]
    first | refine Br.dec (fun h2 => ?_) (fun h2 => ?_) | refine Br.beq (fun h2 => ?_) (fun h2 => ?_) | refine Br.bne (fun h2 => ?_) (fun h2 => ?_) | refine Br.nbeq (fun h2 => ?_) (fun h2 => ?_) | refine Br.not (fun h2 => ?_) (fun h2 => ?_) | refine Br.mk (fun h2 => ?_) (fun h2 => ?_)
    · omega
    ((conv => whnf); repeat (refine SeqW.go ?_; conv => whnf))
    repeat (first | (refine Br.t ?_; conv => whnf) | (refine Cd.mk (by omega) ?_; conv => whnf) | (refine Br.f ?_; conv => whnf) | (refine SeqW.go ?_; conv => whnf))
    refine hs.call fun _ => ?_
    ((conv => whnf); repeat (refine SeqW.go ?_; conv => whnf))
    repeat (first | (refine Br.t ?_; conv => whnf) | (refine Cd.mk (by omega) ?_; conv => whnf) | (refine Br.f ?_; conv => whnf) | (refine SeqW.go ?_; conv => whnf))
    refine ⟨⟨Nat.le_of_ble_eq_true rfl, by (repeat (first | exact allN | refine allC (by first | exact sc_lift _ _ | exact sc_wes _ _ _ | exact sc_arr rfl | rfl) ?_))⟩, ?_⟩
    conv => whnf
    exact ⟨rfl, rfl⟩
def rdR (l : List UInt8) (ws : Option (List Wr)) (at_ : Int) : List UInt8 := if 0 ≤ at_ ∧ at_ < (l.length / 64 : Nat) then readR l ws at_ else []
theorem refRead_calls (hw : WOk ws) (at_ : Int) :
    DetA Try.prog 21 [.ptr 1 0, .d (.i .i64 at_)] (rObs l ws fused left) (.tup [bytesP (rdR l ws at_), errP (rdE l at_)]) (rObs l ws fused left) := by
  by_cases h : 0 ≤ at_ ∧ at_ < (l.length / 64 : Nat)
  · obtain ⟨n, rfl⟩ : ∃ n : Nat, at_ = n := ⟨at_.toNat, by omega⟩
    rw [rdR, rdE, if_pos h, if_pos h]
    exact refRead_ok l hl ws fused left hw n (by omega)
  · rw [rdR, rdE, if_neg h, if_neg h]
    exact refRead_no l hl ws fused left at_ (by omega)
end

/-! ### Pending, of a disk without unsynced writes -/
theorem diskPending_nil : PureA Try.prog 22 [.d .nilp] (.d (.sl [])) := by
  refine callsW_of 0 Try.call22 Try.func22 (c := _) rfl (by kernel_rfl) (Nat.le_of_ble_eq_true rfl) (Nat.le_refl _) ?_
  ((conv => whnf); repeat (refine SeqW.go ?_; conv => whnf))
  repeat (first | (refine Br.t ?_; conv => whnf) | (refine Cd.mk (by omega) ?_; conv => whnf) | (refine Br.f ?_; conv => whnf) | (refine SeqW.go ?_; conv => whnf))
  exact ⟨rfl, rfl⟩
theorem diskPending_none (l : List UInt8) (m : List (Int × Nat × List UInt8)) (c : Nat) (fused : Bool) (fuse : Int) :
    DetA Try.prog 22 [.ptr 2 0] (dObs l m c none fused fuse) (.d (.sl [])) (dObs l m c none fused fuse) := by
  refine callsW_of 3 Try.call22 Try.func22 (c := _) rfl (by kernel_rfl) (Nat.le_of_ble_eq_true rfl) (Nat.le_refl _) ?_
  ((conv => whnf); repeat (refine SeqW.go ?_; conv => whnf))
  repeat (first | (refine Br.t ?_; conv => whnf) | (refine Cd.mk (by omega) ?_; conv => whnf) | (refine Br.f ?_; conv => whnf) | (refine SeqW.go ?_; conv => whnf))
  refine loopK (by kernel_rfl) (γ := Unit) 4 (fun _ => True) (fun _ => [(19, .d (.i .i64 0)), (3, .own 3 1 0)]) (fun _ => []) (fun _ => 0)
    ⟨rfl, rfl⟩ (fun _ _ => by (repeat (first | exact allN | refine allC (by first | exact sc_lift _ _ | exact sc_wes _ _ _ | exact sc_arr rfl | rfl) ?_))) () trivial (by repeat (first | exact trivial | refine ⟨.refl _, ?_⟩)) ⟨rfl, rfl, rfl, rfl, trivial⟩ ?_
  rintro g -
  ((conv => whnf); repeat (refine SeqW.go ?_; conv => whnf))
  repeat (first | (refine Br.t ?_; conv => whnf) | (refine Cd.mk (by omega) ?_; conv => whnf) | (refine Br.f ?_; conv => whnf) | (refine SeqW.go ?_; conv => whnf))
  refine ⟨[], rfl, rfl, ?_⟩
  conv => whnf
  refine ⟨⟨Nat.le_of_ble_eq_true rfl, by (repeat (first | exact allN | refine allC (by first | exact sc_lift _ _ | exact sc_wes _ _ _ | exact sc_arr rfl | rfl) ?_))⟩, ?_⟩
  conv => whnf
  exact ⟨rfl, rfl⟩

end Go.Aw
