/- Layer 12: what the laws make: full, whole, inside, kept. -/
import Derived.Test.YthilodmojjlaeaaAwDiskSK
set_option linter.unusedVariables false
set_option linter.unusedSimpArgs false
namespace Go.Aw
open Go.Proofs
set_option maxRecDepth 100000

/-- The 64 bytes of a write. -/
def fullB (b : List UInt8) : List UInt8 := b.take 64 ++ List.replicate (64 - b.length) 0
theorem fullB_len (b : List UInt8) : (fullB b).length = 64 := by simp [fullB]; omega
/-- The first i of b, then zeros. -/
def partB (b : List UInt8) (i : Nat) : List UInt8 := b.take i ++ List.replicate (64 - i) 0
theorem partB_set (b : List UInt8) (i : Nat) (h : i < b.length) (h2 : i < 64) : ((partB b i).map byD).set i (.i .u8 b[i].toNat) = (partB b (i + 1)).map byD := by
  have e1 : List.replicate (64 - i) (0 : UInt8) = 0 :: List.replicate (64 - (i + 1)) 0 := by rw [show 64 - i = (64 - (i + 1)) + 1 by omega, List.replicate_succ]
  have e2 : ((b.take i).map byD).length = i := by simp; omega
  simp only [partB]
  rw [e1, List.map_append, List.map_cons, List.set_append_right _ _ (by omega), e2, Nat.sub_self, List.set_cons_zero, List.take_succ_eq_append_getElem h]
  simp only [List.map_append, List.map_cons, List.map_nil, List.append_assoc, List.singleton_append]
theorem partB_full (b : List UInt8) (i : Nat) (h : i = b.length ∧ i ≤ 64 ∨ i = 64 ∧ i ≤ b.length) : partB b i = fullB b := by
  rcases h with ⟨rfl, h⟩ | ⟨rfl, h⟩
  · simp only [partB, fullB]; rw [List.take_length, List.take_of_length_le h]
  · simp only [partB, fullB]; rw [show 64 - b.length = 0 by omega]
theorem aslB (X : List UInt8) (h : X.length = 64) : (((X.map byD).drop 0).take (64 - 0)).map (fun d => [d]) = rowsB X := by
  rw [List.drop_zero, List.take_of_length_le (by simp; omega)]
  simp [rowsB]
theorem full_calls (b : List UInt8) (hb : b.length ≤ 16777216) : PureA Try.prog 27 [bytesP b] (bytesP (fullB b)) := by
  refine callsW_of 0 Try.call27 Try.func27 (c := _) rfl (by kernel_rfl) (Nat.le_of_ble_eq_true rfl) (Nat.le_refl 0) ?_
  ((conv => whnf); repeat (refine SeqW.go ?_; conv => whnf))
  refine ⟨by kernel_rfl, ?_⟩
  ((conv => whnf); repeat (refine SeqW.go ?_; conv => whnf))
  repeat (first | (refine Br.t ?_; conv => whnf) | (refine Cd.mk (by omega) ?_; conv => whnf) | (refine Br.f ?_; conv => whnf) | (refine SeqW.go ?_; conv => whnf))
  refine loopK (by kernel_rfl) (γ := Nat) 1 (fun i => i ≤ b.length ∧ i ≤ 64) (fun i => [(4, .d (.i .i64 i))]) (fun i => [(0, .arr [] 64 ((partB b i).map byD) [])]) (fun i => 64 - i)
    ⟨rfl, rfl⟩ (fun _ _ => by (repeat (first | exact allN | refine allC (by first | exact sc_lift _ _ | exact sc_wes _ _ _ | exact sc_arr rfl | rfl) ?_))) 0 ⟨Nat.zero_le _, Nat.zero_le _⟩ (by repeat (first | exact trivial | refine ⟨.refl _, ?_⟩)) ⟨rfl, rfl, trivial⟩ ?_
  rintro i ⟨h1, h2⟩
  ((conv => whnf); repeat (refine SeqW.go ?_; conv => whnf))
  rw [rowsB_len]
  first | refine Br.dec (fun g1 => ?_) (fun g1 => ?_) | refine Br.beq (fun g1 => ?_) (fun g1 => ?_) | refine Br.bne (fun g1 => ?_) (fun g1 => ?_) | refine Br.nbeq (fun g1 => ?_) (fun g1 => ?_) | refine Br.not (fun g1 => ?_) (fun g1 => ?_) | refine Br.mk (fun g1 => ?_) (fun g1 => ?_)
  · ((conv => whnf); repeat (refine SeqW.go ?_; conv => whnf))
    repeat (first | (refine Br.t ?_; conv => whnf) | (refine Cd.mk (by omega) ?_; conv => whnf) | (refine Br.f ?_; conv => whnf) | (refine SeqW.go ?_; conv => whnf))
    first | refine Br.dec (fun g2 => ?_) (fun g2 => ?_) | refine Br.beq (fun g2 => ?_) (fun g2 => ?_) | refine Br.bne (fun g2 => ?_) (fun g2 => ?_) | refine Br.nbeq (fun g2 => ?_) (fun g2 => ?_) | refine Br.not (fun g2 => ?_) (fun g2 => ?_) | refine Br.mk (fun g2 => ?_) (fun g2 => ?_)
    · ((conv => whnf); repeat (refine SeqW.go ?_; conv => whnf))
      repeat (first | (refine Br.t ?_; conv => whnf) | (refine Cd.mk (by omega) ?_; conv => whnf) | (refine Br.f ?_; conv => whnf) | (refine SeqW.go ?_; conv => whnf))
      refine ⟨⟨rowsB_all _, by omega, by rw [rowsB_len]; omega⟩, ?_⟩
      rw [show (i : Int).toNat = i from rfl, rowsB_get (show i < b.length by omega)]
      ((conv => whnf); repeat (refine SeqW.go ?_; conv => whnf))
      repeat (first | (refine Br.t ?_; conv => whnf) | (refine Cd.mk (by omega) ?_; conv => whnf) | (refine Br.f ?_; conv => whnf) | (refine SeqW.go ?_; conv => whnf))
      refine ⟨⟨rfl, (show (i : Int).toNat < 64 by omega), rfl⟩, ?_⟩
      ((conv => whnf); repeat (refine SeqW.go ?_; conv => whnf))
      repeat (first | (refine Br.t ?_; conv => whnf) | (refine Cd.mk (by omega) ?_; conv => whnf) | (refine Br.f ?_; conv => whnf) | (refine SeqW.go ?_; conv => whnf))
      rw [show (i : Int).toNat = i from rfl, partB_set b i (by omega) (by omega)]
      refine ⟨i + 1, ⟨by omega, by omega⟩, by omega, (by repeat (first | exact trivial | refine ⟨.refl _, ?_⟩)), ⟨wrap_next (by omega), rfl, trivial⟩, (by repeat (first | exact trivial | refine ⟨rfl, ?_⟩))⟩
    · ((conv => whnf); repeat (refine SeqW.go ?_; conv => whnf))
      repeat (first | (refine Br.t ?_; conv => whnf) | (refine Cd.mk (by omega) ?_; conv => whnf) | (refine Br.f ?_; conv => whnf) | (refine SeqW.go ?_; conv => whnf))
      refine ⟨⟨rfl, (show 0 + (64 - 0) ≤ 64 by omega)⟩, ?_⟩
      conv => whnf
      exact ⟨by rw [partB_full b i (.inr ⟨by omega, by omega⟩), aslB _ (fullB_len b)], rfl⟩
  · ((conv => whnf); repeat (refine SeqW.go ?_; conv => whnf))
    repeat (first | (refine Br.t ?_; conv => whnf) | (refine Cd.mk (by omega) ?_; conv => whnf) | (refine Br.f ?_; conv => whnf) | (refine SeqW.go ?_; conv => whnf))
    refine ⟨⟨rfl, (show 0 + (64 - 0) ≤ 64 by omega)⟩, ?_⟩
    conv => whnf
    exact ⟨by rw [partB_full b i (.inl ⟨by omega, by omega⟩), aslB _ (fullB_len b)], rfl⟩
end Go.Aw
