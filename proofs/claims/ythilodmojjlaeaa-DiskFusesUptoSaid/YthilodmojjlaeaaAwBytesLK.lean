/- What the statements of a layer do with bytes. -/
import Derived.Test.YthilodmojjlaeaaAwPack3
import Derived.Test.YthilodmojjlaeaaProg
set_option linter.unusedVariables false
set_option linter.unusedSimpArgs false
namespace Go.Aw
open Go.Proofs
theorem mixed : Try.prog.follows .mixedOrders = true := by kernel_rfl
set_option maxRecDepth 100000
theorem bytesSame_calls (a b : List UInt8) : PureA Try.prog 17 [bytesP a, bytesP b] (.d (.b (decide (a = b)))) := by
  refine CallsA.sized Try.call17 fun hz => ?_
  obtain ⟨h1, h2, _⟩ := hz
  have h1 := sizedB h1
  have h2 := sizedB h2
  refine callsW_of 0 Try.call17 Try.func17 (c := _) rfl (by kernel_rfl) (Nat.le_of_ble_eq_true rfl) (Nat.le_refl 0) ?_
  ((conv => whnf); repeat (refine SeqW.go ?_; conv => whnf))
  first | refine Br.dec (fun hl => ?_) (fun hl => ?_) | refine Br.beq (fun hl => ?_) (fun hl => ?_) | refine Br.bne (fun hl => ?_) (fun hl => ?_) | refine Br.nbeq (fun hl => ?_) (fun hl => ?_) | refine Br.not (fun hl => ?_) (fun hl => ?_) | refine Br.mk (fun hl => ?_) (fun hl => ?_)
  · ((conv => whnf); repeat (refine SeqW.go ?_; conv => whnf))
    refine ⟨?_, rfl⟩
    rw [decide_eq_false]
    rintro rfl
    exact hl rfl
  have hl : a.length = b.length := by simp at hl; omega
  ((conv => whnf); repeat (refine SeqW.go ?_; conv => whnf))
  refine loopK (by kernel_rfl) (γ := Nat) 0 (fun i => i ≤ a.length ∧ a.take i = b.take i) (fun i => [(5, .d (.i .i64 i))]) (fun _ => []) (fun i => a.length - i)
    ⟨rfl, rfl⟩ (fun _ _ => rfl) 0 ⟨Nat.zero_le _, rfl⟩ trivial ⟨rfl, rfl, trivial⟩ ?_
  rintro i ⟨hi, ht⟩
  ((conv => whnf); repeat (refine SeqW.go ?_; conv => whnf))
  first | refine Br.dec (fun hlt => ?_) (fun hlt => ?_) | refine Br.beq (fun hlt => ?_) (fun hlt => ?_) | refine Br.bne (fun hlt => ?_) (fun hlt => ?_) | refine Br.nbeq (fun hlt => ?_) (fun hlt => ?_) | refine Br.not (fun hlt => ?_) (fun hlt => ?_) | refine Br.mk (fun hlt => ?_) (fun hlt => ?_)
  · have hlt : i < a.length := by simpa using hlt
    have hlt' : i < b.length := by omega
    ((conv => whnf); repeat (refine SeqW.go ?_; conv => whnf))
    refine drawW [2, 3, 6, 7] mixed (by kernel_rfl) (by kernel_rfl) ?_
    ((conv => whnf); repeat (refine SeqW.go ?_; conv => whnf))
    refine ⟨⟨rowsB_all _, by omega, by simpa using hlt⟩, ?_⟩
    rw [show (i : Int).toNat = i from rfl, rowsB_get hlt]
    ((conv => whnf); repeat (refine SeqW.go ?_; conv => whnf))
    refine ⟨⟨rowsB_all _, by omega, by simpa using hlt'⟩, ?_⟩
    rw [show (i : Int).toNat = i from rfl, rowsB_get hlt']
    ((conv => whnf); repeat (refine SeqW.go ?_; conv => whnf))
    first | refine Br.dec (fun hne => ?_) (fun hne => ?_) | refine Br.beq (fun hne => ?_) (fun hne => ?_) | refine Br.bne (fun hne => ?_) (fun hne => ?_) | refine Br.nbeq (fun hne => ?_) (fun hne => ?_) | refine Br.not (fun hne => ?_) (fun hne => ?_) | refine Br.mk (fun hne => ?_) (fun hne => ?_)
    · ((conv => whnf); repeat (refine SeqW.go ?_; conv => whnf))
      refine ⟨?_, rfl⟩
      rw [decide_eq_false]
      rintro rfl
      exact hne rfl
    · have he : a[i] = b[i] := UInt8.toNat_inj.1 (Int.ofNat.inj hne)
      ((conv => whnf); repeat (refine SeqW.go ?_; conv => whnf))
      refine ⟨i + 1, ⟨hlt, ?_⟩, by omega, trivial, ⟨wrap_next (by omega), rfl, trivial⟩, (by repeat (first | exact trivial | refine ⟨rfl, ?_⟩))⟩
      rw [List.take_succ_eq_append_getElem hlt, List.take_succ_eq_append_getElem hlt', ht, he]
  · have hge : i = a.length := by simp at hlt; omega
    subst hge
    rw [List.take_length, hl, List.take_length] at ht
    ((conv => whnf); repeat (refine SeqW.go ?_; conv => whnf))
    exact ⟨by rw [decide_eq_true ht], rfl⟩
theorem twinO_calls (l : List UInt8) (hl : l.length ≤ 16777216) : CallsA Try.prog 12 [bytesP l] [] (fun r S' => r = .ret (bytesP l) ∧ S' = []) := by
  refine callsW_of 0 Try.call12 Try.func12 (c := _) rfl (by kernel_rfl) (Nat.le_of_ble_eq_true rfl) (Nat.le_refl 0) ?_
  ((conv => whnf); repeat (refine SeqW.go ?_; conv => whnf))
  refine ⟨⟨allLen_lift (rowsB_all _), by simp; omega, by simp; omega⟩, ?_⟩
  ((conv => whnf); repeat (refine SeqW.go ?_; conv => whnf))
  refine ⟨rowsB l, rfl, toRows_map _, ?_⟩
  ((conv => whnf); repeat (refine SeqW.go ?_; conv => whnf))
  exact ⟨rfl, rfl⟩
end Go.Aw
