/- Layer 23: scales, parts. -/
import Derived.Test.YtjipbjmfhldgeaaAwBytesLX
import Derived.Test.YtjipbjmfhldgeaaAwGood
set_option linter.unusedVariables false
set_option linter.unusedSimpArgs false
namespace Go.Aw
open Go.Proofs
set_option maxRecDepth 100000

/-- A scale. -/
abbrev scP (b w : Int) : PV := .agg [.d (.i .i64 b), .d (.i .i64 w)]

theorem refGood_calls (b w : Int) : PureA Try.prog 10 [scP b w] (.d (.i .i64 (goodS b w))) := by
  refine callsW_of 0 Try.call10 Try.func10 (c := _) rfl (by kernel_rfl) (Nat.le_of_ble_eq_true rfl) (Nat.le_refl 0) ?_
  ((conv => whnf); repeat (refine SeqW.go ?_; conv => whnf))
  refine loopK (by kernel_rfl) (γ := Nat) 1 (fun k => k < 9 ∧ ∀ j, j < k → b ≠ ((2 ^ (6 + j) : Nat) : Int)) (fun k => [(3, .d (.i .i64 ((2 ^ (6 + k) : Nat) : Int)))]) (fun _ => []) (fun k => 9 - k)
    ⟨rfl, rfl⟩ (fun _ _ => rfl) 0 ⟨by omega, by omega⟩ (by repeat (first | exact trivial | refine ⟨.refl _, ?_⟩)) ⟨rfl, rfl, trivial⟩ ?_
  rintro k ⟨hk, hn⟩
  have hp : ∀ j, j < 9 → 2 ^ (6 + j) ∈ blocks := by decide
  have hm := hp k hk
  have hbd := blocks_bd hm
  conv => whnf
  refine cutK (γ := Bool) 1 (fun c => c = decide (k < 8 ∧ b ≠ ((2 ^ (6 + k) : Nat) : Int))) (fun c => [(11, .d (.b c))]) (fun _ => []) ⟨rfl, rfl⟩ (fun _ _ => rfl) ?_ ?_
  · have hlt : (2 ^ (6 + k) < 16384) ↔ k < 8 := by
      have : ∀ k, k < 9 → ((2 ^ (6 + k) < 16384) ↔ k < 8) := by decide
      exact this k hk
    ((conv => whnf); repeat (refine SeqW.go ?_; conv => whnf))
    first | refine Br.dec (fun h1 => ?_) (fun h1 => ?_) | refine Br.beq (fun h1 => ?_) (fun h1 => ?_) | refine Br.bne (fun h1 => ?_) (fun h1 => ?_) | refine Br.nbeq (fun h1 => ?_) (fun h1 => ?_) | refine Br.not (fun h1 => ?_) (fun h1 => ?_) | refine Br.mk (fun h1 => ?_) (fun h1 => ?_)
    · ((conv => whnf); repeat (refine SeqW.go ?_; conv => whnf))
      repeat (first | (refine Br.t ?_; conv => whnf) | (refine Cd.mk (by omega) ?_; conv => whnf) | (refine Br.f ?_; conv => whnf) | (refine SeqW.go ?_; conv => whnf))
      refine ⟨_, ?_, (by repeat (first | exact trivial | refine ⟨.refl _, ?_⟩)), ⟨rfl, rfl, trivial⟩, (by repeat (first | exact trivial | refine ⟨rfl, ?_⟩))⟩
      have : k < 8 := hlt.1 (by omega)
      rw [Bool.eq_iff_iff]
      simp only [bne_iff_ne, decide_eq_true_eq, ne_eq]
      constructor
      · exact fun h => ⟨this, fun e => h e.symm⟩
      · exact fun h e => h.2 e.symm
    · ((conv => whnf); repeat (refine SeqW.go ?_; conv => whnf))
      repeat (first | (refine Br.t ?_; conv => whnf) | (refine Cd.mk (by omega) ?_; conv => whnf) | (refine Br.f ?_; conv => whnf) | (refine SeqW.go ?_; conv => whnf))
      refine ⟨_, ?_, (by repeat (first | exact trivial | refine ⟨.refl _, ?_⟩)), ⟨rfl, rfl, trivial⟩, (by repeat (first | exact trivial | refine ⟨rfl, ?_⟩))⟩
      have : ¬ k < 8 := fun h => by have := hlt.2 h; omega
      exact (decide_eq_false fun h => this h.1).symm
  rintro c rfl
  ((conv => whnf); repeat (refine SeqW.go ?_; conv => whnf))
  first | refine Br.dec (fun hc => ?_) (fun hc => ?_) | refine Br.beq (fun hc => ?_) (fun hc => ?_) | refine Br.bne (fun hc => ?_) (fun hc => ?_) | refine Br.nbeq (fun hc => ?_) (fun hc => ?_) | refine Br.not (fun hc => ?_) (fun hc => ?_) | refine Br.mk (fun hc => ?_) (fun hc => ?_)
  · ((conv => whnf); repeat (refine SeqW.go ?_; conv => whnf))
    have e : IntKind.i64.wrap (2 * ((2 ^ (6 + k) : Nat) : Int)) = ((2 ^ (6 + (k + 1)) : Nat) : Int) := by
      rw [wrap_i64 (by omega) (by omega), ← Nat.add_assoc, Nat.pow_succ]; omega
    refine ⟨k + 1, ⟨by omega, fun j hj => ?_⟩, by omega, (by repeat (first | exact trivial | refine ⟨.refl _, ?_⟩)), ⟨by rw [← e]; rfl, rfl, trivial⟩, (by repeat (first | exact trivial | refine ⟨rfl, ?_⟩))⟩
    by_cases hjk : j = k
    · subst hjk; exact hc.2
    · exact hn j (by omega)
  · have key : b = ((2 ^ (6 + k) : Nat) : Int) ↔ ∃ n ∈ blocks, b = ((n : Nat) : Int) := by
      constructor
      · exact fun h => ⟨_, hm, h⟩
      · rintro ⟨n, hn', rfl⟩
        have all : ∀ n ∈ blocks, ∃ j, j < 9 ∧ n = 2 ^ (6 + j) := by decide
        obtain ⟨j, hj, rfl⟩ := all n hn'
        rcases Nat.lt_trichotomy j k with h | h | h
        · exact absurd rfl (hn j h)
        · subst h; rfl
        · apply Classical.byContradiction
          intro hne
          exact hc ⟨by omega, hne⟩
    ((conv => whnf); repeat (refine SeqW.go ?_; conv => whnf))
    first | refine Br.dec (fun h1 => ?_) (fun h1 => ?_) | refine Br.beq (fun h1 => ?_) (fun h1 => ?_) | refine Br.bne (fun h1 => ?_) (fun h1 => ?_) | refine Br.nbeq (fun h1 => ?_) (fun h1 => ?_) | refine Br.not (fun h1 => ?_) (fun h1 => ?_) | refine Br.mk (fun h1 => ?_) (fun h1 => ?_)
    · ((conv => whnf); repeat (refine SeqW.go ?_; conv => whnf))
      repeat (first | (refine Br.t ?_; conv => whnf) | (refine Cd.mk (by omega) ?_; conv => whnf) | (refine Br.f ?_; conv => whnf) | (refine SeqW.go ?_; conv => whnf))
      exact ⟨by rw [goodS, if_neg fun h => h1 (key.2 h.1).symm], rfl⟩
    have hb := key.1 h1.symm
    ((conv => whnf); repeat (refine SeqW.go ?_; conv => whnf))
    repeat (first | (refine Br.t ?_; conv => whnf) | (refine Cd.mk (by omega) ?_; conv => whnf) | (refine Br.f ?_; conv => whnf) | (refine SeqW.go ?_; conv => whnf))
    first | refine Br.dec (fun h2 => ?_) (fun h2 => ?_) | refine Br.beq (fun h2 => ?_) (fun h2 => ?_) | refine Br.bne (fun h2 => ?_) (fun h2 => ?_) | refine Br.nbeq (fun h2 => ?_) (fun h2 => ?_) | refine Br.not (fun h2 => ?_) (fun h2 => ?_) | refine Br.mk (fun h2 => ?_) (fun h2 => ?_)
    · ((conv => whnf); repeat (refine SeqW.go ?_; conv => whnf))
      repeat (first | (refine Br.t ?_; conv => whnf) | (refine Cd.mk (by omega) ?_; conv => whnf) | (refine Br.f ?_; conv => whnf) | (refine SeqW.go ?_; conv => whnf))
      exact ⟨by rw [goodS, if_neg (by omega)], rfl⟩
    ((conv => whnf); repeat (refine SeqW.go ?_; conv => whnf))
    repeat (first | (refine Br.t ?_; conv => whnf) | (refine Cd.mk (by omega) ?_; conv => whnf) | (refine Br.f ?_; conv => whnf) | (refine SeqW.go ?_; conv => whnf))
    first | refine Br.dec (fun h3 => ?_) (fun h3 => ?_) | refine Br.beq (fun h3 => ?_) (fun h3 => ?_) | refine Br.bne (fun h3 => ?_) (fun h3 => ?_) | refine Br.nbeq (fun h3 => ?_) (fun h3 => ?_) | refine Br.not (fun h3 => ?_) (fun h3 => ?_) | refine Br.mk (fun h3 => ?_) (fun h3 => ?_)
    · ((conv => whnf); repeat (refine SeqW.go ?_; conv => whnf))
      exact ⟨by rw [goodS, if_neg (by omega)], rfl⟩
    · ((conv => whnf); repeat (refine SeqW.go ?_; conv => whnf))
      exact ⟨by rw [goodS, if_pos ⟨hb, by omega, by omega⟩], rfl⟩

theorem good_calls (b w : Int) : PureA Try.prog 11 [scP b w] (.d (.i .i64 (goodS b w))) := by
  refine callsW_of 0 Try.call11 Try.func11 (c := _) rfl (by kernel_rfl) (Nat.le_of_ble_eq_true rfl) (Nat.le_refl 0) ?_
  have no : (b < 64 ∨ 16384 < b) → goodS b w = 10 := fun h => by
    rw [goodS, if_neg]
    rintro ⟨⟨n, hn, rfl⟩, _⟩
    have := blocks_bd hn
    omega
  ((conv => whnf); repeat (refine SeqW.go ?_; conv => whnf))
  first | refine Br.dec (fun h1 => ?_) (fun h1 => ?_) | refine Br.beq (fun h1 => ?_) (fun h1 => ?_) | refine Br.bne (fun h1 => ?_) (fun h1 => ?_) | refine Br.nbeq (fun h1 => ?_) (fun h1 => ?_) | refine Br.not (fun h1 => ?_) (fun h1 => ?_) | refine Br.mk (fun h1 => ?_) (fun h1 => ?_)
  · ((conv => whnf); repeat (refine SeqW.go ?_; conv => whnf))
    repeat (first | (refine Br.t ?_; conv => whnf) | (refine Cd.mk (by omega) ?_; conv => whnf) | (refine Br.f ?_; conv => whnf) | (refine SeqW.go ?_; conv => whnf))
    exact ⟨by rw [no (.inl h1)], rfl⟩
  ((conv => whnf); repeat (refine SeqW.go ?_; conv => whnf))
  repeat (first | (refine Br.t ?_; conv => whnf) | (refine Cd.mk (by omega) ?_; conv => whnf) | (refine Br.f ?_; conv => whnf) | (refine SeqW.go ?_; conv => whnf))
  first | refine Br.dec (fun h2 => ?_) (fun h2 => ?_) | refine Br.beq (fun h2 => ?_) (fun h2 => ?_) | refine Br.bne (fun h2 => ?_) (fun h2 => ?_) | refine Br.nbeq (fun h2 => ?_) (fun h2 => ?_) | refine Br.not (fun h2 => ?_) (fun h2 => ?_) | refine Br.mk (fun h2 => ?_) (fun h2 => ?_)
  · ((conv => whnf); repeat (refine SeqW.go ?_; conv => whnf))
    repeat (first | (refine Br.t ?_; conv => whnf) | (refine Cd.mk (by omega) ?_; conv => whnf) | (refine Br.f ?_; conv => whnf) | (refine SeqW.go ?_; conv => whnf))
    exact ⟨by rw [no (.inr h2)], rfl⟩
  obtain ⟨n, rfl⟩ : ∃ n : Nat, b = n := ⟨b.toNat, by omega⟩
  ((conv => whnf); repeat (refine SeqW.go ?_; conv => whnf))
  repeat (first | (refine Br.t ?_; conv => whnf) | (refine Cd.mk (by omega) ?_; conv => whnf) | (refine Br.f ?_; conv => whnf) | (refine SeqW.go ?_; conv => whnf))
  rw [show IntKind.i64.wrap ((n : Int) - 1) = ((n - 1 : Nat) : Int) by rw [wrap_i64 (by omega) (by omega)]; omega, and_i64 (by omega) (by omega)]
  have hb : (n &&& (n - 1) = 0) ↔ ∃ m ∈ blocks, (n : Int) = ((m : Nat) : Int) := by
    rw [blocks_iff (by omega) (by omega)]
    constructor
    · exact fun h => ⟨n, h, rfl⟩
    · rintro ⟨m, hm, e⟩
      obtain rfl : n = m := by omega
      exact hm
  first | refine Br.dec (fun h3 => ?_) (fun h3 => ?_) | refine Br.beq (fun h3 => ?_) (fun h3 => ?_) | refine Br.bne (fun h3 => ?_) (fun h3 => ?_) | refine Br.nbeq (fun h3 => ?_) (fun h3 => ?_) | refine Br.not (fun h3 => ?_) (fun h3 => ?_) | refine Br.mk (fun h3 => ?_) (fun h3 => ?_)
  · ((conv => whnf); repeat (refine SeqW.go ?_; conv => whnf))
    exact ⟨by rw [goodS, if_neg fun h => h3 (by have := hb.2 h.1; omega)], rfl⟩
  have hb := hb.1 (by omega)
  ((conv => whnf); repeat (refine SeqW.go ?_; conv => whnf))
  first | refine Br.dec (fun h4 => ?_) (fun h4 => ?_) | refine Br.beq (fun h4 => ?_) (fun h4 => ?_) | refine Br.bne (fun h4 => ?_) (fun h4 => ?_) | refine Br.nbeq (fun h4 => ?_) (fun h4 => ?_) | refine Br.not (fun h4 => ?_) (fun h4 => ?_) | refine Br.mk (fun h4 => ?_) (fun h4 => ?_)
  · ((conv => whnf); repeat (refine SeqW.go ?_; conv => whnf))
    repeat (first | (refine Br.t ?_; conv => whnf) | (refine Cd.mk (by omega) ?_; conv => whnf) | (refine Br.f ?_; conv => whnf) | (refine SeqW.go ?_; conv => whnf))
    exact ⟨by rw [goodS, if_neg (by omega)], rfl⟩
  ((conv => whnf); repeat (refine SeqW.go ?_; conv => whnf))
  repeat (first | (refine Br.t ?_; conv => whnf) | (refine Cd.mk (by omega) ?_; conv => whnf) | (refine Br.f ?_; conv => whnf) | (refine SeqW.go ?_; conv => whnf))
  first | refine Br.dec (fun h5 => ?_) (fun h5 => ?_) | refine Br.beq (fun h5 => ?_) (fun h5 => ?_) | refine Br.bne (fun h5 => ?_) (fun h5 => ?_) | refine Br.nbeq (fun h5 => ?_) (fun h5 => ?_) | refine Br.not (fun h5 => ?_) (fun h5 => ?_) | refine Br.mk (fun h5 => ?_) (fun h5 => ?_)
  · ((conv => whnf); repeat (refine SeqW.go ?_; conv => whnf))
    exact ⟨by rw [goodS, if_neg (by omega)], rfl⟩
  · ((conv => whnf); repeat (refine SeqW.go ?_; conv => whnf))
    exact ⟨by rw [goodS, if_pos ⟨hb, by omega, by omega⟩], rfl⟩

theorem refParts_calls (b w size : Int) (hz : size ≤ 9223372036854775807) : PureA Try.prog 4 [scP b w, .d (.i .i64 size)] (.tup [.d (.i .i64 (partsR b w size).1), .d (.i .i64 (partsR b w size).2)]) := by
  refine callsW_of 0 Try.call4 Try.func4 (c := _) rfl (by kernel_rfl) (Nat.le_of_ble_eq_true rfl) (Nat.le_refl 0) ?_
  ((conv => whnf); repeat (refine SeqW.go ?_; conv => whnf))
  refine callP (refGood_calls b w) rfl rfl fun _ => ?_
  ((conv => whnf); repeat (refine SeqW.go ?_; conv => whnf))
  repeat (first | (refine Br.t ?_; conv => whnf) | (refine Cd.mk (by omega) ?_; conv => whnf) | (refine Br.f ?_; conv => whnf) | (refine SeqW.go ?_; conv => whnf))
  first | refine Br.dec (fun hg => ?_) (fun hg => ?_) | refine Br.beq (fun hg => ?_) (fun hg => ?_) | refine Br.bne (fun hg => ?_) (fun hg => ?_) | refine Br.nbeq (fun hg => ?_) (fun hg => ?_) | refine Br.not (fun hg => ?_) (fun hg => ?_) | refine Br.mk (fun hg => ?_) (fun hg => ?_)
  · ((conv => whnf); repeat (refine SeqW.go ?_; conv => whnf))
    exact ⟨by rw [partsR, if_neg hg], rfl⟩
  have hp : partsR b w size = if 1 ≤ size ∧ size ≤ 1048576 then ((size + b - 1) / b, 0) else (0, 230) := by rw [partsR, if_pos hg]
  ((conv => whnf); repeat (refine SeqW.go ?_; conv => whnf))
  first | refine Br.dec (fun h1 => ?_) (fun h1 => ?_) | refine Br.beq (fun h1 => ?_) (fun h1 => ?_) | refine Br.bne (fun h1 => ?_) (fun h1 => ?_) | refine Br.nbeq (fun h1 => ?_) (fun h1 => ?_) | refine Br.not (fun h1 => ?_) (fun h1 => ?_) | refine Br.mk (fun h1 => ?_) (fun h1 => ?_)
  · ((conv => whnf); repeat (refine SeqW.go ?_; conv => whnf))
    repeat (first | (refine Br.t ?_; conv => whnf) | (refine Cd.mk (by omega) ?_; conv => whnf) | (refine Br.f ?_; conv => whnf) | (refine SeqW.go ?_; conv => whnf))
    exact ⟨by rw [hp, if_neg (by omega)], rfl⟩
  ((conv => whnf); repeat (refine SeqW.go ?_; conv => whnf))
  repeat (first | (refine Br.t ?_; conv => whnf) | (refine Cd.mk (by omega) ?_; conv => whnf) | (refine Br.f ?_; conv => whnf) | (refine SeqW.go ?_; conv => whnf))
  first | refine Br.dec (fun h2 => ?_) (fun h2 => ?_) | refine Br.beq (fun h2 => ?_) (fun h2 => ?_) | refine Br.bne (fun h2 => ?_) (fun h2 => ?_) | refine Br.nbeq (fun h2 => ?_) (fun h2 => ?_) | refine Br.not (fun h2 => ?_) (fun h2 => ?_) | refine Br.mk (fun h2 => ?_) (fun h2 => ?_)
  · ((conv => whnf); repeat (refine SeqW.go ?_; conv => whnf))
    exact ⟨by rw [hp, if_neg (by omega)], rfl⟩
  rw [if_pos (by omega)] at hp
  obtain ⟨m, hm, rfl⟩ := goodS_block hg
  have hbd := blocks_bd hm
  obtain ⟨s, rfl⟩ : ∃ s : Nat, size = s := ⟨size.toNat, by omega⟩
  ((conv => whnf); repeat (refine SeqW.go ?_; conv => whnf))
  refine loopK (by kernel_rfl) (γ := Nat × Nat) 1 (fun ⟨k, p⟩ => p = k * m ∧ p < s + m ∧ k ≤ p) (fun ⟨k, p⟩ => [(7, .d (.i .i64 k)), (8, .d (.i .i64 p))]) (fun _ => []) (fun ⟨_, p⟩ => s - p)
    ⟨rfl, rfl⟩ (fun _ _ => rfl) (0, 0) ⟨by simp, by omega, Nat.le_refl _⟩ (by repeat (first | exact trivial | refine ⟨.refl _, ?_⟩)) ⟨rfl, rfl, rfl, rfl, trivial⟩ ?_
  rintro ⟨k, p⟩ ⟨hk, hp2, hkp⟩
  have hk1 : (k + 1) * m = p + m := by rw [Nat.add_mul, ← hk]; omega
  ((conv => whnf); repeat (refine SeqW.go ?_; conv => whnf))
  first | refine Br.dec (fun hlt => ?_) (fun hlt => ?_) | refine Br.beq (fun hlt => ?_) (fun hlt => ?_) | refine Br.bne (fun hlt => ?_) (fun hlt => ?_) | refine Br.nbeq (fun hlt => ?_) (fun hlt => ?_) | refine Br.not (fun hlt => ?_) (fun hlt => ?_) | refine Br.mk (fun hlt => ?_) (fun hlt => ?_)
  · ((conv => whnf); repeat (refine SeqW.go ?_; conv => whnf))
    rw [show IntKind.i64.wrap ((p : Int) + (m : Int)) = ((p + m : Nat) : Int) by rw [wrap_i64 (by omega) (by omega)]; rfl]
    exact ⟨(k + 1, p + m), ⟨hk1.symm, by omega, by omega⟩, by simp only; omega, (by repeat (first | exact trivial | refine ⟨.refl _, ?_⟩)), ⟨wrap_next (by omega), rfl, rfl, rfl, trivial⟩, (by repeat (first | exact trivial | refine ⟨rfl, ?_⟩))⟩
  · have hc := count_eq (s := s) (m := m) (k := k) (by omega) (by omega) (by omega)
    have hc' : ((s : Int) + (m : Int) - 1) / (m : Int) = (k : Int) := by
      rw [show (s : Int) + (m : Int) - 1 = ((s + m - 1 : Nat) : Int) by omega, ← hc]; rfl
    ((conv => whnf); repeat (refine SeqW.go ?_; conv => whnf))
    exact ⟨by rw [hp, hc'], rfl⟩

theorem parts_calls (b w size : Int) (hz : size ≤ 9223372036854775807) : PureA Try.prog 5 [scP b w, .d (.i .i64 size)] (.tup [.d (.i .i64 (partsR b w size).1), .d (.i .i64 (partsR b w size).2)]) := by
  refine callsW_of 0 Try.call5 Try.func5 (c := _) rfl (by kernel_rfl) (Nat.le_of_ble_eq_true rfl) (Nat.le_refl 0) ?_
  ((conv => whnf); repeat (refine SeqW.go ?_; conv => whnf))
  refine callP (good_calls b w) rfl rfl fun _ => ?_
  ((conv => whnf); repeat (refine SeqW.go ?_; conv => whnf))
  repeat (first | (refine Br.t ?_; conv => whnf) | (refine Cd.mk (by omega) ?_; conv => whnf) | (refine Br.f ?_; conv => whnf) | (refine SeqW.go ?_; conv => whnf))
  first | refine Br.dec (fun hg => ?_) (fun hg => ?_) | refine Br.beq (fun hg => ?_) (fun hg => ?_) | refine Br.bne (fun hg => ?_) (fun hg => ?_) | refine Br.nbeq (fun hg => ?_) (fun hg => ?_) | refine Br.not (fun hg => ?_) (fun hg => ?_) | refine Br.mk (fun hg => ?_) (fun hg => ?_)
  · ((conv => whnf); repeat (refine SeqW.go ?_; conv => whnf))
    exact ⟨by rw [partsR, if_neg hg], rfl⟩
  have hp : partsR b w size = if 1 ≤ size ∧ size ≤ 1048576 then ((size + b - 1) / b, 0) else (0, 230) := by rw [partsR, if_pos hg]
  ((conv => whnf); repeat (refine SeqW.go ?_; conv => whnf))
  first | refine Br.dec (fun h1 => ?_) (fun h1 => ?_) | refine Br.beq (fun h1 => ?_) (fun h1 => ?_) | refine Br.bne (fun h1 => ?_) (fun h1 => ?_) | refine Br.nbeq (fun h1 => ?_) (fun h1 => ?_) | refine Br.not (fun h1 => ?_) (fun h1 => ?_) | refine Br.mk (fun h1 => ?_) (fun h1 => ?_)
  · ((conv => whnf); repeat (refine SeqW.go ?_; conv => whnf))
    repeat (first | (refine Br.t ?_; conv => whnf) | (refine Cd.mk (by omega) ?_; conv => whnf) | (refine Br.f ?_; conv => whnf) | (refine SeqW.go ?_; conv => whnf))
    exact ⟨by rw [hp, if_neg (by omega)], rfl⟩
  ((conv => whnf); repeat (refine SeqW.go ?_; conv => whnf))
  repeat (first | (refine Br.t ?_; conv => whnf) | (refine Cd.mk (by omega) ?_; conv => whnf) | (refine Br.f ?_; conv => whnf) | (refine SeqW.go ?_; conv => whnf))
  first | refine Br.dec (fun h2 => ?_) (fun h2 => ?_) | refine Br.beq (fun h2 => ?_) (fun h2 => ?_) | refine Br.bne (fun h2 => ?_) (fun h2 => ?_) | refine Br.nbeq (fun h2 => ?_) (fun h2 => ?_) | refine Br.not (fun h2 => ?_) (fun h2 => ?_) | refine Br.mk (fun h2 => ?_) (fun h2 => ?_)
  · ((conv => whnf); repeat (refine SeqW.go ?_; conv => whnf))
    exact ⟨by rw [hp, if_neg (by omega)], rfl⟩
  rw [if_pos (by omega)] at hp
  obtain ⟨m, hm, rfl⟩ := goodS_block hg
  have hbd := blocks_bd hm
  ((conv => whnf); repeat (refine SeqW.go ?_; conv => whnf))
  repeat (first | (refine Br.t ?_; conv => whnf) | (refine Cd.mk (by omega) ?_; conv => whnf) | (refine Br.f ?_; conv => whnf) | (refine SeqW.go ?_; conv => whnf))
  have hq : (size + (m : Int) - 1) / (m : Int) ≤ size + m - 1 := Int.ediv_le_self _ (by omega)
  have hq0 : 0 ≤ (size + (m : Int) - 1) / (m : Int) := Int.ediv_nonneg (by omega) (by omega)
  rw [show IntKind.i64.wrap (size + (m : Int)) = size + m from wrap_i64 (by omega) (by omega), show IntKind.i64.wrap (size + (m : Int) - 1) = size + m - 1 from wrap_i64 (by omega) (by omega), Int.tdiv_eq_ediv_of_nonneg (by omega), wrap_i64 (by omega) (by omega)]
  exact ⟨by rw [hp], rfl⟩

theorem clone_calls (l : List UInt8) (hl : l.length ≤ 16777216) : PureA Try.prog 12 [bytesP l] (bytesP l) := by
  refine callsW_of 0 Try.call12 Try.func12 (c := _) rfl (by kernel_rfl) (Nat.le_of_ble_eq_true rfl) (Nat.le_refl 0) ?_
  ((conv => whnf); repeat (refine SeqW.go ?_; conv => whnf))
  refine ⟨fun h => ?_, ?_⟩
  · ((conv => whnf); repeat (refine SeqW.go ?_; conv => whnf))
    repeat (first | (refine Br.t ?_; conv => whnf) | (refine Cd.mk (by omega) ?_; conv => whnf) | (refine Br.f ?_; conv => whnf) | (refine SeqW.go ?_; conv => whnf))
    have : l = [] := List.eq_nil_of_length_eq_zero (by rw [← rowsB_length, h]; rfl)
    subst this
    exact ⟨rfl, rfl⟩
  ((conv => whnf); repeat (refine SeqW.go ?_; conv => whnf))
  repeat (first | (refine Br.t ?_; conv => whnf) | (refine Cd.mk (by omega) ?_; conv => whnf) | (refine Br.f ?_; conv => whnf) | (refine SeqW.go ?_; conv => whnf))
  refine Lit.own ?_
  ((conv => whnf); repeat (refine SeqW.go ?_; conv => whnf))
  refine ⟨⟨allLen_lift (rowsB_all _), rfl, by simp [AllLen], by simp; omega, by simp; omega⟩, ?_⟩
  ((conv => whnf); repeat (refine SeqW.go ?_; conv => whnf))
  refine ⟨rowsB l, by simp, by simpa using toRows_map (rowsB l), ?_⟩
  ((conv => whnf); repeat (refine SeqW.go ?_; conv => whnf))
  exact ⟨rfl, rfl⟩

theorem part_calls (b w : Int) (l : List UInt8) (part : Int) (hl : l.length ≤ 16777216) (hp1 : part ≤ 9223372036854775807) : PureA Try.prog 7 [scP b w, bytesP l, .d (.i .i64 part)] (.tup [bytesP (partR b w l part).1, .d (.i .i64 (partR b w l part).2)]) := by
  refine callsW_of 0 Try.call7 Try.func7 (c := _) rfl (by kernel_rfl) (Nat.le_of_ble_eq_true rfl) (Nat.le_refl 0) ?_
  ((conv => whnf); repeat (refine SeqW.go ?_; conv => whnf))
  rw [show (rowsB l).length = l.length from rowsB_length l]
  refine callP (parts_calls b w l.length (by omega)) rfl rfl fun _ => ?_
  ((conv => whnf); repeat (refine SeqW.go ?_; conv => whnf))
  repeat (first | (refine Br.t ?_; conv => whnf) | (refine Cd.mk (by omega) ?_; conv => whnf) | (refine Br.f ?_; conv => whnf) | (refine SeqW.go ?_; conv => whnf))
  first | refine Br.dec (fun h1 => ?_) (fun h1 => ?_) | refine Br.beq (fun h1 => ?_) (fun h1 => ?_) | refine Br.bne (fun h1 => ?_) (fun h1 => ?_) | refine Br.nbeq (fun h1 => ?_) (fun h1 => ?_) | refine Br.not (fun h1 => ?_) (fun h1 => ?_) | refine Br.mk (fun h1 => ?_) (fun h1 => ?_)
  · ((conv => whnf); repeat (refine SeqW.go ?_; conv => whnf))
    exact ⟨by rw [partR, if_neg h1]; rfl, rfl⟩
  have hp : partR b w l part = if 0 ≤ part ∧ part < (partsR b w l.length).1 then ((l.drop (part.toNat * b.toNat)).take b.toNat, 0) else ([], 231) := by rw [partR, if_pos h1]
  have hpr := h1
  unfold partsR at hpr
  split at hpr
  case isFalse hg => exact absurd hpr hg
  rename_i hg
  split at hpr
  case isFalse hs => exact absurd hpr (by decide)
  rename_i hs
  have hn : (partsR b w l.length).1 = (l.length + b - 1) / b := by rw [partsR, if_pos hg, if_pos hs]
  obtain ⟨m, hm, rfl⟩ := goodS_block hg
  have hbd := blocks_bd hm
  ((conv => whnf); repeat (refine SeqW.go ?_; conv => whnf))
  first | refine Br.dec (fun h2 => ?_) (fun h2 => ?_) | refine Br.beq (fun h2 => ?_) (fun h2 => ?_) | refine Br.bne (fun h2 => ?_) (fun h2 => ?_) | refine Br.nbeq (fun h2 => ?_) (fun h2 => ?_) | refine Br.not (fun h2 => ?_) (fun h2 => ?_) | refine Br.mk (fun h2 => ?_) (fun h2 => ?_)
  · ((conv => whnf); repeat (refine SeqW.go ?_; conv => whnf))
    repeat (first | (refine Br.t ?_; conv => whnf) | (refine Cd.mk (by omega) ?_; conv => whnf) | (refine Br.f ?_; conv => whnf) | (refine SeqW.go ?_; conv => whnf))
    exact ⟨by rw [hp, if_neg (by omega)]; rfl, rfl⟩
  ((conv => whnf); repeat (refine SeqW.go ?_; conv => whnf))
  repeat (first | (refine Br.t ?_; conv => whnf) | (refine Cd.mk (by omega) ?_; conv => whnf) | (refine Br.f ?_; conv => whnf) | (refine SeqW.go ?_; conv => whnf))
  first | refine Br.dec (fun h3 => ?_) (fun h3 => ?_) | refine Br.beq (fun h3 => ?_) (fun h3 => ?_) | refine Br.bne (fun h3 => ?_) (fun h3 => ?_) | refine Br.nbeq (fun h3 => ?_) (fun h3 => ?_) | refine Br.not (fun h3 => ?_) (fun h3 => ?_) | refine Br.mk (fun h3 => ?_) (fun h3 => ?_)
  · ((conv => whnf); repeat (refine SeqW.go ?_; conv => whnf))
    exact ⟨by rw [hp, if_neg (by omega)]; rfl, rfl⟩
  rw [if_pos (by omega)] at hp
  rw [hn] at h3
  obtain ⟨p, rfl⟩ : ∃ p : Nat, part = p := ⟨part.toNat, by omega⟩
  have hlt : p < (l.length + m - 1) / m := by
    have e : ((l.length : Int) + (m : Int) - 1) / (m : Int) = (((l.length + m - 1) / m : Nat) : Int) := by
      rw [show (l.length : Int) + (m : Int) - 1 = ((l.length + m - 1 : Nat) : Int) by omega]; rfl
    rw [e] at h3
    omega
  have hle : (p + 1) * m ≤ l.length + m - 1 := (Nat.le_div_iff_mul_le (by omega)).1 hlt
  rw [Nat.add_mul, Nat.one_mul] at hle
  have hfrom : IntKind.i64.wrap ((p : Int) * (m : Int)) = ((p * m : Nat) : Int) := by
    rw [← Int.natCast_mul, wrap_i64 (by omega) (by omega)]
  ((conv => whnf); repeat (refine SeqW.go ?_; conv => whnf))
  rw [hfrom]
  ((conv => whnf); repeat (refine SeqW.go ?_; conv => whnf))
  refine ⟨rowsB_all _, ?_⟩
  ((conv => whnf); repeat (refine SeqW.go ?_; conv => whnf))
  rw [show IntKind.i64.wrap (((p * m : Nat) : Int) + (m : Int)) = ((p * m + m : Nat) : Int) by rw [wrap_i64 (by omega) (by omega)]; rfl]
  rw [show (if ((rowsB l).length : Int) < ((p * m + m : Nat) : Int) then ((rowsB l).length : Int) else ((p * m + m : Nat) : Int)) = ((min (p * m + m) l.length : Nat) : Int) by rw [rowsB_length]; omega]
  refine ⟨by simp; omega, ?_⟩
  ((conv => whnf); repeat (refine SeqW.go ?_; conv => whnf))
  refine ⟨by simp; omega, ?_⟩
  ((conv => whnf); repeat (refine SeqW.go ?_; conv => whnf))
  rw [show ((min (p * m + m) l.length : Nat) : Int).toNat = min (p * m + m) l.length from rfl, show ((p * m : Nat) : Int).toNat = p * m from rfl, rowsB_take, rowsB_drop, cut_eq l m (p * m) (by omega)]
  refine callP (clone_calls _ (by simp; omega)) rfl rfl fun _ => ?_
  ((conv => whnf); repeat (refine SeqW.go ?_; conv => whnf))
  exact ⟨by rw [hp]; rfl, rfl⟩

theorem cut_calls (b w : Int) (l : List UInt8) (hl : l.length ≤ 1048576) (hg : goodS b w = 0) : PureA Try.prog 13 [scP b w, bytesP l] (.d (.sl (rowsL l b.toNat ((l.length + b.toNat - 1) / b.toNat)))) := by
  obtain ⟨m, hm, rfl⟩ := goodS_block hg
  have hbd := blocks_bd hm
  rw [Int.toNat_natCast]
  refine callsW_of 0 Try.call13 Try.func13 (c := _) rfl (by kernel_rfl) (Nat.le_of_ble_eq_true rfl) (Nat.le_refl 0) ?_
  ((conv => whnf); repeat (refine SeqW.go ?_; conv => whnf))
  refine loopN (.slot 5 1 rfl .done) ?_
  refine loopK (by kernel_rfl) (γ := Nat × Nat) 2 (fun ⟨k, p⟩ => p = k * m ∧ p < l.length + m ∧ k ≤ p) (fun ⟨k, p⟩ => [(5, .own 1 1 k), (6, .d (.i .i64 p))]) (fun ⟨k, p⟩ => [(1, .buf (liftR (rowsL l m k)))]) (fun ⟨_, p⟩ => l.length - p)
    ⟨rfl, rfl⟩ (fun _ _ => by simp [ovl, sc_lift, sc_fro, sc_app, sc_cons]; try (repeat (first | rfl | apply And.intro))) (0, 0) ⟨by simp, by omega, Nat.le_refl _⟩ (by repeat (first | exact trivial | refine ⟨.refl _, ?_⟩)) ⟨rfl, rfl, rfl, rfl, trivial⟩ ?_
  rintro ⟨k, p⟩ ⟨hk, hp2, hkp⟩
  have hk1 : (k + 1) * m = p + m := by rw [Nat.add_mul, ← hk]; omega
  ((conv => whnf); repeat (refine SeqW.go ?_; conv => whnf))
  first | refine Br.dec (fun hlt => ?_) (fun hlt => ?_) | refine Br.beq (fun hlt => ?_) (fun hlt => ?_) | refine Br.bne (fun hlt => ?_) (fun hlt => ?_) | refine Br.nbeq (fun hlt => ?_) (fun hlt => ?_) | refine Br.not (fun hlt => ?_) (fun hlt => ?_) | refine Br.mk (fun hlt => ?_) (fun hlt => ?_)
  · have hlt : p < l.length := by simpa using hlt
    ((conv => whnf); repeat (refine SeqW.goN 7 rfl ?_; conv => whnf))
    refine cutK (γ := Unit) 2 (fun _ => True) (fun _ => [(7, .d (.i .i64 ((min (p + m) l.length : Nat) : Int)))]) (fun _ => []) ⟨rfl, rfl⟩ (fun _ _ => by simp [ovl, sc_lift, sc_fro, sc_app, sc_cons]; try (repeat (first | rfl | apply And.intro))) ?_ ?_
    · ((conv => whnf); repeat (refine SeqW.go ?_; conv => whnf))
      rw [show IntKind.i64.wrap ((p : Int) + (m : Int)) = ((p + m : Nat) : Int) by rw [wrap_i64 (by omega) (by omega)]; rfl]
      first | refine Br.dec (fun hgt => ?_) (fun hgt => ?_) | refine Br.beq (fun hgt => ?_) (fun hgt => ?_) | refine Br.bne (fun hgt => ?_) (fun hgt => ?_) | refine Br.nbeq (fun hgt => ?_) (fun hgt => ?_) | refine Br.not (fun hgt => ?_) (fun hgt => ?_) | refine Br.mk (fun hgt => ?_) (fun hgt => ?_)
      · ((conv => whnf); repeat (refine SeqW.go ?_; conv => whnf))
        refine ⟨(), trivial, (by repeat (first | exact trivial | refine ⟨.refl _, ?_⟩)), ⟨?_, rfl, trivial⟩, (by repeat (first | exact trivial | refine ⟨rfl, ?_⟩))⟩
        rw [show (min (p + m) l.length) = l.length by simp at hgt; omega, ← rowsB_length l]; rfl
      · ((conv => whnf); repeat (refine SeqW.go ?_; conv => whnf))
        refine ⟨(), trivial, (by repeat (first | exact trivial | refine ⟨.refl _, ?_⟩)), ⟨?_, rfl, trivial⟩, (by repeat (first | exact trivial | refine ⟨rfl, ?_⟩))⟩
        rw [show (min (p + m) l.length) = p + m by simp at hgt; omega]; rfl
    intro _ _
    ((conv => whnf); repeat (refine SeqW.go ?_; conv => whnf))
    refine ⟨rowsB_all _, ?_⟩
    ((conv => whnf); repeat (refine SeqW.go ?_; conv => whnf))
    refine ⟨by simp; omega, ?_⟩
    ((conv => whnf); repeat (refine SeqW.go ?_; conv => whnf))
    refine ⟨by omega, ?_⟩
    ((conv => whnf); repeat (refine SeqW.go ?_; conv => whnf))
    rw [show ((min (p + m) l.length : Nat) : Int).toNat = min (p + m) l.length from rfl, show ((p : Nat) : Int).toNat = p from rfl, rowsB_take, rowsB_drop, cut_eq l m p (by omega)]
    refine ⟨⟨allLen_lift (rowsB_all _), by simp; omega, by simp; omega⟩, ?_⟩
    ((conv => whnf); repeat (refine SeqW.go ?_; conv => whnf))
    refine Lit.frz _ _ (.own (rowsB ((l.drop p).take m)) rfl rfl (toRows_map _) .nil) ?_
    ((conv => whnf); repeat (refine SeqW.go ?_; conv => whnf))
    refine ⟨⟨by simp [AllLen], by simp, allLen_lift (rowsL_all _ _ _), by simp; omega, by simp; omega⟩, ?_⟩
    ((conv => whnf); repeat (refine SeqW.go ?_; conv => whnf))
    rw [show IntKind.i64.wrap ((p : Int) + (m : Int)) = ((p + m : Nat) : Int) by rw [wrap_i64 (by omega) (by omega)]; rfl]
    refine ⟨(k + 1, p + m), ⟨hk1.symm, by omega, by omega⟩, by simp only; omega, ?_, ⟨rfl, rfl, rfl, rfl, trivial⟩, (by repeat (first | exact trivial | refine ⟨rfl, ?_⟩))⟩
    show HLe _ [_, Ob.buf (liftR (rowsL l m (k + 1)))]
    rw [rowsL_succ, liftR_append, partAt, ← hk]
    exact (by repeat (first | exact trivial | refine ⟨.refl _, ?_⟩))
  · have hc := count_eq (s := l.length) (m := m) (k := k) (by omega) (by simp at hlt; omega) (by omega)
    ((conv => whnf); repeat (refine SeqW.go ?_; conv => whnf))
    refine ⟨rowsL l m k, by simp, toRows_map _, ?_⟩
    ((conv => whnf); repeat (refine SeqW.go ?_; conv => whnf))
    exact ⟨by rw [hc], rfl⟩

theorem refPart_calls (b w : Int) (l : List UInt8) (part : Int) (hl : l.length ≤ 1048576) : PureA Try.prog 8 [scP b w, bytesP l, .d (.i .i64 part)] (.tup [bytesP (partR b w l part).1, .d (.i .i64 (partR b w l part).2)]) := by
  refine callsW_of 0 Try.call8 Try.func8 (c := _) rfl (by kernel_rfl) (Nat.le_of_ble_eq_true rfl) (Nat.le_refl 0) ?_
  ((conv => whnf); repeat (refine SeqW.go ?_; conv => whnf))
  rw [show (rowsB l).length = l.length from rowsB_length l]
  refine callP (refParts_calls b w l.length (by omega)) rfl rfl fun _ => ?_
  ((conv => whnf); repeat (refine SeqW.go ?_; conv => whnf))
  repeat (first | (refine Br.t ?_; conv => whnf) | (refine Cd.mk (by omega) ?_; conv => whnf) | (refine Br.f ?_; conv => whnf) | (refine SeqW.go ?_; conv => whnf))
  first | refine Br.dec (fun h1 => ?_) (fun h1 => ?_) | refine Br.beq (fun h1 => ?_) (fun h1 => ?_) | refine Br.bne (fun h1 => ?_) (fun h1 => ?_) | refine Br.nbeq (fun h1 => ?_) (fun h1 => ?_) | refine Br.not (fun h1 => ?_) (fun h1 => ?_) | refine Br.mk (fun h1 => ?_) (fun h1 => ?_)
  · ((conv => whnf); repeat (refine SeqW.go ?_; conv => whnf))
    exact ⟨by rw [partR, if_neg h1]; rfl, rfl⟩
  have hp : partR b w l part = if 0 ≤ part ∧ part < (partsR b w l.length).1 then ((l.drop (part.toNat * b.toNat)).take b.toNat, 0) else ([], 231) := by rw [partR, if_pos h1]
  have hpr := h1
  unfold partsR at hpr
  split at hpr
  case isFalse hg => exact absurd hpr hg
  rename_i hg
  split at hpr
  case isFalse hs => exact absurd hpr (by decide)
  rename_i hs
  have hn : (partsR b w l.length).1 = (l.length + b - 1) / b := by rw [partsR, if_pos hg, if_pos hs]
  have hcut := cut_calls b w l hl hg
  obtain ⟨m, hm, rfl⟩ := goodS_block hg
  have hbd := blocks_bd hm
  rw [Int.toNat_natCast] at hcut hp
  have e : ((l.length : Int) + (m : Int) - 1) / (m : Int) = (((l.length + m - 1) / m : Nat) : Int) := by
    rw [show (l.length : Int) + (m : Int) - 1 = ((l.length + m - 1 : Nat) : Int) by omega]; rfl
  rw [hn, e] at hp
  ((conv => whnf); repeat (refine SeqW.go ?_; conv => whnf))
  refine callP hcut rfl rfl fun _ => ?_
  ((conv => whnf); repeat (refine SeqW.go ?_; conv => whnf))
  first | refine Br.dec (fun h2 => ?_) (fun h2 => ?_) | refine Br.beq (fun h2 => ?_) (fun h2 => ?_) | refine Br.bne (fun h2 => ?_) (fun h2 => ?_) | refine Br.nbeq (fun h2 => ?_) (fun h2 => ?_) | refine Br.not (fun h2 => ?_) (fun h2 => ?_) | refine Br.mk (fun h2 => ?_) (fun h2 => ?_)
  · ((conv => whnf); repeat (refine SeqW.go ?_; conv => whnf))
    repeat (first | (refine Br.t ?_; conv => whnf) | (refine Cd.mk (by omega) ?_; conv => whnf) | (refine Br.f ?_; conv => whnf) | (refine SeqW.go ?_; conv => whnf))
    exact ⟨by rw [hp, if_neg (by omega)]; rfl, rfl⟩
  ((conv => whnf); repeat (refine SeqW.go ?_; conv => whnf))
  repeat (first | (refine Br.t ?_; conv => whnf) | (refine Cd.mk (by omega) ?_; conv => whnf) | (refine Br.f ?_; conv => whnf) | (refine SeqW.go ?_; conv => whnf))
  rw [rowsL_length]
  first | refine Br.dec (fun h3 => ?_) (fun h3 => ?_) | refine Br.beq (fun h3 => ?_) (fun h3 => ?_) | refine Br.bne (fun h3 => ?_) (fun h3 => ?_) | refine Br.nbeq (fun h3 => ?_) (fun h3 => ?_) | refine Br.not (fun h3 => ?_) (fun h3 => ?_) | refine Br.mk (fun h3 => ?_) (fun h3 => ?_)
  · ((conv => whnf); repeat (refine SeqW.go ?_; conv => whnf))
    exact ⟨by rw [hp, if_neg (by omega)]; rfl, rfl⟩
  rw [if_pos (by omega)] at hp
  obtain ⟨p, rfl⟩ : ∃ p : Nat, part = p := ⟨part.toNat, by omega⟩
  have hlt : p < (l.length + m - 1) / m := by omega
  ((conv => whnf); repeat (refine SeqW.go ?_; conv => whnf))
  refine ⟨⟨rowsL_all _ _ _, by omega, by simp; omega⟩, ?_⟩
  rw [show (p : Int).toNat = p from rfl, rowsL_get hlt]
  ((conv => whnf); repeat (refine SeqW.go ?_; conv => whnf))
  exact ⟨by rw [hp]; rfl, rfl⟩

theorem law_parts (b w size : Int) (l : List UInt8) (part : Int) (hl : l.length ≤ 1048576) (h1 : size ≤ 9223372036854775807) (h2 : part ≤ 9223372036854775807) : CallsA Try.prog 3 [scP b w, .d (.i .i64 size), bytesP l, .d (.i .i64 part)] [] YesR := by
  refine callsW_of 0 Try.call3 Try.func3 (c := _) rfl (by kernel_rfl) (Nat.le_of_ble_eq_true rfl) (Nat.le_refl 0) ?_
  ((conv => whnf); repeat (refine SeqW.go ?_; conv => whnf))
  refine callP (refParts_calls b w size h1) rfl rfl fun _ => ?_
  ((conv => whnf); repeat (refine SeqW.go ?_; conv => whnf))
  repeat (first | (refine Br.t ?_; conv => whnf) | (refine Cd.mk (by omega) ?_; conv => whnf) | (refine Br.f ?_; conv => whnf) | (refine SeqW.go ?_; conv => whnf))
  refine callP (parts_calls b w size h1) rfl rfl fun _ => ?_
  ((conv => whnf); repeat (refine SeqW.go ?_; conv => whnf))
  repeat (first | (refine Br.t ?_; conv => whnf) | (refine Cd.mk (by omega) ?_; conv => whnf) | (refine Br.f ?_; conv => whnf) | (refine SeqW.go ?_; conv => whnf))
  refine callP (twinO_calls l (by omega)) rfl rfl fun _ => ?_
  ((conv => whnf); repeat (refine SeqW.go ?_; conv => whnf))
  repeat (first | (refine Br.t ?_; conv => whnf) | (refine Cd.mk (by omega) ?_; conv => whnf) | (refine Br.f ?_; conv => whnf) | (refine SeqW.go ?_; conv => whnf))
  refine callP (part_calls b w l part (by omega) h2) rfl rfl fun _ => ?_
  ((conv => whnf); repeat (refine SeqW.go ?_; conv => whnf))
  repeat (first | (refine Br.t ?_; conv => whnf) | (refine Cd.mk (by omega) ?_; conv => whnf) | (refine Br.f ?_; conv => whnf) | (refine SeqW.go ?_; conv => whnf))
  refine callP (refPart_calls b w l part hl) rfl rfl fun _ => ?_
  ((conv => whnf); repeat (refine SeqW.go ?_; conv => whnf))
  repeat (first | (refine Br.t ?_; conv => whnf) | (refine Cd.mk (by omega) ?_; conv => whnf) | (refine Br.f ?_; conv => whnf) | (refine SeqW.go ?_; conv => whnf))
  refine Br.mk (fun _ => ?_) (fun h => absurd h (by simp))
  ((conv => whnf); repeat (refine SeqW.go ?_; conv => whnf))
  repeat (first | (refine Br.t ?_; conv => whnf) | (refine Cd.mk (by omega) ?_; conv => whnf) | (refine Br.f ?_; conv => whnf) | (refine SeqW.go ?_; conv => whnf))
  refine Br.mk (fun _ => ?_) (fun h => absurd h (by simp))
  ((conv => whnf); repeat (refine SeqW.go ?_; conv => whnf))
  repeat (first | (refine Br.t ?_; conv => whnf) | (refine Cd.mk (by omega) ?_; conv => whnf) | (refine Br.f ?_; conv => whnf) | (refine SeqW.go ?_; conv => whnf))
  refine Br.mk (fun _ => ?_) (fun h => absurd h (by simp))
  ((conv => whnf); repeat (refine SeqW.go ?_; conv => whnf))
  repeat (first | (refine Br.t ?_; conv => whnf) | (refine Cd.mk (by omega) ?_; conv => whnf) | (refine Br.f ?_; conv => whnf) | (refine SeqW.go ?_; conv => whnf))
  refine callP (bytesSame_calls (partR b w l part).1 (partR b w l part).1) rfl rfl fun _ => ?_
  ((conv => whnf); repeat (refine SeqW.go ?_; conv => whnf))
  repeat (first | (refine Br.t ?_; conv => whnf) | (refine Cd.mk (by omega) ?_; conv => whnf) | (refine Br.f ?_; conv => whnf) | (refine SeqW.go ?_; conv => whnf))
  refine Br.mk (fun _ => ?_) (fun h => absurd h (by simp))
  ((conv => whnf); repeat (refine SeqW.go ?_; conv => whnf))
  repeat (first | (refine Br.t ?_; conv => whnf) | (refine Cd.mk (by omega) ?_; conv => whnf) | (refine Br.f ?_; conv => whnf) | (refine SeqW.go ?_; conv => whnf))
  refine callP (bytesSame_calls l l) rfl rfl fun _ => ?_
  ((conv => whnf); repeat (refine SeqW.go ?_; conv => whnf))
  repeat (first | (refine Br.t ?_; conv => whnf) | (refine Cd.mk (by omega) ?_; conv => whnf) | (refine Br.f ?_; conv => whnf) | (refine SeqW.go ?_; conv => whnf))
  exact ⟨by simp, rfl⟩
end Go.Aw
