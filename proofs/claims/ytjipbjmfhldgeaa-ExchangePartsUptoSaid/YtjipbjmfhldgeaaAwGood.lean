/- Which scales may be; parts of a text. -/
import Derived.Test.YtjipbjmfhldgeaaAwBytes
import Derived.Test.YtjipbjmfhldgeaaAwLoop
import Derived.KernelRfl
set_option linter.unusedVariables false
set_option linter.unusedSimpArgs false
namespace Go.Aw

def blocks : List Nat := [64, 128, 256, 512, 1024, 2048, 4096, 8192, 16384]
theorem blocks_iff {b : Nat} (h : 64 ≤ b) (h' : b ≤ 16384) : b &&& (b - 1) = 0 ↔ b ∈ blocks := by
  rw [Nat.and_sub_one_eq_zero_iff_isPowerOfTwo (by omega)]
  constructor
  · rintro ⟨k, rfl⟩
    have hk : k < 15 := by
      rcases Nat.lt_or_ge k 15 with h1 | h1
      · exact h1
      · have := Nat.pow_le_pow_right (show 0 < 2 by omega) h1
        have e : 2 ^ 15 = 32768 := rfl
        omega
    have all : ∀ k, k < 15 → 64 ≤ 2 ^ k → 2 ^ k ∈ blocks := by decide
    exact all k hk h
  · intro hm
    have all : ∀ n ∈ blocks, ∃ k, k < 15 ∧ n = 2 ^ k := by decide
    obtain ⟨k, _, hk⟩ := all b hm
    exact ⟨k, hk⟩
theorem and_i64 {a b : Nat} (ha : a < 9223372036854775808) (hb : b < 9223372036854775808) : IntKind.i64.wrap ((BitVec.ofInt IntKind.i64.bits (a : Int) &&& BitVec.ofInt IntKind.i64.bits (b : Int)).toNat : Int) = ((a &&& b : Nat) : Int) := by
  have e : ∀ n : Nat, n < 9223372036854775808 → (BitVec.ofInt IntKind.i64.bits (n : Int)).toNat = n := fun n hn => by
    rw [show (n : Int) = ((n : Nat) : Int) from rfl, BitVec.ofInt_natCast, BitVec.toNat_ofNat]
    exact Nat.mod_eq_of_lt (by show n < 2 ^ 64; omega)
  rw [BitVec.toNat_and, e a ha, e b hb]
  have hle : a &&& b ≤ a := Nat.and_le_left
  rw [wrap_i64 (by omega) (by omega)]

/-- Good, of a scale. -/
def goodS (b w : Int) : Int := if (∃ n ∈ blocks, b = ((n : Nat) : Int)) ∧ 1 ≤ w ∧ w ≤ 32 then 0 else 10
theorem goodS_block {b w : Int} (h : goodS b w = 0) : ∃ n ∈ blocks, b = ((n : Nat) : Int) := by
  unfold goodS at h
  split at h
  · rename_i hc; exact hc.1
  · cases h
theorem blocks_bd {n : Nat} (h : n ∈ blocks) : 64 ≤ n ∧ n ≤ 16384 := by
  simp only [blocks, List.mem_cons, List.not_mem_nil, or_false] at h
  omega
/-- How many parts. -/
def partsR (b w size : Int) : Int × Int := if goodS b w = 0 then if 1 ≤ size ∧ size ≤ 1048576 then ((size + b - 1) / b, 0) else (0, 230) else (0, goodS b w)
/-- The part that begins at a place. -/
def partAt (l : List UInt8) (m i : Nat) : List UInt8 := (l.drop (i * m)).take m
/-- The first k parts, as rows. -/
def rowsL (l : List UInt8) (m k : Nat) : List (List D) := (List.range k).map fun i => [D.sl (rowsB (partAt l m i))]
@[simp] theorem rowsL_length (l : List UInt8) (m k : Nat) : (rowsL l m k).length = k := by simp [rowsL]
theorem rowsL_all (l : List UInt8) (m k : Nat) : AllLen 1 (rowsL l m k) := fun r hr => by
  obtain ⟨i, _, rfl⟩ := List.mem_map.1 hr; rfl
theorem rowsL_succ (l : List UInt8) (m k : Nat) : rowsL l m (k + 1) = rowsL l m k ++ [[D.sl (rowsB (partAt l m k))]] := by
  simp [rowsL, List.range_succ]
theorem rowsL_get {l : List UInt8} {m k i : Nat} (h : i < k) : (rowsL l m k).getD i [] = [D.sl (rowsB (partAt l m i))] := by
  simp [rowsL, List.getD_eq_getElem?_getD, h]
theorem cut_eq (l : List UInt8) (m at_ : Nat) (h : at_ ≤ l.length) : (l.take (min (at_ + m) l.length)).drop at_ = (l.drop at_).take m := by
  rw [List.take_drop]
  rcases Nat.le_total (at_ + m) l.length with h1 | h1
  · rw [Nat.min_eq_left h1]
  · rw [Nat.min_eq_right h1, List.take_of_length_le (Nat.le_refl _), List.take_of_length_le h1]
/-- How many parts, by their places. -/
theorem count_eq {s m k : Nat} (hm : 0 < m) (h1 : s ≤ k * m) (h2 : k * m < s + m) : (s + m - 1) / m = k := by
  have : (s + m - 1) / m < k + 1 := (Nat.div_lt_iff_lt_mul hm).2 (by rw [Nat.add_mul]; omega)
  have : k ≤ (s + m - 1) / m := (Nat.le_div_iff_mul_le hm).2 (by omega)
  omega
/-- One part. -/
def partR (b w : Int) (l : List UInt8) (part : Int) : List UInt8 × Int := if (partsR b w l.length).2 = 0 then if 0 ≤ part ∧ part < (partsR b w l.length).1 then ((l.drop (part.toNat * b.toNat)).take b.toNat, 0) else ([], 231) else ([], (partsR b w l.length).2)
end Go.Aw
