/- Layer 12: DiskFuses' arguments. -/
import Derived.Test.YthilodmojjlaeaaAwDiskFwK
set_option linter.unusedVariables false
set_option linter.unusedSimpArgs false
namespace Go.Aw
open Go.Proofs
theorem tyD_ac {ds : List D} (h : TyD Try.prog 58 ds) : ∃ x : Bool × Int × List UInt8, ds = acRow x ∧ bulkL ds = x.2.2.length + 3 := by
  have := ty_struct Try.underlying58 h
  obtain ⟨c, cs, rfl, h1, h2⟩ := tyfs_cons this
  obtain ⟨c', cs', rfl, h3, h4⟩ := tyfs_cons h2
  obtain rfl := tyfs_nil h4
  obtain ⟨b, rfl⟩ := ty_bool Try.underlying4 h1
  obtain ⟨x, rfl, hx⟩ := tyD_wr h3
  exact ⟨(b, x), rfl, by simp [bulkL, bulkD] at hx ⊢; omega⟩
theorem tyR_acs : ∀ {rows : List (List D)}, TyR Try.prog 58 rows → ∃ l : Acts, rows = l.map acRow ∧ l.length ≤ bulkR rows ∧ ∀ x ∈ l, x.2.2.length ≤ bulkR rows
  | [], _ => ⟨[], rfl, by simp, by simp⟩
  | r :: rs, h => by
    cases h
    rename_i h1 h2
    obtain ⟨x, rfl, hx⟩ := tyD_ac h1
    obtain ⟨ws, rfl, e1, e2⟩ := tyR_acs h2
    refine ⟨x :: ws, rfl, ?_, fun y hy => ?_⟩
    · simp only [bulkR, List.length_cons]; omega
    · simp only [bulkR]
      rcases List.mem_cons.1 hy with rfl | hy
      · omega
      · have := e2 y hy; omega
theorem argT_acs {N : Nat} {p : PV} (h : ArgT Try.prog N 56 p) : ∃ l : Acts, p = acP l ∧ l.length ≤ N ∧ ∀ x ∈ l, x.2.2.length ≤ N := by
  obtain ⟨d, h1, h2, rfl⟩ := argT_one (by rw [Try.underlying56]; simp) (by rw [Try.underlying56]; simp) h
  obtain ⟨rows, e1, _, e2⟩ := ty_sl Try.underlying56 h1
  cases e1
  obtain ⟨l, rfl, e3, e4⟩ := tyR_acs e2
  simp only [bulkD] at h2
  exact ⟨l, rfl, by omega, fun x hx => by have := e4 x hx; omega⟩
end Go.Aw
