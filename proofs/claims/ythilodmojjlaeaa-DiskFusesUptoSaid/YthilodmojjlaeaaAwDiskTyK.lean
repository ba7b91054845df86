/- Layer 12: the arguments of its laws. -/
import Derived.Test.YthilodmojjlaeaaAwDiskLaK
import Derived.Test.YthilodmojjlaeaaAwPack3
set_option linter.unusedVariables false
set_option linter.unusedSimpArgs false
namespace Go.Aw
open Go.Proofs
theorem tyD_wr {ds : List D} (h : TyD Try.prog 45 ds) : ∃ x : Int × List UInt8, ds = wsRow x ∧ bulkL ds = x.2.length + 2 := by
  have := ty_struct Try.underlying45 h
  obtain ⟨c, cs, rfl, h1, h2⟩ := tyfs_cons this
  obtain ⟨c', cs', rfl, h3, h4⟩ := tyfs_cons h2
  obtain rfl := tyfs_nil h4
  obtain ⟨n, rfl, _⟩ := ty_int Try.underlying3 h1
  obtain ⟨b, rfl, hb⟩ := ty_bytes Try.underlying22 Try.underlying5 h3
  exact ⟨(n, b), rfl, by simp [bulkL, bulkD] at hb ⊢; omega⟩
theorem tyR_ws : ∀ {rows : List (List D)}, TyR Try.prog 45 rows → ∃ ws : List (Int × List UInt8), rows = ws.map wsRow ∧ ws.length ≤ bulkR rows ∧ ∀ x ∈ ws, x.2.length ≤ bulkR rows
  | [], _ => ⟨[], rfl, by simp, by simp⟩
  | r :: rs, h => by
    cases h
    rename_i h1 h2
    obtain ⟨x, rfl, hx⟩ := tyD_wr h1
    obtain ⟨ws, rfl, e1, e2⟩ := tyR_ws h2
    refine ⟨x :: ws, rfl, ?_, fun y hy => ?_⟩
    · simp only [bulkR, List.length_cons]; omega
    · simp only [bulkR]
      rcases List.mem_cons.1 hy with rfl | hy
      · omega
      · have := e2 y hy; omega
theorem argT_ws {N : Nat} {p : PV} (h : ArgT Try.prog N 40 p) : ∃ ws : List (Int × List UInt8), p = wsP ws ∧ ws.length ≤ N ∧ ∀ x ∈ ws, x.2.length ≤ N := by
  obtain ⟨d, h1, h2, rfl⟩ := argT_one (by rw [Try.underlying40]; simp) (by rw [Try.underlying40]; simp) h
  obtain ⟨rows, e1, _, e2⟩ := ty_sl Try.underlying40 h1
  cases e1
  obtain ⟨ws, rfl, e3, e4⟩ := tyR_ws e2
  simp only [bulkD] at h2
  exact ⟨ws, rfl, by omega, fun x hx => by have := e4 x hx; omega⟩
theorem tyR_bools : ∀ {rows : List (List D)}, TyR Try.prog 4 rows → ∃ l : List Bool, rows = l.map (fun b => [D.b b]) ∧ l.length ≤ bulkR rows
  | [], _ => ⟨[], rfl, by simp⟩
  | r :: rs, h => by
    cases h
    rename_i h1 h2
    obtain ⟨x, rfl⟩ := ty_bool Try.underlying4 h1
    obtain ⟨l, rfl, e1⟩ := tyR_bools h2
    exact ⟨x :: l, rfl, by simp only [bulkR, bulkL, bulkD, List.length_cons]; omega⟩
theorem argT_bools {N : Nat} {p : PV} (h : ArgT Try.prog N 49 p) : ∃ l : List Bool, p = keepP l ∧ l.length ≤ N := by
  obtain ⟨d, h1, h2, rfl⟩ := argT_one (by rw [Try.underlying49]; simp) (by rw [Try.underlying49]; simp) h
  obtain ⟨rows, e1, _, e2⟩ := ty_sl Try.underlying49 h1
  cases e1
  obtain ⟨l, rfl, e3⟩ := tyR_bools e2
  simp only [bulkD] at h2
  exact ⟨l, rfl, by omega⟩
theorem argT_bool {N : Nat} {p : PV} (h : ArgT Try.prog N 4 p) : ∃ b : Bool, p = .d (.b b) := by
  obtain ⟨d, h1, h2, rfl⟩ := argT_one (by rw [Try.underlying4]; simp) (by rw [Try.underlying4]; simp) h
  obtain ⟨b, e1⟩ := ty_bool Try.underlying4 h1
  cases e1
  exact ⟨b, rfl⟩
end Go.Aw
