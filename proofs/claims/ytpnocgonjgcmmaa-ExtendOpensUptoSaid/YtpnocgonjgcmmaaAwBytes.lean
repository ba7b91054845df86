/- Bytes as rows. -/
import Derived.Test.YtpnocgonjgcmmaaAwV
set_option linter.unusedVariables false
set_option linter.unusedSimpArgs false
namespace Go.Aw
def rowsB (l : List UInt8) : List (List D) := l.map fun b => [D.i .u8 b.toNat]
@[simp] theorem rowsB_length (l : List UInt8) : (rowsB l).length = l.length := by simp [rowsB]
theorem rowsB_all (l : List UInt8) : AllLen 1 (rowsB l) := by simp [rowsB, AllLen]
theorem rowsB_get {l : List UInt8} {i : Nat} (h : i < l.length) : (rowsB l).getD i [] = [D.i .u8 l[i].toNat] := by
  simp [rowsB, List.getD_eq_getElem?_getD, h]
@[simp] theorem rowsB_nil : rowsB [] = [] := rfl
theorem rowsB_append (a b : List UInt8) : rowsB (a ++ b) = rowsB a ++ rowsB b := by simp [rowsB]
theorem rowsB_drop (l : List UInt8) (n : Nat) : (rowsB l).drop n = rowsB (l.drop n) := by simp [rowsB, List.map_drop]
theorem rowsB_take (l : List UInt8) (n : Nat) : (rowsB l).take n = rowsB (l.take n) := by simp [rowsB, List.map_take]
theorem allLen_lift {n : Nat} {rows : List (List D)} (h : AllLen n rows) : AllLen n (rows.map (·.map PV.d)) := fun r hr => by
  obtain ⟨x, hx, rfl⟩ := List.mem_map.1 hr
  rw [List.length_map]; exact h x hx
theorem rowsB_succ {l : List UInt8} {i : Nat} (h : i < l.length) : rowsB (l.take (i + 1)) = rowsB (l.take i) ++ [[D.i .u8 l[i].toNat]] := by
  rw [List.take_add_one, List.getElem?_eq_getElem h, rowsB_append]; rfl
/-- A slice of bytes. -/
abbrev bytesP (l : List UInt8) : PV := .d (.sl (rowsB l))
theorem toRows_map (rows : List (List D)) : toRows (rows.map (·.map PV.d)) = some rows := by
  induction rows with
  | nil => rfl
  | cons r rs ih =>
    have : ∀ l : List D, toDs (l.map PV.d) = some l := by
      intro l
      induction l with
      | nil => rfl
      | cons d l ih => simp [toDs, PV.toD, ih]
    simp [toRows, this, ih]
theorem sizedB {l : List UInt8} (h : sizedP (bytesP l)) : l.length ≤ 9223372036854775807 := by
  simp only [sizedP, sizedD, rowsB_length, maxLen] at h
  omega
end Go.Aw
