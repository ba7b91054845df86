/- Bytes as rows. -/
import Derived.Test.YthilodmojjlaeaaAwV
set_option linter.unusedVariables false
set_option linter.unusedSimpArgs false
namespace Go.Aw
def rowsB (l : List UInt8) : List (List D) := l.map fun b => [D.i .u8 b.toNat]
@[simp] theorem rowsB_length (l : List UInt8) : (rowsB l).length = l.length := by simp [rowsB]
theorem rowsB_all (l : List UInt8) : AllLen 1 (rowsB l) := by simp [rowsB, AllLen]
theorem rowsB_get {l : List UInt8} {i : Nat} (h : i < l.length) : (rowsB l).getD i [] = [D.i .u8 l[i].toNat] := by
  simp [rowsB, List.getD_eq_getElem?_getD, h]
@[simp] theorem rowsB_nil : rowsB [] = [] := rfl
theorem rowsB_append (a b : List UInt8) : rowsB (a ++ b) = rowsB a ++ rowsB b := by simp [rowsB]
theorem rowsB_drop (l : List UInt8) (n : Nat) : (rowsB l).drop n = rowsB (l.drop n) := by simp [rowsB, List.map_drop]
theorem rowsB_take (l : List UInt8) (n : Nat) : (rowsB l).take n = rowsB (l.take n) := by simp [rowsB, List.map_take]
theorem allLen_lift {n : Nat} {rows : List (List D)} (h : AllLen n rows) : AllLen n (rows.map (·.map PV.d)) := fun r hr => by
  obtain ⟨x, hx, rfl⟩ := List.mem_map.1 hr
  rw [List.length_map]; exact h x hx
theorem rowsB_succ {l : List UInt8} {i : Nat} (h : i < l.length) : rowsB (l.take (i + 1)) = rowsB (l.take i) ++ [[D.i .u8 l[i].toNat]] := by
  rw [List.take_add_one, List.getElem?_eq_getElem h, rowsB_append]; rfl
/-- A slice of bytes. -/
abbrev bytesP (l : List UInt8) : PV := .d (.sl (rowsB l))
theorem toRows_map (rows : List (List D)) : toRows (rows.map (·.map PV.d)) = some rows := by
  induction rows with
  | nil => rfl
  | cons r rs ih =>
    have : ∀ l : List D, toDs (l.map PV.d) = some l := by
      intro l
      induction l with
      | nil => rfl
      | cons d l ih => simp [toDs, PV.toD, ih]
    simp [toRows, this, ih]
theorem sizedB {l : List UInt8} (h : sizedP (bytesP l)) : l.length ≤ 9223372036854775807 := by
  simp only [sizedP, sizedD, rowsB_length, maxLen] at h
  omega
theorem ba_loop (x : ByteArray) : ∀ (n i : Nat) (r : List UInt8), x.size - i = n → i ≤ x.size → ByteArray.toList.loop x i r = r.reverse ++ x.data.toList.drop i := by
  intro n
  induction n with
  | zero =>
    intro i r hn hi
    unfold ByteArray.toList.loop
    have : ¬ i < x.size := by omega
    rw [if_neg this]
    have e : x.data.toList.length = x.size := by rw [Array.length_toList]; rfl
    rw [List.drop_eq_nil_of_le (by omega)]; simp
  | succ n ih =>
    intro i r hn hi
    unfold ByteArray.toList.loop
    have hlt : i < x.size := by omega
    rw [if_pos hlt, ih (i + 1) _ (by omega) (by omega)]
    have e : x.data.toList.length = x.size := by rw [Array.length_toList]; rfl
    rw [List.drop_eq_getElem_cons (i := i) (by omega)]
    simp only [ByteArray.get!, List.reverse_cons, List.append_assoc, List.singleton_append, Array.getElem_toList]
    rw [getElem!_pos x.data i (by have : x.data.size = x.size := rfl; omega)]
theorem ba_toList (x : ByteArray) : x.toList = x.data.toList := by
  unfold ByteArray.toList
  rw [ba_loop x _ 0 [] rfl (Nat.zero_le _)]; simp
theorem ba_beq (x y : ByteArray) : (x.toList == y.toList) = decide (x = y) := by
  rw [ba_toList, ba_toList]
  by_cases h : x = y
  · subst h; simp
  · have : ¬ x.data.toList = y.data.toList := fun e => h (by cases x; cases y; simp at e; simp [e])
    have h2 : ¬ x.data = y.data := fun e => this (by rw [e])
    simp [h, h2]

end Go.Aw
