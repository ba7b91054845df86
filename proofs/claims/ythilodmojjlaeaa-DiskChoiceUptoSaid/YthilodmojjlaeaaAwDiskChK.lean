/- Layer 12: after any crash each sector reads as what lasted there or as a write to it. -/
import Derived.Test.YthilodmojjlaeaaAwDiskAmK
set_option linter.unusedVariables false
set_option linter.unusedSimpArgs false
namespace Go.Aw
open Go.Proofs
set_option maxRecDepth 100000
set_option maxHeartbeats 2000000

/-- A sector's bytes. -/
def sect (X : List UInt8) (n : Nat) : List UInt8 := (X.drop (64 * n)).take 64
theorem sect_len (X : List UInt8) (n : Nat) (h : 64 * n + 64 ≤ X.length) : (sect X n).length = 64 := by simp [sect]; omega
theorem sect_splice_ne (X b : List UInt8) (n a : Nat) (h : a ≠ n) (hb : b.length ≤ 64) (ha : a * 64 + 64 ≤ X.length) (hn : 64 * n + 64 ≤ X.length) : sect (splice X (a * 64) b) n = sect X n := by
  apply List.ext_getElem?
  intro i
  simp only [sect, List.getElem?_take, List.getElem?_drop]
  split
  · rw [spliceB_get _ _ _ _ (by omega), if_neg (by omega)]
  · rfl
theorem sect_splice_eq (X b : List UInt8) (n : Nat) (hb : b.length ≤ 64) (hn : 64 * n + 64 ≤ X.length) : sect (splice X (n * 64) b) n = b ++ (sect X n).drop b.length := by
  apply List.ext_getElem?
  intro i
  have hs := sect_len X n hn
  simp only [sect, List.getElem?_take, List.getElem?_drop]
  by_cases hi : i < 64
  · rw [if_pos hi, spliceB_get _ _ _ _ (by omega)]
    by_cases h2 : i < b.length
    · rw [if_pos (by omega), List.getElem?_append_left h2]; congr 1; omega
    · rw [if_neg (by omega), List.getElem?_append_right (by omega), List.getElem?_drop, List.getElem?_take, if_pos (by omega), List.getElem?_drop]; congr 1; omega
  · rw [if_neg hi, List.getElem?_eq_none]
    simp only [sect] at hs
    simp; omega
theorem mixB_mix (t u : List UInt8) (cut : Nat) (ht : t.length = 64) (hu : u.length = 64) (hc : cut ≤ 64) : t.take cut ++ (mixB t cut u).drop (t.take cut).length = mixB t cut u := by
  simp only [mixB, List.length_take, ht]
  rw [show min cut 64 = cut by omega, List.drop_append_of_le_length (by simp; omega)]
  simp

/-- What a crash leaves of a sector is good. -/
theorem crash_good (ws0 : List (Int × List UInt8)) (keep : List Bool) (torn : Int) (cut : Nat) (hc : cut ≤ 64) (n N : Nat) (hn : 64 * n + 64 ≤ N) (old : List UInt8) (ho : old.length = 64)
    (tornAt : Int) (hta : tornAt = if 0 ≤ torn ∧ ((ws0.map (·.1)).getD torn.toNat (-1) = n) then torn else -1) :
    ∀ (ws : List (Int × List UInt8)) (i : Nat) (X : List UInt8), ws0.drop i = ws → X.length = N → (∀ x ∈ ws, inB (N / 64) x = true) →
      (∃ u ∈ mayL old ws0 n tornAt, goodU (sect X n) ws0 tornAt cut u) → ∃ u ∈ mayL old ws0 n tornAt, goodU (sect (crashB keep torn cut i (ws.map mkW) X) n) ws0 tornAt cut u
  | [], i, X, hd, hX, hw, h => h
  | x :: r, i, X, hd, hX, hw, h => by
    have hil : i < ws0.length := by
      rcases Nat.lt_or_ge i ws0.length with h1 | h1
      · exact h1
      · rw [List.drop_eq_nil_of_le h1] at hd; cases hd
    have hxi : ws0[i] = x := by rw [List.drop_eq_getElem_cons hil] at hd; exact (List.cons.inj hd).1
    have hr : ws0.drop (i + 1) = r := by rw [List.drop_eq_getElem_cons hil] at hd; exact (List.cons.inj hd).2
    have hx := hw x (by simp)
    simp only [inB, decide_eq_true_eq] at hx
    obtain ⟨a, ha⟩ : ∃ a : Nat, x.1 = a := ⟨x.1.toNat, by omega⟩
    have hfb := fullB_len x.2
    have hw' : ∀ y ∈ r, inB (N / 64) y = true := fun y hy => hw y (List.mem_cons_of_mem _ hy)
    simp only [List.map_cons, crashB, Bool.false_eq_true, if_false]
    rw [ha, Int.toNat_natCast]
    have hgi : (ws0.map (·.1)).getD i (-1) = a := by rw [List.getD_eq_getElem?_getD, List.getElem?_map, List.getElem?_eq_getElem hil, hxi, ← ha]; rfl
    split
    · rename_i ht
      refine crash_good ws0 keep torn cut hc n N hn old ho tornAt hta r (i + 1) _ hr (by rw [splice_len _ _ _ (by simp; omega)]; exact hX) hw' ?_
      by_cases hne : a = n
      · subst hne
        have hti : tornAt = i := by
          rw [hta, if_pos ⟨by omega, by rw [← ht]; exact hgi⟩, ht]
        rw [sect_splice_eq _ _ _ (by simp; omega) (by omega)]
        obtain ⟨u, hu, hgu⟩ := h
        have hu64 := mayL_64 old ho ws0 a tornAt u hu
        have hit : tornAt.toNat = i := by omega
        have hb : fullB (ws0[tornAt.toNat]'(by omega)).2 = fullB x.2 := by simp only [hit, hxi]
        refine ⟨u, hu, .inr ⟨by omega, by omega, ?_⟩⟩
        rw [hb]
        rcases hgu with hgu | ⟨_, hlt, hgu⟩
        · rw [hgu]; simp only [mixB, List.length_take, hfb]; rw [show min cut 64 = cut by omega]
        · rw [hgu, hb]; exact mixB_mix _ _ _ hfb hu64 hc
      · rw [sect_splice_ne _ _ _ _ hne (by simp; omega) (by omega) (by omega)]; exact h
    · rename_i ht
      split
      · refine crash_good ws0 keep torn cut hc n N hn old ho tornAt hta r (i + 1) _ hr (by rw [splice_len _ _ _ (by omega)]; exact hX) hw' ?_
        by_cases hne : a = n
        · subst hne
          rw [sect_splice_eq _ _ _ (by omega) (by omega)]
          refine ⟨fullB x.2, ?_, .inl ?_⟩
          · refine List.mem_cons_of_mem _ (List.mem_filterMap.2 ⟨(x, i), ?_, ?_⟩)
            · rw [List.mk_mem_zipIdx_iff_getElem?, List.getElem?_eq_getElem hil, hxi]
            · have : (i : Int) ≠ tornAt := by
                rw [hta]; split
                · exact ht
                · omega
              simp only
              rw [if_pos ⟨ha, this⟩]
          · rw [List.drop_eq_nil_of_le (by rw [sect_len _ _ (by omega)]; omega), List.append_nil]
        · rw [sect_splice_ne _ _ _ _ hne (by omega) (by omega) (by omega)]; exact h
      · exact crash_good ws0 keep torn cut hc n N hn old ho tornAt hta r (i + 1) X hr hX hw' h
end Go.Aw
