/- A dictionary with one key set. -/
import Derived.Test.YtjibpedeandalaaAwGet
set_option linter.unusedVariables false
set_option linter.unusedSimpArgs false
namespace Go.Aw

theorem bytesGt (a b : List UInt8) : (!(Op.bytesLess a b || a == b)) = Op.bytesLess b a := by
  have h := bytesLess_total b a
  cases e : Op.bytesLess b a with
  | false => rw [e] at h; simp only [Bool.not_false] at h; rw [← h]; rfl
  | true => rw [e] at h; simp only [Bool.not_true] at h; rw [← h]; rfl

theorem filter_lt {k : ByteArray} : ∀ {d : List (ByteArray × Val)}, Rise d → d.filter (fun p => keyLt p.1 k) = d.take (posK d k)
  | [], _ => rfl
  | p :: d, hr => by
    obtain ⟨h1, h2⟩ := List.pairwise_cons.1 hr
    simp only [List.filter_cons, posK, List.takeWhile_cons]
    split
    · simp only [List.length_cons, List.take_succ_cons]
      rw [filter_lt h2]; rfl
    · rename_i hp
      simp only [List.length_nil, List.take_zero, List.filter_eq_nil_iff]
      intro q hq hc
      exact hp (bytesLess_trans (h1 q hq) hc)
/-- Where the pairs behind a key begin. -/
def restK (d : List (ByteArray × Val)) (k : ByteArray) (there : Bool) : Nat := if there = true then posK d k + 1 else posK d k
theorem filter_gt {k : ByteArray} : ∀ {d : List (ByteArray × Val)}, Rise d → d.filter (fun p => keyLt k p.1) = d.drop (restK d k (match d[posK d k]? with | some p => decide (p.1 = k) | none => false))
  | [], _ => by simp
  | p :: d, hr => by
    obtain ⟨h1, h2⟩ := List.pairwise_cons.1 hr
    have all : ∀ q ∈ d, keyLt k p.1 = true ∨ p.1 = k → keyLt k q.1 = true := fun q hq h => by
      rcases h with h | h
      · exact bytesLess_trans h (h1 q hq)
      · rw [← h]; exact h1 q hq
    by_cases hp : keyLt p.1 k = true
    · have e : posK (p :: d) k = posK d k + 1 := by simp [posK, List.takeWhile_cons, hp]
      have hn : ¬ keyLt k p.1 = true := fun h => by have := bytesLess_trans h hp; rw [bytesLess_irrefl] at this; cases this
      rw [List.filter_cons, if_neg hn, filter_gt h2, e]
      simp only [List.getElem?_cons_succ, restK, e]
      split
      · rename_i y _
        by_cases hy : y.1 = k
        · simp [hy]
        · simp [hy]
      · simp
    · have e : posK (p :: d) k = 0 := by simp [posK, List.takeWhile_cons, hp]
      simp only [e, List.getElem?_cons_zero, restK]
      by_cases he : p.1 = k
      · have hn : ¬ keyLt k p.1 = true := by rw [he, keyLt, bytesLess_irrefl]; simp
        rw [List.filter_cons, if_neg hn, if_pos (by simpa using he)]
        simp only [Nat.zero_add, List.drop_succ_cons, List.drop_zero]
        exact List.filter_eq_self.2 fun q hq => all q hq (.inr he)
      · have hg : keyLt k p.1 = true := by
          have := bytesLess_total p.1.toList k.toList
          have hp' : Op.bytesLess p.1.toList k.toList = false := by simpa using hp
          rw [hp'] at this
          simp only [Bool.not_false] at this
          have ne : ¬ (k.toList == p.1.toList) = true := by rw [ba_beq]; simpa using fun e => he e.symm
          cases hk : Op.bytesLess k.toList p.1.toList with
          | true => exact hk
          | false => rw [hk] at this; simp only [Bool.false_or] at this; exact absurd this.symm ne
        rw [List.filter_cons, if_pos hg, if_neg (by simpa using he)]
        simp only [List.drop_zero]
        congr 1
        exact List.filter_eq_self.2 fun q hq => all q hq (.inl hg)

theorem walkP_app {x : Val} {k : ByteArray} {a : Int} : ∀ {A B : List (ByteArray × Val)} {q : Option ByteArray}, Rise (A ++ (k, x) :: B) → (∀ p ∈ A ++ (k, x) :: B, keyOk q p.1 = true) → (∀ p ∈ A, walkV p.2 a = 0) → (∀ p ∈ B, walkV p.2 a = 0) →
    walkP (A ++ (k, x) :: B) q a = walkV x a
  | [], B, q, hr, hk, _, hB => by
    simp only [List.nil_append] at hr hk ⊢
    have e : walkP ((k, x) :: B) q a = if keyOk q k = true then (if walkV x a = 0 then walkP B (some k) a else walkV x a) else 25 := by cases q <;> rfl
    rw [e, if_pos (hk (k, x) (by simp))]
    split
    · rename_i h0
      rw [h0]
      have zero : ∀ {B : List (ByteArray × Val)} {q : Option ByteArray}, Rise B → (∀ p ∈ B, keyOk q p.1 = true) → (∀ p ∈ B, walkV p.2 a = 0) → walkP B q a = 0 := by
        intro B
        induction B with
        | nil => intro q _ _ _; cases q <;> rfl
        | cons p B ih =>
          intro q hr hk hB
          obtain ⟨g1, g2⟩ := List.pairwise_cons.1 hr
          have e : walkP (p :: B) q a = if keyOk q p.1 = true then (if walkV p.2 a = 0 then walkP B (some p.1) a else walkV p.2 a) else 25 := by cases p; cases q <;> rfl
          rw [e, if_pos (hk p (by simp)), if_pos (hB p (by simp))]
          exact ih g2 (fun q hq => g1 q hq) fun q hq => hB q (by simp [hq])
      obtain ⟨g1, g2⟩ := List.pairwise_cons.1 hr
      exact zero g2 (fun q hq => g1 q hq) hB
    · rfl
  | p :: A, B, q, hr, hk, hA, hB => by
    obtain ⟨g1, g2⟩ := List.pairwise_cons.1 hr
    have e : walkP (p :: (A ++ (k, x) :: B)) q a = if keyOk q p.1 = true then (if walkV p.2 a = 0 then walkP (A ++ (k, x) :: B) (some p.1) a else walkV p.2 a) else 25 := by cases p; cases q <;> rfl
    rw [List.cons_append, e, if_pos (hk p (by simp)), if_pos (hA p (by simp))]
    exact walkP_app g2 (fun q hq => g1 q hq) (fun q hq => hA q (by simp [hq])) hB

/-- The dictionary with the key set. -/
def setD (d : List (ByteArray × Val)) (k : ByteArray) (x : Val) : List (ByteArray × Val) := d.filter (fun p => keyLt p.1 k) ++ (k, x) :: d.filter (fun p => keyLt k p.1)
theorem setD_rise {d : List (ByteArray × Val)} {k : ByteArray} {x : Val} (hr : Rise d) : Rise (setD d k x) := by
  unfold setD Rise
  rw [List.pairwise_append]
  refine ⟨List.Pairwise.filter _ hr, ?_, ?_⟩
  · rw [List.pairwise_cons]
    exact ⟨fun p hp => (List.mem_filter.1 hp).2, List.Pairwise.filter _ hr⟩
  · intro p hp q hq
    have h1 := (List.mem_filter.1 hp).2
    rcases List.mem_cons.1 hq with rfl | hq
    · exact h1
    · exact bytesLess_trans h1 (List.mem_filter.1 hq).2
theorem walk_set {v x : Val} {k : ByteArray} (h : walkV v 0 = 0) (hk : v.kind = 4) : walkV (.mk 4 0 ⟨#[]⟩ [] (setD v.dict k x)) 0 = walkV x 1 := by
  obtain ⟨_, _, _, _, hd, hr⟩ := fine_of h
  have hf : foreignV (.mk 4 0 ⟨#[]⟩ [] (setD v.dict k x)) = false := by
    simp [foreignV, Val.kind, Val.int, Val.str, Val.list, ba_toList]
  rw [walkV_rw, hf]
  simp only [Val.kind, Val.list, Val.dict, walkL, if_true]
  rw [if_neg (by simp), if_neg (by omega), if_neg (by omega)]
  exact walkP_app (setD_rise hr) (fun _ _ => rfl) (fun p hp => hd p ((List.mem_filter.1 hp).1)) fun p hp => hd p ((List.mem_filter.1 hp).1)
/-- What With answers. -/
def setR (v : Val) (k : ByteArray) (x : Val) : Val × Int := if walkV v 0 = 0 then if v.kind = 4 then if walkV x 0 = 0 then if walkV x 1 = 0 then (.mk 4 0 ⟨#[]⟩ [] (setD v.dict k x), 0) else (zeroV, walkV x 1) else (zeroV, walkV x 0) else (zeroV, 28) else (zeroV, walkV v 0)
theorem rowsP_app (a b : List (ByteArray × Val)) : rowsP (a ++ b) = rowsP a ++ rowsP b := by simp [rowsP_eq]
theorem rowsP_tk (l : List (ByteArray × Val)) (n : Nat) : (rowsP l).take n = rowsP (l.take n) := by simp [rowsP_eq, List.map_take]
theorem rowsP_dp (l : List (ByteArray × Val)) (n : Nat) : (rowsP l).drop n = rowsP (l.drop n) := by simp [rowsP_eq, List.map_drop]
theorem filter_snoc {l : List (ByteArray × Val)} {q : ByteArray × Val → Bool} {i : Nat} (h : i < l.length) : (l.take (i + 1)).filter q = if q l[i] = true then (l.take i).filter q ++ [l[i]] else (l.take i).filter q := by
  rw [List.take_add_one, List.getElem?_eq_getElem h, List.filter_append]
  simp only [Option.toList_some, List.filter_cons, List.filter_nil]
  split <;> simp
theorem argT_strB {P : Program} {t : TypeId} {N : Nat} {p : PV} (hu : P.underlying t = some .string) (h : ArgT P N t p) : ∃ x : ByteArray, p = .d (.s x) ∧ x.size ≤ N := by
  obtain ⟨d, h1, h2, rfl⟩ := argT_one (by rw [hu]; simp) (by rw [hu]; simp) h
  obtain ⟨x, e1, _⟩ := ty_str hu h1
  cases e1
  exact ⟨x, rfl, by simp only [bulkD] at h2; omega⟩
theorem bulkR_app : ∀ (a b : List (List D)), bulkR (a ++ b) = bulkR a + bulkR b
  | [], b => by simp [bulkR]
  | r :: a, b => by simp only [List.cons_append, bulkR, bulkR_app a b]; omega
theorem bulk_filter (q : ByteArray × Val → Bool) : ∀ l : List (ByteArray × Val), bulkR (rowsP (l.filter q)) ≤ bulkR (rowsP l)
  | [] => by simp
  | p :: l => by
    have := bulk_filter q l
    rw [List.filter_cons]
    split
    · cases p; simp only [rowsP, bulkR]; omega
    · cases p; simp only [rowsP, bulkR]; omega
end Go.Aw
