/- Which values can be written, as the document tells it. -/
import Derived.Test.YtjibpedeandalaaAwVal
set_option linter.unusedVariables false
set_option linter.unusedSimpArgs false
namespace Go.Aw

theorem bytesLess_total : ∀ a b : List UInt8, (!(Op.bytesLess a b)) = (Op.bytesLess b a || b == a)
  | [], [] => by simp [Op.bytesLess]
  | [], _ :: _ => by simp [Op.bytesLess]
  | _ :: _, [] => by simp [Op.bytesLess]
  | x :: a, y :: b => by
    have ih := bytesLess_total a b
    simp only [Op.bytesLess]
    by_cases h : x = y
    · subst h
      simp [ih, UInt8.lt_irrefl]
    · have h' : ¬ y = x := fun e => h e.symm
      rcases UInt8.lt_or_lt_of_ne h with hl | hl
      · have : ¬ y < x := UInt8.lt_asymm hl
        simp [h, h', hl, this]
      · have : ¬ x < y := UInt8.lt_asymm hl
        simp [h, h', hl, this]

/-- A field of another kind is set. -/
def foreignV (v : Val) : Bool := (v.kind != 1 && v.int != 0) || (v.kind != 2 && !(v.str.toList == [])) || (v.kind != 3 && decide (0 < v.list.length)) || (v.kind != 4 && decide (0 < v.dict.length))

mutual
/-- The walk of chapter 2 over a value around which so many lists and dictionaries lie: the error, 0 for none. -/
def walkV : Val → Int → Int
  | .mk k n s l d, around => if k < 1 ∨ 4 < k ∨ foreignV (.mk k n s l d) = true then 27 else if k < 3 then 0 else if 32 ≤ around then 24 else
      if walkL l (around + 1) = 0 then walkP d none (around + 1) else walkL l (around + 1)
def walkL : List Val → Int → Int
  | [], _ => 0
  | v :: r, around => if walkV v around = 0 then walkL r around else walkV v around
def walkP : List (ByteArray × Val) → Option ByteArray → Int → Int
  | [], _, _ => 0
  | (k, v) :: r, prev, around => if (match prev with | some q => Op.bytesLess q.toList k.toList | none => true) = true then
      (if walkV v around = 0 then walkP r (some k) around else walkV v around) else 25
end
theorem walkL_hit {l : List Val} {i : Nat} {a : Int} (h : i < l.length) (hp : walkL l a = walkL (l.drop i) a) (he : ¬ walkV l[i] a = 0) : walkL l a = walkV l[i] a := by
  rw [hp, List.drop_eq_getElem_cons h]; simp only [walkL]; rw [if_neg he]
theorem walkL_miss {l : List Val} {i : Nat} {a : Int} (h : i < l.length) (hp : walkL l a = walkL (l.drop i) a) (he : walkV l[i] a = 0) : walkL l a = walkL (l.drop (i + 1)) a := by
  rw [hp, List.drop_eq_getElem_cons h]; simp only [walkL]; rw [if_pos he]

/-- The key ahead of place i. -/
def prevK (d : List (ByteArray × Val)) : Nat → Option ByteArray
  | 0 => none
  | i + 1 => (d[i]?).map (·.1)
def keyOk (q : Option ByteArray) (k : ByteArray) : Bool := match q with | some q => Op.bytesLess q.toList k.toList | none => true
theorem walkP_bad {d : List (ByteArray × Val)} {i : Nat} {a : Int} {t : Int} (h : i < d.length) (hp : t = walkP (d.drop i) (prevK d i) a) (he : keyOk (prevK d i) d[i].1 = false) : t = 25 := by
  rw [hp, List.drop_eq_getElem_cons h]; simp only [walkP]
  unfold keyOk at he
  rw [if_neg (by rw [he]; simp)]
theorem walkP_hit {d : List (ByteArray × Val)} {i : Nat} {a : Int} {t : Int} (h : i < d.length) (hp : t = walkP (d.drop i) (prevK d i) a) (hk : keyOk (prevK d i) d[i].1 = true) (he : ¬ walkV d[i].2 a = 0) : t = walkV d[i].2 a := by
  rw [hp, List.drop_eq_getElem_cons h]; simp only [walkP]
  unfold keyOk at hk
  rw [if_pos hk, if_neg he]
theorem walkP_miss {d : List (ByteArray × Val)} {i : Nat} {a : Int} {t : Int} (h : i < d.length) (hp : t = walkP (d.drop i) (prevK d i) a) (hk : keyOk (prevK d i) d[i].1 = true) (he : walkV d[i].2 a = 0) : t = walkP (d.drop (i + 1)) (prevK d (i + 1)) a := by
  rw [hp, List.drop_eq_getElem_cons h]; simp only [walkP]
  unfold keyOk at hk
  rw [if_pos hk, if_pos he]
  simp [prevK, List.getElem?_eq_getElem h]
end Go.Aw
