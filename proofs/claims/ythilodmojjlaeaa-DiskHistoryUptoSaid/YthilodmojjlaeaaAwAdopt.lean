/- Nil slices in the objects that a function leaves, taken for empty rows of its own. -/
import Derived.Test.YthilodmojjlaeaaAwCall
import Derived.Test.YthilodmojjlaeaaAwBytes
set_option linter.unusedVariables false
set_option linter.unusedSimpArgs false
namespace Go.Aw
section
variable {P : Program}
theorem DetA.adopt {f : FuncId} {args : List PV} {S0 H : Heap} {v : PV} (h : DetA P f args S0 v H) (o c sz : Nat) {cs : List PV} (hx : H[o]? = some (.box cs)) (hc : cs[c]? = some .nils) :
    DetA P f args S0 v ((H ++ [Ob.buf []]).set o (.box (cs.set c (.own H.length sz 0)))) := by
  refine ⟨h.1, fun w0 F0 mods F ρ w cargs hst hca => (h.2 w0 F0 mods F ρ w cargs hst hca).mono fun e w' he => ?_⟩
  obtain ⟨r, S1, F', ρ', ⟨rfl, rfl⟩, q1, q2, q3⟩ := he
  obtain ⟨h', hk, hr⟩ := q2.adopt
  have hl := (List.getElem?_eq_some_iff.1 hx).1
  have hx' : (S1 ++ [Ob.buf []])[o]? = some (.box cs) := by rw [List.getElem?_append_left hl]; exact hx
  have hsw := h'.swap hx' (cs' := cs.set c (.own S1.length sz 0)) fun arr hp j p hj => by
    by_cases e : c = j
    · subst e
      rw [List.getElem?_set_self (List.getElem?_eq_some_iff.1 hc).1] at hj
      cases hj
      obtain ⟨v, h1, h2, h3⟩ := hp c _ hc
      simp only [RepPV] at h3
      subst h3
      exact ⟨_, h1, h2, hr sz⟩
    · rw [List.getElem?_set_ne e] at hj
      exact hp j p hj
  refine ⟨_, _, F', _, ⟨rfl, rfl⟩, ?_, hsw, ?_⟩
  · rw [info_swap hx']
    cases e with
    | returned u => exact RepPV.keeps hk v u q1
    | panicked c => exact q1.elim
    | outgrown => exact q1.elim
  · rw [info_swap hx']
    exact q3.trans hk
end
/-! ### Which stop it is -/
theorem brIs {b : Bool} {X Y : Prop} (h : Br b X Y) : Br b X Y := h
theorem cdIs {c X : Prop} (h : Cd c X) : Cd c X := h
theorem callGo {P : Program} {f : FuncId} {args0 args : List PV} {R : ARes → Heap → Prop} {S0 S : Heap} {K QP : PV → Heap → Prop} (h : CallsA P f args0 S0 R) (x : CallW P f args S K QP) : CallW P f args S K QP := x
theorem callIs {P : Program} {f : FuncId} {args : List PV} {S : Heap} {K QP : PV → Heap → Prop} (x : CallW P f args S K QP) : CallW P f args S K QP := x
/-- Rows of the call's own are handed on as data, and not changed any more. -/
def ownIn : List PV → Bool
  | [] => false
  | .own _ _ _ :: _ => true
  | _ :: r => ownIn r
theorem callFrz {P : Program} {f : FuncId} {as bs : List PV} {S S' : Heap} {K QP : PV → Heap → Prop} (ho : ownIn as = true) (fz : FrzL S as bs S') (h : forceH S' fun S' => CallW P f bs S' K QP) : CallW P f as S K QP := by
  obtain ⟨R, h1, h2⟩ := ((forceH_iff _ _).1 h).1
  exact ⟨R, h1.frz fz, h2⟩
/-! ### Rewritings for walks that go by themselves -/
theorem quoL (a k : Nat) : (a : Int).tdiv (@OfNat.ofNat Int k instOfNat) = ((a / (@OfNat.ofNat Nat k (instOfNatNat k)) : Nat) : Int) := rfl
theorem remL (a k : Nat) : (a : Int).tmod (@OfNat.ofNat Int k instOfNat) = ((a % (@OfNat.ofNat Nat k (instOfNatNat k)) : Nat) : Int) := rfl
theorem rowsB_td (l : List UInt8) (a b : Nat) : ((rowsB l).take a).drop b = rowsB ((l.take a).drop b) := by simp [rowsB, List.map_take, List.map_drop]
theorem liftR_len (l : List (List D)) : (liftR l).length = l.length := by simp [liftR]
theorem liftB_app (a b : List UInt8) : liftR (rowsB a) ++ liftR (rowsB b) = liftR (rowsB (a ++ b)) := by simp [rowsB, liftR]
theorem allLen_one {α : Type} {n : Nat} {r : List α} (h : r.length = n) : AllLen n [r] := by
  intro x hx
  rw [List.mem_singleton] at hx
  rw [hx, h]
theorem liftB_get (X : List UInt8) (r : Nat) (h : r < X.length) : (liftR (rowsB X)).getD r [] = [PV.d (.i .u8 X[r].toNat)] := by
  simp [liftR, rowsB, List.getD_eq_getElem?_getD, h]
theorem liftB_set (X : List UInt8) (r : Nat) (v : UInt8) (h : r < X.length) : (liftR (rowsB X)).set r (splice ((liftR (rowsB X)).getD r []) 0 [PV.d (.i .u8 v.toNat)]) = liftR (rowsB (X.set r v)) := by
  rw [liftB_get X r h]
  simp [liftR, rowsB, splice, List.map_set]
theorem toNat_mulL (k n : Nat) : ((@OfNat.ofNat Int k instOfNat) * (n : Int)).toNat = (@OfNat.ofNat Nat k (instOfNatNat k)) * n := by
  show ((k : Int) * (n : Int)).toNat = k * n
  rw [← Int.natCast_mul]; rfl
theorem toNat_mulR (k n : Nat) : ((n : Int) * (@OfNat.ofNat Int k instOfNat)).toNat = n * (@OfNat.ofNat Nat k (instOfNatNat k)) := by
  show ((n : Int) * (k : Int)).toNat = n * k
  rw [← Int.natCast_mul]; rfl
end Go.Aw
