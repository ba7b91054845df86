/- Layer 2: what lies at a path of keys. -/
import Derived.Test.YtjibpedeandalaaAwNodeB
import Derived.Test.YtjibpedeandalaaAwGet
set_option linter.unusedVariables false
set_option linter.unusedSimpArgs false
namespace Go.Aw
open Go.Proofs
set_option maxRecDepth 100000

theorem clean_fine : ∀ (n : Nat) (v : Val) (a : Int), bulkV v ≤ n → walkV v a = 0 → cleanV v = v := by
  intro n
  induction n with
  | zero => intro v a h; have := bulkV_eq v; omega
  | succ n ih =>
    intro v a hn hw
    obtain ⟨k1, k4, hf, hl, hd, _⟩ := fine_of hw
    obtain ⟨f1, f2, f3, f4⟩ := foreign_off hf
    have el : cleanL v.list = v.list := by
      rw [cleanL_eq]
      conv => rhs; rw [← List.map_id v.list]
      exact List.map_congr_left fun x hx => ih x (a + 1) (by have := bulkV_list hx; omega) (hl x hx)
    have ed : cleanP v.dict = v.dict := by
      rw [cleanP_eq]
      conv => rhs; rw [← List.map_id v.dict]
      exact List.map_congr_left fun p hp => by
        have := ih p.2 (a + 1) (by have := bulkV_dict hp; omega) (hd p hp)
        rw [this]; rfl
    rw [cleanV_eq, el, ed]
    have hv : v = .mk v.kind v.int v.str v.list v.dict := by cases v; rfl
    by_cases h2 : v.kind = 2
    · rw [if_pos h2]
      rw [f1.resolve_left (by omega), f3.resolve_left (by omega), f4.resolve_left (by omega), h2] at hv
      exact hv.symm
    rw [if_neg h2]
    by_cases h3 : v.kind = 3
    · rw [if_pos h3]
      rw [f1.resolve_left (by omega), f2.resolve_left (by omega), f4.resolve_left (by omega), h3] at hv
      exact hv.symm
    rw [if_neg h3]
    by_cases h4 : v.kind = 4
    · rw [if_pos h4]
      rw [f1.resolve_left (by omega), f2.resolve_left (by omega), f3.resolve_left (by omega), h4] at hv
      exact hv.symm
    rw [if_neg h4]
    rw [f2.resolve_left (by omega), f3.resolve_left (by omega), f4.resolve_left (by omega), show v.kind = 1 by omega] at hv
    exact hv.symm

/-- The key stands there. -/
def thereK (d : List (ByteArray × Val)) (k : ByteArray) : Bool := match d[posK d k]? with
  | some p => decide (p.1 = k)
  | none => false
theorem half {a b : Nat} (h : a + b < 9223372036854775808) : IntKind.i64.wrap ((IntKind.u64.wrap (IntKind.i64.wrap ((a : Int) + (b : Int)))).fdiv (2 ^ (min (1 : Int).toNat IntKind.u64.bits))) = (((a + b) / 2 : Nat) : Int) := by
  have e0 : IntKind.i64.wrap ((a : Int) + (b : Int)) = (a + b : Nat) := by rw [wrap_i64 (by omega) (by omega)]; rfl
  have e1 : IntKind.u64.wrap ((a + b : Nat) : Int) = (a + b : Nat) := by
    simp [IntKind.wrap, IntKind.signed, IntKind.bits]; omega
  have e2 : ((a + b : Nat) : Int).fdiv (2 ^ (min (1 : Int).toNat IntKind.u64.bits)) = (((a + b) / 2 : Nat) : Int) := by
    rw [show ((2 : Int) ^ (min (1 : Int).toNat IntKind.u64.bits)) = ((2 : Nat) : Int) from rfl, Int.fdiv_eq_ediv_of_nonneg _ (by omega)]
    rfl
  rw [e0, e1, e2, wrap_i64 (by omega) (by omega)]

theorem seek_calls (d : List (ByteArray × Val)) (k : ByteArray) (hr : Rise d) (hl : d.length ≤ 16777216) : PureA Try.prog 21 [.d (.sl (rowsP d)), .d (.s k)] (.tup [.d (.i .i64 (posK d k)), .d (.b (thereK d k))]) := by
  have hpl := posK_le d k
  refine callsW_of 0 Try.call21 Try.func21 (c := _) rfl (by kernel_rfl) (Nat.le_of_ble_eq_true rfl) (Nat.le_refl 0) ?_
  ((conv => whnf); repeat (refine SeqW.go ?_; conv => whnf))
  refine loopK (by kernel_rfl) (γ := Nat × Nat) 0 (fun ⟨lo, hi⟩ => lo ≤ posK d k ∧ posK d k ≤ hi ∧ hi ≤ d.length) (fun ⟨lo, hi⟩ => [(6, .d (.i .i64 lo)), (7, .d (.i .i64 hi))]) (fun _ => []) (fun ⟨lo, hi⟩ => hi - lo)
    ⟨rfl, rfl⟩ (fun _ _ => rfl) (0, d.length) ⟨Nat.zero_le _, hpl, Nat.le_refl _⟩ trivial ⟨rfl, rfl, by simp [look], rfl, trivial⟩ ?_
  rintro ⟨lo, hi⟩ ⟨h1, h2, h3⟩
  ((conv => whnf); repeat (refine SeqW.go ?_; conv => whnf))
  first | refine Br.dec (fun hlt => ?_) (fun hlt => ?_) | refine Br.beq (fun hlt => ?_) (fun hlt => ?_) | refine Br.bne (fun hlt => ?_) (fun hlt => ?_) | refine Br.nbeq (fun hlt => ?_) (fun hlt => ?_) | refine Br.not (fun hlt => ?_) (fun hlt => ?_) | refine Br.mk (fun hlt => ?_) (fun hlt => ?_)
  · have hlt : lo < hi := by omega
    ((conv => whnf); repeat (refine SeqW.go ?_; conv => whnf))
    repeat (first | (refine Br.t ?_; conv => whnf) | (refine Cd.mk (by omega) ?_; conv => whnf) | (refine Br.f ?_; conv => whnf) | (refine SeqW.go ?_; conv => whnf))
    rw [half (by omega)]
    have hm : (lo + hi) / 2 < d.length := by omega
    refine ⟨⟨rowsP_all _, by omega, by simp; omega⟩, ?_⟩
    rw [show ((((lo + hi) / 2 : Nat) : Int)).toNat = (lo + hi) / 2 from rfl, rowsP_get hm]
    ((conv => whnf); repeat (refine SeqW.go ?_; conv => whnf))
    have hp := posK_iff (k := k) hr hm
    first | refine Br.dec (fun hk => ?_) (fun hk => ?_) | refine Br.beq (fun hk => ?_) (fun hk => ?_) | refine Br.bne (fun hk => ?_) (fun hk => ?_) | refine Br.nbeq (fun hk => ?_) (fun hk => ?_) | refine Br.not (fun hk => ?_) (fun hk => ?_) | refine Br.mk (fun hk => ?_) (fun hk => ?_)
    · have := hp.1 hk
      ((conv => whnf); repeat (refine SeqW.go ?_; conv => whnf))
      refine ⟨((lo + hi) / 2 + 1, hi), ⟨by omega, h2, h3⟩, by simp only; omega, trivial, ⟨wrap_next (by omega), rfl, rfl, rfl, trivial⟩, (by repeat (first | exact trivial | refine ⟨rfl, ?_⟩))⟩
    · have : ¬ (lo + hi) / 2 < posK d k := fun h => by have h := hp.2 h; rw [keyLt] at h; rw [h] at hk; cases hk
      ((conv => whnf); repeat (refine SeqW.go ?_; conv => whnf))
      refine ⟨(lo, (lo + hi) / 2), ⟨h1, by omega, by omega⟩, by simp only; omega, trivial, ⟨rfl, rfl, rfl, rfl, trivial⟩, (by repeat (first | exact trivial | refine ⟨rfl, ?_⟩))⟩
  · have e : lo = posK d k := by omega
    subst e
    ((conv => whnf); repeat (refine SeqW.go ?_; conv => whnf))
    refine drawW [8, 10] mixed (by kernel_rfl) (by kernel_rfl) ?_
    ((conv => whnf); repeat (refine SeqW.go ?_; conv => whnf))
    first | refine Br.dec (fun hlt => ?_) (fun hlt => ?_) | refine Br.beq (fun hlt => ?_) (fun hlt => ?_) | refine Br.bne (fun hlt => ?_) (fun hlt => ?_) | refine Br.nbeq (fun hlt => ?_) (fun hlt => ?_) | refine Br.not (fun hlt => ?_) (fun hlt => ?_) | refine Br.mk (fun hlt => ?_) (fun hlt => ?_)
    · have hlt : posK d k < d.length := by simpa using hlt
      ((conv => whnf); repeat (refine SeqW.go ?_; conv => whnf))
      repeat (first | (refine Br.t ?_; conv => whnf) | (refine Cd.mk (by omega) ?_; conv => whnf) | (refine Br.f ?_; conv => whnf) | (refine SeqW.go ?_; conv => whnf))
      refine ⟨⟨rowsP_all _, by omega, by simpa using hlt⟩, ?_⟩
      rw [show (posK d k : Int).toNat = posK d k from rfl, rowsP_get hlt]
      ((conv => whnf); repeat (refine SeqW.go ?_; conv => whnf))
      repeat (first | (refine Br.t ?_; conv => whnf) | (refine Cd.mk (by omega) ?_; conv => whnf) | (refine Br.f ?_; conv => whnf) | (refine SeqW.go ?_; conv => whnf))
      refine ⟨?_, rfl⟩
      rw [thereK, List.getElem?_eq_getElem hlt, ba_beq]
    · ((conv => whnf); repeat (refine SeqW.go ?_; conv => whnf))
      repeat (first | (refine Br.t ?_; conv => whnf) | (refine Cd.mk (by omega) ?_; conv => whnf) | (refine Br.f ?_; conv => whnf) | (refine SeqW.go ?_; conv => whnf))
      refine ⟨?_, rfl⟩
      rw [thereK, List.getElem?_eq_none (by simp at hlt; omega)]

theorem place_calls (d : List (ByteArray × Val)) (k : ByteArray) (hl : d.length ≤ 16777216) : PureA Try.prog 24 [.d (.sl (rowsP d)), .d (.s k)] (.d (.i .i64 (placeK d k 0))) := by
  refine callsW_of 0 Try.call24 Try.func24 (c := _) rfl (by kernel_rfl) (Nat.le_of_ble_eq_true rfl) (Nat.le_refl 0) ?_
  ((conv => whnf); repeat (refine SeqW.go ?_; conv => whnf))
  refine loopK (by kernel_rfl) (γ := Nat) 0 (fun i => i ≤ d.length ∧ placeK d k 0 = placeK (d.drop i) k i) (fun i => [(5, .d (.i .i64 i))]) (fun _ => []) (fun i => d.length - i)
    ⟨rfl, rfl⟩ (fun _ _ => rfl) 0 ⟨Nat.zero_le _, rfl⟩ trivial ⟨rfl, rfl, trivial⟩ ?_
  rintro i ⟨hi, hs⟩
  ((conv => whnf); repeat (refine SeqW.go ?_; conv => whnf))
  first | refine Br.dec (fun hlt => ?_) (fun hlt => ?_) | refine Br.beq (fun hlt => ?_) (fun hlt => ?_) | refine Br.bne (fun hlt => ?_) (fun hlt => ?_) | refine Br.nbeq (fun hlt => ?_) (fun hlt => ?_) | refine Br.not (fun hlt => ?_) (fun hlt => ?_) | refine Br.mk (fun hlt => ?_) (fun hlt => ?_)
  · have hlt : i < d.length := by simpa using hlt
    rw [List.drop_eq_getElem_cons hlt] at hs
    simp only [placeK] at hs
    ((conv => whnf); repeat (refine SeqW.go ?_; conv => whnf))
    refine ⟨⟨rowsP_all _, by omega, by simpa using hlt⟩, ?_⟩
    rw [show (i : Int).toNat = i from rfl, rowsP_get hlt]
    ((conv => whnf); repeat (refine SeqW.go ?_; conv => whnf))
    rw [ba_beq]
    first | refine Br.dec (fun hk => ?_) (fun hk => ?_) | refine Br.beq (fun hk => ?_) (fun hk => ?_) | refine Br.bne (fun hk => ?_) (fun hk => ?_) | refine Br.nbeq (fun hk => ?_) (fun hk => ?_) | refine Br.not (fun hk => ?_) (fun hk => ?_) | refine Br.mk (fun hk => ?_) (fun hk => ?_)
    · rw [if_pos hk] at hs
      ((conv => whnf); repeat (refine SeqW.go ?_; conv => whnf))
      exact ⟨by rw [hs], rfl⟩
    · rw [if_neg hk] at hs
      ((conv => whnf); repeat (refine SeqW.go ?_; conv => whnf))
      exact ⟨i + 1, ⟨hlt, hs⟩, by omega, trivial, ⟨wrap_next (by omega), rfl, trivial⟩, (by repeat (first | exact trivial | refine ⟨rfl, ?_⟩))⟩
  · have : i = d.length := by simp at hlt; omega
    subst this
    rw [List.drop_length] at hs
    ((conv => whnf); repeat (refine SeqW.go ?_; conv => whnf))
    exact ⟨by rw [hs]; rfl, rfl⟩


theorem zeroC : PV.agg [.d (.i .i64 0), .d (.i .i64 0), .d (.s ⟨#[]⟩), .d (.sl []), .d (.sl [])] = valC zeroV := rfl

theorem get_calls (v : Val) (path : List ByteArray) (hv : bulkV v ≤ 16777216) (hp : path.length ≤ 16777216) :
    PureA Try.prog 14 [valC v, .d (.sl (rowsS path))] (.tup [valC (getR v path).1, .d (.i .i64 (getR v path).2)]) := by
  refine callsW_of 0 Try.call14 Try.func14 (c := _) rfl (by kernel_rfl) (Nat.le_of_ble_eq_true rfl) (Nat.le_refl 0) ?_
  ((conv => whnf); repeat (refine SeqW.go ?_; conv => whnf))
  refine callP (valid_calls v hv) rfl rfl fun _ => ?_
  ((conv => whnf); repeat (refine SeqW.go ?_; conv => whnf))
  repeat (first | (refine Br.t ?_; conv => whnf) | (refine Cd.mk (by omega) ?_; conv => whnf) | (refine Br.f ?_; conv => whnf) | (refine SeqW.go ?_; conv => whnf))
  first | refine Br.dec (fun he => ?_) (fun he => ?_) | refine Br.beq (fun he => ?_) (fun he => ?_) | refine Br.bne (fun he => ?_) (fun he => ?_) | refine Br.nbeq (fun he => ?_) (fun he => ?_) | refine Br.not (fun he => ?_) (fun he => ?_) | refine Br.mk (fun he => ?_) (fun he => ?_)
  · ((conv => whnf); repeat (refine SeqW.go ?_; conv => whnf))
    exact ⟨by rw [getR, if_neg he]; rfl, rfl⟩
  have hg : getR v path = match getK v path with | some x => (x, 0) | none => (zeroV, 28) := by rw [getR, if_pos he]; rfl
  ((conv => whnf); repeat (refine SeqW.go ?_; conv => whnf))
  refine loopK (by kernel_rfl) (γ := Nat × Val) 2 (fun ⟨i, u⟩ => i ≤ path.length ∧ getK v path = getK u (path.drop i) ∧ (∃ a, walkV u a = 0) ∧ bulkV u ≤ bulkV v) (fun ⟨i, u⟩ => [(19, .d (.i .i64 i))])
    (fun ⟨i, u⟩ => [(0, .box [.d (.i .i64 u.kind), .d (.i .i64 u.int), .d (.s u.str), .d (.sl (rowsV u.list)), .d (.sl (rowsP u.dict))])]) (fun ⟨i, _⟩ => path.length - i)
    ⟨rfl, rfl⟩ (fun _ _ => rfl) (0, v) ⟨Nat.zero_le _, rfl, ⟨0, he⟩, Nat.le_refl _⟩ (by repeat (first | exact trivial | refine ⟨.refl _, ?_⟩)) ⟨rfl, rfl, trivial⟩ ?_
  rintro ⟨i, u⟩ ⟨hi, hs, ⟨a, ha⟩, hb⟩
  have hu := bulkV_sizes u
  obtain ⟨_, _, _, _, hd, hr⟩ := fine_of ha
  ((conv => whnf); repeat (refine SeqW.go ?_; conv => whnf))
  first | refine Br.dec (fun hlt => ?_) (fun hlt => ?_) | refine Br.beq (fun hlt => ?_) (fun hlt => ?_) | refine Br.bne (fun hlt => ?_) (fun hlt => ?_) | refine Br.nbeq (fun hlt => ?_) (fun hlt => ?_) | refine Br.not (fun hlt => ?_) (fun hlt => ?_) | refine Br.mk (fun hlt => ?_) (fun hlt => ?_)
  · have hlt : i < path.length := by simpa using hlt
    rw [getK_step hlt] at hs
    ((conv => whnf); repeat (refine SeqW.go ?_; conv => whnf))
    refine ⟨⟨rowsS_all _, by omega, by simpa using hlt⟩, ?_⟩
    rw [show (i : Int).toNat = i from rfl, rowsS_get hlt]
    ((conv => whnf); repeat (refine SeqW.go ?_; conv => whnf))
    refine callP (seek_calls u.dict path[i] hr (by omega)) rfl rfl fun _ => ?_
    ((conv => whnf); repeat (refine SeqW.go ?_; conv => whnf))
    cases ht : thereK u.dict path[i] with
    | false =>
      repeat (first | (refine Br.t ?_; conv => whnf) | (refine Cd.mk (by omega) ?_; conv => whnf) | (refine Br.f ?_; conv => whnf) | (refine SeqW.go ?_; conv => whnf))
      have hn : findK u.dict path[i] = none := findK_none hr fun h e => by
        rw [thereK, List.getElem?_eq_getElem h] at ht
        simp [e] at ht
      rw [hn] at hs
      exact ⟨by rw [hg, hs]; rfl, rfl⟩
    | true =>
      repeat (first | (refine Br.t ?_; conv => whnf) | (refine Cd.mk (by omega) ?_; conv => whnf) | (refine Br.f ?_; conv => whnf) | (refine SeqW.go ?_; conv => whnf))
      have hpl : posK u.dict path[i] < u.dict.length := by
        rw [thereK] at ht
        cases hx : u.dict[posK u.dict path[i]]? with
        | none => rw [hx] at ht; cases ht
        | some p => exact (List.getElem?_eq_some_iff.1 hx).1
      have hk : u.dict[posK u.dict path[i]].1 = path[i] := by
        rw [thereK, List.getElem?_eq_getElem hpl] at ht
        exact of_decide_eq_true ht
      rw [findK_at hr hpl hk] at hs
      refine ⟨⟨rowsP_all _, by omega, by simp; omega⟩, ?_⟩
      rw [show (posK u.dict path[i] : Int).toNat = posK u.dict path[i] from rfl, rowsP_get hpl]
      ((conv => whnf); repeat (refine SeqW.go ?_; conv => whnf))
      refine ⟨by simp, ?_⟩
      rw [show PV.agg (List.map PV.d (List.take 5 (List.drop 1 (D.s u.dict[posK u.dict path[i]].1 :: cellsV u.dict[posK u.dict path[i]].2)))) = valP u.dict[posK u.dict path[i]].2 from valP_take _, valP_eq]
      ((conv => whnf); repeat (refine SeqW.go ?_; conv => whnf))
      have hm := List.getElem_mem hpl
      have hbb := bulkV_dict hm
      exact ⟨(i + 1, u.dict[posK u.dict path[i]].2), ⟨hlt, hs, ⟨a + 1, hd _ hm⟩, by omega⟩, by simp only; omega, (by repeat (first | exact trivial | refine ⟨.refl _, ?_⟩)), ⟨wrap_next (by omega), rfl, trivial⟩, (by repeat (first | exact trivial | refine ⟨rfl, ?_⟩))⟩
  · have hge : i = path.length := by simp at hlt; omega
    rw [hge, List.drop_length] at hs
    have e : getR v path = (u, 0) := by rw [hg, hs]; rfl
    ((conv => whnf); repeat (refine SeqW.go ?_; conv => whnf))
    refine callP (lift_calls _ u (Nat.le_refl _) (by omega)) rfl rfl fun _ => ?_
    ((conv => whnf); repeat (refine SeqW.go ?_; conv => whnf))
    refine callP (plain_calls _ u (Nat.le_refl _) (by omega)) rfl rfl fun _ => ?_
    rw [clean_fine _ u a (Nat.le_refl _) ha]
    ((conv => whnf); repeat (refine SeqW.go ?_; conv => whnf))
    exact ⟨by rw [e], rfl⟩

theorem refGet_calls (v : Val) (path : List ByteArray) (hv : bulkV v ≤ 16777216) (hp : path.length ≤ 16777216) :
    PureA Try.prog 15 [valC v, .d (.sl (rowsS path))] (.tup [valC (getR v path).1, .d (.i .i64 (getR v path).2)]) := by
  refine callsW_of 0 Try.call15 Try.func15 (c := _) rfl (by kernel_rfl) (Nat.le_of_ble_eq_true rfl) (Nat.le_refl 0) ?_
  ((conv => whnf); repeat (refine SeqW.go ?_; conv => whnf))
  refine callP (refValid_calls v hv) rfl rfl fun _ => ?_
  ((conv => whnf); repeat (refine SeqW.go ?_; conv => whnf))
  repeat (first | (refine Br.t ?_; conv => whnf) | (refine Cd.mk (by omega) ?_; conv => whnf) | (refine Br.f ?_; conv => whnf) | (refine SeqW.go ?_; conv => whnf))
  first | refine Br.dec (fun he => ?_) (fun he => ?_) | refine Br.beq (fun he => ?_) (fun he => ?_) | refine Br.bne (fun he => ?_) (fun he => ?_) | refine Br.nbeq (fun he => ?_) (fun he => ?_) | refine Br.not (fun he => ?_) (fun he => ?_) | refine Br.mk (fun he => ?_) (fun he => ?_)
  · ((conv => whnf); repeat (refine SeqW.go ?_; conv => whnf))
    exact ⟨by rw [getR, if_neg he]; rfl, rfl⟩
  have hg : getR v path = match getK v path with | some x => (x, 0) | none => (zeroV, 28) := by rw [getR, if_pos he]; rfl
  ((conv => whnf); repeat (refine SeqW.go ?_; conv => whnf))
  refine loopK (by kernel_rfl) (γ := Nat × Val) 2 (fun ⟨i, u⟩ => i ≤ path.length ∧ getK v path = getK u (path.drop i) ∧ bulkV u ≤ bulkV v) (fun ⟨i, u⟩ => [(7, .d (.i .i64 i))])
    (fun ⟨i, u⟩ => [(0, .box [.d (.i .i64 u.kind), .d (.i .i64 u.int), .d (.s u.str), .d (.sl (rowsV u.list)), .d (.sl (rowsP u.dict))])]) (fun ⟨i, _⟩ => path.length - i)
    ⟨rfl, rfl⟩ (fun _ _ => rfl) (0, v) ⟨Nat.zero_le _, rfl, Nat.le_refl _⟩ (by repeat (first | exact trivial | refine ⟨.refl _, ?_⟩)) ⟨rfl, rfl, trivial⟩ ?_
  rintro ⟨i, u⟩ ⟨hi, hs, hb⟩
  have hu := bulkV_sizes u
  ((conv => whnf); repeat (refine SeqW.go ?_; conv => whnf))
  first | refine Br.dec (fun hlt => ?_) (fun hlt => ?_) | refine Br.beq (fun hlt => ?_) (fun hlt => ?_) | refine Br.bne (fun hlt => ?_) (fun hlt => ?_) | refine Br.nbeq (fun hlt => ?_) (fun hlt => ?_) | refine Br.not (fun hlt => ?_) (fun hlt => ?_) | refine Br.mk (fun hlt => ?_) (fun hlt => ?_)
  · have hlt : i < path.length := by simpa using hlt
    rw [getK_step hlt] at hs
    ((conv => whnf); repeat (refine SeqW.go ?_; conv => whnf))
    refine drawW [4, 5] mixed (by kernel_rfl) (by kernel_rfl) ?_
    ((conv => whnf); repeat (refine SeqW.go ?_; conv => whnf))
    refine ⟨⟨rowsS_all _, by omega, by simpa using hlt⟩, ?_⟩
    rw [show (i : Int).toNat = i from rfl, rowsS_get hlt]
    ((conv => whnf); repeat (refine SeqW.go ?_; conv => whnf))
    refine callF (place_calls u.dict path[i] (by omega)) rfl rfl ?_
    ((conv => whnf); repeat (refine SeqW.go ?_; conv => whnf))
    rcases placeK_spec (k := path[i]) u.dict 0 with ⟨h1, h2⟩ | ⟨j, hj, h1, h2⟩
    · rw [h1]
      rw [h2] at hs
      repeat (first | (refine Br.t ?_; conv => whnf) | (refine Cd.mk (by omega) ?_; conv => whnf) | (refine Br.f ?_; conv => whnf) | (refine SeqW.go ?_; conv => whnf))
      exact ⟨by rw [hg, hs]; rfl, rfl⟩
    · rw [h1]
      rw [h2] at hs
      first | refine Br.dec (fun hlt2 => ?_) (fun hlt2 => ?_) | refine Br.beq (fun hlt2 => ?_) (fun hlt2 => ?_) | refine Br.bne (fun hlt2 => ?_) (fun hlt2 => ?_) | refine Br.nbeq (fun hlt2 => ?_) (fun hlt2 => ?_) | refine Br.not (fun hlt2 => ?_) (fun hlt2 => ?_) | refine Br.mk (fun hlt2 => ?_) (fun hlt2 => ?_)
      · exact absurd hlt2 (by omega)
      ((conv => whnf); repeat (refine SeqW.go ?_; conv => whnf))
      repeat (first | (refine Br.t ?_; conv => whnf) | (refine Cd.mk (by omega) ?_; conv => whnf) | (refine Br.f ?_; conv => whnf) | (refine SeqW.go ?_; conv => whnf))
      rw [show (0 : Int) + (j : Int) = j by omega]
      refine ⟨⟨rowsP_all _, by omega, by simp; omega⟩, ?_⟩
      rw [show (j : Int).toNat = j from rfl, rowsP_get hj]
      ((conv => whnf); repeat (refine SeqW.go ?_; conv => whnf))
      refine ⟨by simp, ?_⟩
      rw [show PV.agg (List.map PV.d (List.take 5 (List.drop 1 (D.s u.dict[j].1 :: cellsV u.dict[j].2)))) = valP u.dict[j].2 from valP_take _, valP_eq]
      ((conv => whnf); repeat (refine SeqW.go ?_; conv => whnf))
      have hm := List.getElem_mem hj
      have hbb := bulkV_dict hm
      exact ⟨(i + 1, u.dict[j].2), ⟨hlt, hs, by omega⟩, by simp only; omega, (by repeat (first | exact trivial | refine ⟨.refl _, ?_⟩)), ⟨wrap_next (by omega), rfl, trivial⟩, (by repeat (first | exact trivial | refine ⟨rfl, ?_⟩))⟩
  · have hge : i = path.length := by simp at hlt; omega
    rw [hge, List.drop_length] at hs
    have e : getR v path = (u, 0) := by rw [hg, hs]; rfl
    ((conv => whnf); repeat (refine SeqW.go ?_; conv => whnf))
    exact ⟨by rw [e], rfl⟩

theorem getR_bulk {v : Val} {path : List ByteArray} (hv : bulkV v ≤ 16777216) : bulkV (getR v path).1 ≤ 16777216 := by
  have h0 : bulkV zeroV ≤ 16777216 := by rw [bulkV_eq]; simp [zeroV, Val.str, Val.list, Val.dict, rowsV, rowsP, bulkR, ByteArray.size]
  unfold getR
  split
  · split
    · rename_i x h; have := getK_bulk h; simp only; omega
    · exact h0
  · exact h0
theorem law_gets (v : Val) (path : List ByteArray) (hv : bulkV v ≤ 16777216) (hp : path.length ≤ 16777216) : CallsA Try.prog 5 [valC v, .d (.sl (rowsS path))] [] YesR := by
  have hx := getR_bulk (path := path) hv
  refine callsW_of 0 Try.call5 Try.func5 (c := _) rfl (by kernel_rfl) (Nat.le_of_ble_eq_true rfl) (Nat.le_refl 0) ?_
  ((conv => whnf); repeat (refine SeqW.go ?_; conv => whnf))
  refine callSome (farValue_calls' v hv) rfl fun x => ?_
  ((conv => whnf); repeat (refine SeqW.go ?_; conv => whnf))
  refine Br.mk (fun h => ?_) (fun h => ?_)
  · ((conv => whnf); repeat (refine SeqW.go ?_; conv => whnf))
    repeat (first | (refine Br.t ?_; conv => whnf) | (refine Cd.mk (by omega) ?_; conv => whnf) | (refine Br.f ?_; conv => whnf) | (refine SeqW.go ?_; conv => whnf))
    exact ⟨rfl, rfl⟩
  ((conv => whnf); repeat (refine SeqW.go ?_; conv => whnf))
  repeat (first | (refine Br.t ?_; conv => whnf) | (refine Cd.mk (by omega) ?_; conv => whnf) | (refine Br.f ?_; conv => whnf) | (refine SeqW.go ?_; conv => whnf))
  refine callP (copy_calls' v hv) rfl rfl fun _ => ?_
  ((conv => whnf); repeat (refine SeqW.go ?_; conv => whnf))
  repeat (first | (refine Br.t ?_; conv => whnf) | (refine Cd.mk (by omega) ?_; conv => whnf) | (refine Br.f ?_; conv => whnf) | (refine SeqW.go ?_; conv => whnf))
  refine ⟨⟨allLen_lift (rowsS_all _), by simp; omega, by simp; omega⟩, ?_⟩
  ((conv => whnf); repeat (refine SeqW.go ?_; conv => whnf))
  refine callP (get_calls v path hv hp) rfl rfl fun _ => ?_
  ((conv => whnf); repeat (refine SeqW.go ?_; conv => whnf))
  repeat (first | (refine Br.t ?_; conv => whnf) | (refine Cd.mk (by omega) ?_; conv => whnf) | (refine Br.f ?_; conv => whnf) | (refine SeqW.go ?_; conv => whnf))
  refine callZ (refGet_calls v path hv hp) (.keep (.own (rowsS path) rfl rfl (toRows_map _) .nil)) rfl rfl fun _ => ?_
  ((conv => whnf); repeat (refine SeqW.go ?_; conv => whnf))
  refine loopK (by kernel_rfl) (γ := Nat) 5 (fun i => i ≤ path.length) (fun i => [(11, .d (.i .i64 i))]) (fun _ => []) (fun i => path.length - i)
    ⟨rfl, rfl⟩ (fun _ _ => by simp [ovl, sc_lift, sc_fro]; try (repeat (first | rfl | apply And.intro))) 0 (Nat.zero_le _) (by repeat (first | exact trivial | refine ⟨.refl _, ?_⟩)) ⟨rfl, rfl, trivial⟩ ?_
  intro i hi
  ((conv => whnf); repeat (refine SeqW.go ?_; conv => whnf))
  first | refine Br.dec (fun hlt => ?_) (fun hlt => ?_) | refine Br.beq (fun hlt => ?_) (fun hlt => ?_) | refine Br.bne (fun hlt => ?_) (fun hlt => ?_) | refine Br.nbeq (fun hlt => ?_) (fun hlt => ?_) | refine Br.not (fun hlt => ?_) (fun hlt => ?_) | refine Br.mk (fun hlt => ?_) (fun hlt => ?_)
  · have hlt : i < path.length := by simpa using hlt
    ((conv => whnf); repeat (refine SeqW.go ?_; conv => whnf))
    refine drawW [2, 3] mixed (by kernel_rfl) (by kernel_rfl) ?_
    ((conv => whnf); repeat (refine SeqW.go ?_; conv => whnf))
    refine ⟨⟨rowsS_all _, by omega, by simpa using hlt⟩, ?_⟩
    rw [show (i : Int).toNat = i from rfl, rowsS_get hlt]
    ((conv => whnf); repeat (refine SeqW.go ?_; conv => whnf))
    refine ⟨⟨by simp, rowsS_all _, by omega, by simpa using hlt⟩, ?_⟩
    rw [show (i : Int).toNat = i from rfl, rowsS_get hlt]
    ((conv => whnf); repeat (refine SeqW.go ?_; conv => whnf))
    first | refine Br.dec (fun hne => ?_) (fun hne => ?_) | refine Br.beq (fun hne => ?_) (fun hne => ?_) | refine Br.bne (fun hne => ?_) (fun hne => ?_) | refine Br.nbeq (fun hne => ?_) (fun hne => ?_) | refine Br.not (fun hne => ?_) (fun hne => ?_) | refine Br.mk (fun hne => ?_) (fun hne => ?_)
    · exact absurd rfl hne
    ((conv => whnf); repeat (refine SeqW.go ?_; conv => whnf))
    exact ⟨i + 1, hlt, by omega, (by repeat (first | exact trivial | refine ⟨.refl _, ?_⟩)), ⟨wrap_next (by omega), rfl, trivial⟩, (by repeat (first | exact trivial | refine ⟨rfl, ?_⟩))⟩
  clear hlt
  ((conv => whnf); repeat (refine SeqW.go ?_; conv => whnf))
  refine Br.mk (fun _ => ?_) (fun h => absurd h (by simp))
  ((conv => whnf); repeat (refine SeqW.go ?_; conv => whnf))
  repeat (first | (refine Br.t ?_; conv => whnf) | (refine Cd.mk (by omega) ?_; conv => whnf) | (refine Br.f ?_; conv => whnf) | (refine SeqW.go ?_; conv => whnf))
  refine callP (same_calls' (getR v path).1 (getR v path).1 hx hx) rfl rfl fun _ => ?_
  ((conv => whnf); repeat (refine SeqW.go ?_; conv => whnf))
  repeat (first | (refine Br.t ?_; conv => whnf) | (refine Cd.mk (by omega) ?_; conv => whnf) | (refine Br.f ?_; conv => whnf) | (refine SeqW.go ?_; conv => whnf))
  refine Br.mk (fun _ => ?_) (fun h => absurd h (by simp [eqV]))
  ((conv => whnf); repeat (refine SeqW.go ?_; conv => whnf))
  repeat (first | (refine Br.t ?_; conv => whnf) | (refine Cd.mk (by omega) ?_; conv => whnf) | (refine Br.f ?_; conv => whnf) | (refine SeqW.go ?_; conv => whnf))
  refine callP (same_calls' v v hv hv) rfl rfl fun _ => ?_
  ((conv => whnf); repeat (refine SeqW.go ?_; conv => whnf))
  repeat (first | (refine Br.t ?_; conv => whnf) | (refine Cd.mk (by omega) ?_; conv => whnf) | (refine Br.f ?_; conv => whnf) | (refine SeqW.go ?_; conv => whnf))
  exact ⟨by simp [eqV], rfl⟩
end Go.Aw
