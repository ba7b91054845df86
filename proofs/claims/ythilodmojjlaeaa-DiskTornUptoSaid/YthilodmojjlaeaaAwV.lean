/- From a law's contract to what its row asks. -/
import Derived.Test.YthilodmojjlaeaaAwU
import Derived.Below
import Derived.WideKeyArgs
import Derived.RowKit
import Derived.JoinedCond
set_option linter.unusedVariables false
set_option linter.unusedSimpArgs false
namespace Go.Aw
open Go.RowKit Go.ChangeShapes
section
variable {P : Program}

/-- A law says yes, and nothing that was there has turned. -/
def YesR : ARes → Heap → Prop := fun r S' => r = .ret (.d (.b true)) ∧ S' = []

theorem law_top {f : FuncId} {ps : List PV} {args : Array Value} {W : World} (h : CallsA P f ps [] YesR) (ha : RepTs W (fun b => b < W.heap.size) (fun _ => none) (info []) ps args.toList) :
    Calls P f args W fun e W' => e = .returned (.bool true) ∧ Below W.heap.size W W' := by
  have no : ∀ o b, ¬ Lives [] (fun _ => none) o b := by rintro o b ⟨h1, _⟩; cases h1
  have hs : St W (fun b => b < W.heap.size) (fun _ => False) (fun b => b < W.heap.size) (fun _ => none) [] W :=
    ⟨fun o x hx => by simp at hx, fun o o' b h => (no o b h).elim, fun o b h => (no o b h).elim, fun _ h => h, fun o b h => (no o b h).elim, Nat.le_refl _, rfl, rfl, rfl, fun _ _ _ => rfl, fun _ => Nat.le_refl _, fun _ h => h, fun _ h => .inl h⟩
  refine (h.2 W _ _ _ _ W args hs ha).mono fun e w' he => ?_
  obtain ⟨r, S', F', ρ', ⟨rfl, rfl⟩, h2, h3, h4⟩ := he
  refine ⟨?_, h3.os, h3.tape, h3.output, h3.grow, fun k hk => h3.keep k hk fun h => h⟩
  cases e <;> simp only [EndRep] at h2
  simp only [RepPV, RepD] at h2
  rw [h2]

/-- What an argument of a law is borne as. -/
def ArgT (P : Program) (N : Nat) (t : TypeId) (p : PV) : Prop := ∃ ds, TyD P t ds ∧ bulkL ds ≤ N ∧
  (p = .agg (ds.map .d) ∧ ((∃ fs, P.underlying t = some (.struct fs)) ∨ ∃ n e, P.underlying t = some (.array n e)) ∨
    ∃ d, ds = [d] ∧ p = .d d ∧ (∀ fs, P.underlying t ≠ some (.struct fs)) ∧ ∀ n e, P.underlying t ≠ some (.array n e))
inductive ArgsT (P : Program) (N : Nat) : List TypeId → List PV → Prop
  | nil : ArgsT P N [] []
  | cons {t : TypeId} {ts : List TypeId} {p : PV} {ps : List PV} : ArgT P N t p → ArgsT P N ts ps → ArgsT P N (t :: ts) (p :: ps)

section
variable {H : Type} {enc : TypeId × Value → H} {W : World}

theorem trod_args {μ : DataW H → Nat} (hμ : Meas μ) {l : List TypeId} (hl : closedT P l = true) {N : Nat} {r : Reach} {b0 : Nat} : ∀ {ts : List TypeId} {vs : List Value} {ds : List (DataW H)} {q : List MemPlace}, ts.all (fun t => l.contains t) = true →
    (∀ (j : Nat) t v, ts[j]? = some t → vs[j]? = some v → Value.okWide P W r b0 t v) → (∀ d ∈ ds, μ d ≤ N) → DataW.TrodAll enc P W 0 (fun _ => true) true ts vs ds q →
    ∃ ps, ArgsT P N ts ps ∧ RepTs W (fun b => b < W.heap.size) (fun _ => none) (info []) ps vs
  | [], [], [], q, _, _, _, _ => ⟨[], .nil, by simp [RepTs]⟩
  | t :: ts, v :: vs, d :: ds, q, hts, hval, hN, h => by
    obtain ⟨p1, q1, h1, h2, rfl⟩ := h
    simp only [List.all_cons, Bool.and_eq_true] at hts
    obtain ⟨ps, g1, g2⟩ := trod_args hμ hl hts.2 (fun j t v ht hv => hval (j + 1) t v (by simpa using ht) (by simpa using hv)) (fun d hd => hN d (by simp [hd])) h2
    obtain ⟨cs, c1, c2, c3, c4, c5⟩ := trod_arg hμ hl hts.1 (hval 0 t v rfl rfl) h1
    have hb : bulkL cs ≤ N := Nat.le_trans c2 (hN d (by simp))
    by_cases hs : (∃ fs, P.underlying t = some (.struct fs)) ∨ ∃ n e, P.underlying t = some (.array n e)
    · exact ⟨_ :: ps, .cons ⟨cs, c1, hb, .inl ⟨rfl, hs⟩⟩ g1, by simp only [RepTs]; exact ⟨v, vs, rfl, by have := c4 hs; simp only [RepD] at this; obtain ⟨arr, e1, e2⟩ := this; simp only [RepPV]; exact ⟨arr, e1, e2.pv⟩, g2⟩⟩
    · have n1 : ∀ fs, P.underlying t ≠ some (.struct fs) := fun fs e => hs (.inl ⟨fs, e⟩)
      have n2 : ∀ n e, P.underlying t ≠ some (.array n e) := fun n e h => hs (.inr ⟨n, e, h⟩)
      obtain ⟨d1, e1, e2⟩ := c5 n1 n2
      exact ⟨_ :: ps, .cons ⟨cs, c1, hb, .inr ⟨d1, e1, rfl, n1, n2⟩⟩ g1, by simp only [RepTs]; exact ⟨v, vs, rfl, by simp only [RepPV]; exact e2, g2⟩⟩
  | [], _ :: _, _, q, _, _, _, h => by simp [DataW.TrodAll] at h
  | [], [], _ :: _, q, _, _, _, h => by simp [DataW.TrodAll] at h
  | _ :: _, [], _, q, _, _, _, h => by simp [DataW.TrodAll] at h
  | _ :: _, _ :: _, [], q, _, _, _, h => by simp [DataW.TrodAll] at h

theorem below_all (hl : laidOutB P = true) {W' : World} (hb : Below W.heap.size W W') : ∀ {ts : List TypeId} {vs : List Value} {ds : List (DataW H)} {q : List MemPlace}, ts.all (fun t => P.readableRec t && decide (t < P.types.size)) = true →
    (∀ x ∈ q, x.block < W.heap.size) → DataW.TrodAll enc P W 0 (fun _ => true) true ts vs ds q → DataW.TrodAll enc P W' 0 (fun b => decide (b < W.heap.size)) true ts vs ds q
  | [], [], [], q, _, _, h => h
  | t :: ts, v :: vs, d :: ds, q, hts, hq, h => by
    obtain ⟨p1, q1, h1, h2, rfl⟩ := h
    simp only [List.all_cons, Bool.and_eq_true, decide_eq_true_eq] at hts
    exact ⟨p1, q1, WideElems.Trod_stays hl hts.1.1 hts.1.2 h1 (fun x hx => hb.same (hq x (by simp [hx]))) (fun x hx => by simpa using hq x (by simp [hx])), below_all hl hb hts.2 (fun x hx => hq x (by simp [hx])) h2, rfl⟩
  | [], _ :: _, _, q, _, _, h => by simp [DataW.TrodAll] at h
  | [], [], _ :: _, q, _, _, h => by simp [DataW.TrodAll] at h
  | _ :: _, [], _, q, _, _, h => by simp [DataW.TrodAll] at h
  | _ :: _, _ :: _, [], q, _, _, h => by simp [DataW.TrodAll] at h

/-- The row's step, from the law's contract. -/
theorem law_step {μ : DataW H → Nat} (hμ : Meas μ) {fid : FuncId} {f : Func} {s : ChangeSpec} {l : List TypeId} {tb : TypeId} (hl : closedT P l = true) (hlay : laidOutB P = true)
    (hts : f.params.toList.all (fun t => l.contains t) = true) (hrd : f.params.toList.all (fun t => P.readableRec t && decide (t < P.types.size)) = true) (hv : s.vars = []) (hres : f.resultTypes = #[tb]) (htb : P.underlying tb = some .bool)
    (hfn : ∀ ds : List (DataW H), ds.length = f.params.toList.length → s.fn H ds = { results := [.lit (.bool true)], args := ds }) {N : Nat}
    (hlaw : ∀ ps, ArgsT P N f.params.toList ps → CallsA P fid ps [] YesR) {W : World} {base : Nat} {args : Array Value} {ds gs : List (DataW H)} {before : List MemPlace}
    (hval : ∀ (j : Nat) t v, f.params[j]? = some t → args[j]? = some v → Value.okWide P W .any base t v) (hW : DataW.Whole enc P f.params.toList s.vars false W args.toList ds gs before) (hN : ∀ d ∈ ds, μ d ≤ N) :
    Calls P fid args W fun e W' => ∃ v, e = .returned v ∧ s.post enc P f false true false false W args v W' := by
  have hlt := hW.lt
  have hW' := hW
  obtain ⟨p, q, hA, hV, rfl, hfz, hnd⟩ := hW
  rw [hv] at hV
  obtain ⟨rfl, rfl⟩ := trodVars_none hV
  have hlen : ds.length = f.params.toList.length := by
    have : ∀ {ts : List TypeId} {vs : List Value} {ds : List (DataW H)} {q : List MemPlace}, DataW.TrodAll enc P W 0 (fun _ => true) true ts vs ds q → ds.length = ts.length := by
      intro ts
      induction ts with
      | nil => intro vs ds q h; cases vs <;> cases ds <;> simp_all [DataW.TrodAll]
      | cons t ts ih =>
        intro vs ds q h
        cases vs with
        | nil => simp [DataW.TrodAll] at h
        | cons v vs => cases ds with
          | nil => simp [DataW.TrodAll] at h
          | cons d ds => obtain ⟨p1, q1, _, h2, _⟩ := h; simp [ih h2]
    exact this hA
  obtain ⟨ps, g1, g2⟩ := trod_args hμ hl hts (r := .any) (b0 := base) (fun j t v ht hv => hval j t v (by simpa using ht) (by simpa using hv)) hN hA
  refine (law_top (hlaw ps g1) g2).mono fun e W' he => ?_
  obtain ⟨rfl, hb⟩ := he
  refine ⟨_, rfl, ds, [], p ++ [], [], p, [], hW', ?_, ?_, ?_, hb.frame _, fun h => by cases h⟩
  · rw [List.append_nil, hfn ds hlen, hres]
    exact ⟨[], [], shut_bool htb true, rfl, rfl⟩
  · rw [List.append_nil, hfn ds hlen]
    exact below_all hlay hb hrd (fun x hx => hlt x (by simp [hx])) hA
  · rw [hv, List.append_nil, hfn ds hlen]
    rfl
end
end
end Go.Aw
