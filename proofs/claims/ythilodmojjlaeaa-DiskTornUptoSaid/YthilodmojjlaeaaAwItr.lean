/- Going through a map. -/
import Derived.Test.YthilodmojjlaeaaAwArr
import Derived.Maps.RangeRun
set_option linter.unusedVariables false
set_option linter.unusedSimpArgs false
namespace Go.Aw
section
variable {P : Program} {w0 : World} {F0 mods F : Nat → Prop} {ρ : Nat → Option Nat} {S : Heap} {w : World} {K : PV → Heap → Prop}

theorem RepEs.mem {C : Nat → OI} : ∀ {es : List (D × Nat × PV)} {l : List MapEntry}, RepEs w F ρ C es l → ∀ e ∈ l, ∃ x ∈ es, RepD w F x.1 e.key ∧ e.born = x.2.1 ∧ RepPV w F ρ C x.2.2 e.val
  | [], l, h, e, he => by simp only [RepEs] at h; subst h; simp at he
  | (k, bn, p) :: r, l, h, e, he => by
    simp only [RepEs] at h
    obtain ⟨e', l, rfl, h1, h2, h3, h4⟩ := h
    rcases List.mem_cons.1 he with rfl | he
    · exact ⟨_, List.mem_cons_self, h1, h2, h3⟩
    · obtain ⟨x, hx, g⟩ := RepEs.mem h4 e he
      exact ⟨x, List.mem_cons_of_mem _ hx, g⟩
theorem RepEs.mem' {C : Nat → OI} : ∀ {es : List (D × Nat × PV)} {l : List MapEntry}, RepEs w F ρ C es l → ∀ x ∈ es, ∃ e ∈ l, RepD w F x.1 e.key ∧ e.born = x.2.1 ∧ RepPV w F ρ C x.2.2 e.val
  | [], l, h, x, hx => by simp at hx
  | (k, bn, p) :: r, l, h, x, hx => by
    simp only [RepEs] at h
    obtain ⟨e', l, rfl, h1, h2, h3, h4⟩ := h
    rcases List.mem_cons.1 hx with rfl | hx
    · exact ⟨e', List.mem_cons_self, h1, h2, h3⟩
    · obtain ⟨e, he, g⟩ := RepEs.mem' h4 x hx
      exact ⟨e, List.mem_cons_of_mem _ he, g⟩
theorem RepEs.borns {C : Nat → OI} : ∀ {es : List (D × Nat × PV)} {l : List MapEntry}, RepEs w F ρ C es l → l.map (·.born) = es.map fun x => x.2.1
  | [], l, h => by simp only [RepEs] at h; subst h; rfl
  | (k, bn, p) :: r, l, h => by
    simp only [RepEs] at h
    obtain ⟨e', l, rfl, h1, h2, h3, h4⟩ := h
    simp [h2, RepEs.borns h4]

theorem map_at (h : St w0 F0 mods F ρ S w) {o : Nat} {es : List (D × Nat × PV)} {clk : Nat} (hx : S[o]? = some (.mapo es clk)) {b : Nat} (hb : info S o = .box → ρ o = some b) : ∃ ents : Array MapEntry, w.heap[b]? = some (.map ents clk) ∧ RepEs w F ρ (info S) es ents.toList := by
  obtain ⟨b', ents, h1, h2, h3⟩ := h.objs o _ hx
  rw [hb (by rw [info_of hx]; rfl)] at h1
  cases h1
  exact ⟨ents, h2, h3⟩

theorem ok_range (h : St w0 F0 mods F ρ S w) {t kt el : TypeId} (ht : P.underlying t = some (.map kt el)) {mo : Nat} {es : List (D × Nat × PV)} {clk : Nat} (hx : S[mo]? = some (.mapo es clk)) {v : Value} (hv : RepPV w F ρ (info S) (.mp mo) v)
    (hK : K (.ptr S.length 0) (S ++ [.itr mo clk [] clk])) : OpOk P (do pure (.value (← Instr.range t v))) w0 F0 mods F ρ S w K := by
  simp only [RepPV] at hv
  obtain ⟨hf, b, rfl, hb⟩ := hv
  obtain ⟨ents, h2, h3⟩ := map_at h hx hb
  have hi : info (S ++ [.itr mo clk [] clk]) S.length = .box := by simp [info, Ob.info]
  have kk := h.keeps_pushO (.mapIter (some b) clk #[] clk) (.itr mo clk [] clk)
  refine ⟨_, .pointer (some ⟨w.heap.size, 0, none⟩), pushO w (.mapIter (some b) clk #[] clk), _, _, F, _, ?_, .inl rfl, hK, ?_, h.pushO (.mapIter (some b) clk #[] clk) (.itr mo clk [] clk) ⟨w.heap.size, some b, by simp [Rho], get_pushO w _, ?_⟩, kk⟩
  · simp only [Instr.range, Sem.run_bind, run_underlying ht, Result.andThen_ok, MapKept.run_getObj_map h2, Sem.run_pure]
    rfl
  · simp only [RepPV]
    exact ⟨by rw [hi]; simp, w.heap.size, rfl, fun _ => by simp [Rho]⟩
  · exact RepPV.keeps kk (.mp mo) _ (by simp only [RepPV]; exact ⟨hf, b, rfl, hb⟩)

theorem ok_next (h : St w0 F0 mods F ρ S w) {ty : TypeId} {o mo since last : Nat} {seen : List Nat} {es : List (D × Nat × PV)} {clk : Nat} (hx : S[o]? = some (.itr mo since seen last)) (hm : S[mo]? = some (.mapo es clk)) (hold : ∀ x ∈ es, x.2.1 < since) (hsc : since ≤ last)
    {v : Value} (hv : RepPV w F ρ (info S) (.ptr o 0) v) (over : (∀ x ∈ es, x.2.1 ∈ seen) → K (.tup [.d (.b false)]) S) (step : ∀ x ∈ es, x.2.1 ∉ seen → K (.tup [.d (.b true), .d x.1, x.2.2]) (S.set o (.itr mo since (seen ++ [x.2.1]) clk))) :
    OpOk P (do pure (.value (← Instr.next v false ty))) w0 F0 mods F ρ S w K := by
  simp only [RepPV] at hv
  obtain ⟨_, r, rfl, hr⟩ := hv
  have hr := hr (by rw [info_of hx]; rfl)
  obtain ⟨r', m, g1, g2, g3⟩ := h.objs o _ hx
  rw [hr] at g1
  cases g1
  simp only [RepPV] at g3
  obtain ⟨hf, b, hmb, hb⟩ := g3
  cases hmb
  obtain ⟨ents, h2, h3⟩ := map_at h hm hb
  have hold' : ∀ x ∈ ents.toList, x.born < since := fun e he => by
    obtain ⟨x, hx, _, e2, _⟩ := h3.mem e he
    rw [e2]; exact hold x hx
  have hmemF : ∀ e : MapEntry, e ∈ (leftOf ents seen.toArray).toList ↔ e ∈ ents.toList ∧ e.born ∉ seen := fun e => by
    simp [leftOf]
  rcases run_next_at (P := P) w ty r b since last seen.toArray ents clk g2 h2 hold' hsc with ⟨hs, hrun⟩ | ⟨e, he, w1, hw1, hrun⟩
  · refine .value h (v := .tuple #[.bool false]) (by simp only [Sem.run_bind, hrun, Result.andThen_ok, Sem.run_pure]) (by simp only [RepPV, RepTs]; exact ⟨_, rfl, _, _, rfl, by simp [RepD], rfl⟩) (over fun x hx => ?_)
    obtain ⟨e, he, _, e2, _⟩ := h3.mem' x hx
    apply Classical.byContradiction
    intro hn
    have : e ∈ (leftOf ents seen.toArray).toList := (hmemF e).2 ⟨he, by rw [e2]; exact hn⟩
    have h0 : (leftOf ents seen.toArray).toList = [] := by
      rw [Array.eq_empty_of_size_eq_zero hs]
    rw [h0] at this
    simp at this
  · obtain ⟨he1, he2⟩ := (hmemF e).1 he
    obtain ⟨x, hxe, k1, k2, k3⟩ := h3.mem e he1
    have hst1 : St w0 F0 mods F ρ S w1 := by rcases hw1 with rfl | rfl <;> first | exact h | exact h.drew
    have hh1 : w1.heap = w.heap := by rcases hw1 with rfl | rfl <;> rfl
    have kk1 : Keeps w w1 F F ρ ρ (info S) (info S) := keeps_heap hh1 F ρ (info S)
    have hr1 : w1.heap[r]? = some (.mapIter (some b) since seen.toArray last) := by rw [hh1]; exact g2
    have kk : Keeps w1 (setO w1 r (.mapIter (some b) since (seen ++ [x.2.1]).toArray clk)) F F ρ ρ (info S) (info (S.set o (.itr mo since (seen ++ [x.2.1]) clk))) := hst1.keeps_setO hx (by simp) hr hr1 (Nat.le_refl _) rfl
    have hpush : seen.toArray.push e.born = (seen ++ [x.2.1]).toArray := by rw [k2]; simp
    rw [hpush] at hrun
    refine ⟨_, .tuple #[.bool true, e.key, e.val], setO w1 r (.mapIter (some b) since (seen ++ [x.2.1]).toArray clk), _, _, F, ρ, by simp only [Sem.run_bind, hrun, Result.andThen_ok, Sem.run_pure]; rfl, .inl rfl, step x hxe (by rw [← k2]; exact he2), ?_, ?_, kk1.trans kk⟩
    · simp only [RepPV, RepTs]
      exact ⟨_, rfl, _, _, rfl, by simp [RepD], _, _, rfl, k1.mono (kk1.trans kk).same (kk1.trans kk).sub, _, _, rfl, k3.keeps (kk1.trans kk), rfl⟩
    · refine hst1.setO hx (by simp) hr hr1 (Nat.le_refl _) rfl ⟨r, some b, hr, setO_eq w1 r _ (Array.getElem?_eq_some_iff.1 hr1).1, ?_⟩
      exact RepPV.keeps (kk1.trans kk) (.mp mo) _ (by simp only [RepPV]; exact ⟨hf, b, rfl, hb⟩)

theorem ok_entry (h : St w0 F0 mods F ρ S w) {o mo since last : Nat} {seen : List Nat} {es : List (D × Nat × PV)} {x : D × Nat × PV} (hx : S[o]? = some (.itr mo since (seen ++ [x.2.1]) last)) (hm : S[mo]? = some (.mapo es last)) (hxe : x ∈ es) (hn : (es.map fun x => x.2.1).Nodup)
    {v : Value} (hv : RepPV w F ρ (info S) (.ptr o 0) v) (hK : K (.tup [.d x.1, x.2.2]) S) :
    OpOk P (do pure (.value (← Instr.entry v))) w0 F0 mods F ρ S w K := by
  simp only [RepPV] at hv
  obtain ⟨_, r, rfl, hr⟩ := hv
  have hr := hr (by rw [info_of hx]; rfl)
  obtain ⟨r', m, g1, g2, g3⟩ := h.objs o _ hx
  rw [hr] at g1
  cases g1
  simp only [RepPV] at g3
  obtain ⟨hf, b, hmb, hb⟩ := g3
  cases hmb
  obtain ⟨ents, h2, h3⟩ := map_at h hm hb
  obtain ⟨e, he, k1, k2, k3⟩ := h3.mem' x hxe
  have g2' : w.heap[r]? = some (.mapIter (some b) since (seen.toArray.push e.born) last) := by rw [g2, k2]; simp
  have hrun := run_entry_at (P := P) w r b since seen.toArray ents last e g2' h2 he (by rw [h3.borns]; exact hn)
  refine .value h (v := .tuple #[e.key, e.val]) (by simp only [Sem.run_bind, hrun, Result.andThen_ok, Sem.run_pure]) ?_ hK
  simp only [RepPV, RepTs]
  exact ⟨_, rfl, _, _, rfl, k1, _, _, rfl, k3, rfl⟩
end
end Go.Aw
