/- Operations on arrays, parts of own rows, copy. -/
import Derived.Test.YthilodmojjlaeaaAwArr
import Derived.Laws.CopyRow
set_option linter.unusedVariables false
set_option linter.unusedSimpArgs false
namespace Go.Aw
section
variable {P : Program} {w0 : World} {F0 mods F : Nat → Prop} {ρ : Nat → Option Nat} {S : Heap} {w : World} {K : PV → Heap → Prop}

theorem RepPVs.split {C : Nat → OI} : ∀ {ps qs : List PV} {vs : List Value}, RepPVs w F ρ C (ps ++ qs) vs → ∃ a b, vs = a ++ b ∧ RepPVs w F ρ C ps a ∧ RepPVs w F ρ C qs b
  | [], qs, vs, h => ⟨[], vs, rfl, by simp [RepPVs], h⟩
  | p :: ps, qs, vs, h => by
    simp only [List.cons_append, RepPVs] at h
    obtain ⟨v, us, rfl, h1, h2, h3⟩ := h
    obtain ⟨a, b, rfl, g1, g2⟩ := RepPVs.split h3
    exact ⟨v :: a, b, rfl, by simp only [RepPVs]; exact ⟨v, a, rfl, h1, h2, g1⟩, g2⟩
theorem RepPVs.data {C : Nat → OI} : ∀ {ds : List D} {vs : List Value}, RepPVs w F ρ C (ds.map .d) vs → RepL w F ds vs
  | [], vs, h => by simpa [RepPVs, RepL] using h
  | d :: r, vs, h => by
    simp only [List.map_cons, RepPVs] at h
    obtain ⟨v, us, rfl, h1, h2, h3⟩ := h
    simp only [RepL]
    exact ⟨v, us, rfl, h1, by simpa [RepPV] using h2, RepPVs.data h3⟩
theorem wag_of {C : Nat → OI} {pre post : List PV} {run : List D} {n : Nat} (hn : run.length = n) {arr : Array Value} (h : RepPVs w F ρ C (pre ++ (run.map .d ++ post)) arr.toList) : RepPV w F ρ C (.wag pre n run post) (.agg arr) := by
  obtain ⟨a, x, e1, h1, h2⟩ := RepPVs.split h
  obtain ⟨b, c, rfl, h3, h4⟩ := RepPVs.split h2
  simp only [RepPV]
  exact ⟨hn, arr, rfl, a, b, c, e1, h1, h3.data, h4⟩

/-- New variables with a run of data. -/
theorem ok_allocArr (h : St w0 F0 mods F ρ S w) {T : TypeId} {pre post : List PV} {run : List D} {n : Nat} (hz : zO P T = some (pre ++ (run.map .d ++ post))) (hn : run.length = n) (hK : K (.ptr S.length 0) (S ++ [.arr pre n run post])) :
    OpOk P (do pure (.value (← Instr.alloc T true (.tuple #[])))) w0 F0 mods F ρ S w K := by
  obtain ⟨i, z, hi, hzi, hr⟩ := zO_rep (w := w) (F := F) (ρ := ρ) (C := info S) hz
  have hi' : info (S ++ [.arr pre n run post]) S.length = .box := by simp [info, Ob.info]
  refine ⟨_, .pointer (some ⟨w.heap.size, 0, none⟩), push w z.cells T, _, _, F, _, ?_, .inl rfl, hK, ?_, h.push z.cells T (.arr pre n run post) (by simp) (fun _ _ _ _ e => by cases e; exact hn) (rep_new h hr rfl), h.keeps_push ..⟩
  · simp [Instr.alloc, zeroValue, typeInfo, hi, hzi, newVar, newRow]
    rfl
  · simp only [RepPV]
    exact ⟨by rw [hi']; simp, w.heap.size, rfl, fun _ => by simp [Rho]⟩
theorem ok_boxArr (h : St w0 F0 mods F ρ S w) {T : TypeId} {pre post : List PV} {run : List D} {n : Nat} {v : Value} (hv : RepPV w F ρ (info S) (.wag pre n run post) v) (hK : K (.ptr S.length 0) (S ++ [.arr pre n run post])) :
    OpOk P (do pure (.value (← Instr.box T v))) w0 F0 mods F ρ S w K := by
  have hr := PV.cellsOf_rep (p := .wag pre n run post) rfl hv
  have hn : run.length = n := by simp only [RepPV] at hv; exact hv.1
  have hi' : info (S ++ [.arr pre n run post]) S.length = .box := by simp [info, Ob.info]
  refine ⟨_, .pointer (some ⟨w.heap.size, 0, none⟩), push w v.cells T, _, _, F, _, ?_, .inl rfl, hK, ?_, h.push v.cells T (.arr pre n run post) (by simp) (fun _ _ _ _ e => by cases e; exact hn) (rep_new h hr rfl), h.keeps_push ..⟩
  · simp [Instr.box, newVar, newRow]
    rfl
  · simp only [RepPV]
    exact ⟨by rw [hi']; simp, w.heap.size, rfl, fun _ => by simp [Rho]⟩

theorem arr_len (h : St w0 F0 mods F ρ S w) {o n : Nat} {pre post : List PV} {run : List D} (hx : S[o]? = some (.arr pre n run post)) : run.length = n := (h.objs o _ hx).1
theorem arr_place (h : St w0 F0 mods F ρ S w) {o n c : Nat} {pre post : List PV} {run : List D} (hx : S[o]? = some (.arr pre n run post)) {v : Value} (hv : RepPV w F ρ (info S) (.ptr o c) v) : ∃ b, v = .pointer (some ⟨b, c, none⟩) ∧ ρ o = some b := by
  simp only [RepPV] at hv
  obtain ⟨_, b, rfl, hb⟩ := hv
  exact ⟨b, rfl, hb (by rw [info_of hx]; rfl)⟩

/-- The whole is stored. -/
theorem ok_storeArr (h : St w0 F0 mods F ρ S w) {t : TypeId} {o n n' : Nat} {pre post pre' post' : List PV} {run run' : List D} (hx : S[o]? = some (.arr pre n run post)) (h1 : pre'.length = pre.length) (h2 : n' = n) (h3 : post'.length = post.length)
    (hs : szO P t = some (pre'.length + (n' + post'.length))) {v u : Value} (hv : RepPV w F ρ (info S) (.ptr o 0) v) (hu : RepPV w F ρ (info S) (.wag pre' n' run' post') u) (hK : K .any (S.set o (.arr pre' n' run' post'))) :
    OpOk P (do Instr.storeAt t v u; pure .skip) w0 F0 mods F ρ S w K := by
  obtain ⟨b, rfl, hb⟩ := arr_place h hx hv
  have hn := arr_len h hx
  have hn' : run'.length = n' := by simp only [RepPV] at hu; exact hu.1
  refine ok_store_ob (y := .arr pre' n' run' post') h hs hx (by simp) (by simp) (fun _ _ _ _ e => by cases e; exact hn') hb hu rfl (by simp; omega) (by simp [Ob.cells]; omega) ?_ rfl hK
  simp only [Ob.cells, splice, List.take_zero, List.nil_append]
  rw [List.drop_eq_nil_of_le (by simp; omega)]
  simp
/-- A cell ahead of the run is stored. -/
theorem ok_storeArrPre (h : St w0 F0 mods F ρ S w) {t : TypeId} {o n c : Nat} {pre post : List PV} {run : List D} (hx : S[o]? = some (.arr pre n run post)) (hs : szO P t = some 1) {p : PV} (hc : p.cellsOf = some [p]) (hl : c < pre.length)
    {v u : Value} (hv : RepPV w F ρ (info S) (.ptr o c) v) (hu : RepPV w F ρ (info S) p u) (hK : K .any (S.set o (.arr (pre.set c p) n run post))) :
    OpOk P (do Instr.storeAt t v u; pure .skip) w0 F0 mods F ρ S w K := by
  obtain ⟨b, rfl, hb⟩ := arr_place h hx hv
  have hn := arr_len h hx
  refine ok_store_ob (y := .arr (pre.set c p) n run post) h hs hx (by simp) (by simp) (fun _ _ _ _ e => by cases e; exact hn) hb hu hc rfl (by simp [Ob.cells]; omega) ?_ rfl hK
  apply List.ext_getElem?
  intro j
  rw [splice_get _ _ _ (by simp [Ob.cells]; omega)]
  simp only [Ob.cells, List.length_singleton]
  by_cases hj : j < pre.length
  · rw [List.getElem?_append_left (by simpa using hj), List.getElem?_set]
    by_cases e : c = j
    · subst e; simp [hj]
    · rw [if_neg e, if_neg (by omega), List.getElem?_append_left hj]
  · rw [if_neg (by omega)]
    have e1 : (pre.set c p ++ (run.map PV.d ++ post))[j]? = (run.map PV.d ++ post)[j - pre.length]? := by rw [List.getElem?_append_right (by simp; omega), List.length_set]
    have e2 : (pre ++ (run.map PV.d ++ post))[j]? = (run.map PV.d ++ post)[j - pre.length]? := List.getElem?_append_right (by omega)
    rw [e1, e2]
/-- A number in the run is stored. -/
theorem ok_storeRun (h : St w0 F0 mods F ρ S w) {t : TypeId} {o n c i : Nat} {pre post : List PV} {run : List D} (hx : S[o]? = some (.arr pre n run post)) (hs : szO P t = some 1) {d : D} (hc : PV.cellsOf (.d d) = some [.d d]) (hl : c = pre.length) (hi : i < n)
    {v u : Value} (hv : RepPV w F ρ (info S) (.rptr o c i) v) (hu : RepPV w F ρ (info S) (.d d) u) (hK : K .any (S.set o (.arr pre n (run.set i d) post))) :
    OpOk P (do Instr.storeAt t v u; pure .skip) w0 F0 mods F ρ S w K := by
  simp only [RepPV] at hv
  obtain ⟨_, b, rfl, hb⟩ := hv
  have hb := hb (by rw [info_of hx]; rfl)
  have hn := arr_len h hx
  refine ok_store_ob (y := .arr pre n (run.set i d) post) h hs hx (by simp) (by simp) (fun _ _ _ _ e => by cases e; simpa using hn) hb hu hc rfl (by simp [Ob.cells]; omega) ?_ rfl hK
  subst hl
  apply List.ext_getElem?
  intro j
  rw [splice_get _ _ _ (by simp [Ob.cells]; omega)]
  simp only [Ob.cells, List.length_singleton]
  by_cases hj : j < pre.length
  · rw [if_neg (by omega), List.getElem?_append_left hj, List.getElem?_append_left hj]
  · have e1 : ∀ r : List D, (pre ++ (r.map PV.d ++ post))[j]? = (r.map PV.d ++ post)[j - pre.length]? := fun r => List.getElem?_append_right (by omega)
    rw [e1, e1]
    by_cases hj2 : j - pre.length < n
    · have e2 : ∀ r : List D, r.length = n → (r.map PV.d ++ post)[j - pre.length]? = (r[j - pre.length]?).map PV.d := fun r hr => by rw [List.getElem?_append_left (by simp; omega), List.getElem?_map]
      rw [e2 _ hn, e2 _ (by simpa using hn), List.getElem?_set]
      by_cases e : i = j - pre.length
      · rw [if_pos e, if_pos (by omega), if_pos (by omega)]
        have : j - (pre.length + i) = 0 := by omega
        rw [this]; rfl
      · rw [if_neg e, if_neg (by omega)]
    · have e2 : ∀ r : List D, r.length = n → (r.map PV.d ++ post)[j - pre.length]? = post[j - pre.length - n]? := fun r hr => by rw [List.getElem?_append_right (by simp; omega)]; congr 1; simp; omega
      rw [if_neg (by omega), e2 _ hn, e2 _ (by simpa using hn)]

/-- The whole is loaded. -/
theorem ok_loadArr (h : St w0 F0 mods F ρ S w) {t : TypeId} (ha : aggO P t = some true) {o n : Nat} {pre post : List PV} {run : List D} (hx : S[o]? = some (.arr pre n run post)) (hs : szO P t = some (pre.length + (n + post.length)))
    {v : Value} (hv : RepPV w F ρ (info S) (.ptr o 0) v) (hK : K (.wag pre n run post) S) :
    OpOk P (do pure (.value (← Instr.loadAt t v))) w0 F0 mods F ρ S w K := by
  obtain ⟨b, rfl, hb⟩ := arr_place h hx hv
  have hn := arr_len h hx
  obtain ⟨arr, T, e1, e2⟩ := h.cells hx (by simp) hb
  obtain ⟨vs, f1, f2, f3⟩ := e2.sub 0 (pre.length + (n + post.length)) (by simp [Ob.cells]; omega)
  have hr := run_loadVar_agg (P := P) (w := w) ha hs ⟨b, 0, none⟩ vs f1 (fun j v hj => by rw [add_mid, cell_of e1]; exact f2 j v hj)
  refine .value h (v := .agg vs.toArray) (by simp [Instr.loadAt, Instr.sureAddr, hr]) ?_ hK
  refine wag_of hn ?_
  rw [List.drop_zero, List.take_of_length_le (by simp [Ob.cells]; omega)] at f3
  exact f3
/-- The run is loaded. -/
theorem ok_loadRun (h : St w0 F0 mods F ρ S w) {t : TypeId} (ha : aggO P t = some true) {o n c : Nat} {pre post : List PV} {run : List D} (hx : S[o]? = some (.arr pre n run post)) (hc : c = pre.length) (hs : szO P t = some n)
    {v : Value} (hv : RepPV w F ρ (info S) (.ptr o c) v) (hK : K (.wag [] n run []) S) :
    OpOk P (do pure (.value (← Instr.loadAt t v))) w0 F0 mods F ρ S w K := by
  obtain ⟨b, rfl, hb⟩ := arr_place h hx hv
  have hn := arr_len h hx
  subst hc
  obtain ⟨arr, T, e1, e2⟩ := h.cells hx (by simp) hb
  obtain ⟨vs, f1, f2, f3⟩ := e2.sub pre.length n (by simp [Ob.cells]; omega)
  have hr := run_loadVar_agg (P := P) (w := w) ha hs ⟨b, pre.length, none⟩ vs f1 (fun j v hj => by rw [add_mid, cell_of e1]; exact f2 j v hj)
  refine .value h (v := .agg vs.toArray) (by simp [Instr.loadAt, Instr.sureAddr, hr]) ?_ hK
  refine wag_of hn ?_
  simp only [Ob.cells, List.drop_left] at f3
  rw [List.take_append_of_le_length (by simp; omega), List.take_of_length_le (by simp; omega)] at f3
  simpa using f3
/-- A cell beside the run, or in it, is loaded. -/
theorem ok_loadArrCell (h : St w0 F0 mods F ρ S w) {t : TypeId} (ha : aggO P t = some false) {o n c : Nat} {pre post : List PV} {run : List D} (hx : S[o]? = some (.arr pre n run post)) {p : PV}
    (hp : (c < pre.length ∧ pre[c]? = some p) ∨ (pre.length + n ≤ c ∧ post[c - (pre.length + n)]? = some p)) {v : Value} (hv : RepPV w F ρ (info S) (.ptr o c) v) (hK : K p S) :
    OpOk P (do pure (.value (← Instr.loadAt t v))) w0 F0 mods F ρ S w K := by
  obtain ⟨b, rfl, hb⟩ := arr_place h hx hv
  have hn := arr_len h hx
  refine ok_load_ob_one h ha hx (by simp) hb (p := p) ?_ hK
  simp only [Ob.cells]
  rcases hp with ⟨h1, h2⟩ | ⟨h1, h2⟩
  · rw [List.getElem?_append_left h1]; exact h2
  · rw [List.getElem?_append_right (by omega), List.getElem?_append_right (by simp; omega)]
    rw [← h2]; congr 1; simp; omega
theorem ok_loadRptr (h : St w0 F0 mods F ρ S w) {t : TypeId} (ha : aggO P t = some false) {o n c i : Nat} {pre post : List PV} {run : List D} (hx : S[o]? = some (.arr pre n run post)) (hc : c = pre.length) (hi : i < n)
    {v : Value} (hv : RepPV w F ρ (info S) (.rptr o c i) v) {d : D} (hd : run[i]? = some d) (hK : K (.d d) S) :
    OpOk P (do pure (.value (← Instr.loadAt t v))) w0 F0 mods F ρ S w K := by
  simp only [RepPV] at hv
  obtain ⟨_, b, rfl, hb⟩ := hv
  have hb := hb (by rw [info_of hx]; rfl)
  have hn := arr_len h hx
  refine ok_load_ob_one h ha hx (by simp) hb (p := .d d) ?_ hK
  subst hc
  simp only [Ob.cells]
  rw [List.getElem?_append_right (by omega), List.getElem?_append_left (by simp; omega), List.getElem?_map]
  rw [show pre.length + i - pre.length = i by omega, hd]; rfl

/-- Types with a long array of bytes in them: cells ahead of it, its length, cells behind it. -/
def wideF (P : Program) : List Field → Option (Nat × Nat)
  | [] => none
  | f :: fs => match P.underlying f.type with
    | some (.array n _) => match Nat.ble 17 n with
      | true => some (f.offset, n)
      | false => wideF P fs
    | _ => wideF P fs
def wideO (P : Program) (t : TypeId) : Option (Nat × Nat × Nat) := match P.underlying t with
  | some (.array n _) => match Nat.ble 17 n with
    | true => some (0, n, 0)
    | false => none
  | some (.struct fs) => match wideF P fs.toList with
    | some (a, n) => match szO P t with
      | some s => some (a, n, s - a - n)
      | none => none
    | none => none
  | _ => none
def arO (P : Program) (t : TypeId) : Option (Nat × TypeId) := match P.underlying t with
  | some (.array n e) => some (n, e)
  | _ => none
theorem arO_under {t e : TypeId} {n : Nat} (h : arO P t = some (n, e)) : P.underlying t = some (.array n e) := by
  unfold arO at h
  split at h
  · rename_i n' e' hu; cases h; exact hu
  · cases h

/-- A slice of an array. -/
theorem ok_sliceArr (h : St w0 F0 mods F ρ S w) {t e : TypeId} {n : Nat} (hu : arO P t = some (n, e)) (hs : szO P e = some 1) (hmx : n ≤ maxLen) {o c : Nat} {v : Value} (hv : RepPV w F ρ (info S) (.ptr o c) v)
    {lo hi : Option PV} {lv hv' : Option Value} (h1 : RepO w F ρ (info S) lo lv) (h2 : RepO w F ρ (info S) hi hv') {l m : Nat} (e2 : bndA hi n n = some m) (e1 : bndA lo m 0 = some l) (hl : l < n)
    (hK : K (.asl o c l (m - l)) S) : OpOk P (do pure (.value (← Instr.sliceAt t v lv hv' none))) w0 F0 mods F ρ S w K := by
  simp only [RepPV] at hv
  obtain ⟨hf, b, rfl, hb⟩ := hv
  obtain ⟨hr, hlm, hml⟩ := run_bounds (P := P) (w := w) (S := S) false (Nat.le_refl n) h1 h2 e2 e1
  refine .value h (v := .slice (some ⟨b, c + l, none⟩) (m - l) (n - l)) ?_ ?_ hK
  · simp only [Instr.sliceAt, Sem.run_bind, run_underlying (arO_under hu), Result.andThen_ok, Instr.sureAddr, Sem.run_pure, hr, run_size hs]
    rw [if_neg (by omega), Nat.mul_one, add_mid]
  · simp only [RepPV]
    exact ⟨hf, b, n - l, rfl, by omega, by omega, hb⟩
/-- A part of own rows. -/
theorem ok_sliceOwn (h : St w0 F0 mods F ρ S w) {t e : TypeId} (hu : elO P t = some e) {sz : Nat} (hs : szO P e = some sz) {o n : Nat} {rows : List (List PV)} (hx : S[o]? = some (.buf rows)) (hn : rows.length = n) {v : Value} (hv : RepPV w F ρ (info S) (.own o sz n) v)
    {lo hi : Option PV} {lv hv' : Option Value} (h1 : RepO w F ρ (info S) lo lv) (h2 : RepO w F ρ (info S) hi hv') {l m : Nat} (e2 : bndA hi n n = some m) (e1 : bndA lo m 0 = some l)
    (hK : K (.sub o sz l (m - l) n) S) : OpOk P (do pure (.value (← Instr.sliceAt t v lv hv' none))) w0 F0 mods F ρ S w K := by
  have hi' : info S o = .buf n := by rw [info_of hx, Ob.info, hn]
  simp only [RepPV] at hv
  obtain ⟨hf, a, cap, rfl, h3⟩ := hv
  have hut := elO_under hu
  have hcap : n ≤ cap ∧ cap ≤ maxLen := by
    rcases (h3 n hi').2 rfl with ⟨_, _, g1, g2⟩ | ⟨b, _, _, g3, g4, _⟩
    · subst g1; subst g2; exact ⟨Nat.le_refl _, by unfold maxLen; omega⟩
    · exact ⟨g3, g4⟩
  obtain ⟨hr, hlm, hml⟩ := run_bounds (P := P) (w := w) (S := S) true hcap.1 h1 h2 e2 e1
  refine .value h (v := .slice (if cap = l then a else a.map (·.add (l * sz))) (m - l) (cap - l)) ?_ ?_ hK
  · simp [Instr.sliceAt, Instr.slice, run_underlying hut, hr, run_size hs]
  · simp only [RepPV]
    refine ⟨hf, _, cap - l, rfl, by omega, by omega, fun m' hm' => ?_⟩
    rw [hi'] at hm'
    cases hm'
    refine ⟨Nat.le_refl _, fun _ => ⟨by omega, ?_⟩⟩
    by_cases hz : m - l = 0
    · exact .inl hz
    · right
      rcases (h3 n hi').2 rfl with ⟨_, _, g1, g2⟩ | ⟨b, g1, g2, g3, g4, _⟩
      · omega
      · refine ⟨b, g1, ?_⟩
        rw [if_neg (by omega), g2, Option.map_some, add_mid, Nat.zero_add]
/-- A part of a part. -/
theorem ok_sliceSub (h : St w0 F0 mods F ρ S w) {t e : TypeId} (hu : elO P t = some e) {sz : Nat} (hs : szO P e = some sz) {o off n k : Nat} {v : Value} (hv : RepPV w F ρ (info S) (.sub o sz off n k) v)
    {lo hi : Option PV} {lv hv' : Option Value} (h1 : RepO w F ρ (info S) lo lv) (h2 : RepO w F ρ (info S) hi hv') {l m : Nat} (e2 : bndA hi n n = some m) (e1 : bndA lo m 0 = some l)
    (hK : K (.sub o sz (off + l) (m - l) k) S) : OpOk P (do pure (.value (← Instr.sliceAt t v lv hv' none))) w0 F0 mods F ρ S w K := by
  simp only [RepPV] at hv
  obtain ⟨hf, a, cap, rfl, g1, g2, h3⟩ := hv
  have hut := elO_under hu
  obtain ⟨hr, hlm, hml⟩ := run_bounds (P := P) (w := w) (S := S) true g1 h1 h2 e2 e1
  refine .value h (v := .slice (if cap = l then a else a.map (·.add (l * sz))) (m - l) (cap - l)) ?_ ?_ hK
  · simp [Instr.sliceAt, Instr.slice, run_underlying hut, hr, run_size hs]
  · simp only [RepPV]
    refine ⟨hf, _, cap - l, rfl, by omega, by omega, fun m' hm' => ⟨(h3 m' hm').1, fun e => ?_⟩⟩
    obtain ⟨k1, k2⟩ := (h3 m' hm').2 e
    refine ⟨by omega, ?_⟩
    by_cases hz : m - l = 0
    · exact .inl hz
    · right
      rcases k2 with k2 | ⟨b, k2, k3⟩
      · omega
      · refine ⟨b, k2, ?_⟩
        rw [if_neg (by omega), k3, Option.map_some, add_mid, Nat.add_mul]

/-! ### What slices hold -/
theorem holds_asl (h : St w0 F0 mods F ρ S w) {o c lo len n : Nat} {pre post : List PV} {run : List D} (hx : S[o]? = some (.arr pre n run post)) (hc : c = pre.length) (hl : lo + len ≤ n) {v : Value} (hv : RepPV w F ρ (info S) (.asl o c lo len) v) :
    Holds P w F ρ (info S) ((((run.drop lo).take len).map fun d => [d]).map (·.map .d)) v := by
  simp only [RepPV] at hv
  obtain ⟨_, b, cap, rfl, g1, g2, hb⟩ := hv
  have hb := hb (by rw [info_of hx]; rfl)
  have hn := arr_len h hx
  subst hc
  obtain ⟨arr, T, e1, e2⟩ := h.cells hx (by simp) hb
  obtain ⟨vs, f1, f2, f3⟩ := e2.sub (pre.length + lo) len (by simp [Ob.cells]; omega)
  have hcells : ((Ob.arr pre n run post).cells.drop (pre.length + lo)).take len = ((run.drop lo).take len).map .d := by
    simp only [Ob.cells]
    rw [← List.drop_drop, List.drop_left, List.drop_append_of_le_length (by simp; omega), List.take_append_of_le_length (by simp; omega)]
    simp
  rw [hcells] at f3
  refine ⟨some ⟨b, pre.length + lo, none⟩, cap, vs, ?_, ?_, (fun h => by cases h), fun ad had j u hj => ?_⟩
  · congr 1; simp; omega
  · have : ((((run.drop lo).take len).map fun d => [d]).map (·.map PV.d)).flatten = ((run.drop lo).take len).map .d := by
      induction (run.drop lo).take len with
      | nil => rfl
      | cons d r ih => simp only [List.map_cons, List.flatten_cons, ih]; rfl
    rw [this]; exact f3
  · cases had
    rw [add_mid, cell_of e1]
    exact f2 j u hj
theorem holds_sub (h : St w0 F0 mods F ρ S w) {o sz off n k : Nat} {rows : List (List PV)} (hx : S[o]? = some (.buf rows)) (hk : rows.length = k) (ha : AllLen sz rows) (hl : off + n ≤ k) {v : Value} (hv : RepPV w F ρ (info S) (.sub o sz off n k) v) :
    Holds P w F ρ (info S) ((rows.drop off).take n) v := by
  have hi' : info S o = .buf k := by rw [info_of hx, Ob.info, hk]
  simp only [RepPV] at hv
  obtain ⟨_, a, cap, rfl, g1, g2, h3⟩ := hv
  have hlen : ((rows.drop off).take n).length = n := by simp; omega
  rcases ((h3 k hi').2 rfl).2 with h0 | ⟨b, hb, rfl⟩
  · subst h0
    refine ⟨a, cap, [], by simp, by simp [RepPVs], fun _ => by simp, fun _ _ j u hj => by simp at hj⟩
  obtain ⟨arr, T, e1, e2⟩ := h.cells hx (by simp) hb
  have hfl : (Ob.buf rows).cells.length = k * sz := by simp only [Ob.cells]; rw [ha.flatten, hk]
  obtain ⟨vs, f1, f2, f3⟩ := e2.sub (off * sz) (n * sz) (by rw [hfl, ← Nat.add_mul]; exact Nat.mul_le_mul_right _ hl)
  have hcells : ((Ob.buf rows).cells.drop (off * sz)).take (n * sz) = ((rows.drop off).take n).flatten := by
    simp only [Ob.cells]
    have key : ∀ (rs : List (List PV)) (j : Nat), AllLen sz rs → j ≤ rs.length → rs.flatten.drop (j * sz) = (rs.drop j).flatten ∧ rs.flatten.take (j * sz) = (rs.take j).flatten := by
      intro rs j hrs hj
      have e : rs = rs.take j ++ rs.drop j := (List.take_append_drop j rs).symm
      have hl1 : (rs.take j).flatten.length = j * sz := by
        rw [AllLen.flatten (fun r hr => hrs r (List.mem_of_mem_take hr)), List.length_take, Nat.min_eq_left hj]
      have e2 : rs.flatten = (rs.take j).flatten ++ (rs.drop j).flatten := by rw [← List.flatten_append, ← e]
      constructor
      · rw [e2, ← hl1, List.drop_left]
      · rw [e2, ← hl1, List.take_left]
    rw [(key rows off ha (by omega)).1, (key (rows.drop off) n (fun r hr => ha r (List.mem_of_mem_drop hr)) (by simp; omega)).2]
  rw [hcells] at f3
  refine ⟨some ⟨b, off * sz, none⟩, cap, vs, by rw [hlen], f3, (fun h => by cases h), fun ad had j u hj => ?_⟩
  cases had
  rw [add_mid, cell_of e1]
  exact f2 j u hj

theorem ok_appendH (h : St w0 F0 mods F ρ S w) {t ty el : TypeId} {p : PV} {v u : Value} {sz by_ : Nat} {zs : List PV} {more : List (List PV)} (h1 : elO P t = some el) (h2 : szO P el = some sz) (h3 : byO P el = some by_) (h4 : zO P el = some zs) (h5 : zs.length = sz) (h6 : 0 < sz)
    (hv : RepPV w F ρ (info S) p v) (hm : Holds P w F ρ (info S) more u) (h8 : AllLen sz more) (hl : match p with
      | .nils => (more.length * by_ ≤ 140737488355328 ∧ more.length ≤ 9223372036854775807) ∧ K (.own S.length sz more.length) (S ++ [.buf more])
      | .own o s n => s = sz ∧ ∃ rows, S[o]? = some (.buf rows) ∧ rows.length = n ∧ AllLen sz rows ∧ ((n + more.length) * by_ ≤ 140737488355328 ∧ n + more.length ≤ 9223372036854775807) ∧
          K (.own o sz (n + more.length)) (S.set o (.buf (rows ++ more)))
      | _ => False) :
    OpOk P (do pure (.value (← Builtin.append_ #[t, t] ty #[v, u]))) w0 F0 mods F ρ S w K := by
  cases p
  case nils =>
    obtain ⟨⟨hb1, hb2⟩, hK⟩ := hl
    simp only [RepPV] at hv
    subst hv
    obtain ⟨h', hk, hr⟩ := h.adopt
    refine OpOk.after hk ?_
    have hm' : Holds P w F (Rho ρ S.length none) (info (S ++ [.buf []])) more u := by
      obtain ⟨a, c, vs, e1, e2, e3⟩ := hm
      exact ⟨a, c, vs, e1, RepPVs.keeps hk _ _ e2, e3⟩
    refine ok_append_own h' h1 h2 h3 h4 h5 h6 (o := S.length) (n := 0) (rows := []) (by simp) rfl (fun r hr => by simp at hr) (hr sz) h8 hm' (by simpa using hb1) (by simpa using hb2) ?_
    simpa using hK
  case own o s n =>
    obtain ⟨rfl, rows, hx, hn, hal, ⟨hb1, hb2⟩, hK⟩ := hl
    exact ok_append_own h h1 h2 h3 h4 h5 h6 hx hn hal hv h8 hm hb1 hb2 hK
  all_goals exact hl.elim

/-! ### copy -/
/-- Cells of an object are written, from a list of values. -/
theorem ok_copyH (h : St w0 F0 mods F ρ S w) {t t' ty el : TypeId} (h1 : elO P t = some el) (h2 : szO P el = some 1) {o b c dLen dCap : Nat} {x y : Ob} (hx : S[o]? = some x) (hg : x.Cel) (hgy : y.Cel) (hyn : ∀ pre n run post, y = .arr pre n run post → run.length = n) (hb : ρ o = some b)
    {rows : List (List PV)} (ha : AllLen 1 rows) {u : Value} (hm : Holds P w F ρ (info S) rows u) (hl : c + min rows.length dLen ≤ x.cells.length) (hy : y.cells = splice x.cells c (rows.take (min rows.length dLen)).flatten) (hi : x.info = y.info)
    (hK : K (.d (.i .i64 ((min rows.length dLen : Nat) : Int))) (S.set o y)) :
    OpOk P (do pure (.value (← Builtin.copy_ #[t, t'] ty #[.slice (some ⟨b, c, none⟩) dLen dCap, u]))) w0 F0 mods F ρ S w K := by
  obtain ⟨arr, T, e1, e2⟩ := h.cells hx hg hb
  obtain ⟨a, c', vs, rfl, hr0, hn0, hv0⟩ := hm
  have hlv : vs.length = rows.length := by have := hr0.length; rw [ha.flatten] at this; omega
  let m := min rows.length dLen
  let cs := vs.take m
  have hcs : cs.length = m := by simp only [cs, m, List.length_take, hlv]; omega
  have hr : RepPVs w F ρ (info S) (rows.take m).flatten cs := by
    have hfl : rows.flatten = (rows.take m).flatten ++ (rows.drop m).flatten := by rw [← List.flatten_append, List.take_append_drop]
    rw [hfl] at hr0
    obtain ⟨a', b', e, g1, g2⟩ := RepPVs.split hr0
    have hl1 : a'.length = m := by have := g1.length; rw [AllLen.flatten (fun r hr => ha r (List.mem_of_mem_take hr))] at this; simp at this; omega
    have : cs = a' := by simp only [cs]; rw [e, ← hl1, List.take_left]
    rw [this]; exact g1
  have hsz : x.cells.length ≤ arr.size := by
    rcases Nat.eq_zero_or_pos x.cells.length with h0 | h0
    · omega
    · obtain ⟨v, h1, _⟩ := e2 (x.cells.length - 1) x.cells[x.cells.length - 1] (List.getElem?_eq_getElem (by omega))
      have := (Array.getElem?_eq_some_iff.1 h1).1
      omega
  have hone := ones hr
  have hst := run_storeCells_at P b c T cs 0 arr w e1 (by rw [hcs]; omega) hone
  simp only [Nat.add_zero] at hst
  rw [setRow_eq e1] at hst
  have hfc : (Builtin.firstCells 1 m (.slice a rows.length c')).run P w = .ok cs.toArray w := by
    cases a with
    | none =>
      have : rows = [] := hn0 rfl
      have h0 : cs = [] := List.eq_nil_of_length_eq_zero (by rw [hcs]; simp only [m, this]; simp)
      rw [run_firstCells_none, h0]
    | some ad => exact run_firstCells_some w 1 m ad _ _ cs (by rw [hcs]; omega) (fun j v hj => hv0 ad rfl j v (by simp only [cs] at hj; rw [List.getElem?_take] at hj; split at hj <;> first | exact hj | cases hj))
  have hrun : (Builtin.copy_ #[t, t'] ty #[.slice (some ⟨b, c, none⟩) dLen dCap, .slice a rows.length c']).run P w = .ok (goInt m) (setBlock w b (arr.toList.take c ++ cs ++ arr.toList.drop (c + cs.length)).toArray T) := by
    have hmin : Nat.min rows.length dLen = m := rfl
    simp [Builtin.copy_, run_underlying (elO_under h1), Builtin.lenOf, run_size h2, hmin, hfc, hst]
  have hsize : arr.size = (arr.toList.take c ++ cs ++ arr.toList.drop (c + cs.length)).toArray.size := by simp; omega
  refine ⟨_, goInt m, _, .d (.i .i64 m), S.set o y, F, ρ, by simp only [Sem.run_bind, hrun, Result.andThen_ok, Sem.run_pure], .inl rfl, hK, by simp [RepPV, RepD, goInt], ?_, h.keeps_set hx hg.mut hb e1 hsize (.inl hi)⟩
  refine h.set hx hg.mut hgy hyn hb e1 hsize (.inl hi) ?_
  have hk := h.keeps_set (arr' := (arr.toList.take c ++ cs ++ arr.toList.drop (c + cs.length)).toArray) (y := y) hx hg.mut hb e1 hsize (.inl hi)
  have hfl : (rows.take m).flatten.length = m := by rw [← hr.length, hcs]
  intro j q hj
  rw [hy, splice_get _ _ _ (by have := hfl; simp only [m] at this; omega)] at hj
  have hget : ((arr.toList.take c ++ cs ++ arr.toList.drop (c + cs.length)).toArray)[j]? = if c ≤ j ∧ j < c + cs.length then cs[j - c]? else arr[j]? := by
    have := splice_get arr.toList c cs (by simp; omega) j
    simpa [splice] using this
  split at hj
  · rename_i hcj
    obtain ⟨u, h1, h2, h3⟩ := hr.get hj
    refine ⟨u, ?_, h2, h3.keeps hk⟩
    rw [hget, if_pos (by simp only [m] at hfl hcs; omega)]
    exact h1
  · rename_i hcj
    obtain ⟨u, h1, h2, h3⟩ := e2 j q hj
    refine ⟨u, ?_, h2, h3.keeps hk⟩
    rw [hget, if_neg (by simp only [m] at hfl hcs; omega)]
    exact h1
end
end Go.Aw
