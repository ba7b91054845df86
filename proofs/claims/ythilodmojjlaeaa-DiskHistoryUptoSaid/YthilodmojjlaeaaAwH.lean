/- Slicing, literals, make, conversions between texts and bytes. -/
import Derived.Test.YthilodmojjlaeaaAwG
set_option linter.unusedVariables false
set_option linter.unusedSimpArgs false
namespace Go.Aw

/-- A list cut into so many rows. -/
def chunks {α : Type} (sz : Nat) : Nat → List α → List (List α)
  | 0, _ => []
  | n + 1, l => l.take sz :: chunks sz n (l.drop sz)

theorem chunks_flatten {α : Type} {sz : Nat} : ∀ {n : Nat} {l : List α}, l.length = n * sz → (chunks sz n l).flatten = l
  | 0, l, h => by simp at h; simp [chunks, h]
  | n + 1, l, h => by
    simp only [chunks, List.flatten_cons]
    rw [chunks_flatten (by simp [h, Nat.add_mul]), List.take_append_drop]

theorem chunks_length {α : Type} {sz : Nat} : ∀ {n : Nat} {l : List α}, (chunks sz n l).length = n
  | 0, l => rfl
  | n + 1, l => by simp [chunks, chunks_length]

theorem getElem?_foldl_put (off : Nat) : ∀ (vs : List Value) (k : Nat) (cs : Array Value) (m : Nat),
    ((vs.zipIdx k).foldl (fun (cs : Array Value) (x : Value × Nat) => cs.setIfInBounds (off + x.2) x.1) cs)[m]? = if off + k ≤ m ∧ m < off + k + vs.length ∧ m < cs.size then vs[m - off - k]? else cs[m]?
  | [], k, cs, m => by simp; intro h1 h2; omega
  | v :: r, k, cs, m => by
    simp only [List.zipIdx_cons, List.foldl_cons]
    rw [getElem?_foldl_put off r (k + 1)]
    simp only [Array.size_setIfInBounds, List.length_cons]
    by_cases h1 : m = off + k
    · subst h1
      by_cases h2 : off + k < cs.size
      · rw [if_neg (by omega), if_pos (by omega)]
        simp [h2]
      · rw [if_neg (by omega), if_neg (by omega)]
        simp [h2]
    · rw [Array.getElem?_setIfInBounds_ne (by omega)]
      by_cases h2 : off + (k + 1) ≤ m ∧ m < off + (k + 1) + r.length ∧ m < cs.size
      · rw [if_pos h2, if_pos (by omega)]
        obtain ⟨j, hj⟩ : ∃ j, m - off - k = j + 1 := ⟨m - off - k - 1, by omega⟩
        rw [hj, List.getElem?_cons_succ]
        congr 1; omega
      · rw [if_neg h2, if_neg (by omega)]

def fillA (place : Nat → Option (Nat × Nat)) : List PV → List (Nat × PV) → Option (List PV)
  | cs, [] => some cs
  | cs, (i, p) :: r => match place i, p.cellsOf with
    | some (off, size), some ps => if ps.length = size ∧ off + size ≤ cs.length then fillA place (splice cs off ps) r else none
    | _, _ => none

section
variable {P : Program} {w0 : World} {F0 mods F : Nat → Prop} {ρ : Nat → Option Nat} {S : Heap} {w : World} {K : PV → Heap → Prop}

theorem RepPVs.splice {C : Nat → OI} {cs ps : List PV} {vs us : List Value} (h : RepPVs w F ρ C cs vs) (h' : RepPVs w F ρ C ps us) {off : Nat} (hl : off + ps.length ≤ cs.length) {zs : List Value}
    (hz : ∀ m : Nat, zs[m]? = if off ≤ m ∧ m < off + us.length ∧ m < vs.length then us[m - off]? else vs[m]?) (hzl : zs.length = vs.length) : RepPVs w F ρ C (Aw.splice cs off ps) zs := by
  refine RepPVs.mk (by rw [hzl, h.length, splice_length _ _ _ hl]) fun j d v hd hv => ?_
  rw [splice_get _ _ _ hl] at hd
  rw [hz] at hv
  have e1 := h.length
  have e2 := h'.length
  by_cases hj : off ≤ j ∧ j < off + ps.length
  · rw [if_pos hj] at hd
    rw [if_pos (by omega)] at hv
    obtain ⟨u, h1, h2, h3⟩ := h'.get hd
    rw [h1] at hv; cases hv
    exact ⟨h2, h3⟩
  · rw [if_neg hj] at hd
    rw [if_neg (by omega)] at hv
    obtain ⟨u, h1, h2, h3⟩ := h.get hd
    rw [h1] at hv; cases hv
    exact ⟨h2, h3⟩

/-- Parts of a literal, as they stand in the slots. -/
inductive Parts (w : World) (F : Nat → Prop) (ρ : Nat → Option Nat) (C : Nat → OI) : List (Nat × PV) → List (Nat × Value) → Prop
  | nil : Parts w F ρ C [] []
  | cons {i : Nat} {p : PV} {v : Value} {ps : List (Nat × PV)} {vs : List (Nat × Value)} : RepPV w F ρ C p v → Parts w F ρ C ps vs → Parts w F ρ C ((i, p) :: ps) ((i, v) :: vs)

theorem fill_rep {C : Nat → OI} (place : Nat → Option (Nat × Nat)) : ∀ {pps : List (Nat × PV)} {parts : List (Nat × Value)} {cs cs' : List PV} {cells : Array Value},
    Parts w F ρ C pps parts → RepPVs w F ρ C cs cells.toList → fillA place cs pps = some cs' → ∃ cells', Instr.fill place cells parts = some cells' ∧ RepPVs w F ρ C cs' cells'.toList
  | _, _, cs, cs', cells, .nil, hc, hf => by
    simp only [fillA, Option.some.injEq] at hf
    subst hf
    exact ⟨cells, rfl, hc⟩
  | _, _, cs, cs', cells, .cons (i := i) (p := p) (v := v) hp hr, hc, hf => by
    simp only [fillA] at hf
    split at hf
    · rename_i off size ps hpl hps
      split at hf
      · rename_i hcond
        have hv := PV.cellsOf_rep hps hp
        have hvl : v.cells.size = ps.length := by have := hv.length; simpa using this
        have hcl : cells.size = cs.length := by have := hc.length; simpa using this
        have hcond1 := hcond.1
        have hcond2 := hcond.2
        have hsp := hc.splice hv (off := off) (by omega) (zs := (v.cells.zipIdx.foldl (fun (cs : Array Value) (x : Value × Nat) => cs.setIfInBounds (off + x.2) x.1) cells).toList)
          (fun m => by
            rw [← Array.foldl_toList, Array.toList_zipIdx, Array.getElem?_toList, getElem?_foldl_put]
            simp) (by
            have hsz : ∀ (l : List (Value × Nat)) (a : Array Value), (l.foldl (fun (cs : Array Value) (x : Value × Nat) => cs.setIfInBounds (off + x.2) x.1) a).size = a.size := by
              intro l
              induction l with
              | nil => intro a; rfl
              | cons x r ih => intro a; simp [ih]
            rw [← Array.foldl_toList]
            simp [hsz])
        obtain ⟨cells', h1, h2⟩ := fill_rep place hr hsp hf
        refine ⟨cells', ?_, h2⟩
        simp only [Instr.fill, hpl]
        rw [if_neg (by simp; omega)]
        exact h1
      · cases hf
    · cases hf

/-- A value's zero, so many times. -/
theorem zeros_rep {C : Nat → OI} {zs : List PV} {z : Array Value} (h : RepPVs w F ρ C zs z.toList) (hpos : 0 < zs.length) (n : Nat) :
    RepPVs w F ρ C (List.replicate n zs).flatten ((Array.range (n * zs.length)).map (z[· % z.size]!)).toList := by
  have hl : AllLen zs.length (List.replicate n zs) := fun r hr => by rw [List.eq_of_mem_replicate hr]
  have hzl : z.size = zs.length := by have := h.length; simpa using this
  refine RepPVs.mk (by rw [hl.flatten]; simp) fun j d v hd hv => ?_
  have hj : j < n * zs.length := by
    have := (List.getElem?_eq_some_iff.1 hd).1
    rwa [hl.flatten, List.length_replicate] at this
  have hdiv : j / zs.length < n := (Nat.div_lt_iff_lt_mul hpos).2 hj
  have hmod : j % zs.length < zs.length := Nat.mod_lt _ hpos
  have hget := hl.get (i := j / zs.length) (r := zs) (by simp [hdiv]) (j % zs.length) hmod
  rw [Nat.div_add_mod'] at hget
  rw [hget] at hd
  obtain ⟨u, h1, h2, h3⟩ := h.get hd
  have hv' : v = z[j % z.size]! := by
    simp only [Array.toList_map, Array.toList_range, List.getElem?_map] at hv
    rw [List.getElem?_range hj] at hv
    simpa using hv.symm
  have : z[j % z.size]! = u := by
    rw [hzl]
    have hlt : j % zs.length < z.size := by omega
    rw [getElem!_pos z _ hlt]
    have h1' : z[j % zs.length]? = some u := by simpa using h1
    rw [Array.getElem?_eq_getElem hlt] at h1'
    simpa using h1'
  rw [hv', this]
  exact ⟨h2, h3⟩

theorem fresh_data {C : Nat → OI} {T : TypeId} {arr : Array Value} (h : St w0 F0 mods F ρ S w) {ds : List D} (hd : RepL w F ds arr.toList) : RepAt (push w arr T) (Plus F w.heap.size) w.heap.size 0 ds :=
  RepAt.mk fun j d hj => by
    obtain ⟨v, h1, h2, h3⟩ := hd.get hj
    refine ⟨.inr rfl, v, ?_, h2, h3.mono (h.keeps_data arr T).same (h.keeps_data arr T).sub⟩
    rw [cell_of (get_push w arr T)]
    simpa using h1

/-- A slice literal: data in a new block. -/
theorem ok_buildSlice (h : St w0 F0 mods F ρ S w) {t e : TypeId} (hu : elO P t = some e) {sz : Nat} (hs : szO P e = some sz) {zs : List PV} (hz : zO P e = some zs) (hzs : zs.length = sz) (hpos : 0 < sz)
    {len : Nat} {pps : List (Nat × PV)} {parts : Array (Nat × Value)} (hp : Parts w F ρ (info S) pps parts.toList) {cs : List PV} (hf : fillA (fun i => some (i * sz, sz)) (List.replicate len zs).flatten pps = some cs)
    (hbig : len * sz ≤ 16777216) {ds : List D} (hd : toDs cs = some ds) (hdl : ds.length = len * sz) (hK : K (.d (.sl (chunks sz len ds))) S) :
    OpOk P (do pure (.value (← Instr.buildSlice t len parts))) w0 F0 mods F ρ S w K := by
  have hut := elO_under hu
  obtain ⟨i, z, hii, hzi, hrz⟩ := zO_rep (w := w) (F := F) (ρ := ρ) (C := info S) hz
  have hzl : z.cells.size = zs.length := by have := hrz.length; simpa using this
  obtain ⟨cells', h1, h2⟩ := fill_rep _ hp (zeros_rep hrz (by omega) len) hf
  have hL := toDs_rep hd h2
  refine ⟨_, .slice (some ⟨w.heap.size, 0, none⟩) len len, push w cells' e, _, S, Plus F w.heap.size, ρ, ?_, .inl rfl, hK, ?_, h.data cells' e, h.keeps_data cells' e⟩
  · have hn : ¬ (2 ^ 24 < len * sz) := by omega
    rw [hzs] at h1
    by_cases h0 : len * sz = 0
    · rw [h0] at h1
      have e0 : ∀ f : Nat → Value, (Array.range 0).map f = #[] := fun f => by rw [Array.range_zero', Array.map_empty]
      rw [e0] at h1
      simp [Instr.buildSlice, run_underlying hut, run_size hs, h0, newRow, Array.range_zero', h1]
      rfl
    · simp [Instr.buildSlice, run_underlying hut, run_size hs, hn, h0, newRow, zeroValue, typeInfo, hii, hzi, h1]
      rfl
  · simp only [RepPV, RepD]
    refine ⟨_, len, len, rfl, by rw [chunks_length], Nat.le_refl _, ?_, (fun h => by cases h), fun ad had => ?_⟩
    · unfold maxLen
      have : len * 1 ≤ len * sz := Nat.mul_le_mul_left _ hpos
      omega
    · cases had
      refine ⟨fun _ => rfl, RepRows.of_flat ?_⟩
      rw [chunks_flatten hdl]
      exact fresh_data (C := info S) h hL
end
end Go.Aw
