/- Struct literals, make, slicing. -/
import Derived.Test.YthilodmojjlaeaaAwH
set_option linter.unusedVariables false
set_option linter.unusedSimpArgs false
namespace Go.Aw

/-- Where the fields of a struct lie, and how large they are. -/
def plL (P : Program) : List Field → Option (List (Nat × Nat))
  | [] => some []
  | f :: r => match szO P f.type, plL P r with
    | some n, some l => some ((f.offset, n) :: l)
    | _, _ => none
def plO (P : Program) (t : TypeId) : Option (List (Nat × Nat)) := match P.underlying t with
  | some (.struct fs) => plL P fs.toList
  | _ => none

section
variable {P : Program} {w0 : World} {F0 mods F : Nat → Prop} {ρ : Nat → Option Nat} {S : Heap} {w : World} {K : PV → Heap → Prop}

theorem run_places : ∀ {fs : List Field} {l : List (Nat × Nat)}, plL P fs = some l → (fs.mapM fun f => do pure (f.offset, ← sizeOf f.type) : Sem (List (Nat × Nat))).run P w = .ok l w
  | [], l, h => by simp only [plL, Option.some.injEq] at h; subst h; rfl
  | f :: r, l, h => by
    simp only [plL] at h
    split at h
    · rename_i n l' h1 h2
      cases h
      have ih := run_places h2
      simp only [List.mapM_cons, Sem.run_bind, run_size h1, Result.andThen_ok, Sem.run_pure, ih]
    · cases h

theorem ok_build (h : St w0 F0 mods F ρ S w) {t : TypeId} {pl : List (Nat × Nat)} (hp : plO P t = some pl) {zs : List PV} (hz : zO P t = some zs) {pps : List (Nat × PV)} {parts : Array (Nat × Value)} (hq : Parts w F ρ (info S) pps parts.toList)
    {cs : List PV} (hf : fillA (fun i => pl[i]?) zs pps = some cs) (hK : K (.agg cs) S) : OpOk P (do pure (.value (← Instr.build t parts))) w0 F0 mods F ρ S w K := by
  obtain ⟨i, z, hii, hzi, hrz⟩ := zO_rep (w := w) (F := F) (ρ := ρ) (C := info S) hz
  obtain ⟨cells', h1, h2⟩ := fill_rep _ hq hrz hf
  unfold plO at hp
  split at hp
  · rename_i fs hu
    have hpl := run_places (w := w) hp
    have hm : (fs.mapM fun f => do pure (f.offset, ← sizeOf f.type) : Sem (Array (Nat × Nat))).run P w = .ok pl.toArray w := by
      rw [Array.mapM_eq_mapM_toList]
      simp only [Sem.run_map, hpl, Result.andThen_ok]
    refine .value h (v := .agg cells') ?_ (by simp only [RepPV]; exact ⟨cells', rfl, h2⟩) hK
    have h1' : Instr.fill (fun x => pl.toArray[x]?) z.cells parts.toList = some cells' := by simpa using h1
    simp only [Instr.build, Sem.run_bind, zeroValue, typeInfo, run_program, hii, hzi, Result.andThen_ok, Sem.run_pure, run_underlying hu, hm, h1']
  · cases hp

/-- make: a row of zeros of the call's own. -/
theorem ok_make (h : St w0 F0 mods F ρ S w) {t e : TypeId} (hu : elO P t = some e) {sz by_ : Nat} (hs : szO P e = some sz) (hby : byO P e = some by_) {zs : List PV} (hz : zO P e = some zs) (hzs : zs.length = sz) (hpos : 0 < sz)
    {k k' : IntKind} {l c : Int} {lv cv : Value} (hl : RepPV w F ρ (info S) (.d (.i k l)) lv) (hc : RepPV w F ρ (info S) (.d (.i k' c)) cv) (h0 : 0 ≤ l) (h1 : l ≤ c) (hb : by_ * c ≤ 281474976710656) (h63 : c ≤ 9223372036854775807)
    (hK : K (.own S.length sz l.toNat) (S ++ [.buf (List.replicate l.toNat zs)])) : OpOk P (do pure (.value (← Instr.makeSlice t lv cv))) w0 F0 mods F ρ S w K := by
  simp only [RepPV, RepD] at hl hc
  subst hl hc
  have hut := elO_under hu
  obtain ⟨i, z, hii, hzi, hrz⟩ := zO_rep (w := w) (F := F) (ρ := ρ) (C := info S) hz
  have hzl : z.cells.size = zs.length := by have := hrz.length; simpa using this
  have hiby : i.bytes = by_ := by simpa [byO, hii] using hby
  have hwl : IntKind.i64.wrap l = l := by simp [IntKind.wrap, IntKind.signed, IntKind.bits]; omega
  have hwc : IntKind.i64.wrap c = c := by simp [IntKind.wrap, IntKind.signed, IntKind.bits]; omega
  let arr : Array Value := (Array.range (c.toNat * sz)).map (z.cells[· % z.cells.size]!)
  have hrep : RepPVs w F ρ (info S) (List.replicate c.toNat zs).flatten arr.toList := by
    have := zeros_rep hrz (by omega) c.toNat
    rw [hzs] at this
    exact this
  have hlen : AllLen sz (List.replicate l.toNat zs) := fun r hr => by rw [List.eq_of_mem_replicate hr]; exact hzs
  have hpre : RepPre w F ρ (info S) (List.replicate l.toNat zs).flatten arr := by
    intro j p hj
    refine hrep.pre (arr := arr) (fun j v h => by simpa using h) j p ?_
    have : List.replicate c.toNat zs = List.replicate l.toNat zs ++ List.replicate (c.toNat - l.toNat) zs := by rw [List.replicate_append_replicate]; congr 1; omega
    rw [this, List.flatten_append, List.getElem?_append_left (List.getElem?_eq_some_iff.1 hj).1]
    exact hj
  have hk := h.keeps_push arr e (.buf (List.replicate l.toNat zs))
  refine ⟨_, .slice (some ⟨w.heap.size, 0, none⟩) l.toNat c.toNat, push w arr e, _, _, F, _, ?_, .inl rfl, hK, ?_, h.push arr e (.buf (List.replicate l.toNat zs)) (by simp) (fun _ _ _ _ e => by cases e) (hpre.keeps hk), hk⟩
  · have n1 : ¬ (c < 0 ∨ (281474976710656 : Int) < (by_ : Int) * c) := by omega
    have n2 : ¬ (l < 0) := by omega
    have n3 : ¬ (c < l) := by omega
    have n4 : ¬ (c < 0) := by omega
    have n5 : ¬ ((281474976710656 : Int) < (by_ : Int) * c) := by omega
    by_cases hz0 : c.toNat * sz = 0
    · have ha : arr = #[] := by show (Array.range (c.toNat * sz)).map _ = #[]; rw [hz0, Array.range_zero', Array.map_empty]
      simp [Instr.makeSlice, run_underlying hut, asInt, asIntOf, typeInfo, hii, hiby, hwl, hwc, n2, n3, n4, n5, run_size hs, hz0, newRow, Array.range_zero', ha]
      rfl
    · simp [Instr.makeSlice, run_underlying hut, asInt, asIntOf, typeInfo, hii, hiby, hwl, hwc, n2, n3, n4, n5, run_size hs, hz0, newRow, zeroValue, hzi]
      rfl
  · simp only [RepPV]
    have hinf : info (S ++ [.buf (List.replicate l.toNat zs)]) S.length = .buf l.toNat := by simp [info, Ob.info]
    refine ⟨by rw [hinf]; simp, _, c.toNat, rfl, fun m hm => ?_⟩
    rw [hinf] at hm
    cases hm
    refine ⟨Nat.le_refl _, fun _ => .inr ⟨w.heap.size, by simp [Rho], rfl, by omega, by unfold maxLen; omega, ?_⟩⟩
    have hbs : blockSize (push w arr e) w.heap.size = arr.size := by simp [blockSize, get_push]
    rw [hbs]
    simp [arr]

/-- A slice literal as an object of the call's own: it may be written to, and appended to. -/
theorem ok_buildOwn (h : St w0 F0 mods F ρ S w) {t e : TypeId} (hu : elO P t = some e) {sz : Nat} (hs : szO P e = some sz) {zs : List PV} (hz : zO P e = some zs) (hzs : zs.length = sz) (hpos : 0 < sz)
    {len : Nat} {pps : List (Nat × PV)} {parts : Array (Nat × Value)} (hp : Parts w F ρ (info S) pps parts.toList) {cs : List PV} (hf : fillA (fun i => some (i * sz, sz)) (List.replicate len zs).flatten pps = some cs)
    (hbig : len * sz ≤ 16777216) (hdl : cs.length = len * sz) (hK : K (.own S.length sz len) (S ++ [.buf (chunks sz len cs)])) :
    OpOk P (do pure (.value (← Instr.buildSlice t len parts))) w0 F0 mods F ρ S w K := by
  have hut := elO_under hu
  obtain ⟨i, z, hii, hzi, hrz⟩ := zO_rep (w := w) (F := F) (ρ := ρ) (C := info S) hz
  have hzl : z.cells.size = zs.length := by have := hrz.length; simpa using this
  obtain ⟨cells', h1, h2⟩ := fill_rep _ hp (zeros_rep hrz (by omega) len) hf
  have hcl : cells'.size = cs.length := by have := h2.length; simpa using this
  have hrows : (chunks sz len cs).length = len := chunks_length
  have hpre : RepPre w F ρ (info S) (chunks sz len cs).flatten cells' := by
    rw [chunks_flatten hdl]
    exact h2.pre (arr := cells') (fun j v h => by simpa using h)
  have hk := h.keeps_push cells' e (.buf (chunks sz len cs))
  refine ⟨_, .slice (some ⟨w.heap.size, 0, none⟩) len len, push w cells' e, _, _, F, _, ?_, .inl rfl, hK, ?_, h.push cells' e (.buf (chunks sz len cs)) (by simp) (fun _ _ _ _ e => by cases e) (hpre.keeps hk), hk⟩
  · have hn : ¬ (2 ^ 24 < len * sz) := by omega
    rw [hzs] at h1
    by_cases h0 : len * sz = 0
    · rw [h0] at h1
      have e0 : ∀ f : Nat → Value, (Array.range 0).map f = #[] := fun f => by rw [Array.range_zero', Array.map_empty]
      rw [e0] at h1
      simp [Instr.buildSlice, run_underlying hut, run_size hs, h0, newRow, Array.range_zero', h1]
      rfl
    · simp [Instr.buildSlice, run_underlying hut, run_size hs, hn, h0, newRow, zeroValue, typeInfo, hii, hzi, h1]
      rfl
  · simp only [RepPV]
    have hinf : info (S ++ [.buf (chunks sz len cs)]) S.length = .buf len := by simp [info, Ob.info, hrows]
    refine ⟨by rw [hinf]; simp, _, len, rfl, fun m hm => ?_⟩
    rw [hinf] at hm
    cases hm
    refine ⟨Nat.le_refl _, fun _ => .inr ⟨w.heap.size, by simp [Rho], rfl, Nat.le_refl _, ?_, ?_⟩⟩
    · unfold maxLen
      have : len * 1 ≤ len * sz := Nat.mul_le_mul_left _ hpos
      omega
    · have hbs : blockSize (push w cells' e) w.heap.size = cells'.size := by simp [blockSize, get_push]
      rw [hbs, hcl, hdl]
      exact Nat.le_refl _

/-- The bound of a slice expression. -/
def bndA (o : Option PV) (y : Nat) (dflt : Nat) : Option Nat := match o with
  | none => some dflt
  | some (.d (.i _ n)) => if 0 ≤ n ∧ n ≤ y then some n.toNat else none
  | _ => none

theorem run_bound {o : PV} {v : Value} {y d l : Nat} {code : BoundsCode} (hv : RepPV w F ρ (info S) o v) (hb : bndA (some o) y d = some l) : (Instr.sliceBound v y code).run P w = .ok l w ∧ l ≤ y := by
  unfold bndA at hb
  split at hb
  · rename_i h; cases h
  · rename_i k n he
    cases he
    split at hb
    · rename_i hc
      cases hb
      simp only [RepPV, RepD] at hv
      subst hv
      exact ⟨by simp [Instr.sliceBound, asIntOf, hc], by omega⟩
    · cases hb
  · cases hb

/-- An operand that need not be there. -/
def RepO (w : World) (F : Nat → Prop) (ρ : Nat → Option Nat) (C : Nat → OI) : Option PV → Option Value → Prop
  | none, none => True
  | some p, some v => RepPV w F ρ C p v
  | _, _ => False

theorem run_bounds (b : Bool) {len cap : Nat} (hlc : len ≤ cap) {lo hi : Option PV} {lv hv : Option Value} (h1 : RepO w F ρ (info S) lo lv) (h2 : RepO w F ρ (info S) hi hv) {l m : Nat}
    (e2 : bndA hi len len = some m) (e1 : bndA lo m 0 = some l) : (Instr.sliceBounds b len cap lv hv none).run P w = .ok (l, m, cap) w ∧ l ≤ m ∧ m ≤ len := by
  have hm : m ≤ len := by
    cases hi with
    | none => simp [bndA] at e2; omega
    | some p =>
      cases hv with
      | none => exact h2.elim
      | some v => exact (run_bound (P := P) (code := .index) h2 e2).2
  cases lo <;> cases lv <;> simp only [RepO] at h1 <;> cases hi <;> cases hv <;> simp only [RepO] at h2
  case none.none.none.none =>
    simp [bndA] at e1 e2
    subst e1 e2
    exact ⟨by simp [Instr.sliceBounds], by omega, hm⟩
  case none.none.some.some p v =>
    obtain rfl : 0 = l := by simpa only [bndA, Option.some.injEq] using e1
    have e2' : bndA (some p) cap len = some m := by
      unfold bndA at e2 ⊢
      split at e2
      · rename_i h; cases h
      · rename_i k n he; cases he
        split at e2
        · rename_i hc; rw [if_pos (by omega)]; exact e2
        · cases e2
      · cases e2
    have hr := fun code => (run_bound (P := P) (code := code) h2 e2').1
    exact ⟨by simp [Instr.sliceBounds, hr], by omega, hm⟩
  case some.some.none.none p v =>
    obtain rfl : len = m := by simpa only [bndA, Option.some.injEq] using e2
    have hr := fun code => run_bound (P := P) (code := code) h1 e1
    exact ⟨by simp [Instr.sliceBounds, fun code => (hr code).1], (hr .index).2, hm⟩
  case some.some.some.some p v q u =>
    have e2' : bndA (some q) cap len = some m := by
      unfold bndA at e2 ⊢
      split at e2
      · rename_i h; cases h
      · rename_i k n he; cases he
        split at e2
        · rename_i hc; rw [if_pos (by omega)]; exact e2
        · cases e2
      · cases e2
    have hr := fun code => run_bound (P := P) (code := code) h1 e1
    have hr2 := fun code => (run_bound (P := P) (code := code) h2 e2').1
    exact ⟨by simp [Instr.sliceBounds, fun code => (hr code).1, hr2], (hr .index).2, hm⟩

theorem ok_slice_str (h : St w0 F0 mods F ρ S w) {t : TypeId} (hu : P.underlying t = some .string) {x : ByteArray} {v : Value} (hv : RepPV w F ρ (info S) (.d (.s x)) v) {lo hi : Option PV} {lv hv' : Option Value}
    (h1 : RepO w F ρ (info S) lo lv) (h2 : RepO w F ρ (info S) hi hv') {l m : Nat} (e2 : bndA hi x.size x.size = some m) (e1 : bndA lo m 0 = some l) (hK : K (.d (.s (x.extract l m))) S) :
    OpOk P (do pure (.value (← Instr.sliceAt t v lv hv' none))) w0 F0 mods F ρ S w K := by
  simp only [RepPV, RepD] at hv
  subst hv
  have hr := (run_bounds (P := P) (w := w) (S := S) false (Nat.le_refl x.size) h1 h2 e2 e1).1
  exact .value h (v := .string (x.extract l m)) (by simp [Instr.sliceAt, Instr.slice, run_underlying hu, hr]) (by simp [RepPV, RepD]) hK

theorem ok_slice_sl (h : St w0 F0 mods F ρ S w) {t e : TypeId} (hu : elO P t = some e) {sz : Nat} (hs : szO P e = some sz) {rows : List (List D)} (ha : AllLen sz rows) {v : Value} (hv : RepPV w F ρ (info S) (.d (.sl rows)) v)
    {lo hi : Option PV} {lv hv' : Option Value} (h1 : RepO w F ρ (info S) lo lv) (h2 : RepO w F ρ (info S) hi hv') {l m : Nat} (e2 : bndA hi rows.length rows.length = some m) (e1 : bndA lo m 0 = some l)
    (hK : K (.d (.sl ((rows.take m).drop l))) S) : OpOk P (do pure (.value (← Instr.sliceAt t v lv hv' none))) w0 F0 mods F ρ S w K := by
  have hut := elO_under hu
  simp only [RepPV, RepD] at hv
  obtain ⟨a, len, cap, rfl, rfl, h3, h4, h5, h6⟩ := hv
  obtain ⟨hr, hlm, hml⟩ := run_bounds (P := P) (w := w) (S := S) true h3 h1 h2 e2 e1
  refine .value h (v := .slice (if cap = l then a else a.map (·.add (l * sz))) (m - l) (cap - l)) ?_ ?_ hK
  · simp [Instr.sliceAt, Instr.slice, run_underlying hut, hr, run_size hs]
  · simp only [RepPV, RepD]
    refine ⟨_, m - l, cap - l, rfl, by simp; omega, by omega, by omega, ?_, ?_⟩
    · intro hn
      by_cases hc : cap = l
      · omega
      · rw [if_neg hc] at hn
        cases a with
        | none => have := h5 rfl; omega
        | some ad => cases hn
    · intro ad had
      by_cases hc : cap = l
      · rw [if_pos hc] at had
        obtain ⟨hsp, hrows⟩ := h6 ad had
        refine ⟨fun hne => hsp (fun e => hne (by simp [e])), ?_⟩
        have : (rows.take m).drop l = [] := by
          apply List.eq_nil_of_length_eq_zero
          simp; omega
        rw [this]
        simp [RepRows]
      · rw [if_neg hc] at had
        cases a with
        | none => cases had
        | some a0 =>
          obtain ⟨hsp, hrows⟩ := h6 a0 rfl
          simp only [Option.map_some, Option.some.injEq] at had
          by_cases hr0 : rows = []
          · exact ⟨fun hne => absurd (by simp [hr0]) hne, by simp [hr0, RepRows]⟩
          obtain ⟨b, c, sp⟩ := a0
          simp only at hsp
          have hsp := hsp hr0
          subst hsp
          rw [add_mid] at had
          subst had
          refine ⟨fun _ => rfl, RepRows.mk (sz := sz) (fun r hr => ha r (List.mem_of_mem_take (List.mem_of_mem_drop hr))) fun j r hj => ?_⟩
          rw [List.getElem?_drop] at hj
          have hj' : rows[l + j]? = some r := by
            rw [List.getElem?_take] at hj
            split at hj
            · exact hj
            · cases hj
          have := hrows.row ha hj'
          simp only at this ⊢
          rwa [show c + (l + j) * sz = c + l * sz + j * sz by rw [Nat.add_mul]; omega] at this
end
end Go.Aw
