/- Operations on slices: element addresses, lengths, append, literals, make. -/
import Derived.Test.YthilodmojjlaeaaAwE
set_option linter.unusedVariables false
set_option linter.unusedSimpArgs false
namespace Go.Aw

theorem AllLen.flatten {α : Type} {sz : Nat} : ∀ {rows : List (List α)}, AllLen sz rows → rows.flatten.length = rows.length * sz
  | [], _ => by simp
  | r :: rs, h => by
    have h1 : r.length = sz := h r (by simp)
    have h2 := AllLen.flatten (rows := rs) fun x hx => h x (by simp [hx])
    simp only [List.flatten_cons, List.length_append, h1, h2, List.length_cons, Nat.add_mul]
    omega

theorem AllLen.append {α : Type} {sz : Nat} {a b : List (List α)} (h : AllLen sz a) (h' : AllLen sz b) : AllLen sz (a ++ b) := fun r hr => by
  rcases List.mem_append.1 hr with hr | hr
  · exact h r hr
  · exact h' r hr

/-- The cell j of row i lies at i * sz + j. -/
theorem AllLen.get {α : Type} {sz : Nat} : ∀ {rows : List (List α)} {i : Nat} {r : List α}, AllLen sz rows → rows[i]? = some r → ∀ j, j < sz → rows.flatten[i * sz + j]? = r[j]?
  | [], i, r, _, hi => by simp at hi
  | x :: rs, 0, r, h, hi => fun j hj => by
    simp at hi
    subst hi
    have h1 : x.length = sz := h x (by simp)
    simp only [List.flatten_cons, Nat.zero_mul, Nat.zero_add]
    rw [List.getElem?_append_left (by omega)]
  | x :: rs, i + 1, r, h, hi => fun j hj => by
    have h1 : x.length = sz := h x (by simp)
    have := AllLen.get (rows := rs) (i := i) (fun y hy => h y (by simp [hy])) (by simpa using hi) j hj
    simp only [List.flatten_cons]
    rw [List.getElem?_append_right (by rw [h1, Nat.add_mul]; omega), ← this]
    congr 1
    rw [h1, Nat.add_mul]; omega

section
variable {P : Program} {w0 : World} {F0 mods F : Nat → Prop} {ρ : Nat → Option Nat} {S : Heap} {w : World} {K : PV → Heap → Prop}

theorem run_fieldAt {t : TypeId} {f off n : Nat} {ft : TypeId} (hf : flO P t f = some (off, ft)) (hs : szO P ft = some n) (hn : n ≠ 0) (b c : Nat) :
    (Instr.fieldAt t (.pointer (some ⟨b, c, none⟩)) f).run P w = .ok (.pointer (some ⟨b, c + off, none⟩)) w := by
  unfold flO at hf
  split at hf
  · rename_i fs hu
    obtain ⟨x, hx, he⟩ := Option.map_eq_some_iff.1 hf
    cases he
    simp [Instr.fieldAt, run_underlying hu, hx, Instr.sureAddr, fieldPlace, run_size hs, hn, Addr.add_lit]
  · cases hf

theorem ok_field_dp (h : St w0 F0 mods F ρ S w) {t : TypeId} {f off n : Nat} {ft : TypeId} (hf : flO P t f = some (off, ft)) (hs : szO P ft = some n) (hn : n ≠ 0) {cells : List D} {v : Value}
    (hv : RepPV w F ρ (info S) (.dp cells) v) (hK : K (.dp (cells.drop off)) S) : OpOk P (do pure (.value (← Instr.fieldAt t v f))) w0 F0 mods F ρ S w K := by
  simp only [RepPV] at hv
  obtain ⟨b, c, rfl, hat⟩ := hv
  refine .value h (v := .pointer (some ⟨b, c + off, none⟩)) (by simp [run_fieldAt hf hs hn]) ?_ hK
  simp only [RepPV]
  exact ⟨b, c + off, rfl, hat.drop off⟩

theorem ok_field_ptr (h : St w0 F0 mods F ρ S w) {t : TypeId} {f off n : Nat} {ft : TypeId} (hf : flO P t f = some (off, ft)) (hs : szO P ft = some n) (hn : n ≠ 0) {o c : Nat} {v : Value}
    (hv : RepPV w F ρ (info S) (.ptr o c) v) (hK : K (.ptr o (c + off)) S) : OpOk P (do pure (.value (← Instr.fieldAt t v f))) w0 F0 mods F ρ S w K := by
  simp only [RepPV] at hv
  obtain ⟨h0, b, rfl, hb⟩ := hv
  refine .value h (v := .pointer (some ⟨b, c + off, none⟩)) (by simp [run_fieldAt hf hs hn]) ?_ hK
  simp only [RepPV]
  exact ⟨h0, b, rfl, hb⟩

theorem ok_field_eptr (h : St w0 F0 mods F ρ S w) {t : TypeId} {f off n : Nat} {ft : TypeId} (hf : flO P t f = some (off, ft)) (hs : szO P ft = some n) (hn : n ≠ 0) {o m r sz c : Nat} {v : Value}
    (hv : RepPV w F ρ (info S) (.eptr o m r sz c) v) (hK : K (.eptr o m r sz (c + off)) S) : OpOk P (do pure (.value (← Instr.fieldAt t v f))) w0 F0 mods F ρ S w K := by
  simp only [RepPV] at hv
  obtain ⟨h0, b, d, rfl, hb⟩ := hv
  refine .value h (v := .pointer (some ⟨b, d + off, none⟩)) (by simp [run_fieldAt hf hs hn]) ?_ hK
  simp only [RepPV]
  refine ⟨h0, b, d + off, rfl, fun m' hm' => ⟨(hb m' hm').1, fun e => ⟨((hb m' hm').2 e).1, ?_⟩⟩⟩
  have := ((hb m' hm').2 e).2
  omega

theorem run_indexAt {t e : TypeId} (hu : elO P t = some e) {n : Nat} (hs : szO P e = some n) (b c len cap : Nat) (k : IntKind) (i : Int) (h0 : 0 ≤ i) (h1 : i < len) :
    (Instr.indexAt t (.slice (some ⟨b, c, none⟩) len cap) (.int k i)).run P w = .ok (.pointer (some ⟨b, c + i.toNat * n, none⟩)) w := by
  unfold elO at hu
  split at hu
  · rename_i e' hu'
    cases hu
    simp [Instr.indexAt, asIntOf, run_underlying hu', h0, h1, run_size hs, Addr.add_lit]
  · cases hu

theorem ok_index_sl (h : St w0 F0 mods F ρ S w) {t e : TypeId} (hu : elO P t = some e) {n : Nat} (hs : szO P e = some n) {rows : List (List D)} (ha : AllLen n rows) {k : IntKind} {i : Int} {v : Value}
    (hv : RepPV w F ρ (info S) (.d (.sl rows)) v) (h0 : 0 ≤ i) (h1 : i < rows.length) (hK : K (.dp (rows.getD i.toNat [])) S) :
    OpOk P (do pure (.value (← Instr.indexAt t v (.int k i)))) w0 F0 mods F ρ S w K := by
  simp only [RepPV, RepD] at hv
  obtain ⟨a, len, cap, rfl, rfl, h3, h4, h5, h6⟩ := hv
  cases a with
  | none => have := h5 rfl; omega
  | some ad =>
    obtain ⟨b, c, sp⟩ := ad
    obtain ⟨hsp, hrows⟩ := h6 _ rfl
    simp only at hsp hrows
    have hsp := hsp (fun e => by rw [e] at h1; simp at h1; omega)
    subst hsp
    have hlt : i.toNat < rows.length := by omega
    have hrow := hrows.row ha (List.getElem?_eq_getElem hlt)
    refine .value h (v := .pointer (some ⟨b, c + i.toNat * n, none⟩)) (by simp [run_indexAt hu hs b c rows.length cap k i h0 h1]) ?_ hK
    simp only [RepPV]
    refine ⟨b, c + i.toNat * n, rfl, ?_⟩
    simpa [List.getD_eq_getElem?_getD, List.getElem?_eq_getElem hlt] using hrow

theorem ok_index_own (h : St w0 F0 mods F ρ S w) {t e : TypeId} (hu : elO P t = some e) {n : Nat} (hs : szO P e = some n) {o m : Nat} {rows : List (List PV)} (hx : S[o]? = some (.buf rows)) (hm : rows.length = m)
    {k : IntKind} {i : Int} {v : Value} (hv : RepPV w F ρ (info S) (.own o n m) v) (h0 : 0 ≤ i) (h1 : i < m) (hK : K (.eptr o m i.toNat n 0) S) :
    OpOk P (do pure (.value (← Instr.indexAt t v (.int k i)))) w0 F0 mods F ρ S w K := by
  simp only [RepPV] at hv
  obtain ⟨hfr, a, cap, rfl, h2⟩ := hv
  have hi : info S o = .buf m := by rw [info_of hx, Ob.info, hm]
  rcases (h2 m hi).2 rfl with ⟨_, _, h3, _⟩ | ⟨b, hb, rfl, _⟩
  · omega
  · refine .value h (v := .pointer (some ⟨b, 0 + i.toNat * n, none⟩)) (by simp [run_indexAt hu hs b 0 m cap k i h0 h1]) ?_ hK
    simp only [RepPV]
    refine ⟨hfr, b, 0 + i.toNat * n, rfl, fun m' hm' => ?_⟩
    rw [hi] at hm'
    cases hm'
    exact ⟨Nat.le_refl _, fun _ => ⟨hb, by omega⟩⟩

/-- What a slice that is handed to append holds: its length, and its cells. -/
def Holds (P : Program) (w : World) (F : Nat → Prop) (ρ : Nat → Option Nat) (C : Nat → OI) (rows : List (List PV)) (v : Value) : Prop :=
  ∃ a c vs, v = .slice a rows.length c ∧ RepPVs w F ρ C rows.flatten vs ∧ (a = none → rows = []) ∧ ∀ ad, a = some ad → ∀ j u, vs[j]? = some u → w.cell? (ad.add j) = some u

theorem holds_sl {rows : List (List D)} {v : Value} {C : Nat → OI} (hv : RepPV w F ρ C (.d (.sl rows)) v) : Holds P w F ρ C (rows.map (·.map .d)) v := by
  simp only [RepPV, RepD] at hv
  obtain ⟨a, len, cap, rfl, rfl, h3, h4, h5, h6⟩ := hv
  cases a with
  | none =>
    have : rows = [] := List.eq_nil_of_length_eq_zero (by have := h5 rfl; omega)
    subst this
    exact ⟨none, cap, [], rfl, by simp [RepPVs], fun _ => rfl, (fun ad h => by cases h)⟩
  | some ad =>
    obtain ⟨b, c, sp⟩ := ad
    obtain ⟨hsp, hrows⟩ := h6 _ rfl
    simp only at hsp hrows
    by_cases hr0 : rows = []
    · subst hr0
      exact ⟨some ⟨b, c, sp⟩, cap, [], by simp, by simp [RepPVs], (fun h => by cases h), fun ad had j u hj => by simp at hj⟩
    have hsp := hsp hr0
    subst hsp
    obtain ⟨vs, e1, e2, e3⟩ := cells_at hrows.flat
    refine ⟨some ⟨b, c, none⟩, cap, vs, by simp, ?_, (fun h => by cases h), fun ad had j u hj => by cases had; rw [add_mid]; exact e2 j u hj⟩
    have : (rows.map (·.map PV.d)).flatten = rows.flatten.map PV.d := by rw [List.map_flatten]
    rw [this]
    exact e3.pv

theorem holds_own (h : St w0 F0 mods F ρ S w) {o sz m : Nat} {rows : List (List PV)} (hx : S[o]? = some (.buf rows)) (hm : rows.length = m) {v : Value} (hv : RepPV w F ρ (info S) (.own o sz m) v) :
    Holds P w F ρ (info S) rows v := by
  simp only [RepPV] at hv
  obtain ⟨hfr, a, cap, rfl, h2⟩ := hv
  have hi : info S o = .buf m := by rw [info_of hx, Ob.info, hm]
  rcases (h2 m hi).2 rfl with ⟨_, rfl, h3, _⟩ | ⟨b, hb, rfl, _⟩
  · have : rows = [] := List.eq_nil_of_length_eq_zero (by omega)
    subst this
    exact ⟨none, cap, [], by simp at hm; simp [← hm], by simp [RepPVs], fun _ => rfl, (fun ad h => by cases h)⟩
  · obtain ⟨arr, T, e1, e2⟩ := h.cells hx (by simp) hb
    obtain ⟨vs, f1, f2, f3⟩ := e2.sub 0 rows.flatten.length (by simp [Ob.cells])
    refine ⟨some ⟨b, 0, none⟩, cap, vs, by rw [hm], by simpa only [Ob.cells, List.drop_zero, List.take_length] using f3, (fun h => by cases h), fun ad had j u hj => ?_⟩
    cases had
    rw [add_mid, cell_of e1]
    exact f2 j u hj

theorem holds_nil {C : Nat → OI} : Holds P w F ρ C [] (.slice none 0 0) := ⟨none, 0, [], rfl, by simp [RepPVs], fun _ => rfl, (fun ad h => by cases h)⟩

theorem run_append_none {t e ty : TypeId} (hu : elO P t = some e) {n : Nat} (hs : szO P e = some n) (a : Option Addr) (len cap : Nat) (hl : len ≤ cap) (a2 : Option Addr) (c2 : Nat) :
    (Builtin.append_ #[t, t] ty #[.slice a len cap, .slice a2 0 c2]).run P w = .ok (.slice a len cap) w := by
  unfold elO at hu
  split at hu
  · rename_i e' hu'
    cases hu
    cases a <;> cases a2 <;> simp [Builtin.append_, run_underlying hu', run_size hs, Builtin.lenOf, hl, Builtin.firstCells, loadCells, loadCellsFrom, storeCells]
  · cases hu

theorem run_append_room' {t e ty : TypeId} {i : TypeInfo} (ht : P.underlying t = some (.slice e)) (hi : P.info? e = some i)
    (g sLen sCap : Nat) (cur : Array Value) (T : TypeId) (hg : w.heap[g]? = some (.cells cur T (0, 0)))
    (a : Addr) (m c : Nat) (news : List Value) (hl : news.length = m * i.size) (hnews : ∀ j u, news[j]? = some u → w.cell? (a.add j) = some u) (h1 : ∀ u ∈ news, u.oneCell' = true)
    (hroom : sLen + m ≤ sCap) (hfit : sLen * i.size + news.length ≤ cur.size) :
    (Builtin.append_ #[t, t] ty #[.slice (some ⟨g, 0, none⟩) sLen sCap, .slice (some a) m c]).run P w =
      .ok (.slice (some ⟨g, 0, none⟩) (sLen + m) sCap) (setBlock w g (cur.toList.take (sLen * i.size) ++ news ++ cur.toList.drop (sLen * i.size + news.length)).toArray T) := by
  have hf := run_firstCells_some (P := P) w i.size m a m c news hl hnews
  have hst := run_storeCells_at P g (sLen * i.size) T news 0 cur w hg (by simpa using hfit) h1
  simp only [Nat.add_zero] at hst
  rw [setRow_eq hg] at hst
  simp [Builtin.append_, run_underlying ht, sizeOf, typeInfo, hi, Builtin.lenOf, hroom, hf, Addr.add_lit, hst]

theorem ones {C : Nat → OI} {ps : List PV} {vs : List Value} (h : RepPVs w F ρ C ps vs) : ∀ u ∈ vs, u.oneCell' = true := fun u hu => by
  obtain ⟨j, hj⟩ := List.getElem?_of_mem hu
  have h1 := (List.getElem?_eq_some_iff.1 hj).1
  obtain ⟨u', h2, h3, _⟩ := h.get (List.getElem?_eq_getElem (show j < ps.length by have := h.length; omega))
  rw [hj] at h2; cases h2
  exact h3

theorem RepPVs.pre {C : Nat → OI} {ps : List PV} {vs : List Value} (h : RepPVs w F ρ C ps vs) {arr : Array Value} (ha : ∀ (j : Nat) (v : Value), vs[j]? = some v → arr[j]? = some v) : RepPre w F ρ C ps arr := fun j p hj => by
  obtain ⟨v, h1, h2, h3⟩ := h.get hj
  exact ⟨v, ha j v h1, h2, h3⟩

/-- append to a row of the call's own. -/
theorem ok_append_own (h : St w0 F0 mods F ρ S w) {t e ty : TypeId} (hu : elO P t = some e) {sz by_ : Nat} (hs : szO P e = some sz) (hby : byO P e = some by_) {zs : List PV} (hz : zO P e = some zs) (hzs : zs.length = sz) (hsz : 0 < sz)
    {o n : Nat} {rows : List (List PV)} (hx : S[o]? = some (.buf rows)) (hn : rows.length = n) (ha : AllLen sz rows) {v : Value} (hv : RepPV w F ρ (info S) (.own o sz n) v)
    {more : List (List PV)} (ha' : AllLen sz more) {x : Value} (hm : Holds P w F ρ (info S) more x) (hbd : (n + more.length) * by_ ≤ 140737488355328) (hb63 : n + more.length ≤ 9223372036854775807)
    (hK : K (.own o sz (n + more.length)) (S.set o (.buf (rows ++ more)))) :
    OpOk P (do pure (.value (← Builtin.append_ #[t, t] ty #[v, x]))) w0 F0 mods F ρ S w K := by
  have hi : info S o = .buf n := by rw [info_of hx, Ob.info, hn]
  have hot := (List.getElem?_eq_some_iff.1 hx).1
  obtain ⟨a2, c2, news, rfl, hr2, hn2, hc2⟩ := hm
  obtain ⟨i, z, hii, hzi, hrz⟩ := zO_rep (w := w) (F := F) (ρ := ρ) (C := info S) hz
  have hisz : i.size = sz := by simpa [szO, hii] using hs
  have hiby : i.bytes = by_ := by simpa [byO, hii] using hby
  have hzsz : z.cells.size = sz := by have := hrz.length; simp at this; omega
  have hut : P.underlying t = some (.slice e) := by
    unfold elO at hu
    split at hu
    · rename_i e' hu'; cases hu; exact hu'
    · cases hu
  have hnl : news.length = more.length * sz := by rw [hr2.length, ha'.flatten]
  simp only [RepPV] at hv
  obtain ⟨hfr, a, cap, rfl, h2⟩ := hv
  by_cases hm0 : more = []
  · subst hm0
    simp only [List.append_nil, List.length_nil, Nat.add_zero] at hK ⊢
    have hset : S.set o (.buf rows) = S := by
      apply List.ext_getElem?
      intro j
      by_cases e : j = o
      · subst e; rw [List.getElem?_set_self hot, hx]
      · rw [List.getElem?_set_ne (Ne.symm e)]
    rw [hset] at hK
    have hle : n ≤ cap := by
      rcases (h2 n hi).2 rfl with ⟨_, _, h3, h4⟩ | ⟨b, _, _, h3, _⟩ <;> omega
    refine .value h (v := .slice a n cap) (by simp [run_append_none hu hs a n cap hle a2 c2]) ?_ hK
    simp only [RepPV]
    exact ⟨hfr, a, cap, rfl, h2⟩
  · have hmpos : 0 < more.length := List.length_pos_iff.2 hm0
    cases a2 with
    | none => exact absurd (hn2 rfl) hm0
    | some ad =>
      have hcells := hc2 ad rfl
      -- the new block, in both cases in which the row moves
      have moved : ∀ (olds : List Value) (gc : Nat), RepPVs w F ρ (info S) rows.flatten olds → n + more.length ≤ gc → gc ≤ maxLen →
          St w0 F0 mods F (Rho ρ o (some w.drew.heap.size)) (S.set o (.buf (rows ++ more))) (w.drew.alloc (.cells (olds.toArray ++ news.toArray ++ Builtin.zeroCells z.cells (gc - (n + more.length))) e)) ∧
          Keeps w (w.drew.alloc (.cells (olds.toArray ++ news.toArray ++ Builtin.zeroCells z.cells (gc - (n + more.length))) e)) F F ρ (Rho ρ o (some w.drew.heap.size)) (info S) (info (S.set o (.buf (rows ++ more)))) ∧
          RepPV (w.drew.alloc (.cells (olds.toArray ++ news.toArray ++ Builtin.zeroCells z.cells (gc - (n + more.length))) e)) F (Rho ρ o (some w.drew.heap.size)) (info (S.set o (.buf (rows ++ more)))) (.own o sz (n + more.length))
            (.slice (some ⟨w.drew.heap.size, 0, none⟩) (n + more.length) gc) := by
        intro olds gc hol hge hcm
        have hk0 := h.drew.keeps_grow (rows' := rows ++ more) hx (by simp; omega) (olds.toArray ++ news.toArray ++ Builtin.zeroCells z.cells (gc - (n + more.length))) e
        have hk : Keeps w (w.drew.alloc (.cells (olds.toArray ++ news.toArray ++ Builtin.zeroCells z.cells (gc - (n + more.length))) e)) F F ρ (Rho ρ o (some w.drew.heap.size)) (info S) (info (S.set o (.buf (rows ++ more)))) :=
          ⟨hk0.same, hk0.sub, hk0.size, hk0.old, hk0.box, hk0.buf⟩
        refine ⟨h.drew.grown (rows' := rows ++ more) hx (by simp; omega) _ e ?_, hk, ?_⟩
        · rw [List.flatten_append]
          refine RepPre.keeps hk ((hol.append hr2).pre fun j v hj => ?_)
          have hlt := (List.getElem?_eq_some_iff.1 hj).1
          rw [Array.getElem?_append_left (by simp at hlt ⊢; omega), List.append_toArray]
          simpa using hj
        · simp only [RepPV]
          have hinf : info (S.set o (.buf (rows ++ more))) o = .buf (n + more.length) := by rw [info_set hot]; simp [Ob.info, hn]
          refine ⟨by rw [hinf]; simp, _, gc, rfl, fun m hm => ?_⟩
          rw [hinf] at hm
          cases hm
          refine ⟨Nat.le_refl _, fun _ => .inr ⟨w.drew.heap.size, by simp [Rho], rfl, hge, hcm, ?_⟩⟩
          have : (w.drew.alloc (.cells (olds.toArray ++ news.toArray ++ Builtin.zeroCells z.cells (gc - (n + more.length))) e)).heap[w.drew.heap.size]? = some (.cells (olds.toArray ++ news.toArray ++ Builtin.zeroCells z.cells (gc - (n + more.length))) e (0, 0)) := get_push _ _ _
          unfold blockSize
          rw [this]
          simp only [Array.size_append, List.size_toArray, Builtin.zeroCells, Array.size_map, Array.size_range, hzsz, hnl, hol.length, ha.flatten, hn]
          rw [← Nat.add_mul, ← Nat.add_mul]
          exact Nat.mul_le_mul_right _ (by omega)
      rcases (h2 n hi).2 rfl with ⟨hr0, rfl, rfl, rfl⟩ | ⟨b, hb, rfl, hle, hcm, hbs⟩
      · have hrows : rows = [] := List.eq_nil_of_length_eq_zero hn
        subst hrows
        simp only [Nat.zero_add] at *
        have hrun := run_append_nil (P := P) w t ty e i z hut hii hzi ad more.length c2 news (by rw [hisz]; exact hnl) hcells hmpos (by omega) (by rw [hiby]; omega)
        obtain ⟨m1, m2, m3⟩ := moved [] (grownCap w more.length 0 e) (by simp [RepPVs]) (grownCap_ge ..) (grownCap_le_maxLen _ _ _ _ (by unfold maxLen; omega))
        refine ⟨_, _, _, _, _, F, _, ?_, .inl rfl, hK, m3, m1, m2⟩
        simp only [Sem.run_bind, hrun, Result.andThen_ok, Sem.run_pure]
        simp
      · obtain ⟨arr, T, e1, e2⟩ := h.cells hx (by simp) hb
        have hbsz : blockSize w b = arr.size := by simp [blockSize, e1]
        by_cases hroom : n + more.length ≤ cap
        · have hfit : n * i.size + news.length ≤ arr.size := by
            rw [hisz, hnl, ← Nat.add_mul, ← hbsz]
            exact Nat.le_trans (Nat.mul_le_mul_right _ hroom) hbs
          have hrun := run_append_room' (P := P) (ty := ty) hut hii b n cap arr T e1 ad more.length c2 news (by rw [hisz]; exact hnl) hcells (ones hr2) hroom hfit
          have hsize : arr.size = (arr.toList.take (n * i.size) ++ news ++ arr.toList.drop (n * i.size + news.length)).toArray.size := by simp; omega
          have hio : (Ob.buf rows).info = .buf n := by simp [Ob.info, hn]
          have hiy : (Ob.buf (rows ++ more)).info = .buf (n + more.length) := by simp [Ob.info, hn]
          have hk := h.keeps_set (arr' := (arr.toList.take (n * i.size) ++ news ++ arr.toList.drop (n * i.size + news.length)).toArray) (y := .buf (rows ++ more)) hx (by simp) hb e1 hsize (.inr ⟨n, _, hio, hiy, by omega⟩)
          refine ⟨_, _, _, _, _, F, ρ, by simp only [Sem.run_bind, hrun, Result.andThen_ok, Sem.run_pure]; rfl, .inl rfl, hK, ?_, h.set hx (by simp) (by simp) (fun _ _ _ _ e => by cases e) hb e1 hsize (.inr ⟨n, _, hio, hiy, by omega⟩) ?_, hk⟩
          · simp only [RepPV]
            have hinf : info (S.set o (.buf (rows ++ more))) o = .buf (n + more.length) := by rw [info_set hot]; exact hiy
            refine ⟨by rw [hinf]; simp, _, cap, rfl, fun m hm => ?_⟩
            rw [hinf] at hm
            cases hm
            exact ⟨Nat.le_refl _, fun _ => .inr ⟨b, hb, rfl, hroom, hcm, Nat.le_trans hbs (hk.size b)⟩⟩
          · refine RepPre.keeps hk ?_
            have hfl : rows.flatten.length = n * i.size := by rw [ha.flatten, hn, hisz]
            have hg := splice_get arr.toList (n * i.size) news (by simp; omega)
            unfold splice at hg
            intro j p hj
            simp only [Ob.cells, List.flatten_append] at hj
            by_cases hjl : j < n * i.size
            · rw [List.getElem?_append_left (by omega)] at hj
              obtain ⟨u, u1, u2, u3⟩ := e2 j p (by simpa [Ob.cells] using hj)
              refine ⟨u, ?_, u2, u3⟩
              have := hg j
              rw [if_neg (by omega)] at this
              simp only [List.getElem?_toArray]
              rw [this]
              simpa using u1
            · rw [List.getElem?_append_right (by omega)] at hj
              obtain ⟨u, u1, u2, u3⟩ := hr2.get hj
              refine ⟨u, ?_, u2, u3⟩
              have hlt := (List.getElem?_eq_some_iff.1 u1).1
              have := hg j
              rw [if_pos (by omega)] at this
              simp only [List.getElem?_toArray]
              rw [this, ← hfl]
              exact u1
        · obtain ⟨vs, f1, f2, f3⟩ := e2.sub 0 rows.flatten.length (by simp [Ob.cells])
          have hol : RepPVs w F ρ (info S) rows.flatten vs := by simpa only [Ob.cells, List.drop_zero, List.take_length] using f3
          have hrun := run_append_grow (P := P) w t ty e i z hut hii hzi ⟨b, 0, none⟩ n cap vs (by rw [f1, ha.flatten, hn, hisz]) (fun j u hj => by rw [add_mid, cell_of e1]; exact f2 j u hj)
            ad more.length c2 news (by rw [hisz]; exact hnl) hcells (by omega) (by omega) (by rw [hiby]; exact growslice_fits (by omega) hbd)
          obtain ⟨m1, m2, m3⟩ := moved vs (grownCap w (n + more.length) cap e) hol (grownCap_ge ..) (grownCap_le_maxLen _ _ _ _ (by unfold maxLen; omega))
          exact ⟨_, _, _, _, _, F, _, by simp only [Sem.run_bind, hrun, Result.andThen_ok, Sem.run_pure]; rfl, .inl rfl, hK, m3, m1, m2⟩
end
end Go.Aw
