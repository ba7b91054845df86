/- A literal's row, converted to its own type: it gets a mark and is data from now on. -/
import Derived.Test.YthilodmojjlaeaaAwPs
import Derived.Test.YthilodmojjlaeaaAwArr
set_option linter.unusedVariables false
set_option linter.unusedSimpArgs false
namespace Go.Aw
section
variable {P : Program} {w0 : World} {F0 mods F : Nat → Prop} {ρ : Nat → Option Nat} {S : Heap} {w : World}

/-- An object is given up; its block is written and stays as it is from now on. -/
theorem St.setGone (h : St w0 F0 mods F ρ S w) {o b : Nat} {ob ob' : Obj} {x : Ob} (hx : S[o]? = some x) (hg : x.Mut) (hr : ρ o = some b) (hb : w.heap[b]? = some ob) (hs : obSize ob ≤ obSize ob') :
    St w0 F0 mods (Plus F b) ρ (S.set o .gone) (Aw.setO w b ob') ∧ Keeps w (Aw.setO w b ob') F (Plus F b) ρ ρ (info S) (info (S.set o .gone)) := by
  have hlt : b < w.heap.size := (Array.getElem?_eq_some_iff.1 hb).1
  have holt := (List.getElem?_eq_some_iff.1 hx).1
  have hk : Keeps w (Aw.setO w b ob') F (Plus F b) ρ ρ (info S) (info (S.set o .gone)) := by
    refine ⟨fun c hc => setO_ne w b ob' (fun e => h.notF o b ⟨hr, x, hx, hg⟩ (e ▸ hc)), fun b hb => .inl hb, fun c => ?_, fun o' ho => info_set_old ho, fun o' ho hx' => ?_, fun o' m ho hx' => ?_⟩
    · by_cases e : c = b
      · subst e
        rw [blockSize_of hb, blockSize_of (setO_eq w c ob' (Array.getElem?_eq_some_iff.1 hb).1)]
        exact hs
      · simp [blockSize, setO_ne w b ob' e]
    · by_cases e : o' = o
      · subst e; rw [info_set holt] at hx'; cases hx'
      · exact ⟨by rwa [info_set_ne e] at hx', rfl⟩
    · by_cases e : o' = o
      · subst e; rw [info_set holt] at hx'; cases hx'
      · exact ⟨m, by rwa [info_set_ne e] at hx', Nat.le_refl _, fun _ => rfl⟩
  have hme : Lives S ρ o b := ⟨hr, x, hx, hg⟩
  have lv : ∀ o' c, Lives (S.set o .gone) ρ o' c → Lives S ρ o' c ∧ o' ≠ o := by
    rintro o' c ⟨h1, y, h2, h3⟩
    by_cases e : o' = o
    · subst e; rw [List.getElem?_set_self holt] at h2; cases h2; exact h3.elim
    · rw [List.getElem?_set_ne (Ne.symm e)] at h2
      exact ⟨⟨h1, y, h2, h3⟩, e⟩
  refine ⟨⟨?_, fun o1 o2 c h1 h2 => h.inj o1 o2 c (lv _ _ h1).1 (lv _ _ h2).1, fun o1 c h1 hf => ?_, fun c hc => ?_, fun o1 c h1 => h.mine o1 c (lv _ _ h1).1, ?_, h.os, h.tape, h.output, ?_, fun c => Nat.le_trans (h.bsize c) (hk.size c), fun c hc => .inl (h.f0 c hc), fun c hc => ?_⟩, hk⟩
  · intro o' z hz
    by_cases e : o' = o
    · subst e; rw [List.getElem?_set_self holt] at hz; cases hz; trivial
    · rw [List.getElem?_set_ne (Ne.symm e)] at hz
      refine (h.objs o' z hz).keeps hk rfl fun c hc hng => setO_ne w b ob' fun e' => ?_
      subst e'
      exact e (h.inj o' o c ⟨hc, z, hz, hng⟩ hme)
  · obtain ⟨h2, h3⟩ := lv _ _ h1
    rcases hf with hf | hf
    · exact h.notF o1 c h2 hf
    · subst hf; exact h3 (h.inj o1 o c h2 hme)
  · rw [setO_size]
    rcases hc with hc | hc
    · exact h.bound c hc
    · subst hc; exact hlt
  · rw [setO_size]; exact h.grow
  · intro c hc hm
    rw [setO_ne w b ob']
    · exact h.keep c hc hm
    · intro e
      subst e
      rcases h.mine o c hme with h1 | h1
      · exact hm h1
      · omega
  · rcases hc with hc | hc
    · exact h.fnew c hc
    · subst hc; exact .inr (h.mine o c hme)

theorem toDs_at : ∀ {ps : List PV} {ds : List D}, Aw.toDs ps = some ds → ∀ {j : Nat} {d : D}, ds[j]? = some d → ∃ p, ps[j]? = some p ∧ PV.toD p = some d
  | [], ds, h, j, d, hj => by simp only [Aw.toDs, Option.some.injEq] at h; subst h; simp at hj
  | p :: ps, ds, h, j, d, hj => by
    simp only [Aw.toDs] at h
    split at h
    · rename_i d' ds' h1 h2
      cases h
      cases j with
      | zero => simp only [List.getElem?_cons_zero, Option.some.injEq] at hj; subst hj; exact ⟨p, rfl, h1⟩
      | succ j => simpa using toDs_at h2 (by simpa using hj)
    · cases h

def u8O (P : Program) (t : TypeId) : Bool := match P.underlying t with
  | some (.slice e) => match P.underlying e with
    | some (.int .u8) => true
    | _ => false
  | _ => false
theorem u8O_spec {t : TypeId} (h : u8O P t = true) : ∃ e, P.underlying t = some (.slice e) ∧ P.underlying e = some (.int .u8) := by
  unfold u8O at h
  split at h
  · rename_i e he
    split at h
    · rename_i he'; exact ⟨e, he, he'⟩
    · cases h
  · cases h

theorem pt_convOwn {t ty : TypeId} {x : Operand} {dst : Option Tmp} {pos : String} {after : Array Edge} {g : Option (Nat × Bool)} {o sz n : Nat} {rows : List (List PV)} {ds : List (List D)} (hu : u8O P t = true) (hx : S[o]? = some (.buf rows)) (hn : rows.length = n) (h0 : 0 < n) (hd : toRows rows = some ds) :
    OpPt P [.own o sz n] S ⟨dst, .convert t t x, ty, pos, after, g⟩ (.d (.sl ds)) (S.set o .gone) := by
  intro w0 F0 mods F ρ w a hs he
  obtain ⟨v, e1, e2⟩ := reps_one he
  simp only [Op.operands, List.map_cons, List.map_nil, List.cons.injEq, and_true] at e1
  obtain ⟨e, hu1, hu2⟩ := u8O_spec hu
  have hi : info S o = .buf n := by rw [info_of hx]; simp [Ob.info, hn]
  simp only [RepPV] at e2
  obtain ⟨_, a', cap, rfl, h2⟩ := e2
  obtain ⟨_, h3⟩ := h2 n hi
  rcases h3 rfl with ⟨_, _, g3, _⟩ | ⟨b, g1, rfl, g3, g4, g5⟩
  · omega
  have hobj := hs.objs o _ hx
  rcases hobj with ⟨k1, _⟩ | ⟨b', arr, T, k1, k2, k3⟩
  · rw [g1] at k1; cases k1
  rw [g1] at k1; cases k1
  obtain ⟨t1, t2⟩ := hs.setGone (ob' := .cells arr T (arr.size, arr.size + 1)) hx trivial g1 k2 (by simp [obSize])
  obtain ⟨d1, d2⟩ := toRows_spec hd
  refine ⟨_, .slice (some ⟨b, 0, none⟩) n cap, Aw.setO w b (.cells arr T (arr.size, arr.size + 1)), _, _, _, ρ, ?_, .inl rfl, ⟨rfl, rfl⟩, ?_, t1, t2⟩
  · simp only [execOp, e1]
    have hsh : w.shape? b = some (T, arr.size) := by unfold World.shape?; rw [k2]
    have hfr : w.freeze ⟨b, arr.size, none⟩ 1 = Aw.setO w b (.cells arr T (arr.size, arr.size + 1)) := by
      unfold World.freeze
      rw [if_neg (by decide)]
      unfold Aw.setO
      congr 1
      apply Array.ext_getElem?
      intro i
      have hlt : b < w.heap.size := (Array.getElem?_eq_some_iff.1 k2).1
      by_cases hib : i = b
      · subst hib
        have : w.heap[i] = .cells arr T (0, 0) := by rw [Array.getElem?_eq_getElem hlt] at k2; simpa using k2
        rw [Array.getElem?_setIfInBounds_self_of_lt hlt, Array.getElem?_modify]
        simp [Array.getElem?_eq_getElem hlt, this]
      · rw [Array.getElem?_setIfInBounds_ne (Ne.symm hib), Array.getElem?_modify]
        simp [Ne.symm hib]
    simp [convert, run_underlying hu1, run_underlying hu2, markStringish, hsh]
    exact hfr
  · simp only [RepPV, RepD]
    refine ⟨_, n, cap, rfl, by omega, g3, g4, (fun e => by cases e), fun ad had => ?_⟩
    cases had
    refine ⟨fun _ => rfl, RepRows.of_flat ?_⟩
    have hb' : (Aw.setO w b (.cells arr T (arr.size, arr.size + 1))).heap[b]? = some (.cells arr T (arr.size, arr.size + 1)) := setO_eq _ _ _ (Array.getElem?_eq_some_iff.1 k2).1
    exact RepAt.mk fun j d hj => ⟨.inr rfl, by
      obtain ⟨p, q1, q2⟩ := toDs_at d1 hj
      obtain ⟨v, q3, q4, q5⟩ := k3 j p q1
      refine ⟨v, ?_, q4, (PV.toD_rep q2 q5).mono t2.same t2.sub⟩
      simp only [World.cell?, hb', Nat.zero_add]
      exact q3⟩
end
end Go.Aw
