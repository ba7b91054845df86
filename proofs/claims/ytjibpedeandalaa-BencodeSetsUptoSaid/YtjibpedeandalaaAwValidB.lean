/- Layer 2: which values can be written: the reference's walk, the program's check. -/
import Derived.Test.YtjibpedeandalaaAwLaw2B
import Derived.Test.YtjibpedeandalaaAwValid
import Derived.Test.YtjibpedeandalaaAwLoop
set_option linter.unusedVariables false
set_option linter.unusedSimpArgs false
namespace Go.Aw
open Go.Proofs
set_option maxRecDepth 100000

theorem foreign_calls (v : Val) : PureA Try.prog 27 [valC v] (.d (.b (foreignV v))) := by
  refine callsW_of 0 Try.call27 Try.func27 (c := _) rfl (by kernel_rfl) (Nat.le_of_ble_eq_true rfl) (Nat.le_refl 0) ?_
  have e0 : (ByteArray.mk #[]).toList = [] := by rw [ba_toList]
  ((conv => whnf); repeat (refine SeqW.go ?_; conv => whnf))
  repeat' (first | (refine Br.t ?_; conv => whnf) | (refine Br.f ?_; conv => whnf) | (refine SeqW.go ?_; conv => whnf) | (refine Br.dec (fun h => ?_) (fun h => ?_) <;> (conv => whnf)) | (refine Br.beq (fun h => ?_) (fun h => ?_) <;> (conv => whnf)) | (refine Br.bne (fun h => ?_) (fun h => ?_) <;> (conv => whnf)) | (refine Br.nbeq (fun h => ?_) (fun h => ?_) <;> (conv => whnf)) | (refine Br.not (fun h => ?_) (fun h => ?_) <;> (conv => whnf)) | (refine Br.mk (fun h => ?_) (fun h => ?_) <;> (conv => whnf)))
  all_goals refine ⟨?_, rfl⟩
  all_goals simp_all [foreignV]

theorem walkV_eq (v : Val) (a : Int) : walkV v a = if v.kind < 1 ∨ 4 < v.kind ∨ foreignV v = true then 27 else if v.kind < 3 then 0 else if 32 ≤ a then 24 else
      if walkL v.list (a + 1) = 0 then walkP v.dict none (a + 1) else walkL v.list (a + 1) := by
  cases v; rw [walkV]; rfl

theorem walk_calls : ∀ (n : Nat) (v : Val) (a : Int), bulkV v ≤ n → bulkV v ≤ 16777216 → 0 ≤ a → a ≤ 32 → PureA Try.prog 20 [valP v, .d (.i .i64 a)] (.d (.i .i64 (walkV v a))) := by
  intro n
  induction n with
  | zero => intro v a h; have := bulkV_eq v; omega
  | succ n ih =>
    intro v a hn hb ha0 ha1
    have hs := bulkV_sizes v
    rw [valP_eq]
    refine callsW_of 0 Try.call20 Try.func20 (c := _) rfl (by kernel_rfl) (Nat.le_of_ble_eq_true rfl) (Nat.le_refl 0) ?_
    ((conv => whnf); repeat (refine SeqW.go ?_; conv => whnf))
    refine Br.mk (fun h => ?_) (fun h => ?_)
    · have hk : v.kind < 1 := by simpa using h
      ((conv => whnf); repeat (refine SeqW.go ?_; conv => whnf))
      repeat (first | (refine Br.t ?_; conv => whnf) | (refine Cd.mk (by omega) ?_; conv => whnf) | (refine Br.f ?_; conv => whnf) | (refine SeqW.go ?_; conv => whnf))
      exact ⟨by rw [walkV_eq, if_pos (.inl hk)], rfl⟩
    have hk1 : ¬ v.kind < 1 := by simpa using h
    clear h
    ((conv => whnf); repeat (refine SeqW.go ?_; conv => whnf))
    repeat (first | (refine Br.t ?_; conv => whnf) | (refine Cd.mk (by omega) ?_; conv => whnf) | (refine Br.f ?_; conv => whnf) | (refine SeqW.go ?_; conv => whnf))
    refine Br.mk (fun h => ?_) (fun h => ?_)
    · have hk : 4 < v.kind := by simpa using h
      ((conv => whnf); repeat (refine SeqW.go ?_; conv => whnf))
      repeat (first | (refine Br.t ?_; conv => whnf) | (refine Cd.mk (by omega) ?_; conv => whnf) | (refine Br.f ?_; conv => whnf) | (refine SeqW.go ?_; conv => whnf))
      exact ⟨by rw [walkV_eq, if_pos (.inr (.inl hk))], rfl⟩
    have hk4 : ¬ 4 < v.kind := by simpa using h
    clear h
    ((conv => whnf); repeat (refine SeqW.go ?_; conv => whnf))
    repeat (first | (refine Br.t ?_; conv => whnf) | (refine Cd.mk (by omega) ?_; conv => whnf) | (refine Br.f ?_; conv => whnf) | (refine SeqW.go ?_; conv => whnf))
    refine callP (foreign_calls v) rfl rfl fun _ => ?_
    ((conv => whnf); repeat (refine SeqW.go ?_; conv => whnf))
    repeat (first | (refine Br.t ?_; conv => whnf) | (refine Cd.mk (by omega) ?_; conv => whnf) | (refine Br.f ?_; conv => whnf) | (refine SeqW.go ?_; conv => whnf))
    refine Br.mk (fun h => ?_) (fun h => ?_)
    · ((conv => whnf); repeat (refine SeqW.go ?_; conv => whnf))
      repeat (first | (refine Br.t ?_; conv => whnf) | (refine Cd.mk (by omega) ?_; conv => whnf) | (refine Br.f ?_; conv => whnf) | (refine SeqW.go ?_; conv => whnf))
      exact ⟨by rw [walkV_eq, if_pos (.inr (.inr h))], rfl⟩
    have hno : ¬ (v.kind < 1 ∨ 4 < v.kind ∨ foreignV v = true) := by rw [h]; simp; omega
    clear h
    ((conv => whnf); repeat (refine SeqW.go ?_; conv => whnf))
    repeat (first | (refine Br.t ?_; conv => whnf) | (refine Cd.mk (by omega) ?_; conv => whnf) | (refine Br.f ?_; conv => whnf) | (refine SeqW.go ?_; conv => whnf))
    refine Br.mk (fun h => ?_) (fun h => ?_)
    · have hk : v.kind < 3 := by simpa using h
      ((conv => whnf); repeat (refine SeqW.go ?_; conv => whnf))
      exact ⟨by rw [walkV_eq, if_neg hno, if_pos hk], rfl⟩
    have hk3 : ¬ v.kind < 3 := by simpa using h
    clear h
    ((conv => whnf); repeat (refine SeqW.go ?_; conv => whnf))
    refine Br.mk (fun h => ?_) (fun h => ?_)
    · have ha : 32 ≤ a := by simpa using h
      ((conv => whnf); repeat (refine SeqW.go ?_; conv => whnf))
      exact ⟨by rw [walkV_eq, if_neg hno, if_neg hk3, if_pos ha], rfl⟩
    have ha : ¬ 32 ≤ a := by simpa using h
    clear h
    have hspec : walkV v a = if walkL v.list (a + 1) = 0 then walkP v.dict none (a + 1) else walkL v.list (a + 1) := by rw [walkV_eq, if_neg hno, if_neg hk3, if_neg ha]
    ((conv => whnf); repeat (refine SeqW.go ?_; conv => whnf))
    refine loopW (by kernel_rfl) (γ := Nat) (fun i => i ≤ v.list.length ∧ walkL v.list (a + 1) = walkL (v.list.drop i) (a + 1)) (fun i => [(1, .d (.i .i64 a)), (2, .ptr 0 0), (5, .d (.i .i64 i))])
      (fun _ => [.box [.d (.i .i64 v.kind), .d (.i .i64 v.int), .d (.s v.str), .d (.sl (rowsV v.list)), .d (.sl (rowsP v.dict))]]) (fun i => v.list.length - i) (fun i _ => ⟨Nat.zero_le _, rfl⟩) 0 ⟨Nat.zero_le _, rfl⟩ ⟨[], rfl⟩ ⟨rfl, rfl, rfl, rfl, rfl, rfl, trivial⟩ ?_
    rintro i ⟨hi, hd⟩
    ((conv => whnf); repeat (refine SeqW.go ?_; conv => whnf))
    refine Br.mk (fun h => ?_) (fun h => ?_)
    · have hlt : i < v.list.length := by simpa using h
      clear h
      ((conv => whnf); repeat (refine SeqW.go ?_; conv => whnf))
      refine ⟨⟨rowsV_all _, by omega, by simpa using hlt⟩, ?_⟩
      rw [show (i : Int).toNat = i from rfl, rowsV_get hlt]
      ((conv => whnf); repeat (refine SeqW.go ?_; conv => whnf))
      refine ⟨by simp, ?_⟩
      rw [valP_take]
      ((conv => whnf); repeat (refine SeqW.go ?_; conv => whnf))
      rw [show IntKind.i64.wrap (a + 1) = a + 1 from wrap_i64 (by omega) (by omega)]
      refine callP (ih v.list[i] (a + 1) ?_ ?_ (by omega) (by omega)) (by simp [scBs, scB]) rfl fun _ => ?_
      · have := bulkV_list (List.getElem_mem hlt); omega
      · have := bulkV_list (List.getElem_mem hlt); omega
      ((conv => whnf); repeat (refine SeqW.go ?_; conv => whnf))
      refine Br.mk (fun h => ?_) (fun h => ?_)
      · have he : ¬ walkV v.list[i] (a + 1) = 0 := by simpa using h
        have hw := walkL_hit hlt hd he
        ((conv => whnf); repeat (refine SeqW.go ?_; conv => whnf))
        exact ⟨by rw [hspec, hw, if_neg he], rfl⟩
      · have he : walkV v.list[i] (a + 1) = 0 := by simpa using h
        ((conv => whnf); repeat (refine SeqW.go ?_; conv => whnf))
        refine ⟨i + 1, ⟨hlt, walkL_miss hlt hd he⟩, by omega, ⟨[], rfl⟩, ⟨rfl, rfl, rfl, rfl, ?_, rfl, trivial⟩⟩
        show PV.d (.i .i64 (IntKind.wrap .i64 (i + 1))) = _
        rw [wrap_i64 (by omega) (by omega)]; rfl
    have hl0 : walkL v.list (a + 1) = 0 := by
      have : i = v.list.length := by simp at h; omega
      rw [hd, this, List.drop_length]; rfl
    rw [if_pos hl0] at hspec
    clear h hd hi
    ((conv => whnf); repeat (refine SeqW.go ?_; conv => whnf))
    refine loopW (by kernel_rfl) (γ := Nat) (fun i => i ≤ v.dict.length ∧ walkV v a = walkP (v.dict.drop i) (prevK v.dict i) (a + 1)) (fun i => [(1, .d (.i .i64 a)), (2, .ptr 0 0), (7, .d (.i .i64 i))])
      (fun _ => [.box [.d (.i .i64 v.kind), .d (.i .i64 v.int), .d (.s v.str), .d (.sl (rowsV v.list)), .d (.sl (rowsP v.dict))]]) (fun i => v.dict.length - i) (fun i _ => ⟨Nat.zero_le _, rfl⟩) 0 ⟨Nat.zero_le _, hspec⟩ ⟨[], rfl⟩ ⟨rfl, rfl, rfl, rfl, rfl, rfl, trivial⟩ ?_
    rintro i ⟨hi, hd⟩
    ((conv => whnf); repeat (refine SeqW.go ?_; conv => whnf))
    refine Br.mk (fun h => ?_) (fun h => ?_)
    · have hlt : i < v.dict.length := by simpa using h
      clear h
      ((conv => whnf); repeat (refine SeqW.go ?_; conv => whnf))
      refine drawW [] mixed (by kernel_rfl) (by kernel_rfl) ?_
      ((conv => whnf); repeat (refine SeqW.go ?_; conv => whnf))
      refine Br.mk (fun h => ?_) (fun h => ?_)
      · have hpos : 0 < i := by simpa using h
        have hlt0 : i - 1 < v.dict.length := by omega
        clear h
        ((conv => whnf); repeat (refine SeqW.go ?_; conv => whnf))
        repeat (first | (refine Br.t ?_; conv => whnf) | (refine Cd.mk (by omega) ?_; conv => whnf) | (refine Br.f ?_; conv => whnf) | (refine SeqW.go ?_; conv => whnf))
        rw [show IntKind.i64.wrap ((i : Int) - 1) = ((i - 1 : Nat) : Int) by rw [wrap_i64 (by omega) (by omega)]; omega]
        refine ⟨⟨rowsP_all _, by omega, by simp; omega⟩, ?_⟩
        rw [show ((i - 1 : Nat) : Int).toNat = i - 1 from rfl, rowsP_get hlt0]
        ((conv => whnf); repeat (refine SeqW.go ?_; conv => whnf))
        repeat (first | (refine Br.t ?_; conv => whnf) | (refine Cd.mk (by omega) ?_; conv => whnf) | (refine Br.f ?_; conv => whnf) | (refine SeqW.go ?_; conv => whnf))
        refine ⟨⟨rowsP_all _, by omega, by simpa using hlt⟩, ?_⟩
        rw [show (i : Int).toNat = i from rfl, rowsP_get hlt]
        ((conv => whnf); repeat (refine SeqW.go ?_; conv => whnf))
        repeat (first | (refine Br.t ?_; conv => whnf) | (refine Cd.mk (by omega) ?_; conv => whnf) | (refine Br.f ?_; conv => whnf) | (refine SeqW.go ?_; conv => whnf))
        have hprev : prevK v.dict i = some v.dict[i - 1].1 := by
          obtain ⟨j, rfl⟩ : ∃ j, i = j + 1 := ⟨i - 1, by omega⟩
          have : j < v.dict.length := by omega
          simp [prevK, List.getElem?_eq_getElem this]
        refine Br.mk (fun h => ?_) (fun h => ?_)
        · have hk : keyOk (prevK v.dict i) v.dict[i].1 = false := by rw [hprev]; simpa [keyOk] using h
          ((conv => whnf); repeat (refine SeqW.go ?_; conv => whnf))
          repeat (first | (refine Br.t ?_; conv => whnf) | (refine Cd.mk (by omega) ?_; conv => whnf) | (refine Br.f ?_; conv => whnf) | (refine SeqW.go ?_; conv => whnf))
          exact ⟨by rw [walkP_bad hlt hd hk], rfl⟩
        have hk : keyOk (prevK v.dict i) v.dict[i].1 = true := by rw [hprev]; simpa [keyOk] using h
        clear h
        ((conv => whnf); repeat (refine SeqW.go ?_; conv => whnf))
        repeat (first | (refine Br.t ?_; conv => whnf) | (refine Cd.mk (by omega) ?_; conv => whnf) | (refine Br.f ?_; conv => whnf) | (refine SeqW.go ?_; conv => whnf))
        refine ⟨⟨rowsP_all _, by omega, by simpa using hlt⟩, ?_⟩
        rw [show (i : Int).toNat = i from rfl, rowsP_get hlt]
        ((conv => whnf); repeat (refine SeqW.go ?_; conv => whnf))
        refine ⟨by simp, ?_⟩
        rw [show PV.agg (List.map PV.d (List.take 5 (List.drop 1 (D.s v.dict[i].1 :: cellsV v.dict[i].2)))) = valP v.dict[i].2 from valP_take _]
        ((conv => whnf); repeat (refine SeqW.go ?_; conv => whnf))
        rw [show IntKind.i64.wrap (a + 1) = a + 1 from wrap_i64 (by omega) (by omega)]
        refine callP (ih v.dict[i].2 (a + 1) ?_ ?_ (by omega) (by omega)) (by simp [scBs, scB]) rfl fun _ => ?_
        · have := bulkV_dict (List.getElem_mem hlt); omega
        · have := bulkV_dict (List.getElem_mem hlt); omega
        ((conv => whnf); repeat (refine SeqW.go ?_; conv => whnf))
        refine Br.mk (fun h => ?_) (fun h => ?_)
        · have he : ¬ walkV v.dict[i].2 (a + 1) = 0 := by simpa using h
          ((conv => whnf); repeat (refine SeqW.go ?_; conv => whnf))
          exact ⟨by rw [walkP_hit hlt hd hk he], rfl⟩
        · have he : walkV v.dict[i].2 (a + 1) = 0 := by simpa using h
          ((conv => whnf); repeat (refine SeqW.go ?_; conv => whnf))
          refine ⟨i + 1, ⟨hlt, walkP_miss hlt hd hk he⟩, by omega, ⟨[], rfl⟩, ⟨rfl, rfl, rfl, rfl, ?_, rfl, trivial⟩⟩
          show PV.d (.i .i64 (IntKind.wrap .i64 (i + 1))) = _
          rw [wrap_i64 (by omega) (by omega)]; rfl
      · have h0 : i = 0 := by simp at h; omega
        have hk : keyOk (prevK v.dict i) v.dict[i].1 = true := by subst h0; rfl
        clear h
        ((conv => whnf); repeat (refine SeqW.go ?_; conv => whnf))
        repeat (first | (refine Br.t ?_; conv => whnf) | (refine Cd.mk (by omega) ?_; conv => whnf) | (refine Br.f ?_; conv => whnf) | (refine SeqW.go ?_; conv => whnf))
        refine ⟨⟨rowsP_all _, by omega, by simpa using hlt⟩, ?_⟩
        rw [show (i : Int).toNat = i from rfl, rowsP_get hlt]
        ((conv => whnf); repeat (refine SeqW.go ?_; conv => whnf))
        refine ⟨by simp, ?_⟩
        rw [show PV.agg (List.map PV.d (List.take 5 (List.drop 1 (D.s v.dict[i].1 :: cellsV v.dict[i].2)))) = valP v.dict[i].2 from valP_take _]
        ((conv => whnf); repeat (refine SeqW.go ?_; conv => whnf))
        rw [show IntKind.i64.wrap (a + 1) = a + 1 from wrap_i64 (by omega) (by omega)]
        refine callP (ih v.dict[i].2 (a + 1) ?_ ?_ (by omega) (by omega)) (by simp [scBs, scB]) rfl fun _ => ?_
        · have := bulkV_dict (List.getElem_mem hlt); omega
        · have := bulkV_dict (List.getElem_mem hlt); omega
        ((conv => whnf); repeat (refine SeqW.go ?_; conv => whnf))
        refine Br.mk (fun h => ?_) (fun h => ?_)
        · have he : ¬ walkV v.dict[i].2 (a + 1) = 0 := by simpa using h
          ((conv => whnf); repeat (refine SeqW.go ?_; conv => whnf))
          exact ⟨by rw [walkP_hit hlt hd hk he], rfl⟩
        · have he : walkV v.dict[i].2 (a + 1) = 0 := by simpa using h
          ((conv => whnf); repeat (refine SeqW.go ?_; conv => whnf))
          refine ⟨i + 1, ⟨hlt, walkP_miss hlt hd hk he⟩, by omega, ⟨[], rfl⟩, ⟨rfl, rfl, rfl, rfl, ?_, rfl, trivial⟩⟩
          show PV.d (.i .i64 (IntKind.wrap .i64 (i + 1))) = _
          rw [wrap_i64 (by omega) (by omega)]; rfl
    · have hge : i = v.dict.length := by simp at h; omega
      rw [hge, List.drop_length] at hd
      ((conv => whnf); repeat (refine SeqW.go ?_; conv => whnf))
      exact ⟨by rw [hd]; rfl, rfl⟩

theorem walk_calls' (v : Val) (a : Int) (hb : bulkV v ≤ 16777216) (h0 : 0 ≤ a) (h1 : a ≤ 32) : PureA Try.prog 20 [valC v, .d (.i .i64 a)] (.d (.i .i64 (walkV v a))) := by
  have := walk_calls _ v a (Nat.le_refl _) hb h0 h1
  rwa [valP_eq] at this
theorem refValid_calls (v : Val) (hb : bulkV v ≤ 16777216) : PureA Try.prog 13 [valC v] (.d (.i .i64 (walkV v 0))) := by
  refine callsW_of 0 Try.call13 Try.func13 (c := _) rfl (by kernel_rfl) (Nat.le_of_ble_eq_true rfl) (Nat.le_refl 0) ?_
  ((conv => whnf); repeat (refine SeqW.go ?_; conv => whnf))
  refine callP (walk_calls' v 0 hb (by omega) (by omega)) rfl rfl fun _ => ?_
  ((conv => whnf); repeat (refine SeqW.go ?_; conv => whnf))
  exact ⟨rfl, rfl⟩

theorem check_calls : ∀ (n : Nat) (v : Val) (a : Int), bulkV v ≤ n → bulkV v ≤ 16777216 → 0 ≤ a → a ≤ 32 → PureA Try.prog 19 [valP v, .d (.i .i64 a)] (.d (.i .i64 (walkV v a))) := by
  intro n
  induction n with
  | zero => intro v a h; have := bulkV_eq v; omega
  | succ n ih =>
    intro v a hn hb ha0 ha1
    have hs := bulkV_sizes v
    have e0 : (ByteArray.mk #[]).toList = [] := by rw [ba_toList]
    rw [valP_eq]
    refine callsW_of 0 Try.call19 Try.func19 (c := _) rfl (by kernel_rfl) (Nat.le_of_ble_eq_true rfl) (Nat.le_refl 0) ?_
    conv => whnf
    refine cutK (γ := Int × ByteArray × List (List D) × List (List D)) 2 (fun ⟨gi, gs, gl, gd⟩ => (1 ≤ v.kind ∧ v.kind ≤ 4) ∧ (foreignV v = true ↔ (gi ≠ 0 ∨ gs.toList ≠ [] ∨ 0 < gl.length + gd.length)) ∧ gl.length ≤ v.list.length ∧ gd.length ≤ v.dict.length)
      (fun _ => []) (fun ⟨gi, gs, gl, gd⟩ => [(1, .box [.d (.i .i64 v.kind), .d (.i .i64 gi), .d (.s gs), .d (.sl gl), .d (.sl gd)])]) ⟨rfl, rfl⟩ (fun _ _ => rfl) ?_ ?_
    · ((conv => whnf); repeat (refine SeqW.go ?_; conv => whnf))
      repeat' (first | (refine Br.t ?_; conv => whnf) | (refine Br.f ?_; conv => whnf) | (refine SeqW.go ?_; conv => whnf) | (refine Br.dec (fun h => ?_) (fun h => ?_) <;> (conv => whnf)) | (refine Br.beq (fun h => ?_) (fun h => ?_) <;> (conv => whnf)) | (refine Br.bne (fun h => ?_) (fun h => ?_) <;> (conv => whnf)) | (refine Br.nbeq (fun h => ?_) (fun h => ?_) <;> (conv => whnf)) | (refine Br.not (fun h => ?_) (fun h => ?_) <;> (conv => whnf)) | (refine Br.mk (fun h => ?_) (fun h => ?_) <;> (conv => whnf)))
      · exact ⟨(0, v.str, rowsV v.list, rowsP v.dict), ⟨by omega, by simp [foreignV, *, or_assoc, Nat.add_pos_iff_pos_or_pos], by simp, by simp⟩, ⟨.refl _, .refl _, trivial⟩, trivial, (by repeat (first | exact trivial | refine ⟨rfl, ?_⟩))⟩
      · exact ⟨(v.int, ⟨#[]⟩, rowsV v.list, rowsP v.dict), ⟨by omega, by simp [foreignV, *, or_assoc, Nat.add_pos_iff_pos_or_pos], by simp, by simp⟩, ⟨.refl _, .refl _, trivial⟩, trivial, (by repeat (first | exact trivial | refine ⟨rfl, ?_⟩))⟩
      · exact ⟨(v.int, v.str, [], rowsP v.dict), ⟨by omega, by simp [foreignV, *, or_assoc], by simp, by simp⟩, ⟨.refl _, .box (.cons (.refl _) (.cons (.refl _) (.cons (.refl _) (.cons .nils (.refl _))))), trivial⟩, trivial, (by repeat (first | exact trivial | refine ⟨rfl, ?_⟩))⟩
      · exact ⟨(v.int, v.str, rowsV v.list, []), ⟨by omega, by simp [foreignV, *, or_assoc], by simp, by simp⟩, ⟨.refl _, .box (.cons (.refl _) (.cons (.refl _) (.cons (.refl _) (.cons (.refl _) (.cons .nils (.refl _)))))), trivial⟩, trivial, (by repeat (first | exact trivial | refine ⟨rfl, ?_⟩))⟩
      · exact ⟨by rw [walkV_eq, if_pos (by omega)], by trivial⟩
    · rintro ⟨gi, gs, gl, gd⟩ ⟨⟨hk1, hk4⟩, hf, hgl, hgd⟩
      ((conv => whnf); repeat (refine SeqW.go ?_; conv => whnf))
      first | refine Br.dec (fun h1 => ?_) (fun h1 => ?_) | refine Br.beq (fun h1 => ?_) (fun h1 => ?_) | refine Br.bne (fun h1 => ?_) (fun h1 => ?_) | refine Br.nbeq (fun h1 => ?_) (fun h1 => ?_) | refine Br.not (fun h1 => ?_) (fun h1 => ?_) | refine Br.mk (fun h1 => ?_) (fun h1 => ?_)
      · ((conv => whnf); repeat (refine SeqW.go ?_; conv => whnf))
        repeat (first | (refine Br.t ?_; conv => whnf) | (refine Cd.mk (by omega) ?_; conv => whnf) | (refine Br.f ?_; conv => whnf) | (refine SeqW.go ?_; conv => whnf))
        exact ⟨by rw [walkV_eq, if_pos (.inr (.inr (hf.2 (.inl h1))))], rfl⟩
      ((conv => whnf); repeat (refine SeqW.go ?_; conv => whnf))
      repeat (first | (refine Br.t ?_; conv => whnf) | (refine Cd.mk (by omega) ?_; conv => whnf) | (refine Br.f ?_; conv => whnf) | (refine SeqW.go ?_; conv => whnf))
      first | refine Br.dec (fun h2 => ?_) (fun h2 => ?_) | refine Br.beq (fun h2 => ?_) (fun h2 => ?_) | refine Br.bne (fun h2 => ?_) (fun h2 => ?_) | refine Br.nbeq (fun h2 => ?_) (fun h2 => ?_) | refine Br.not (fun h2 => ?_) (fun h2 => ?_) | refine Br.mk (fun h2 => ?_) (fun h2 => ?_)
      · ((conv => whnf); repeat (refine SeqW.go ?_; conv => whnf))
        repeat (first | (refine Br.t ?_; conv => whnf) | (refine Cd.mk (by omega) ?_; conv => whnf) | (refine Br.f ?_; conv => whnf) | (refine SeqW.go ?_; conv => whnf))
        exact ⟨by rw [walkV_eq, if_pos (.inr (.inr (hf.2 (.inr (.inl (by rw [← e0]; exact h2))))))], rfl⟩
      ((conv => whnf); repeat (refine SeqW.go ?_; conv => whnf))
      repeat (first | (refine Br.t ?_; conv => whnf) | (refine Cd.mk (by omega) ?_; conv => whnf) | (refine Br.f ?_; conv => whnf) | (refine SeqW.go ?_; conv => whnf))
      rw [e0] at h2
      rw [wrap_i64 (by omega) (by omega)]
      first | refine Br.dec (fun h3 => ?_) (fun h3 => ?_) | refine Br.beq (fun h3 => ?_) (fun h3 => ?_) | refine Br.bne (fun h3 => ?_) (fun h3 => ?_) | refine Br.nbeq (fun h3 => ?_) (fun h3 => ?_) | refine Br.not (fun h3 => ?_) (fun h3 => ?_) | refine Br.mk (fun h3 => ?_) (fun h3 => ?_)
      · ((conv => whnf); repeat (refine SeqW.go ?_; conv => whnf))
        repeat (first | (refine Br.t ?_; conv => whnf) | (refine Cd.mk (by omega) ?_; conv => whnf) | (refine Br.f ?_; conv => whnf) | (refine SeqW.go ?_; conv => whnf))
        exact ⟨by rw [walkV_eq, if_pos (.inr (.inr (hf.2 (.inr (.inr (by omega))))))], rfl⟩
      have hff : foreignV v = false := by
        cases e : foreignV v with
        | false => rfl
        | true => rcases hf.1 e with h | h | h <;> first | contradiction | omega
      have hno : ¬ (v.kind < 1 ∨ 4 < v.kind ∨ foreignV v = true) := by rw [hff]; simp; omega
      conv => whnf
      refine cutK (γ := Bool) 2 (fun b => b = decide (3 ≤ v.kind ∧ 32 ≤ a)) (fun b => [(51, .d (.b b))]) (fun _ => []) ⟨rfl, rfl⟩ (fun _ _ => rfl) ?_ ?_
      · ((conv => whnf); repeat (refine SeqW.go ?_; conv => whnf))
        repeat' (first | (refine Br.t ?_; conv => whnf) | (refine Br.f ?_; conv => whnf) | (refine SeqW.go ?_; conv => whnf) | (refine Br.dec (fun h => ?_) (fun h => ?_) <;> (conv => whnf)) | (refine Br.beq (fun h => ?_) (fun h => ?_) <;> (conv => whnf)) | (refine Br.bne (fun h => ?_) (fun h => ?_) <;> (conv => whnf)) | (refine Br.nbeq (fun h => ?_) (fun h => ?_) <;> (conv => whnf)) | (refine Br.not (fun h => ?_) (fun h => ?_) <;> (conv => whnf)) | (refine Br.mk (fun h => ?_) (fun h => ?_) <;> (conv => whnf)))
        all_goals
          refine ⟨_, ?_, ⟨.refl _, .refl _, trivial⟩, ⟨rfl, rfl, trivial⟩, (by repeat (first | exact trivial | refine ⟨rfl, ?_⟩))⟩
          first | exact (decide_eq_false (by omega)).symm | exact decide_eq_decide.2 (by omega)
      intro b hb
      ((conv => whnf); repeat (refine SeqW.go ?_; conv => whnf))
      refine Br.mk (fun h => ?_) (fun h => ?_)
      · ((conv => whnf); repeat (refine SeqW.go ?_; conv => whnf))
        subst hb
        have := of_decide_eq_true h
        exact ⟨by rw [walkV_eq, if_neg hno, if_neg (by omega), if_pos this.2], rfl⟩
      have hspec : walkV v a = if walkL v.list (a + 1) = 0 then walkP v.dict none (a + 1) else walkL v.list (a + 1) := by
        subst hb
        have := of_decide_eq_false h
        rw [walkV_eq, if_neg hno]
        by_cases hk : v.kind < 3
        · rw [if_pos hk]
          have : v.list = [] ∧ v.dict = [] := by
            simp only [foreignV, Bool.or_eq_false_iff, Bool.and_eq_false_iff, bne_eq_false_iff_eq, decide_eq_false_iff_not, Nat.not_lt, Nat.le_zero, List.length_eq_zero_iff] at hff
            exact ⟨hff.1.2.resolve_left (by omega), hff.2.resolve_left (by omega)⟩
          rw [this.1, this.2]; rfl
        · rw [if_neg hk, if_neg (by omega)]
      have ha : 3 ≤ v.kind → ¬ 32 ≤ a := by
        subst hb
        have := of_decide_eq_false h
        omega
      clear h hb
      ((conv => whnf); repeat (refine SeqW.go ?_; conv => whnf))
      refine loopK (by kernel_rfl) (γ := Nat) 2 (fun i => i ≤ v.list.length ∧ walkL v.list (a + 1) = walkL (v.list.drop i) (a + 1)) (fun i => [(55, .d (.i .i64 i))]) (fun _ => []) (fun i => v.list.length - i)
        ⟨rfl, rfl⟩ (fun _ _ => rfl) 0 ⟨Nat.zero_le _, rfl⟩ (by repeat (first | exact trivial | refine ⟨.refl _, ?_⟩)) ⟨rfl, rfl, trivial⟩ ?_
      rintro i ⟨hi, hd⟩
      ((conv => whnf); repeat (refine SeqW.go ?_; conv => whnf))
      first | refine Br.dec (fun hlt => ?_) (fun hlt => ?_) | refine Br.beq (fun hlt => ?_) (fun hlt => ?_) | refine Br.bne (fun hlt => ?_) (fun hlt => ?_) | refine Br.nbeq (fun hlt => ?_) (fun hlt => ?_) | refine Br.not (fun hlt => ?_) (fun hlt => ?_) | refine Br.mk (fun hlt => ?_) (fun hlt => ?_)
      · have hlt : i < v.list.length := by simpa using hlt
        ((conv => whnf); repeat (refine SeqW.go ?_; conv => whnf))
        refine ⟨⟨rowsV_all _, by omega, by simpa using hlt⟩, ?_⟩
        rw [show (i : Int).toNat = i from rfl, rowsV_get hlt]
        ((conv => whnf); repeat (refine SeqW.go ?_; conv => whnf))
        refine ⟨by simp, ?_⟩
        rw [valP_take, valP_eq]
        ((conv => whnf); repeat (refine SeqW.go ?_; conv => whnf))
        have hk3 : 3 ≤ v.kind := by
          simp only [foreignV, Bool.or_eq_false_iff, Bool.and_eq_false_iff, bne_eq_false_iff_eq, decide_eq_false_iff_not, Nat.not_lt, Nat.le_zero, List.length_eq_zero_iff] at hff
          rcases hff.1.2 with h | h
          · omega
          · rw [h] at hlt; simp at hlt
        have ha := ha hk3
        rw [show IntKind.i64.wrap (a + 1) = a + 1 from wrap_i64 (by omega) (by omega)]
        have hcall := ih v.list[i] (a + 1) (by have := bulkV_list (List.getElem_mem hlt); omega) (by have := bulkV_list (List.getElem_mem hlt); omega) (by omega) (by omega)
        rw [valP_eq] at hcall
        refine callP hcall rfl rfl fun _ => ?_
        ((conv => whnf); repeat (refine SeqW.go ?_; conv => whnf))
        first | refine Br.dec (fun he => ?_) (fun he => ?_) | refine Br.beq (fun he => ?_) (fun he => ?_) | refine Br.bne (fun he => ?_) (fun he => ?_) | refine Br.nbeq (fun he => ?_) (fun he => ?_) | refine Br.not (fun he => ?_) (fun he => ?_) | refine Br.mk (fun he => ?_) (fun he => ?_)
        · have hw := walkL_hit hlt hd he
          ((conv => whnf); repeat (refine SeqW.go ?_; conv => whnf))
          exact ⟨by rw [hspec, hw, if_neg he], rfl⟩
        · ((conv => whnf); repeat (refine SeqW.go ?_; conv => whnf))
          exact ⟨i + 1, ⟨hlt, walkL_miss hlt hd he⟩, by omega, (by repeat (first | exact trivial | refine ⟨.refl _, ?_⟩)), ⟨wrap_next (by omega), rfl, trivial⟩, (by repeat (first | exact trivial | refine ⟨rfl, ?_⟩))⟩
      have hl0 : walkL v.list (a + 1) = 0 := by
        have : i = v.list.length := by simp at hlt; omega
        rw [hd, this, List.drop_length]; rfl
      rw [if_pos hl0] at hspec
      clear hlt hd hi
      ((conv => whnf); repeat (refine SeqW.go ?_; conv => whnf))
      refine loopK (by kernel_rfl) (γ := Nat) 2 (fun i => i ≤ v.dict.length ∧ walkV v a = walkP (v.dict.drop i) (prevK v.dict i) (a + 1)) (fun i => [(70, .d (.i .i64 i))]) (fun _ => []) (fun i => v.dict.length - i)
        ⟨rfl, rfl⟩ (fun _ _ => rfl) 0 ⟨Nat.zero_le _, hspec⟩ (by repeat (first | exact trivial | refine ⟨.refl _, ?_⟩)) ⟨rfl, rfl, trivial⟩ ?_
      rintro i ⟨hi, hd⟩
      ((conv => whnf); repeat (refine SeqW.go ?_; conv => whnf))
      first | refine Br.dec (fun hlt => ?_) (fun hlt => ?_) | refine Br.beq (fun hlt => ?_) (fun hlt => ?_) | refine Br.bne (fun hlt => ?_) (fun hlt => ?_) | refine Br.nbeq (fun hlt => ?_) (fun hlt => ?_) | refine Br.not (fun hlt => ?_) (fun hlt => ?_) | refine Br.mk (fun hlt => ?_) (fun hlt => ?_)
      · have hlt : i < v.dict.length := by simpa using hlt
        have hk3 : 3 ≤ v.kind := by
          simp only [foreignV, Bool.or_eq_false_iff, Bool.and_eq_false_iff, bne_eq_false_iff_eq, decide_eq_false_iff_not, Nat.not_lt, Nat.le_zero, List.length_eq_zero_iff] at hff
          rcases hff.2 with h | h
          · omega
          · rw [h] at hlt; simp at hlt
        have ha := ha hk3
        ((conv => whnf); repeat (refine SeqW.go ?_; conv => whnf))
        refine ⟨⟨rowsP_all _, by omega, by simpa using hlt⟩, ?_⟩
        rw [show (i : Int).toNat = i from rfl, rowsP_get hlt]
        ((conv => whnf); repeat (refine SeqW.go ?_; conv => whnf))
        refine ⟨by simp, ?_⟩
        rw [show List.map PV.d (List.take 6 (D.s v.dict[i].1 :: cellsV v.dict[i].2)) = (.d (.s v.dict[i].1)) :: (cellsV v.dict[i].2).map .d by simp [cellsV_eq]]
        rw [cellsV_eq]
        ((conv => whnf); repeat (refine SeqW.go ?_; conv => whnf))
        refine cutD [9] mixed (by kernel_rfl) (by kernel_rfl) (γ := Bool) 3 (fun b => b = !keyOk (prevK v.dict i) v.dict[i].1) (fun b => [(88, .d (.b b))]) (fun _ => []) ⟨rfl, rfl⟩ (fun _ _ => rfl) ?_ ?_
        · ((conv => whnf); repeat (refine SeqW.go ?_; conv => whnf))
          first | refine Br.dec (fun hz => ?_) (fun hz => ?_) | refine Br.beq (fun hz => ?_) (fun hz => ?_) | refine Br.bne (fun hz => ?_) (fun hz => ?_) | refine Br.nbeq (fun hz => ?_) (fun hz => ?_) | refine Br.not (fun hz => ?_) (fun hz => ?_) | refine Br.mk (fun hz => ?_) (fun hz => ?_)
          · have hpos : 0 < i := by omega
            have hlt0 : i - 1 < v.dict.length := by omega
            ((conv => whnf); repeat (refine SeqW.go ?_; conv => whnf))
            repeat (first | (refine Br.t ?_; conv => whnf) | (refine Cd.mk (by omega) ?_; conv => whnf) | (refine Br.f ?_; conv => whnf) | (refine SeqW.go ?_; conv => whnf))
            rw [show IntKind.i64.wrap ((i : Int) - 1) = ((i - 1 : Nat) : Int) by rw [wrap_i64 (by omega) (by omega)]; omega]
            refine ⟨⟨rowsP_all _, by omega, by simp; omega⟩, ?_⟩
            rw [show ((i - 1 : Nat) : Int).toNat = i - 1 from rfl, rowsP_get hlt0]
            ((conv => whnf); repeat (refine SeqW.go ?_; conv => whnf))
            repeat (first | (refine Br.t ?_; conv => whnf) | (refine Cd.mk (by omega) ?_; conv => whnf) | (refine Br.f ?_; conv => whnf) | (refine SeqW.go ?_; conv => whnf))
            have hprev : prevK v.dict i = some v.dict[i - 1].1 := by
              obtain ⟨j, rfl⟩ : ∃ j, i = j + 1 := ⟨i - 1, by omega⟩
              have : j < v.dict.length := by omega
              simp [prevK, List.getElem?_eq_getElem this]
            refine ⟨_, ?_, (by repeat (first | exact trivial | refine ⟨.refl _, ?_⟩)), ⟨rfl, rfl, trivial⟩, (by repeat (first | exact trivial | refine ⟨rfl, ?_⟩))⟩
            rw [hprev]
            simp only [keyOk]
            rw [bytesLess_total]
          · ((conv => whnf); repeat (refine SeqW.go ?_; conv => whnf))
            repeat (first | (refine Br.t ?_; conv => whnf) | (refine Cd.mk (by omega) ?_; conv => whnf) | (refine Br.f ?_; conv => whnf) | (refine SeqW.go ?_; conv => whnf))
            have hk : keyOk (prevK v.dict i) v.dict[i].1 = true := by
              have : i = 0 := by omega
              subst this; rfl
            exact ⟨false, by rw [hk]; rfl, (by repeat (first | exact trivial | refine ⟨.refl _, ?_⟩)), ⟨rfl, rfl, trivial⟩, (by repeat (first | exact trivial | refine ⟨rfl, ?_⟩))⟩
        intro b hb
        ((conv => whnf); repeat (refine SeqW.go ?_; conv => whnf))
        cases hk : keyOk (prevK v.dict i) v.dict[i].1 with
        | false =>
          rw [hk] at hb; subst hb
          repeat (first | (refine Br.t ?_; conv => whnf) | (refine Cd.mk (by omega) ?_; conv => whnf) | (refine Br.f ?_; conv => whnf) | (refine SeqW.go ?_; conv => whnf))
          exact ⟨by rw [walkP_bad hlt hd hk], rfl⟩
        | true =>
          rw [hk] at hb; subst hb
          repeat (first | (refine Br.t ?_; conv => whnf) | (refine Cd.mk (by omega) ?_; conv => whnf) | (refine Br.f ?_; conv => whnf) | (refine SeqW.go ?_; conv => whnf))
          rw [show IntKind.i64.wrap (a + 1) = a + 1 from wrap_i64 (by omega) (by omega)]
          have hcall := ih v.dict[i].2 (a + 1) (by have := bulkV_dict (List.getElem_mem hlt); omega) (by have := bulkV_dict (List.getElem_mem hlt); omega) (by omega) (by omega)
          rw [valP_eq] at hcall
          refine callP hcall rfl rfl fun _ => ?_
          ((conv => whnf); repeat (refine SeqW.go ?_; conv => whnf))
          first | refine Br.dec (fun he => ?_) (fun he => ?_) | refine Br.beq (fun he => ?_) (fun he => ?_) | refine Br.bne (fun he => ?_) (fun he => ?_) | refine Br.nbeq (fun he => ?_) (fun he => ?_) | refine Br.not (fun he => ?_) (fun he => ?_) | refine Br.mk (fun he => ?_) (fun he => ?_)
          · ((conv => whnf); repeat (refine SeqW.go ?_; conv => whnf))
            exact ⟨by rw [walkP_hit hlt hd hk he], rfl⟩
          · ((conv => whnf); repeat (refine SeqW.go ?_; conv => whnf))
            exact ⟨i + 1, ⟨hlt, walkP_miss hlt hd hk he⟩, by omega, (by repeat (first | exact trivial | refine ⟨.refl _, ?_⟩)), ⟨wrap_next (by omega), rfl, trivial⟩, (by repeat (first | exact trivial | refine ⟨rfl, ?_⟩))⟩
      · have hge : i = v.dict.length := by simp at hlt; omega
        rw [hge, List.drop_length] at hd
        ((conv => whnf); repeat (refine SeqW.go ?_; conv => whnf))
        exact ⟨by rw [hd]; rfl, rfl⟩
theorem check_calls' (v : Val) (a : Int) (hb : bulkV v ≤ 16777216) (h0 : 0 ≤ a) (h1 : a ≤ 32) : PureA Try.prog 19 [valC v, .d (.i .i64 a)] (.d (.i .i64 (walkV v a))) := by
  have := check_calls _ v a (Nat.le_refl _) hb h0 h1
  rwa [valP_eq] at this
theorem valid_calls (v : Val) (hb : bulkV v ≤ 16777216) : PureA Try.prog 12 [valC v] (.d (.i .i64 (walkV v 0))) := by
  refine callsW_of 0 Try.call12 Try.func12 (c := _) rfl (by kernel_rfl) (Nat.le_of_ble_eq_true rfl) (Nat.le_refl 0) ?_
  ((conv => whnf); repeat (refine SeqW.go ?_; conv => whnf))
  refine callP (check_calls' v 0 hb (by omega) (by omega)) rfl rfl fun _ => ?_
  ((conv => whnf); repeat (refine SeqW.go ?_; conv => whnf))
  repeat (first | (refine Br.t ?_; conv => whnf) | (refine Cd.mk (by omega) ?_; conv => whnf) | (refine Br.f ?_; conv => whnf) | (refine SeqW.go ?_; conv => whnf))
  exact ⟨rfl, rfl⟩

theorem law_valids (v : Val) (hv : bulkV v ≤ 16777216) : CallsA Try.prog 4 [valP v] [] YesR := by
  rw [valP_eq]
  refine callsW_of 0 Try.call4 Try.func4 (c := _) rfl (by kernel_rfl) (Nat.le_of_ble_eq_true rfl) (Nat.le_refl 0) ?_
  ((conv => whnf); repeat (refine SeqW.go ?_; conv => whnf))
  refine callSome (farValue_calls' v hv) rfl fun x => ?_
  ((conv => whnf); repeat (refine SeqW.go ?_; conv => whnf))
  refine Br.mk (fun h => ?_) (fun h => ?_)
  · ((conv => whnf); repeat (refine SeqW.go ?_; conv => whnf))
    repeat (first | (refine Br.t ?_; conv => whnf) | (refine Cd.mk (by omega) ?_; conv => whnf) | (refine Br.f ?_; conv => whnf) | (refine SeqW.go ?_; conv => whnf))
    exact ⟨rfl, rfl⟩
  ((conv => whnf); repeat (refine SeqW.go ?_; conv => whnf))
  repeat (first | (refine Br.t ?_; conv => whnf) | (refine Cd.mk (by omega) ?_; conv => whnf) | (refine Br.f ?_; conv => whnf) | (refine SeqW.go ?_; conv => whnf))
  refine callP (copy_calls' v hv) rfl rfl fun _ => ?_
  ((conv => whnf); repeat (refine SeqW.go ?_; conv => whnf))
  repeat (first | (refine Br.t ?_; conv => whnf) | (refine Cd.mk (by omega) ?_; conv => whnf) | (refine Br.f ?_; conv => whnf) | (refine SeqW.go ?_; conv => whnf))
  refine callP (valid_calls v hv) rfl rfl fun _ => ?_
  ((conv => whnf); repeat (refine SeqW.go ?_; conv => whnf))
  repeat (first | (refine Br.t ?_; conv => whnf) | (refine Cd.mk (by omega) ?_; conv => whnf) | (refine Br.f ?_; conv => whnf) | (refine SeqW.go ?_; conv => whnf))
  refine callP (refValid_calls v hv) rfl rfl fun _ => ?_
  ((conv => whnf); repeat (refine SeqW.go ?_; conv => whnf))
  repeat (first | (refine Br.t ?_; conv => whnf) | (refine Cd.mk (by omega) ?_; conv => whnf) | (refine Br.f ?_; conv => whnf) | (refine SeqW.go ?_; conv => whnf))
  refine Br.mk (fun _ => ?_) (fun h => absurd h (by simp))
  ((conv => whnf); repeat (refine SeqW.go ?_; conv => whnf))
  repeat (first | (refine Br.t ?_; conv => whnf) | (refine Cd.mk (by omega) ?_; conv => whnf) | (refine Br.f ?_; conv => whnf) | (refine SeqW.go ?_; conv => whnf))
  refine callP (same_calls' v v hv hv) rfl rfl fun _ => ?_
  ((conv => whnf); repeat (refine SeqW.go ?_; conv => whnf))
  repeat (first | (refine Br.t ?_; conv => whnf) | (refine Cd.mk (by omega) ?_; conv => whnf) | (refine Br.f ?_; conv => whnf) | (refine SeqW.go ?_; conv => whnf))
  exact ⟨by simp [eqV], rfl⟩
end Go.Aw
