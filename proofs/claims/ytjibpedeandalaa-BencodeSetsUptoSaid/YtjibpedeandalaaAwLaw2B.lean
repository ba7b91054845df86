/- Layer 2's laws: same, and the program's Equal. -/
import Derived.Test.YtjibpedeandalaaAwRef2B
set_option linter.unusedVariables false
set_option linter.unusedSimpArgs false
namespace Go.Aw
open Go.Proofs
set_option maxRecDepth 100000
theorem same_calls : ∀ (n : Nat) (a b : Val), bulkV a ≤ n → bulkV a ≤ 16777216 → bulkV b ≤ 16777216 → PureA Try.prog 11 [valP a, valP b] (.d (.b (eqV a b))) := by
  intro n
  induction n with
  | zero => intro a b h; have := bulkV_eq a; omega
  | succ n ih =>
    intro a b hn ha hb
    have hsa := bulkV_sizes a
    have hsb := bulkV_sizes b
    rw [valP_eq, valP_eq]
    refine callsW_of 0 Try.call11 Try.func11 (c := _) rfl (by kernel_rfl) (Nat.le_of_ble_eq_true rfl) (Nat.le_refl 0) ?_
    ((conv => whnf); repeat (refine SeqW.go ?_; conv => whnf))
    refine Br.mk (fun h => ?_) (fun h => ?_)
    · ((conv => whnf); repeat (refine SeqW.go ?_; conv => whnf))
      repeat (first | (refine Br.t ?_; conv => whnf) | (refine Cd.mk (by omega) ?_; conv => whnf) | (refine Br.f ?_; conv => whnf) | (refine SeqW.go ?_; conv => whnf))
      exact ⟨by rw [eqV_false (fun e => by subst e; simp at h)], rfl⟩
    have hk : a.kind = b.kind := by simpa using h
    clear h
    ((conv => whnf); repeat (refine SeqW.go ?_; conv => whnf))
    repeat (first | (refine Br.t ?_; conv => whnf) | (refine Cd.mk (by omega) ?_; conv => whnf) | (refine Br.f ?_; conv => whnf) | (refine SeqW.go ?_; conv => whnf))
    refine Br.mk (fun h => ?_) (fun h => ?_)
    · ((conv => whnf); repeat (refine SeqW.go ?_; conv => whnf))
      repeat (first | (refine Br.t ?_; conv => whnf) | (refine Cd.mk (by omega) ?_; conv => whnf) | (refine Br.f ?_; conv => whnf) | (refine SeqW.go ?_; conv => whnf))
      exact ⟨by rw [eqV_false (fun e => by subst e; simp at h)], rfl⟩
    have hi : a.int = b.int := by simpa using h
    clear h
    ((conv => whnf); repeat (refine SeqW.go ?_; conv => whnf))
    repeat (first | (refine Br.t ?_; conv => whnf) | (refine Cd.mk (by omega) ?_; conv => whnf) | (refine Br.f ?_; conv => whnf) | (refine SeqW.go ?_; conv => whnf))
    refine Br.mk (fun h => ?_) (fun h => ?_)
    · ((conv => whnf); repeat (refine SeqW.go ?_; conv => whnf))
      repeat (first | (refine Br.t ?_; conv => whnf) | (refine Cd.mk (by omega) ?_; conv => whnf) | (refine Br.f ?_; conv => whnf) | (refine SeqW.go ?_; conv => whnf))
      exact ⟨by rw [eqV_false (fun e => by subst e; simp at h)], rfl⟩
    have hs : a.str = b.str := by rw [ba_beq] at h; simpa using h
    clear h
    ((conv => whnf); repeat (refine SeqW.go ?_; conv => whnf))
    repeat (first | (refine Br.t ?_; conv => whnf) | (refine Cd.mk (by omega) ?_; conv => whnf) | (refine Br.f ?_; conv => whnf) | (refine SeqW.go ?_; conv => whnf))
    refine Br.mk (fun h => ?_) (fun h => ?_)
    · ((conv => whnf); repeat (refine SeqW.go ?_; conv => whnf))
      repeat (first | (refine Br.t ?_; conv => whnf) | (refine Cd.mk (by omega) ?_; conv => whnf) | (refine Br.f ?_; conv => whnf) | (refine SeqW.go ?_; conv => whnf))
      exact ⟨by rw [eqV_false (fun e => by subst e; simp at h)], rfl⟩
    have hl : a.list.length = b.list.length := by simp at h; omega
    clear h
    ((conv => whnf); repeat (refine SeqW.go ?_; conv => whnf))
    repeat (first | (refine Br.t ?_; conv => whnf) | (refine Cd.mk (by omega) ?_; conv => whnf) | (refine Br.f ?_; conv => whnf) | (refine SeqW.go ?_; conv => whnf))
    refine Br.mk (fun h => ?_) (fun h => ?_)
    · ((conv => whnf); repeat (refine SeqW.go ?_; conv => whnf))
      repeat (first | (refine Br.t ?_; conv => whnf) | (refine Cd.mk (by omega) ?_; conv => whnf) | (refine Br.f ?_; conv => whnf) | (refine SeqW.go ?_; conv => whnf))
      exact ⟨by rw [eqV_false (fun e => by subst e; simp at h)], rfl⟩
    have hd : a.dict.length = b.dict.length := by simp at h; omega
    clear h
    ((conv => whnf); repeat (refine SeqW.go ?_; conv => whnf))
    repeat (first | (refine Br.t ?_; conv => whnf) | (refine Cd.mk (by omega) ?_; conv => whnf) | (refine Br.f ?_; conv => whnf) | (refine SeqW.go ?_; conv => whnf))
    refine loopW (by kernel_rfl) (γ := Nat) (fun i => i ≤ a.list.length ∧ a.list.take i = b.list.take i) (fun i => [(2, .ptr 0 0), (3, .ptr 1 0), (5, .d (.i .i64 i))])
      (fun _ => [.box [.d (.i .i64 a.kind), .d (.i .i64 a.int), .d (.s a.str), .d (.sl (rowsV a.list)), .d (.sl (rowsP a.dict))], .box [.d (.i .i64 b.kind), .d (.i .i64 b.int), .d (.s b.str), .d (.sl (rowsV b.list)), .d (.sl (rowsP b.dict))]])
      (fun i => a.list.length - i) (fun i _ => ⟨Nat.zero_le _, rfl⟩) 0 ⟨Nat.zero_le _, rfl⟩ ⟨[], rfl⟩ ⟨rfl, rfl, rfl, rfl, rfl, rfl, trivial⟩ ?_
    rintro i ⟨hle, htake⟩
    ((conv => whnf); repeat (refine SeqW.go ?_; conv => whnf))
    refine Br.mk (fun h => ?_) (fun h => ?_)
    · have hlt : i < a.list.length := by simpa using h
      have hlt' : i < b.list.length := hl ▸ hlt
      ((conv => whnf); repeat (refine SeqW.go ?_; conv => whnf))
      refine drawW [] mixed (by kernel_rfl) (by kernel_rfl) ?_
      ((conv => whnf); repeat (refine SeqW.go ?_; conv => whnf))
      refine ⟨⟨rowsV_all _, by omega, by simpa using hlt⟩, ?_⟩
      rw [show (i : Int).toNat = i from rfl, rowsV_get hlt]
      ((conv => whnf); repeat (refine SeqW.go ?_; conv => whnf))
      refine ⟨by simp, ?_⟩
      rw [valP_take]
      ((conv => whnf); repeat (refine SeqW.go ?_; conv => whnf))
      refine ⟨⟨rowsV_all _, by omega, by simpa using hlt'⟩, ?_⟩
      rw [show (i : Int).toNat = i from rfl, rowsV_get hlt']
      ((conv => whnf); repeat (refine SeqW.go ?_; conv => whnf))
      refine ⟨by simp, ?_⟩
      rw [valP_take]
      ((conv => whnf); repeat (refine SeqW.go ?_; conv => whnf))
      refine callF (ih _ _ ?_ ?_ ?_) (by simp [scBs, scB]) rfl ?_
      · have := bulkV_list (List.getElem_mem hlt); omega
      · have := bulkV_list (List.getElem_mem hlt); omega
      · have := bulkV_list (List.getElem_mem hlt'); omega
      ((conv => whnf); repeat (refine SeqW.go ?_; conv => whnf))
      refine Br.mk (fun h => ?_) (fun h => ?_)
      · have hne : ¬ a.list[i] = b.list[i] := by simpa [eqV_not] using h
        ((conv => whnf); repeat (refine SeqW.go ?_; conv => whnf))
        exact ⟨by rw [eqV_false (fun e => hne (by subst e; rfl))], rfl⟩
      · have he : a.list[i] = b.list[i] := by simpa [eqV_iff] using h
        ((conv => whnf); repeat (refine SeqW.go ?_; conv => whnf))
        refine ⟨i + 1, ⟨hlt, take_same hlt hlt' htake he⟩, by omega, ⟨[], rfl⟩, ⟨rfl, rfl, rfl, rfl, ?_, rfl, trivial⟩⟩
        show PV.d (.i .i64 (IntKind.wrap .i64 (i + 1))) = _
        rw [wrap_i64 (by omega) (by omega)]; rfl
    have hlist : a.list = b.list := by
      have : i = a.list.length := by simp at h; omega
      rw [this, List.take_length, hl, List.take_length] at htake
      exact htake
    clear h htake hle
    ((conv => whnf); repeat (refine SeqW.go ?_; conv => whnf))
    refine loopW (by kernel_rfl) (γ := Nat) (fun i => i ≤ a.dict.length ∧ a.dict.take i = b.dict.take i) (fun i => [(2, .ptr 0 0), (3, .ptr 1 0), (7, .d (.i .i64 i))])
      (fun _ => [.box [.d (.i .i64 a.kind), .d (.i .i64 a.int), .d (.s a.str), .d (.sl (rowsV a.list)), .d (.sl (rowsP a.dict))], .box [.d (.i .i64 b.kind), .d (.i .i64 b.int), .d (.s b.str), .d (.sl (rowsV b.list)), .d (.sl (rowsP b.dict))]])
      (fun i => a.dict.length - i) (fun i _ => ⟨Nat.zero_le _, rfl⟩) 0 ⟨Nat.zero_le _, rfl⟩ ⟨[], rfl⟩ ⟨rfl, rfl, rfl, rfl, rfl, rfl, trivial⟩ ?_
    rintro i ⟨hle, htake⟩
    ((conv => whnf); repeat (refine SeqW.go ?_; conv => whnf))
    refine Br.mk (fun h => ?_) (fun h => ?_)
    · have hlt : i < a.dict.length := by simpa using h
      have hlt' : i < b.dict.length := hd ▸ hlt
      ((conv => whnf); repeat (refine SeqW.go ?_; conv => whnf))
      refine drawW [] mixed (by kernel_rfl) (by kernel_rfl) ?_
      ((conv => whnf); repeat (refine SeqW.go ?_; conv => whnf))
      refine ⟨⟨rowsP_all _, by omega, by simpa using hlt⟩, ?_⟩
      rw [show (i : Int).toNat = i from rfl, rowsP_get hlt]
      ((conv => whnf); repeat (refine SeqW.go ?_; conv => whnf))
      refine ⟨⟨rowsP_all _, by omega, by simpa using hlt'⟩, ?_⟩
      rw [show (i : Int).toNat = i from rfl, rowsP_get hlt']
      ((conv => whnf); repeat (refine SeqW.go ?_; conv => whnf))
      refine Br.mk (fun h => ?_) (fun h => ?_)
      · have hne : ¬ a.dict[i].1 = b.dict[i].1 := by rw [ba_beq] at h; simpa using h
        ((conv => whnf); repeat (refine SeqW.go ?_; conv => whnf))
        exact ⟨by rw [eqV_false (fun e => hne (by subst e; rfl))], rfl⟩
      have hkey : a.dict[i].1 = b.dict[i].1 := by rw [ba_beq] at h; simpa using h
      clear h
      ((conv => whnf); repeat (refine SeqW.go ?_; conv => whnf))
      refine drawW [] mixed (by kernel_rfl) (by kernel_rfl) ?_
      ((conv => whnf); repeat (refine SeqW.go ?_; conv => whnf))
      refine ⟨⟨rowsP_all _, by omega, by simpa using hlt⟩, ?_⟩
      rw [show (i : Int).toNat = i from rfl, rowsP_get hlt]
      ((conv => whnf); repeat (refine SeqW.go ?_; conv => whnf))
      refine ⟨by simp, ?_⟩
      rw [show PV.agg (List.map PV.d (List.take 5 (List.drop 1 (D.s a.dict[i].1 :: cellsV a.dict[i].2)))) = valP a.dict[i].2 from valP_take _]
      ((conv => whnf); repeat (refine SeqW.go ?_; conv => whnf))
      refine ⟨⟨rowsP_all _, by omega, by simpa using hlt'⟩, ?_⟩
      rw [show (i : Int).toNat = i from rfl, rowsP_get hlt']
      ((conv => whnf); repeat (refine SeqW.go ?_; conv => whnf))
      refine ⟨by simp, ?_⟩
      rw [show PV.agg (List.map PV.d (List.take 5 (List.drop 1 (D.s b.dict[i].1 :: cellsV b.dict[i].2)))) = valP b.dict[i].2 from valP_take _]
      ((conv => whnf); repeat (refine SeqW.go ?_; conv => whnf))
      refine callF (ih _ _ ?_ ?_ ?_) (by simp [scBs, scB]) rfl ?_
      · have := bulkV_dict (List.getElem_mem hlt); omega
      · have := bulkV_dict (List.getElem_mem hlt); omega
      · have := bulkV_dict (List.getElem_mem hlt'); omega
      ((conv => whnf); repeat (refine SeqW.go ?_; conv => whnf))
      refine Br.mk (fun h => ?_) (fun h => ?_)
      · have hne : ¬ a.dict[i].2 = b.dict[i].2 := by simpa [eqV_not] using h
        ((conv => whnf); repeat (refine SeqW.go ?_; conv => whnf))
        exact ⟨by rw [eqV_false (fun e => hne (by subst e; rfl))], rfl⟩
      · have he : a.dict[i].2 = b.dict[i].2 := by simpa [eqV_iff] using h
        ((conv => whnf); repeat (refine SeqW.go ?_; conv => whnf))
        refine ⟨i + 1, ⟨hlt, take_same hlt hlt' htake (Prod.ext hkey he)⟩, by omega, ⟨[], rfl⟩, ⟨rfl, rfl, rfl, rfl, ?_, rfl, trivial⟩⟩
        show PV.d (.i .i64 (IntKind.wrap .i64 (i + 1))) = _
        rw [wrap_i64 (by omega) (by omega)]; rfl
    have hdict : a.dict = b.dict := by
      have : i = a.dict.length := by simp at h; omega
      rw [this, List.take_length, hd, List.take_length] at htake
      exact htake
    ((conv => whnf); repeat (refine SeqW.go ?_; conv => whnf))
    exact ⟨by rw [eqV_true (Val.ext' hk hi hs hlist hdict)], rfl⟩


theorem bequal_calls : ∀ (n : Nat) (a b : Val), bulkV a ≤ n → bulkV a ≤ 16777216 → bulkV b ≤ 16777216 → PureA Try.prog 9 [valP a, valP b] (.d (.b (eqV a b))) := by
  intro n
  induction n with
  | zero => intro a b h; have := bulkV_eq a; omega
  | succ n ih =>
    intro a b hn ha hb
    have hsa := bulkV_sizes a
    have hsb := bulkV_sizes b
    rw [valP_eq, valP_eq]
    refine callsW_of 0 Try.call9 Try.func9 (c := _) rfl (by kernel_rfl) (Nat.le_of_ble_eq_true rfl) (Nat.le_refl 0) ?_
    ((conv => whnf); repeat (refine SeqW.go ?_; conv => whnf))
    refine Br.mk (fun h => ?_) (fun h => ?_)
    · ((conv => whnf); repeat (refine SeqW.go ?_; conv => whnf))
      repeat (first | (refine Br.t ?_; conv => whnf) | (refine Cd.mk (by omega) ?_; conv => whnf) | (refine Br.f ?_; conv => whnf) | (refine SeqW.go ?_; conv => whnf))
      exact ⟨by rw [eqV_false (fun e => by subst e; simp at h)], rfl⟩
    have hk : a.kind = b.kind := by simpa using h
    clear h
    ((conv => whnf); repeat (refine SeqW.go ?_; conv => whnf))
    repeat (first | (refine Br.t ?_; conv => whnf) | (refine Cd.mk (by omega) ?_; conv => whnf) | (refine Br.f ?_; conv => whnf) | (refine SeqW.go ?_; conv => whnf))
    refine Br.mk (fun h => ?_) (fun h => ?_)
    · ((conv => whnf); repeat (refine SeqW.go ?_; conv => whnf))
      repeat (first | (refine Br.t ?_; conv => whnf) | (refine Cd.mk (by omega) ?_; conv => whnf) | (refine Br.f ?_; conv => whnf) | (refine SeqW.go ?_; conv => whnf))
      exact ⟨by rw [eqV_false (fun e => by subst e; simp at h)], rfl⟩
    have hi : a.int = b.int := by simpa using h
    clear h
    ((conv => whnf); repeat (refine SeqW.go ?_; conv => whnf))
    repeat (first | (refine Br.t ?_; conv => whnf) | (refine Cd.mk (by omega) ?_; conv => whnf) | (refine Br.f ?_; conv => whnf) | (refine SeqW.go ?_; conv => whnf))
    refine Br.mk (fun h => ?_) (fun h => ?_)
    · ((conv => whnf); repeat (refine SeqW.go ?_; conv => whnf))
      repeat (first | (refine Br.t ?_; conv => whnf) | (refine Cd.mk (by omega) ?_; conv => whnf) | (refine Br.f ?_; conv => whnf) | (refine SeqW.go ?_; conv => whnf))
      exact ⟨by rw [eqV_false (fun e => by subst e; simp at h)], rfl⟩
    have hs : a.str = b.str := by rw [ba_beq] at h; simpa using h
    clear h
    ((conv => whnf); repeat (refine SeqW.go ?_; conv => whnf))
    repeat (first | (refine Br.t ?_; conv => whnf) | (refine Cd.mk (by omega) ?_; conv => whnf) | (refine Br.f ?_; conv => whnf) | (refine SeqW.go ?_; conv => whnf))
    refine Br.mk (fun h => ?_) (fun h => ?_)
    · ((conv => whnf); repeat (refine SeqW.go ?_; conv => whnf))
      repeat (first | (refine Br.t ?_; conv => whnf) | (refine Cd.mk (by omega) ?_; conv => whnf) | (refine Br.f ?_; conv => whnf) | (refine SeqW.go ?_; conv => whnf))
      exact ⟨by rw [eqV_false (fun e => by subst e; simp at h)], rfl⟩
    have hl : a.list.length = b.list.length := by simp at h; omega
    clear h
    ((conv => whnf); repeat (refine SeqW.go ?_; conv => whnf))
    repeat (first | (refine Br.t ?_; conv => whnf) | (refine Cd.mk (by omega) ?_; conv => whnf) | (refine Br.f ?_; conv => whnf) | (refine SeqW.go ?_; conv => whnf))
    refine Br.mk (fun h => ?_) (fun h => ?_)
    · ((conv => whnf); repeat (refine SeqW.go ?_; conv => whnf))
      repeat (first | (refine Br.t ?_; conv => whnf) | (refine Cd.mk (by omega) ?_; conv => whnf) | (refine Br.f ?_; conv => whnf) | (refine SeqW.go ?_; conv => whnf))
      exact ⟨by rw [eqV_false (fun e => by subst e; simp at h)], rfl⟩
    have hd : a.dict.length = b.dict.length := by simp at h; omega
    clear h
    ((conv => whnf); repeat (refine SeqW.go ?_; conv => whnf))
    repeat (first | (refine Br.t ?_; conv => whnf) | (refine Cd.mk (by omega) ?_; conv => whnf) | (refine Br.f ?_; conv => whnf) | (refine SeqW.go ?_; conv => whnf))
    refine loopW (by kernel_rfl) (γ := Nat) (fun i => i ≤ a.list.length ∧ a.list.take i = b.list.take i) (fun i => [(2, .ptr 0 0), (3, .ptr 1 0), (44, .d (.i .i64 (rowsV a.list).length)), (45, .d (.i .i64 i))])
      (fun _ => [.box [.d (.i .i64 a.kind), .d (.i .i64 a.int), .d (.s a.str), .d (.sl (rowsV a.list)), .d (.sl (rowsP a.dict))], .box [.d (.i .i64 b.kind), .d (.i .i64 b.int), .d (.s b.str), .d (.sl (rowsV b.list)), .d (.sl (rowsP b.dict))]])
      (fun i => a.list.length - i) (fun i _ => ⟨Nat.zero_le _, rfl⟩) 0 ⟨Nat.zero_le _, rfl⟩ ⟨[], rfl⟩ ⟨rfl, rfl, rfl, rfl, rfl, rfl, rfl, rfl, trivial⟩ ?_
    rintro i ⟨hle, htake⟩
    ((conv => whnf); repeat (refine SeqW.go ?_; conv => whnf))
    refine Br.mk (fun h => ?_) (fun h => ?_)
    · have hlt : i < a.list.length := by simpa using h
      have hlt' : i < b.list.length := hl ▸ hlt
      ((conv => whnf); repeat (refine SeqW.go ?_; conv => whnf))
      refine drawW [] mixed (by kernel_rfl) (by kernel_rfl) ?_
      ((conv => whnf); repeat (refine SeqW.go ?_; conv => whnf))
      refine ⟨⟨rowsV_all _, by omega, by simpa using hlt⟩, ?_⟩
      rw [show (i : Int).toNat = i from rfl, rowsV_get hlt]
      ((conv => whnf); repeat (refine SeqW.go ?_; conv => whnf))
      refine ⟨by simp, ?_⟩
      rw [valP_take]
      ((conv => whnf); repeat (refine SeqW.go ?_; conv => whnf))
      refine ⟨⟨rowsV_all _, by omega, by simpa using hlt'⟩, ?_⟩
      rw [show (i : Int).toNat = i from rfl, rowsV_get hlt']
      ((conv => whnf); repeat (refine SeqW.go ?_; conv => whnf))
      refine ⟨by simp, ?_⟩
      rw [valP_take]
      ((conv => whnf); repeat (refine SeqW.go ?_; conv => whnf))
      refine callF (ih _ _ ?_ ?_ ?_) (by simp [scBs, scB]) rfl ?_
      · have := bulkV_list (List.getElem_mem hlt); omega
      · have := bulkV_list (List.getElem_mem hlt); omega
      · have := bulkV_list (List.getElem_mem hlt'); omega
      ((conv => whnf); repeat (refine SeqW.go ?_; conv => whnf))
      refine Br.mk (fun h => ?_) (fun h => ?_)
      · have hne : ¬ a.list[i] = b.list[i] := by simpa [eqV_not] using h
        ((conv => whnf); repeat (refine SeqW.go ?_; conv => whnf))
        exact ⟨by rw [eqV_false (fun e => hne (by subst e; rfl))], rfl⟩
      · have he : a.list[i] = b.list[i] := by simpa [eqV_iff] using h
        ((conv => whnf); repeat (refine SeqW.go ?_; conv => whnf))
        refine ⟨i + 1, ⟨hlt, take_same hlt hlt' htake he⟩, by omega, ⟨[], rfl⟩, ⟨rfl, rfl, rfl, rfl, rfl, rfl, ?_, rfl, trivial⟩⟩
        show PV.d (.i .i64 (IntKind.wrap .i64 (i + 1))) = _
        rw [wrap_i64 (by omega) (by omega)]; rfl
    have hlist : a.list = b.list := by
      have : i = a.list.length := by simp at h; omega
      rw [this, List.take_length, hl, List.take_length] at htake
      exact htake
    clear h htake hle
    ((conv => whnf); repeat (refine SeqW.go ?_; conv => whnf))
    refine loopW (by kernel_rfl) (γ := Nat) (fun i => i ≤ a.dict.length ∧ a.dict.take i = b.dict.take i) (fun i => [(2, .ptr 0 0), (3, .ptr 1 0), (63, .d (.i .i64 (rowsP a.dict).length)), (64, .d (.i .i64 i))])
      (fun _ => [.box [.d (.i .i64 a.kind), .d (.i .i64 a.int), .d (.s a.str), .d (.sl (rowsV a.list)), .d (.sl (rowsP a.dict))], .box [.d (.i .i64 b.kind), .d (.i .i64 b.int), .d (.s b.str), .d (.sl (rowsV b.list)), .d (.sl (rowsP b.dict))]])
      (fun i => a.dict.length - i) (fun i _ => ⟨Nat.zero_le _, rfl⟩) 0 ⟨Nat.zero_le _, rfl⟩ ⟨[], rfl⟩ ⟨rfl, rfl, rfl, rfl, rfl, rfl, rfl, rfl, trivial⟩ ?_
    rintro i ⟨hle, htake⟩
    ((conv => whnf); repeat (refine SeqW.go ?_; conv => whnf))
    refine Br.mk (fun h => ?_) (fun h => ?_)
    · have hlt : i < a.dict.length := by simpa using h
      have hlt' : i < b.dict.length := hd ▸ hlt
      ((conv => whnf); repeat (refine SeqW.go ?_; conv => whnf))
      refine drawW [] mixed (by kernel_rfl) (by kernel_rfl) ?_
      ((conv => whnf); repeat (refine SeqW.go ?_; conv => whnf))
      refine ⟨⟨rowsP_all _, by omega, by simpa using hlt⟩, ?_⟩
      rw [show (i : Int).toNat = i from rfl, rowsP_get hlt]
      ((conv => whnf); repeat (refine SeqW.go ?_; conv => whnf))
      refine ⟨⟨rowsP_all _, by omega, by simpa using hlt'⟩, ?_⟩
      rw [show (i : Int).toNat = i from rfl, rowsP_get hlt']
      ((conv => whnf); repeat (refine SeqW.go ?_; conv => whnf))
      refine Br.mk (fun h => ?_) (fun h => ?_)
      · have hne : ¬ a.dict[i].1 = b.dict[i].1 := by rw [ba_beq] at h; simpa using h
        ((conv => whnf); repeat (refine SeqW.go ?_; conv => whnf))
        repeat (first | (refine Br.t ?_; conv => whnf) | (refine Cd.mk (by omega) ?_; conv => whnf) | (refine Br.f ?_; conv => whnf) | (refine SeqW.go ?_; conv => whnf))
        exact ⟨by rw [eqV_false (fun e => hne (by subst e; rfl))], rfl⟩
      have hkey : a.dict[i].1 = b.dict[i].1 := by rw [ba_beq] at h; simpa using h
      clear h
      ((conv => whnf); repeat (refine SeqW.go ?_; conv => whnf))
      repeat (first | (refine Br.t ?_; conv => whnf) | (refine Cd.mk (by omega) ?_; conv => whnf) | (refine Br.f ?_; conv => whnf) | (refine SeqW.go ?_; conv => whnf))
      refine ⟨⟨rowsP_all _, by omega, by simpa using hlt⟩, ?_⟩
      rw [show (i : Int).toNat = i from rfl, rowsP_get hlt]
      ((conv => whnf); repeat (refine SeqW.go ?_; conv => whnf))
      repeat (first | (refine Br.t ?_; conv => whnf) | (refine Cd.mk (by omega) ?_; conv => whnf) | (refine Br.f ?_; conv => whnf) | (refine SeqW.go ?_; conv => whnf))
      refine ⟨by simp, ?_⟩
      rw [show PV.agg (List.map PV.d (List.take 5 (List.drop 1 (D.s a.dict[i].1 :: cellsV a.dict[i].2)))) = valP a.dict[i].2 from valP_take _]
      ((conv => whnf); repeat (refine SeqW.go ?_; conv => whnf))
      repeat (first | (refine Br.t ?_; conv => whnf) | (refine Cd.mk (by omega) ?_; conv => whnf) | (refine Br.f ?_; conv => whnf) | (refine SeqW.go ?_; conv => whnf))
      refine ⟨⟨rowsP_all _, by omega, by simpa using hlt'⟩, ?_⟩
      rw [show (i : Int).toNat = i from rfl, rowsP_get hlt']
      ((conv => whnf); repeat (refine SeqW.go ?_; conv => whnf))
      repeat (first | (refine Br.t ?_; conv => whnf) | (refine Cd.mk (by omega) ?_; conv => whnf) | (refine Br.f ?_; conv => whnf) | (refine SeqW.go ?_; conv => whnf))
      refine ⟨by simp, ?_⟩
      rw [show PV.agg (List.map PV.d (List.take 5 (List.drop 1 (D.s b.dict[i].1 :: cellsV b.dict[i].2)))) = valP b.dict[i].2 from valP_take _]
      ((conv => whnf); repeat (refine SeqW.go ?_; conv => whnf))
      repeat (first | (refine Br.t ?_; conv => whnf) | (refine Cd.mk (by omega) ?_; conv => whnf) | (refine Br.f ?_; conv => whnf) | (refine SeqW.go ?_; conv => whnf))
      refine callF (ih _ _ ?_ ?_ ?_) (by simp [scBs, scB]) rfl ?_
      · have := bulkV_dict (List.getElem_mem hlt); omega
      · have := bulkV_dict (List.getElem_mem hlt); omega
      · have := bulkV_dict (List.getElem_mem hlt'); omega
      ((conv => whnf); repeat (refine SeqW.go ?_; conv => whnf))
      repeat (first | (refine Br.t ?_; conv => whnf) | (refine Cd.mk (by omega) ?_; conv => whnf) | (refine Br.f ?_; conv => whnf) | (refine SeqW.go ?_; conv => whnf))
      refine Br.mk (fun h => ?_) (fun h => ?_)
      · have hne : ¬ a.dict[i].2 = b.dict[i].2 := by simpa [eqV_not] using h
        ((conv => whnf); repeat (refine SeqW.go ?_; conv => whnf))
        exact ⟨by rw [eqV_false (fun e => hne (by subst e; rfl))], rfl⟩
      · have he : a.dict[i].2 = b.dict[i].2 := by simpa [eqV_iff] using h
        ((conv => whnf); repeat (refine SeqW.go ?_; conv => whnf))
        refine ⟨i + 1, ⟨hlt, take_same hlt hlt' htake (Prod.ext hkey he)⟩, by omega, ⟨[], rfl⟩, ⟨rfl, rfl, rfl, rfl, rfl, rfl, ?_, rfl, trivial⟩⟩
        show PV.d (.i .i64 (IntKind.wrap .i64 (i + 1))) = _
        rw [wrap_i64 (by omega) (by omega)]; rfl
    have hdict : a.dict = b.dict := by
      have : i = a.dict.length := by simp at h; omega
      rw [this, List.take_length, hd, List.take_length] at htake
      exact htake
    ((conv => whnf); repeat (refine SeqW.go ?_; conv => whnf))
    exact ⟨by rw [eqV_true (Val.ext' hk hi hs hlist hdict)], rfl⟩

theorem same_calls' (a b : Val) (ha : bulkV a ≤ 16777216) (hb : bulkV b ≤ 16777216) : PureA Try.prog 11 [valC a, valC b] (.d (.b (eqV a b))) := by
  have := same_calls _ a b (Nat.le_refl _) ha hb
  rwa [valP_eq, valP_eq] at this
theorem bequal_calls' (a b : Val) (ha : bulkV a ≤ 16777216) (hb : bulkV b ≤ 16777216) : PureA Try.prog 9 [valC a, valC b] (.d (.b (eqV a b))) := by
  have := bequal_calls _ a b (Nat.le_refl _) ha hb
  rwa [valP_eq, valP_eq] at this
theorem law_equals (a b : Val) (ha : bulkV a ≤ 16777216) (hb : bulkV b ≤ 16777216) : CallsA Try.prog 3 [valP a, valP b] [] YesR := by
  rw [valP_eq, valP_eq]
  refine callsW_of 0 Try.call3 Try.func3 (c := _) rfl (by kernel_rfl) (Nat.le_of_ble_eq_true rfl) (Nat.le_refl 0) ?_
  ((conv => whnf); repeat (refine SeqW.go ?_; conv => whnf))
  refine callSome (farValue_calls' a ha) rfl fun x => ?_
  ((conv => whnf); repeat (refine SeqW.go ?_; conv => whnf))
  refine Br.mk (fun h => ?_) (fun h => ?_)
  · ((conv => whnf); repeat (refine SeqW.go ?_; conv => whnf))
    repeat (first | (refine Br.t ?_; conv => whnf) | (refine Cd.mk (by omega) ?_; conv => whnf) | (refine Br.f ?_; conv => whnf) | (refine SeqW.go ?_; conv => whnf))
    exact ⟨rfl, rfl⟩
  ((conv => whnf); repeat (refine SeqW.go ?_; conv => whnf))
  repeat (first | (refine Br.t ?_; conv => whnf) | (refine Cd.mk (by omega) ?_; conv => whnf) | (refine Br.f ?_; conv => whnf) | (refine SeqW.go ?_; conv => whnf))
  refine callSome (farValue_calls' b hb) rfl fun y => ?_
  ((conv => whnf); repeat (refine SeqW.go ?_; conv => whnf))
  repeat (first | (refine Br.t ?_; conv => whnf) | (refine Cd.mk (by omega) ?_; conv => whnf) | (refine Br.f ?_; conv => whnf) | (refine SeqW.go ?_; conv => whnf))
  refine Br.mk (fun h => ?_) (fun h => ?_)
  · ((conv => whnf); repeat (refine SeqW.go ?_; conv => whnf))
    repeat (first | (refine Br.t ?_; conv => whnf) | (refine Cd.mk (by omega) ?_; conv => whnf) | (refine Br.f ?_; conv => whnf) | (refine SeqW.go ?_; conv => whnf))
    exact ⟨rfl, rfl⟩
  ((conv => whnf); repeat (refine SeqW.go ?_; conv => whnf))
  repeat (first | (refine Br.t ?_; conv => whnf) | (refine Cd.mk (by omega) ?_; conv => whnf) | (refine Br.f ?_; conv => whnf) | (refine SeqW.go ?_; conv => whnf))
  refine callP (copy_calls' a ha) rfl rfl fun _ => ?_
  ((conv => whnf); repeat (refine SeqW.go ?_; conv => whnf))
  refine callP (copy_calls' b hb) rfl rfl fun _ => ?_
  ((conv => whnf); repeat (refine SeqW.go ?_; conv => whnf))
  refine callP (bequal_calls' a b ha hb) rfl rfl fun _ => ?_
  ((conv => whnf); repeat (refine SeqW.go ?_; conv => whnf))
  refine callP (equal_calls' a b ha hb) rfl rfl fun _ => ?_
  ((conv => whnf); repeat (refine SeqW.go ?_; conv => whnf))
  refine callP (bequal_calls' a a ha ha) rfl rfl fun _ => ?_
  ((conv => whnf); repeat (refine SeqW.go ?_; conv => whnf))
  refine Br.mk (fun _ => ?_) (fun h => absurd h (by simp))
  ((conv => whnf); repeat (refine SeqW.go ?_; conv => whnf))
  repeat (first | (refine Br.t ?_; conv => whnf) | (refine Cd.mk (by omega) ?_; conv => whnf) | (refine Br.f ?_; conv => whnf) | (refine SeqW.go ?_; conv => whnf))
  refine Br.mk (fun _ => ?_) (fun h => absurd h (by simp [eqV]))
  ((conv => whnf); repeat (refine SeqW.go ?_; conv => whnf))
  repeat (first | (refine Br.t ?_; conv => whnf) | (refine Cd.mk (by omega) ?_; conv => whnf) | (refine Br.f ?_; conv => whnf) | (refine SeqW.go ?_; conv => whnf))
  refine callP (same_calls' a a ha ha) rfl rfl fun _ => ?_
  ((conv => whnf); repeat (refine SeqW.go ?_; conv => whnf))
  repeat (first | (refine Br.t ?_; conv => whnf) | (refine Cd.mk (by omega) ?_; conv => whnf) | (refine Br.f ?_; conv => whnf) | (refine SeqW.go ?_; conv => whnf))
  refine Br.mk (fun _ => ?_) (fun h => absurd h (by simp [eqV]))
  ((conv => whnf); repeat (refine SeqW.go ?_; conv => whnf))
  repeat (first | (refine Br.t ?_; conv => whnf) | (refine Cd.mk (by omega) ?_; conv => whnf) | (refine Br.f ?_; conv => whnf) | (refine SeqW.go ?_; conv => whnf))
  refine callP (same_calls' b b hb hb) rfl rfl fun _ => ?_
  ((conv => whnf); repeat (refine SeqW.go ?_; conv => whnf))
  repeat (first | (refine Br.t ?_; conv => whnf) | (refine Cd.mk (by omega) ?_; conv => whnf) | (refine Br.f ?_; conv => whnf) | (refine SeqW.go ?_; conv => whnf))
  exact ⟨by simp [eqV], rfl⟩
end Go.Aw
