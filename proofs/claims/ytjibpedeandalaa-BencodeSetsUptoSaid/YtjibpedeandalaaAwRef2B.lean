/- The reference's Copy, Equal, FarValue, FarPairs. -/
import Derived.Test.YtjibpedeandalaaAwVal
import Derived.Test.YtjibpedeandalaaProg
set_option linter.unusedVariables false
set_option linter.unusedSimpArgs false
namespace Go.Aw
open Go.Proofs
theorem mixed : Try.prog.follows .mixedOrders = true := by kernel_rfl
set_option maxRecDepth 100000
theorem copy_calls : ∀ (n : Nat) (v : Val), bulkV v ≤ n → bulkV v ≤ 16777216 → PureA Try.prog 8 [valP v] (valC v) := by
  intro n
  induction n with
  | zero => intro v h; have := bulkV_eq v; omega
  | succ n ih =>
    intro v hn hb
    have hs := bulkV_sizes v
    rw [valP_eq]
    refine callsW_of 0 Try.call8 Try.func8 (c := _) rfl (by kernel_rfl) (Nat.le_of_ble_eq_true rfl) (Nat.le_refl 0) ?_
    ((conv => whnf); repeat (refine SeqW.go ?_; conv => whnf))
    refine loopN (.cell 2 3 5 rfl rfl .done) ?_
    refine loopW (by kernel_rfl) (γ := Nat) (fun i => i ≤ v.list.length) (fun i => [(1, .ptr 0 0), (2, .ptr 1 0), (3, .ptr 2 0), (4, .d (.i .i64 i))])
      (fun i => [.box [.d (.i .i64 v.kind), .d (.i .i64 v.int), .d (.s v.str), .d (.sl (rowsV v.list)), .d (.sl (rowsP v.dict))], .box [.d (.i .i64 0), .d (.i .i64 0), .d (.s ⟨#[]⟩), .nils, .nils],
        .box [.d (.i .i64 v.kind), .d (.i .i64 v.int), .d (.s v.str), .own 3 5 i, .nils], .buf (liftR (rowsV (v.list.take i)))]) (fun i => v.list.length - i) (fun i _ => ⟨Nat.zero_le _, by simp [sc_lift]; exact ⟨rfl, rfl, rfl⟩⟩) 0 (Nat.zero_le _)
      ⟨[], rfl⟩ ⟨rfl, rfl, rfl, rfl, rfl, rfl, rfl, rfl, trivial⟩ ?_
    intro i hi
    ((conv => whnf); repeat (refine SeqW.go ?_; conv => whnf))
    refine Br.mk (fun h => ?_) (fun h => ?_)
    · have hlt : i < v.list.length := by simpa using h
      ((conv => whnf); repeat (refine SeqW.go ?_; conv => whnf))
      refine ⟨⟨rowsV_all _, by omega, by simpa using hlt⟩, ?_⟩
      rw [show (i : Int).toNat = i from rfl, rowsV_get hlt]
      ((conv => whnf); repeat (refine SeqW.go ?_; conv => whnf))
      refine ⟨by simp, ?_⟩
      rw [valP_take]
      ((conv => whnf); repeat (refine SeqW.go ?_; conv => whnf))
      refine callP (ih _ ?_ ?_) (by simp [scBs, scB]) rfl fun _ => ?_
      · have := bulkV_list (List.getElem_mem hlt); omega
      · have := bulkV_list (List.getElem_mem hlt); omega
      ((conv => whnf); repeat (refine SeqW.go ?_; conv => whnf))
      refine Lit.data ?_
      ((conv => whnf); repeat (refine SeqW.go ?_; conv => whnf))
      refine ⟨⟨by simp [AllLen], by simp; omega, allLen_lift (rowsV_all _), by simp; omega, by simp; omega⟩, ?_⟩
      ((conv => whnf); repeat (refine SeqW.go ?_; conv => whnf))
      have e : liftR (rowsV (v.list.take (i + 1))) = liftR (rowsV (v.list.take i)) ++ liftR [cellsV v.list[i]] := by rw [rowsV_succ hlt]; simp
      rw [cellsV_eq] at e
      refine ⟨i + 1, hlt, by omega, ⟨?w, ?hs⟩, ⟨rfl, rfl, rfl, rfl, rfl, rfl, ?hn, rfl, trivial⟩⟩
      case hs => rw [e]; rfl
      case hn =>
        show PV.d (.i .i64 (IntKind.wrap .i64 (i + 1))) = _
        rw [wrap_i64 (by omega) (by omega)]; rfl
    · have hge : i = v.list.length := by simp at h; omega
      subst hge
      rw [List.take_length]
      clear h hi
      ((conv => whnf); repeat (refine SeqW.go ?_; conv => whnf))
      refine loopN (.cell 2 4 6 rfl rfl .done) ?_
      refine loopW (by kernel_rfl) (γ := Nat) (fun i => i ≤ v.dict.length) (fun i => [(1, .ptr 0 0), (2, .ptr 1 0), (3, .ptr 2 0), (6, .d (.i .i64 i))])
        (fun i => [.box [.d (.i .i64 v.kind), .d (.i .i64 v.int), .d (.s v.str), .d (.sl (rowsV v.list)), .d (.sl (rowsP v.dict))], .box [.d (.i .i64 0), .d (.i .i64 0), .d (.s ⟨#[]⟩), .nils, .nils],
          .box [.d (.i .i64 v.kind), .d (.i .i64 v.int), .d (.s v.str), .own 3 5 v.list.length, .own 4 6 i], .buf (liftR (rowsV v.list)), .buf (liftR (rowsP (v.dict.take i)))]) (fun i => v.dict.length - i)
        (fun i _ => ⟨Nat.zero_le _, by simp [sc_lift]; exact ⟨rfl, rfl, rfl⟩⟩) 0 (Nat.zero_le _)
        ⟨[], rfl⟩ ⟨rfl, rfl, rfl, rfl, rfl, rfl, rfl, rfl, trivial⟩ ?_
      intro i hi
      ((conv => whnf); repeat (refine SeqW.go ?_; conv => whnf))
      refine Br.mk (fun h => ?_) (fun h => ?_)
      · have hlt : i < v.dict.length := by simpa using h
        ((conv => whnf); repeat (refine SeqW.go ?_; conv => whnf))
        refine ⟨⟨rowsP_all _, by omega, by simpa using hlt⟩, ?_⟩
        rw [show (i : Int).toNat = i from rfl, rowsP_get hlt]
        ((conv => whnf); repeat (refine SeqW.go ?_; conv => whnf))
        refine ⟨by simp, ?_⟩
        rw [show PV.agg (List.map PV.d (List.take 5 (List.drop 1 (D.s v.dict[i].1 :: cellsV v.dict[i].2)))) = valP v.dict[i].2 from valP_take _]
        ((conv => whnf); repeat (refine SeqW.go ?_; conv => whnf))
        refine callP (ih _ ?_ ?_) (by simp [scBs, scB]) rfl fun _ => ?_
        · have := bulkV_dict (List.getElem_mem hlt); omega
        · have := bulkV_dict (List.getElem_mem hlt); omega
        ((conv => whnf); repeat (refine SeqW.go ?_; conv => whnf))
        refine drawW [] mixed (by kernel_rfl) (by kernel_rfl) ?_
        ((conv => whnf); repeat (refine SeqW.go ?_; conv => whnf))
        refine ⟨⟨rowsP_all _, by omega, by simpa using hlt⟩, ?_⟩
        rw [show (i : Int).toNat = i from rfl, rowsP_get hlt]
        ((conv => whnf); repeat (refine SeqW.go ?_; conv => whnf))
        refine ⟨⟨by simp [AllLen], by simp; omega, allLen_lift (rowsP_all _), by simp; omega, by simp; omega⟩, ?_⟩
        ((conv => whnf); repeat (refine SeqW.go ?_; conv => whnf))
        have e : liftR (rowsP (v.dict.take (i + 1))) = liftR (rowsP (v.dict.take i)) ++ liftR [.s v.dict[i].1 :: cellsV v.dict[i].2] := by rw [rowsP_succ hlt]; simp
        rw [cellsV_eq] at e
        refine ⟨i + 1, hlt, by omega, ⟨?w2, ?hs2⟩, ⟨rfl, rfl, rfl, rfl, rfl, rfl, ?hn2, rfl, trivial⟩⟩
        case hs2 => rw [e]; rfl
        case hn2 =>
          show PV.d (.i .i64 (IntKind.wrap .i64 (i + 1))) = _
          rw [wrap_i64 (by omega) (by omega)]; rfl
      · have hge : i = v.dict.length := by simp at h; omega
        subst hge
        rw [List.take_length]
        ((conv => whnf); repeat (refine SeqW.go ?_; conv => whnf))
        refine ⟨rowsV v.list, by simp, toRows_map _, ?_⟩
        ((conv => whnf); repeat (refine SeqW.go ?_; conv => whnf))
        refine ⟨rowsP v.dict, by simp, toRows_map _, ?_⟩
        ((conv => whnf); repeat (refine SeqW.go ?_; conv => whnf))
        exact ⟨rfl, rfl⟩

theorem equal_calls : ∀ (n : Nat) (a b : Val), bulkV a ≤ n → bulkV a ≤ 16777216 → bulkV b ≤ 16777216 → PureA Try.prog 10 [valP a, valP b] (.d (.b (eqV a b))) := by
  intro n
  induction n with
  | zero => intro a b h; have := bulkV_eq a; omega
  | succ n ih =>
    intro a b hn ha hb
    have hsa := bulkV_sizes a
    have hsb := bulkV_sizes b
    rw [valP_eq, valP_eq]
    refine callsW_of 0 Try.call10 Try.func10 (c := _) rfl (by kernel_rfl) (Nat.le_of_ble_eq_true rfl) (Nat.le_refl 0) ?_
    ((conv => whnf); repeat (refine SeqW.go ?_; conv => whnf))
    refine Br.mk (fun h => ?_) (fun h => ?_)
    · ((conv => whnf); repeat (refine SeqW.go ?_; conv => whnf))
      repeat (first | (refine Br.t ?_; conv => whnf) | (refine Cd.mk (by omega) ?_; conv => whnf) | (refine Br.f ?_; conv => whnf) | (refine SeqW.go ?_; conv => whnf))
      exact ⟨by rw [eqV_false (fun e => by subst e; simp at h)], rfl⟩
    have hk : a.kind = b.kind := by simpa using h
    clear h
    ((conv => whnf); repeat (refine SeqW.go ?_; conv => whnf))
    repeat (first | (refine Br.t ?_; conv => whnf) | (refine Cd.mk (by omega) ?_; conv => whnf) | (refine Br.f ?_; conv => whnf) | (refine SeqW.go ?_; conv => whnf))
    refine Br.mk (fun h => ?_) (fun h => ?_)
    · ((conv => whnf); repeat (refine SeqW.go ?_; conv => whnf))
      repeat (first | (refine Br.t ?_; conv => whnf) | (refine Cd.mk (by omega) ?_; conv => whnf) | (refine Br.f ?_; conv => whnf) | (refine SeqW.go ?_; conv => whnf))
      exact ⟨by rw [eqV_false (fun e => by subst e; simp at h)], rfl⟩
    have hi : a.int = b.int := by simpa using h
    clear h
    ((conv => whnf); repeat (refine SeqW.go ?_; conv => whnf))
    repeat (first | (refine Br.t ?_; conv => whnf) | (refine Cd.mk (by omega) ?_; conv => whnf) | (refine Br.f ?_; conv => whnf) | (refine SeqW.go ?_; conv => whnf))
    refine Br.mk (fun h => ?_) (fun h => ?_)
    · ((conv => whnf); repeat (refine SeqW.go ?_; conv => whnf))
      repeat (first | (refine Br.t ?_; conv => whnf) | (refine Cd.mk (by omega) ?_; conv => whnf) | (refine Br.f ?_; conv => whnf) | (refine SeqW.go ?_; conv => whnf))
      exact ⟨by rw [eqV_false (fun e => by subst e; simp at h)], rfl⟩
    have hs : a.str = b.str := by rw [ba_beq] at h; simpa using h
    clear h
    ((conv => whnf); repeat (refine SeqW.go ?_; conv => whnf))
    repeat (first | (refine Br.t ?_; conv => whnf) | (refine Cd.mk (by omega) ?_; conv => whnf) | (refine Br.f ?_; conv => whnf) | (refine SeqW.go ?_; conv => whnf))
    refine Br.mk (fun h => ?_) (fun h => ?_)
    · ((conv => whnf); repeat (refine SeqW.go ?_; conv => whnf))
      repeat (first | (refine Br.t ?_; conv => whnf) | (refine Cd.mk (by omega) ?_; conv => whnf) | (refine Br.f ?_; conv => whnf) | (refine SeqW.go ?_; conv => whnf))
      exact ⟨by rw [eqV_false (fun e => by subst e; simp at h)], rfl⟩
    have hl : a.list.length = b.list.length := by simp at h; omega
    clear h
    ((conv => whnf); repeat (refine SeqW.go ?_; conv => whnf))
    repeat (first | (refine Br.t ?_; conv => whnf) | (refine Cd.mk (by omega) ?_; conv => whnf) | (refine Br.f ?_; conv => whnf) | (refine SeqW.go ?_; conv => whnf))
    refine Br.mk (fun h => ?_) (fun h => ?_)
    · ((conv => whnf); repeat (refine SeqW.go ?_; conv => whnf))
      repeat (first | (refine Br.t ?_; conv => whnf) | (refine Cd.mk (by omega) ?_; conv => whnf) | (refine Br.f ?_; conv => whnf) | (refine SeqW.go ?_; conv => whnf))
      exact ⟨by rw [eqV_false (fun e => by subst e; simp at h)], rfl⟩
    have hd : a.dict.length = b.dict.length := by simp at h; omega
    clear h
    ((conv => whnf); repeat (refine SeqW.go ?_; conv => whnf))
    repeat (first | (refine Br.t ?_; conv => whnf) | (refine Cd.mk (by omega) ?_; conv => whnf) | (refine Br.f ?_; conv => whnf) | (refine SeqW.go ?_; conv => whnf))
    refine loopW (by kernel_rfl) (γ := Nat) (fun i => i ≤ a.list.length ∧ a.list.take i = b.list.take i) (fun i => [(2, .ptr 0 0), (3, .ptr 1 0), (5, .d (.i .i64 i))])
      (fun _ => [.box [.d (.i .i64 a.kind), .d (.i .i64 a.int), .d (.s a.str), .d (.sl (rowsV a.list)), .d (.sl (rowsP a.dict))], .box [.d (.i .i64 b.kind), .d (.i .i64 b.int), .d (.s b.str), .d (.sl (rowsV b.list)), .d (.sl (rowsP b.dict))]])
      (fun i => a.list.length - i) (fun i _ => ⟨Nat.zero_le _, rfl⟩) 0 ⟨Nat.zero_le _, rfl⟩ ⟨[], rfl⟩ ⟨rfl, rfl, rfl, rfl, rfl, rfl, trivial⟩ ?_
    rintro i ⟨hle, htake⟩
    ((conv => whnf); repeat (refine SeqW.go ?_; conv => whnf))
    refine Br.mk (fun h => ?_) (fun h => ?_)
    · have hlt : i < a.list.length := by simpa using h
      have hlt' : i < b.list.length := hl ▸ hlt
      ((conv => whnf); repeat (refine SeqW.go ?_; conv => whnf))
      refine drawW [] mixed (by kernel_rfl) (by kernel_rfl) ?_
      ((conv => whnf); repeat (refine SeqW.go ?_; conv => whnf))
      refine ⟨⟨rowsV_all _, by omega, by simpa using hlt⟩, ?_⟩
      rw [show (i : Int).toNat = i from rfl, rowsV_get hlt]
      ((conv => whnf); repeat (refine SeqW.go ?_; conv => whnf))
      refine ⟨by simp, ?_⟩
      rw [valP_take]
      ((conv => whnf); repeat (refine SeqW.go ?_; conv => whnf))
      refine ⟨⟨rowsV_all _, by omega, by simpa using hlt'⟩, ?_⟩
      rw [show (i : Int).toNat = i from rfl, rowsV_get hlt']
      ((conv => whnf); repeat (refine SeqW.go ?_; conv => whnf))
      refine ⟨by simp, ?_⟩
      rw [valP_take]
      ((conv => whnf); repeat (refine SeqW.go ?_; conv => whnf))
      refine callF (ih _ _ ?_ ?_ ?_) (by simp [scBs, scB]) rfl ?_
      · have := bulkV_list (List.getElem_mem hlt); omega
      · have := bulkV_list (List.getElem_mem hlt); omega
      · have := bulkV_list (List.getElem_mem hlt'); omega
      ((conv => whnf); repeat (refine SeqW.go ?_; conv => whnf))
      refine Br.mk (fun h => ?_) (fun h => ?_)
      · have hne : ¬ a.list[i] = b.list[i] := by simpa [eqV_not] using h
        ((conv => whnf); repeat (refine SeqW.go ?_; conv => whnf))
        exact ⟨by rw [eqV_false (fun e => hne (by subst e; rfl))], rfl⟩
      · have he : a.list[i] = b.list[i] := by simpa [eqV_iff] using h
        ((conv => whnf); repeat (refine SeqW.go ?_; conv => whnf))
        refine ⟨i + 1, ⟨hlt, take_same hlt hlt' htake he⟩, by omega, ⟨[], rfl⟩, ⟨rfl, rfl, rfl, rfl, ?_, rfl, trivial⟩⟩
        show PV.d (.i .i64 (IntKind.wrap .i64 (i + 1))) = _
        rw [wrap_i64 (by omega) (by omega)]; rfl
    have hlist : a.list = b.list := by
      have : i = a.list.length := by simp at h; omega
      rw [this, List.take_length, hl, List.take_length] at htake
      exact htake
    clear h htake hle
    ((conv => whnf); repeat (refine SeqW.go ?_; conv => whnf))
    refine loopW (by kernel_rfl) (γ := Nat) (fun i => i ≤ a.dict.length ∧ a.dict.take i = b.dict.take i) (fun i => [(2, .ptr 0 0), (3, .ptr 1 0), (7, .d (.i .i64 i))])
      (fun _ => [.box [.d (.i .i64 a.kind), .d (.i .i64 a.int), .d (.s a.str), .d (.sl (rowsV a.list)), .d (.sl (rowsP a.dict))], .box [.d (.i .i64 b.kind), .d (.i .i64 b.int), .d (.s b.str), .d (.sl (rowsV b.list)), .d (.sl (rowsP b.dict))]])
      (fun i => a.dict.length - i) (fun i _ => ⟨Nat.zero_le _, rfl⟩) 0 ⟨Nat.zero_le _, rfl⟩ ⟨[], rfl⟩ ⟨rfl, rfl, rfl, rfl, rfl, rfl, trivial⟩ ?_
    rintro i ⟨hle, htake⟩
    ((conv => whnf); repeat (refine SeqW.go ?_; conv => whnf))
    refine Br.mk (fun h => ?_) (fun h => ?_)
    · have hlt : i < a.dict.length := by simpa using h
      have hlt' : i < b.dict.length := hd ▸ hlt
      ((conv => whnf); repeat (refine SeqW.go ?_; conv => whnf))
      refine drawW [] mixed (by kernel_rfl) (by kernel_rfl) ?_
      ((conv => whnf); repeat (refine SeqW.go ?_; conv => whnf))
      refine ⟨⟨rowsP_all _, by omega, by simpa using hlt⟩, ?_⟩
      rw [show (i : Int).toNat = i from rfl, rowsP_get hlt]
      ((conv => whnf); repeat (refine SeqW.go ?_; conv => whnf))
      refine ⟨⟨rowsP_all _, by omega, by simpa using hlt'⟩, ?_⟩
      rw [show (i : Int).toNat = i from rfl, rowsP_get hlt']
      ((conv => whnf); repeat (refine SeqW.go ?_; conv => whnf))
      refine Br.mk (fun h => ?_) (fun h => ?_)
      · have hne : ¬ a.dict[i].1 = b.dict[i].1 := by rw [ba_beq] at h; simpa using h
        ((conv => whnf); repeat (refine SeqW.go ?_; conv => whnf))
        exact ⟨by rw [eqV_false (fun e => hne (by subst e; rfl))], rfl⟩
      have hkey : a.dict[i].1 = b.dict[i].1 := by rw [ba_beq] at h; simpa using h
      clear h
      ((conv => whnf); repeat (refine SeqW.go ?_; conv => whnf))
      refine drawW [] mixed (by kernel_rfl) (by kernel_rfl) ?_
      ((conv => whnf); repeat (refine SeqW.go ?_; conv => whnf))
      refine ⟨⟨rowsP_all _, by omega, by simpa using hlt⟩, ?_⟩
      rw [show (i : Int).toNat = i from rfl, rowsP_get hlt]
      ((conv => whnf); repeat (refine SeqW.go ?_; conv => whnf))
      refine ⟨by simp, ?_⟩
      rw [show PV.agg (List.map PV.d (List.take 5 (List.drop 1 (D.s a.dict[i].1 :: cellsV a.dict[i].2)))) = valP a.dict[i].2 from valP_take _]
      ((conv => whnf); repeat (refine SeqW.go ?_; conv => whnf))
      refine ⟨⟨rowsP_all _, by omega, by simpa using hlt'⟩, ?_⟩
      rw [show (i : Int).toNat = i from rfl, rowsP_get hlt']
      ((conv => whnf); repeat (refine SeqW.go ?_; conv => whnf))
      refine ⟨by simp, ?_⟩
      rw [show PV.agg (List.map PV.d (List.take 5 (List.drop 1 (D.s b.dict[i].1 :: cellsV b.dict[i].2)))) = valP b.dict[i].2 from valP_take _]
      ((conv => whnf); repeat (refine SeqW.go ?_; conv => whnf))
      refine callF (ih _ _ ?_ ?_ ?_) (by simp [scBs, scB]) rfl ?_
      · have := bulkV_dict (List.getElem_mem hlt); omega
      · have := bulkV_dict (List.getElem_mem hlt); omega
      · have := bulkV_dict (List.getElem_mem hlt'); omega
      ((conv => whnf); repeat (refine SeqW.go ?_; conv => whnf))
      refine Br.mk (fun h => ?_) (fun h => ?_)
      · have hne : ¬ a.dict[i].2 = b.dict[i].2 := by simpa [eqV_not] using h
        ((conv => whnf); repeat (refine SeqW.go ?_; conv => whnf))
        exact ⟨by rw [eqV_false (fun e => hne (by subst e; rfl))], rfl⟩
      · have he : a.dict[i].2 = b.dict[i].2 := by simpa [eqV_iff] using h
        ((conv => whnf); repeat (refine SeqW.go ?_; conv => whnf))
        refine ⟨i + 1, ⟨hlt, take_same hlt hlt' htake (Prod.ext hkey he)⟩, by omega, ⟨[], rfl⟩, ⟨rfl, rfl, rfl, rfl, ?_, rfl, trivial⟩⟩
        show PV.d (.i .i64 (IntKind.wrap .i64 (i + 1))) = _
        rw [wrap_i64 (by omega) (by omega)]; rfl
    have hdict : a.dict = b.dict := by
      have : i = a.dict.length := by simp at h; omega
      rw [this, List.take_length, hd, List.take_length] at htake
      exact htake
    ((conv => whnf); repeat (refine SeqW.go ?_; conv => whnf))
    exact ⟨by rw [eqV_true (Val.ext' hk hi hs hlist hdict)], rfl⟩

/-- Whatever it answers, and however far it counts. -/
def CountR : PV → List PV → Prop := fun v cs => (∃ b, v = .d (.b b)) ∧ ∃ n, cs = [.d (.i .i64 n)]
theorem countR_sc (v : PV) (cs : List PV) (h : CountR v cs) : scB 0 v = true ∧ scBs 0 cs = true := by
  obtain ⟨⟨b, rfl⟩, n, rfl⟩ := h; exact ⟨rfl, rfl⟩

theorem add_calls (c n : Int) : RefC Try.prog 25 (fun o => [.ptr o 0, .d (.i .i64 n)]) [.d (.i .i64 c)] CountR := by
  refine callsW_of 1 Try.call25 Try.func25 (c := _) rfl (by kernel_rfl) (Nat.le_of_ble_eq_true rfl) (Nat.le_refl 1) ?_
  ((conv => whnf); repeat (refine SeqW.go ?_; conv => whnf))
  refine ⟨⟨by simp, rfl⟩, ?_⟩
  ((conv => whnf); repeat (refine SeqW.go ?_; conv => whnf))
  exact ⟨_, _, rfl, rfl, ⟨_, rfl⟩, _, rfl⟩

/-- The contracts of count's value and pairs. -/
def CV (v : Val) : Prop := ∀ c left, RefC Try.prog 18 (fun o => [.ptr o 0, valP v, .d (.i .i64 left)]) [.d (.i .i64 c)] CountR
def CP (d : List (ByteArray × Val)) : Prop := ∀ c left, RefC Try.prog 26 (fun o => [.ptr o 0, .d (.sl (rowsP d)), .d (.i .i64 left)]) [.d (.i .i64 c)] CountR

theorem pairs_calls (d : List (ByteArray × Val)) (hd : d.length ≤ 16777216) (h : ∀ p ∈ d, CV p.2) : CP d := by
  intro c left
  refine callsW_of 1 Try.call26 Try.func26 (c := _) rfl (by kernel_rfl) (Nat.le_of_ble_eq_true rfl) (Nat.le_refl 1) ?_
  ((conv => whnf); repeat (refine SeqW.go ?_; conv => whnf))
  refine loopW (by kernel_rfl) (γ := Nat × Int) (fun g => g.1 ≤ d.length) (fun g => [(0, .ptr 0 0), (1, .d (.sl (rowsP d))), (2, .d (.i .i64 left)), (7, .d (.i .i64 g.1))]) (fun g => [.box [.d (.i .i64 g.2)]])
    (fun g => d.length - g.1) (fun g _ => ⟨Nat.le_refl 1, rfl⟩) (0, c) (Nat.zero_le _) ⟨[], rfl⟩ ⟨rfl, rfl, rfl, rfl, rfl, rfl, rfl, rfl, trivial⟩ ?_
  rintro ⟨i, c⟩ hi
  simp only at hi
  ((conv => whnf); repeat (refine SeqW.go ?_; conv => whnf))
  refine Br.mk (fun hb => ?_) (fun hb => ?_)
  · have hlt : i < d.length := by simpa using hb
    ((conv => whnf); repeat (refine SeqW.go ?_; conv => whnf))
    refine ⟨⟨rowsP_all _, by omega, by simpa using hlt⟩, ?_⟩
    rw [show (i : Int).toNat = i from rfl, rowsP_get hlt]
    ((conv => whnf); repeat (refine SeqW.go ?_; conv => whnf))
    refine callRef (o := 0) (add_calls c _) rfl rfl rfl rfl countR_sc fun v cs' hv => ?_
    obtain ⟨⟨b, rfl⟩, c, rfl⟩ := hv
    ((conv => whnf); repeat (refine SeqW.go ?_; conv => whnf))
    refine Br.mk (fun hb => ?_) (fun hb => ?_)
    · ((conv => whnf); repeat (refine SeqW.go ?_; conv => whnf))
      refine ⟨⟨by simp, rfl⟩, ?_⟩
      ((conv => whnf); repeat (refine SeqW.go ?_; conv => whnf))
      exact ⟨_, _, rfl, rfl, ⟨_, rfl⟩, _, rfl⟩
    · ((conv => whnf); repeat (refine SeqW.go ?_; conv => whnf))
      refine ⟨⟨rowsP_all _, by omega, by simpa using hlt⟩, ?_⟩
      rw [show (i : Int).toNat = i from rfl, rowsP_get hlt]
      ((conv => whnf); repeat (refine SeqW.go ?_; conv => whnf))
      refine ⟨by simp, ?_⟩
      rw [show PV.agg (List.map PV.d (List.take 5 (List.drop 1 (D.s d[i].1 :: cellsV d[i].2)))) = valP d[i].2 from valP_take _]
      ((conv => whnf); repeat (refine SeqW.go ?_; conv => whnf))
      refine callRef (o := 0) (h _ (List.getElem_mem hlt) c left) rfl (by simp [renVs, renV, valP, num]) (by simp [scBs, scB, valP]) rfl countR_sc fun v cs' hv => ?_
      obtain ⟨⟨b, rfl⟩, c, rfl⟩ := hv
      ((conv => whnf); repeat (refine SeqW.go ?_; conv => whnf))
      refine Br.mk (fun hb => ?_) (fun hb => ?_)
      · ((conv => whnf); repeat (refine SeqW.go ?_; conv => whnf))
        refine ⟨⟨by simp, rfl⟩, ?_⟩
        ((conv => whnf); repeat (refine SeqW.go ?_; conv => whnf))
        exact ⟨_, _, rfl, rfl, ⟨_, rfl⟩, _, rfl⟩
      · ((conv => whnf); repeat (refine SeqW.go ?_; conv => whnf))
        refine ⟨(i + 1, c), hlt, by simp; omega, ⟨[], rfl⟩, ⟨rfl, rfl, rfl, rfl, rfl, rfl, ?_, rfl, trivial⟩⟩
        show PV.d (.i .i64 (IntKind.wrap .i64 (i + 1))) = _
        rw [wrap_i64 (by omega) (by omega)]; rfl
  · ((conv => whnf); repeat (refine SeqW.go ?_; conv => whnf))
    refine ⟨⟨by simp, rfl⟩, ?_⟩
    ((conv => whnf); repeat (refine SeqW.go ?_; conv => whnf))
    exact ⟨_, _, rfl, rfl, ⟨_, rfl⟩, _, rfl⟩

theorem value_calls : ∀ (n : Nat) (v : Val), bulkV v ≤ n → bulkV v ≤ 16777216 → CV v := by
  intro n
  induction n with
  | zero => intro v h; have := bulkV_eq v; omega
  | succ n ih =>
    intro v hn hb c left
    have hs := bulkV_sizes v
    have hdict : CP v.dict := pairs_calls v.dict (by omega) fun p hp => ih p.2 (by have := bulkV_dict hp; omega) (by have := bulkV_dict hp; omega)
    rw [RefC, valP_eq]
    refine callsW_of 1 Try.call18 Try.func18 (c := _) rfl (by kernel_rfl) (Nat.le_of_ble_eq_true rfl) (Nat.le_refl 1) ?_
    ((conv => whnf); repeat (refine SeqW.go ?_; conv => whnf))
    refine callRef (o := 0) (add_calls c _) rfl rfl rfl rfl countR_sc fun x cs' hv => ?_
    obtain ⟨⟨b, rfl⟩, c, rfl⟩ := hv
    ((conv => whnf); repeat (refine SeqW.go ?_; conv => whnf))
    refine Br.mk (fun hz => ?_) (fun hz => ?_)
    · ((conv => whnf); repeat (refine SeqW.go ?_; conv => whnf))
      repeat (first | (refine Br.t ?_; conv => whnf) | (refine Cd.mk (by omega) ?_; conv => whnf) | (refine Br.f ?_; conv => whnf) | (refine SeqW.go ?_; conv => whnf))
      refine ⟨⟨by simp, rfl⟩, ?_⟩
      ((conv => whnf); repeat (refine SeqW.go ?_; conv => whnf))
      exact ⟨_, _, rfl, rfl, ⟨_, rfl⟩, _, rfl⟩
    ((conv => whnf); repeat (refine SeqW.go ?_; conv => whnf))
    repeat (first | (refine Br.t ?_; conv => whnf) | (refine Cd.mk (by omega) ?_; conv => whnf) | (refine Br.f ?_; conv => whnf) | (refine SeqW.go ?_; conv => whnf))
    refine Br.mk (fun hb => ?_) (fun hb => ?_)
    · ((conv => whnf); repeat (refine SeqW.go ?_; conv => whnf))
      repeat (first | (refine Br.t ?_; conv => whnf) | (refine Cd.mk (by omega) ?_; conv => whnf) | (refine Br.f ?_; conv => whnf) | (refine SeqW.go ?_; conv => whnf))
      refine ⟨⟨by simp, rfl⟩, ?_⟩
      ((conv => whnf); repeat (refine SeqW.go ?_; conv => whnf))
      exact ⟨_, _, rfl, rfl, ⟨_, rfl⟩, _, rfl⟩
    ((conv => whnf); repeat (refine SeqW.go ?_; conv => whnf))
    repeat (first | (refine Br.t ?_; conv => whnf) | (refine Cd.mk (by omega) ?_; conv => whnf) | (refine Br.f ?_; conv => whnf) | (refine SeqW.go ?_; conv => whnf))
    refine loopW (by kernel_rfl) (γ := Nat × Int) (fun g => g.1 ≤ v.list.length) (fun g => [(0, .ptr 0 0), (2, .d (.i .i64 left)), (4, .ptr 1 0), (8, .d (.i .i64 g.1))])
      (fun g => [.box [.d (.i .i64 g.2)], .box [.d (.i .i64 v.kind), .d (.i .i64 v.int), .d (.s v.str), .d (.sl (rowsV v.list)), .d (.sl (rowsP v.dict))]])
      (fun g => v.list.length - g.1) (fun g _ => ⟨by simp, rfl⟩) (0, c) (Nat.zero_le _) ⟨[], rfl⟩ ⟨rfl, rfl, rfl, rfl, rfl, rfl, rfl, rfl, trivial⟩ ?_
    rintro ⟨i, c⟩ hi
    simp only at hi
    ((conv => whnf); repeat (refine SeqW.go ?_; conv => whnf))
    refine Br.mk (fun hb => ?_) (fun hb => ?_)
    · have hlt : i < v.list.length := by simpa using hb
      ((conv => whnf); repeat (refine SeqW.go ?_; conv => whnf))
      refine ⟨⟨rowsV_all _, by omega, by simpa using hlt⟩, ?_⟩
      rw [show (i : Int).toNat = i from rfl, rowsV_get hlt]
      ((conv => whnf); repeat (refine SeqW.go ?_; conv => whnf))
      refine ⟨by simp, ?_⟩
      rw [valP_take]
      ((conv => whnf); repeat (refine SeqW.go ?_; conv => whnf))
      have hm : CV v.list[i] := ih _ (by have := bulkV_list (List.getElem_mem hlt); omega) (by have := bulkV_list (List.getElem_mem hlt); omega)
      refine callRef (o := 0) (hm c _) rfl (by simp [renVs, renV, valP, num]) (by simp [scBs, scB, valP]) rfl countR_sc fun x cs' hv => ?_
      obtain ⟨⟨b, rfl⟩, c, rfl⟩ := hv
      ((conv => whnf); repeat (refine SeqW.go ?_; conv => whnf))
      refine Br.mk (fun hb => ?_) (fun hb => ?_)
      · ((conv => whnf); repeat (refine SeqW.go ?_; conv => whnf))
        refine ⟨⟨by simp, rfl⟩, ?_⟩
        ((conv => whnf); repeat (refine SeqW.go ?_; conv => whnf))
        exact ⟨_, _, rfl, rfl, ⟨_, rfl⟩, _, rfl⟩
      · ((conv => whnf); repeat (refine SeqW.go ?_; conv => whnf))
        refine ⟨(i + 1, c), hlt, by simp; omega, ⟨[], rfl⟩, ⟨rfl, rfl, rfl, rfl, rfl, rfl, ?_, rfl, trivial⟩⟩
        show PV.d (.i .i64 (IntKind.wrap .i64 (i + 1))) = _
        rw [wrap_i64 (by omega) (by omega)]; rfl
    · ((conv => whnf); repeat (refine SeqW.go ?_; conv => whnf))
      refine callRef (o := 0) (hdict c _) rfl rfl rfl rfl countR_sc fun x cs' hv => ?_
      obtain ⟨⟨b, rfl⟩, c, rfl⟩ := hv
      ((conv => whnf); repeat (refine SeqW.go ?_; conv => whnf))
      refine ⟨⟨by simp, rfl⟩, ?_⟩
      ((conv => whnf); repeat (refine SeqW.go ?_; conv => whnf))
      exact ⟨_, _, rfl, rfl, ⟨_, rfl⟩, _, rfl⟩

theorem farValue_calls (v : Val) (hb : bulkV v ≤ 16777216) : CallsA Try.prog 7 [valP v] [] SomeB := by
  refine callsW_of 0 Try.call7 Try.func7 (c := _) rfl (by kernel_rfl) (Nat.le_of_ble_eq_true rfl) (Nat.le_refl 0) ?_
  rw [valP_eq]
  ((conv => whnf); repeat (refine SeqW.go ?_; conv => whnf))
  rw [valP_fold]
  refine callRef (o := 1) (value_calls _ v (Nat.le_refl _) hb 0 _) rfl (by simp [renVs, renV, valP, num]) (by simp [scBs, scB, valP]) rfl countR_sc fun x cs' hv => ?_
  obtain ⟨⟨b, rfl⟩, c, rfl⟩ := hv
  ((conv => whnf); repeat (refine SeqW.go ?_; conv => whnf))
  exact ⟨⟨_, rfl⟩, rfl⟩

/-! The same, with values written out. -/
theorem copy_calls' (v : Val) (h : bulkV v ≤ 16777216) : PureA Try.prog 8 [valC v] (valC v) := by
  have := copy_calls _ v (Nat.le_refl _) h
  rwa [valP_eq] at this
theorem equal_calls' (a b : Val) (ha : bulkV a ≤ 16777216) (hb : bulkV b ≤ 16777216) : PureA Try.prog 10 [valC a, valC b] (.d (.b (eqV a b))) := by
  have := equal_calls _ a b (Nat.le_refl _) ha hb
  rwa [valP_eq, valP_eq] at this
theorem farValue_calls' (v : Val) (hb : bulkV v ≤ 16777216) : CallsA Try.prog 7 [valC v] [] SomeB := by
  have := farValue_calls v hb
  rwa [valP_eq] at this
end Go.Aw
