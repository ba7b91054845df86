/- Layer 21: names and numbers of a wish, twins. -/
import Derived.Test.YtpnocgonjgcmmaaAwRef2E
import Derived.Test.YtpnocgonjgcmmaaAwWish
set_option linter.unusedVariables false
set_option linter.unusedSimpArgs false
namespace Go.Aw
open Go.Proofs
set_option maxRecDepth 100000

theorem number_calls (w : Wsh) (name : ByteArray) (hw : w.names.length ≤ 1048576) : PureA Try.prog 15 [wishC w, .d (.s name)] (.tup [.d (.i .i64 (numT name w.names).1), .d (.b (numT name w.names).2)]) := by
  refine callsW_of 0 Try.call15 Try.func15 (c := _) rfl (by kernel_rfl) (Nat.le_of_ble_eq_true rfl) (Nat.le_refl 0) ?_
  conv => whnf
  refine loopW (by kernel_rfl) (γ := Nat) (fun i => i ≤ w.names.length ∧ numT name w.names = numT name (w.names.drop i)) (fun i => [(1, .d (.s name)), (2, .ptr 0 0), (6, .d (.i .i64 i))])
    (fun _ => [.box [.d (.sl (rowsN w.names)), .d (.i .i64 w.size), .d (.i .i64 w.queue), .d (.s w.agent), .d (.sl (rowsP w.more))]]) (fun i => w.names.length - i) (fun i _ => ⟨Nat.zero_le _, rfl⟩) 0 ⟨Nat.zero_le _, rfl⟩ ⟨[], rfl⟩ ⟨rfl, rfl, rfl, rfl, rfl, rfl, trivial⟩ ?_
  rintro i ⟨hi, hd⟩
  conv => whnf
  refine Br.mk (fun h => ?_) (fun h => ?_)
  · have hlt : i < w.names.length := by simpa using h
    clear h
    conv => whnf
    refine ⟨⟨rowsN_all _, by omega, by simpa using hlt⟩, ?_⟩
    rw [show (i : Int).toNat = i from rfl, rowsN_get hlt]
    conv => whnf
    refine Br.mk (fun h => ?_) (fun h => ?_)
    · have he : w.names[i].1 = name := by rw [ba_beq] at h; simpa using h
      conv => whnf
      refine ⟨⟨rowsN_all _, by omega, by simpa using hlt⟩, ?_⟩
      rw [show (i : Int).toNat = i from rfl, rowsN_get hlt]
      conv => whnf
      exact ⟨by rw [hd, drop_step hlt, numT_hit he], rfl⟩
    · have he : ¬ w.names[i].1 = name := by rw [ba_beq] at h; simpa using h
      conv => whnf
      refine ⟨i + 1, ⟨hlt, by rw [hd, drop_step hlt, numT_miss he]⟩, by omega, ⟨[], rfl⟩, ⟨rfl, rfl, rfl, rfl, ?_, rfl, trivial⟩⟩
      show PV.d (.i .i64 (IntKind.wrap .i64 (i + 1))) = _
      rw [wrap_i64 (by omega) (by omega)]; rfl
  · have hge : i = w.names.length := by simp at h; omega
    rw [hge, List.drop_length] at hd
    conv => whnf
    exact ⟨by rw [hd]; rfl, rfl⟩

theorem name_calls (w : Wsh) (id : Int) (hw : w.names.length ≤ 1048576) : PureA Try.prog 17 [wishC w, .d (.i .i64 id)] (.tup [.d (.s (nameT id w.names).1), .d (.b (nameT id w.names).2)]) := by
  refine callsW_of 0 Try.call17 Try.func17 (c := _) rfl (by kernel_rfl) (Nat.le_of_ble_eq_true rfl) (Nat.le_refl 0) ?_
  conv => whnf
  refine loopW (by kernel_rfl) (γ := Nat) (fun i => i ≤ w.names.length ∧ nameT id w.names = nameT id (w.names.drop i)) (fun i => [(1, .d (.i .i64 id)), (2, .ptr 0 0), (6, .d (.i .i64 i))])
    (fun _ => [.box [.d (.sl (rowsN w.names)), .d (.i .i64 w.size), .d (.i .i64 w.queue), .d (.s w.agent), .d (.sl (rowsP w.more))]]) (fun i => w.names.length - i) (fun i _ => ⟨Nat.zero_le _, rfl⟩) 0 ⟨Nat.zero_le _, rfl⟩ ⟨[], rfl⟩ ⟨rfl, rfl, rfl, rfl, rfl, rfl, trivial⟩ ?_
  rintro i ⟨hi, hd⟩
  conv => whnf
  refine Br.mk (fun h => ?_) (fun h => ?_)
  · have hlt : i < w.names.length := by simpa using h
    clear h
    conv => whnf
    refine ⟨⟨rowsN_all _, by omega, by simpa using hlt⟩, ?_⟩
    rw [show (i : Int).toNat = i from rfl, rowsN_get hlt]
    conv => whnf
    refine Br.mk (fun h => ?_) (fun h => ?_)
    · have he : w.names[i].2 = id := by simpa using h
      conv => whnf
      refine ⟨⟨rowsN_all _, by omega, by simpa using hlt⟩, ?_⟩
      rw [show (i : Int).toNat = i from rfl, rowsN_get hlt]
      conv => whnf
      exact ⟨by rw [hd, drop_step hlt, nameT_hit he], rfl⟩
    · have he : ¬ w.names[i].2 = id := by simpa using h
      conv => whnf
      refine ⟨i + 1, ⟨hlt, by rw [hd, drop_step hlt, nameT_miss he]⟩, by omega, ⟨[], rfl⟩, ⟨rfl, rfl, rfl, rfl, ?_, rfl, trivial⟩⟩
      show PV.d (.i .i64 (IntKind.wrap .i64 (i + 1))) = _
      rw [wrap_i64 (by omega) (by omega)]; rfl
  · have hge : i = w.names.length := by simp at h; omega
    rw [hge, List.drop_length] at hd
    conv => whnf
    exact ⟨by rw [hd]; rfl, rfl⟩

theorem xnumber_calls (w : Wsh) (name : ByteArray) (hw : w.names.length ≤ 1048576) : PureA Try.prog 14 [wishC w, .d (.s name)] (.tup [.d (.i .i64 (numT name w.names).1), .d (.b (numT name w.names).2)]) := by
  refine callsW_of 0 Try.call14 Try.func14 (c := _) rfl (by kernel_rfl) (Nat.le_of_ble_eq_true rfl) (Nat.le_refl 0) ?_
  conv => whnf
  refine loopW (by kernel_rfl) (γ := Nat) (fun i => i ≤ w.names.length ∧ numT name w.names = numT name (w.names.drop i)) (fun i => [(1, .d (.s name)), (9, .d (.sl (rowsN w.names))), (10, .d (.i .i64 (rowsN w.names).length)), (11, .d (.i .i64 i))])
    (fun _ => []) (fun i => w.names.length - i) (fun i _ => ⟨Nat.zero_le _, rfl⟩) 0 ⟨Nat.zero_le _, rfl⟩ ⟨_, rfl⟩ ⟨rfl, rfl, rfl, rfl, rfl, rfl, rfl, rfl, trivial⟩ ?_
  rintro i ⟨hi, hd⟩
  conv => whnf
  refine Br.mk (fun h => ?_) (fun h => ?_)
  · have hlt : i < w.names.length := by simpa using h
    clear h
    conv => whnf
    refine ⟨⟨rowsN_all _, by omega, by simpa using hlt⟩, ?_⟩
    rw [show (i : Int).toNat = i from rfl, rowsN_get hlt]
    conv => whnf
    refine ⟨by simp, ?_⟩
    conv => whnf
    refine Br.mk (fun h => ?_) (fun h => ?_)
    · have he : w.names[i].1 = name := by rw [ba_beq] at h; simpa using h
      conv => whnf
      exact ⟨by rw [hd, drop_step hlt, numT_hit he], rfl⟩
    · have he : ¬ w.names[i].1 = name := by rw [ba_beq] at h; simpa using h
      conv => whnf
      refine ⟨i + 1, ⟨hlt, by rw [hd, drop_step hlt, numT_miss he]⟩, by omega, ⟨_, rfl⟩, ⟨rfl, rfl, rfl, rfl, rfl, rfl, ?_, rfl, trivial⟩⟩
      show PV.d (.i .i64 (IntKind.wrap .i64 (i + 1))) = _
      rw [wrap_i64 (by omega) (by omega)]; rfl
  · have hge : i = w.names.length := by simp at h; omega
    rw [hge, List.drop_length] at hd
    conv => whnf
    exact ⟨by rw [hd]; rfl, rfl⟩

theorem xname_calls (w : Wsh) (id : Int) (hw : w.names.length ≤ 1048576) : PureA Try.prog 16 [wishC w, .d (.i .i64 id)] (.tup [.d (.s (nameT id w.names).1), .d (.b (nameT id w.names).2)]) := by
  refine callsW_of 0 Try.call16 Try.func16 (c := _) rfl (by kernel_rfl) (Nat.le_of_ble_eq_true rfl) (Nat.le_refl 0) ?_
  conv => whnf
  refine loopW (by kernel_rfl) (γ := Nat) (fun i => i ≤ w.names.length ∧ nameT id w.names = nameT id (w.names.drop i)) (fun i => [(1, .d (.i .i64 id)), (9, .d (.sl (rowsN w.names))), (10, .d (.i .i64 (rowsN w.names).length)), (11, .d (.i .i64 i))])
    (fun _ => []) (fun i => w.names.length - i) (fun i _ => ⟨Nat.zero_le _, rfl⟩) 0 ⟨Nat.zero_le _, rfl⟩ ⟨_, rfl⟩ ⟨rfl, rfl, rfl, rfl, rfl, rfl, rfl, rfl, trivial⟩ ?_
  rintro i ⟨hi, hd⟩
  conv => whnf
  refine Br.mk (fun h => ?_) (fun h => ?_)
  · have hlt : i < w.names.length := by simpa using h
    clear h
    conv => whnf
    refine ⟨⟨rowsN_all _, by omega, by simpa using hlt⟩, ?_⟩
    rw [show (i : Int).toNat = i from rfl, rowsN_get hlt]
    conv => whnf
    refine ⟨by simp, ?_⟩
    conv => whnf
    refine Br.mk (fun h => ?_) (fun h => ?_)
    · have he : w.names[i].2 = id := by simpa using h
      conv => whnf
      exact ⟨by rw [hd, drop_step hlt, nameT_hit he], rfl⟩
    · have he : ¬ w.names[i].2 = id := by simpa using h
      conv => whnf
      refine ⟨i + 1, ⟨hlt, by rw [hd, drop_step hlt, nameT_miss he]⟩, by omega, ⟨_, rfl⟩, ⟨rfl, rfl, rfl, rfl, rfl, rfl, ?_, rfl, trivial⟩⟩
      show PV.d (.i .i64 (IntKind.wrap .i64 (i + 1))) = _
      rw [wrap_i64 (by omega) (by omega)]; rfl
  · have hge : i = w.names.length := by simp at h; omega
    rw [hge, List.drop_length] at hd
    conv => whnf
    exact ⟨by rw [hd]; rfl, rfl⟩

theorem twin_calls (w : Wsh) (hw : w.names.length ≤ 1048576) (hm : bulkR (rowsP w.more) ≤ 1048576) : PureA Try.prog 13 [wishC w] (wishC w) := by
  have hlen := bulkR_rowsP w.more
  refine callsW_of 0 Try.call13 Try.func13 (c := _) rfl (by kernel_rfl) (Nat.le_of_ble_eq_true rfl) (Nat.le_refl 0) ?_
  conv => whnf
  refine ⟨⟨allLen_lift (rowsN_all _), by simp; omega, by simp; omega⟩, ?_⟩
  rw [List.length_map, rowsN_length]
  conv => whnf
  refine loopN (.cell 2 4 6 rfl rfl .done) ?_
  refine loopW (by kernel_rfl) (γ := Nat) (fun i => i ≤ w.more.length) (fun i => [(1, .ptr 0 0), (2, .ptr 1 0), (3, .ptr 2 0), (4, .d (.i .i64 i))])
    (fun i => [.box [.d (.sl (rowsN w.names)), .d (.i .i64 w.size), .d (.i .i64 w.queue), .d (.s w.agent), .d (.sl (rowsP w.more))], .box [.nils, .d (.i .i64 0), .d (.i .i64 0), .d (.s ⟨#[]⟩), .nils],
      .box [.own 3 2 w.names.length, .d (.i .i64 w.size), .d (.i .i64 w.queue), .d (.s w.agent), .own 4 6 i], .buf (liftR (rowsN w.names)), .buf (liftR (rowsP (w.more.take i)))]) (fun i => w.more.length - i)
    (fun i _ => ⟨Nat.zero_le _, by simp [sc_lift]; exact ⟨rfl, rfl, rfl⟩⟩) 0 (Nat.zero_le _) ⟨[], rfl⟩ ⟨rfl, rfl, rfl, rfl, rfl, rfl, rfl, rfl, trivial⟩ ?_
  intro i hi
  conv => whnf
  refine Br.mk (fun h => ?_) (fun h => ?_)
  · have hlt : i < w.more.length := by simpa using h
    have hbv : bulkV w.more[i].2 ≤ 1048576 := by have := bulkP_mem (List.getElem_mem hlt); omega
    conv => whnf
    refine ⟨⟨rowsP_all _, by omega, by simpa using hlt⟩, ?_⟩
    rw [show (i : Int).toNat = i from rfl, rowsP_get hlt]
    conv => whnf
    refine ⟨by simp, ?_⟩
    rw [show PV.agg (List.map PV.d (List.take 5 (List.drop 1 (D.s w.more[i].1 :: cellsV w.more[i].2)))) = valP w.more[i].2 from valP_take _]
    conv => whnf
    refine callP (copy_calls _ _ (Nat.le_refl _) hbv) (by simp [scBs, scB]) rfl fun _ => ?_
    conv => whnf
    refine drawW [] mixed (by kernel_rfl) (by kernel_rfl) ?_
    conv => whnf
    refine ⟨⟨rowsP_all _, by omega, by simpa using hlt⟩, ?_⟩
    rw [show (i : Int).toNat = i from rfl, rowsP_get hlt]
    conv => whnf
    refine ⟨⟨by simp [AllLen], by simp; omega, allLen_lift (rowsP_all _), by simp; omega, by simp; omega⟩, ?_⟩
    conv => whnf
    have e : liftR (rowsP (w.more.take (i + 1))) = liftR (rowsP (w.more.take i)) ++ liftR [.s w.more[i].1 :: cellsV w.more[i].2] := by rw [rowsP_succ hlt]; simp
    rw [cellsV_eq] at e
    refine ⟨i + 1, hlt, by omega, ⟨?w2, ?hs2⟩, ⟨rfl, rfl, rfl, rfl, rfl, rfl, ?hn2, rfl, trivial⟩⟩
    case hs2 => rw [e]; rfl
    case hn2 =>
      show PV.d (.i .i64 (IntKind.wrap .i64 (i + 1))) = _
      rw [wrap_i64 (by omega) (by omega)]; rfl
  · have hge : i = w.more.length := by simp at h; omega
    subst hge
    rw [List.take_length]
    conv => whnf
    refine ⟨rowsN w.names, by simp, toRows_map _, ?_⟩
    conv => whnf
    refine ⟨rowsP w.more, by simp, toRows_map _, ?_⟩
    conv => whnf
    exact ⟨rfl, rfl⟩

theorem sameWish_calls (a b : Wsh) (ha : a.names.length ≤ 1048576) (ha' : bulkR (rowsP a.more) ≤ 1048576) (hb' : bulkR (rowsP b.more) ≤ 1048576) : PureA Try.prog 18 [wishC a, wishC b] (.d (.b (eqW a b))) := by
  have hlen := bulkR_rowsP a.more
  refine callsW_of 0 Try.call18 Try.func18 (c := _) rfl (by kernel_rfl) (Nat.le_of_ble_eq_true rfl) (Nat.le_refl 0) ?_
  conv => whnf
  refine Br.mk (fun h => ?_) (fun h => ?_)
  · conv => whnf
    repeat (first | (refine Br.t ?_; conv => whnf) | (refine Br.f ?_; conv => whnf))
    exact ⟨by rw [eqW_false (fun e => by subst e; simp at h)], rfl⟩
  have hn : a.names.length = b.names.length := by simp at h; omega
  clear h
  conv => whnf
  repeat (first | (refine Br.t ?_; conv => whnf) | (refine Br.f ?_; conv => whnf))
  refine Br.mk (fun h => ?_) (fun h => ?_)
  · conv => whnf
    repeat (first | (refine Br.t ?_; conv => whnf) | (refine Br.f ?_; conv => whnf))
    exact ⟨by rw [eqW_false (fun e => by subst e; simp at h)], rfl⟩
  have hs : a.size = b.size := by simpa using h
  clear h
  conv => whnf
  repeat (first | (refine Br.t ?_; conv => whnf) | (refine Br.f ?_; conv => whnf))
  refine Br.mk (fun h => ?_) (fun h => ?_)
  · conv => whnf
    repeat (first | (refine Br.t ?_; conv => whnf) | (refine Br.f ?_; conv => whnf))
    exact ⟨by rw [eqW_false (fun e => by subst e; simp at h)], rfl⟩
  have hq : a.queue = b.queue := by simpa using h
  clear h
  conv => whnf
  repeat (first | (refine Br.t ?_; conv => whnf) | (refine Br.f ?_; conv => whnf))
  refine Br.mk (fun h => ?_) (fun h => ?_)
  · conv => whnf
    repeat (first | (refine Br.t ?_; conv => whnf) | (refine Br.f ?_; conv => whnf))
    exact ⟨by rw [eqW_false (fun e => by subst e; simp at h)], rfl⟩
  have hg : a.agent = b.agent := by rw [ba_beq] at h; simpa using h
  clear h
  conv => whnf
  repeat (first | (refine Br.t ?_; conv => whnf) | (refine Br.f ?_; conv => whnf))
  refine Br.mk (fun h => ?_) (fun h => ?_)
  · conv => whnf
    repeat (first | (refine Br.t ?_; conv => whnf) | (refine Br.f ?_; conv => whnf))
    exact ⟨by rw [eqW_false (fun e => by subst e; simp at h)], rfl⟩
  have hm : a.more.length = b.more.length := by simp at h; omega
  clear h
  conv => whnf
  repeat (first | (refine Br.t ?_; conv => whnf) | (refine Br.f ?_; conv => whnf))
  refine loopW (by kernel_rfl) (γ := Nat) (fun i => i ≤ a.names.length ∧ a.names.take i = b.names.take i) (fun i => [(2, .ptr 0 0), (3, .ptr 1 0), (5, .d (.i .i64 i))])
    (fun _ => [.box [.d (.sl (rowsN a.names)), .d (.i .i64 a.size), .d (.i .i64 a.queue), .d (.s a.agent), .d (.sl (rowsP a.more))], .box [.d (.sl (rowsN b.names)), .d (.i .i64 b.size), .d (.i .i64 b.queue), .d (.s b.agent), .d (.sl (rowsP b.more))]])
    (fun i => a.names.length - i) (fun i _ => ⟨Nat.zero_le _, rfl⟩) 0 ⟨Nat.zero_le _, rfl⟩ ⟨[], rfl⟩ ⟨rfl, rfl, rfl, rfl, rfl, rfl, trivial⟩ ?_
  rintro i ⟨hle, htake⟩
  conv => whnf
  refine Br.mk (fun h => ?_) (fun h => ?_)
  · have hlt : i < a.names.length := by simpa using h
    have hlt' : i < b.names.length := hn ▸ hlt
    clear h
    conv => whnf
    refine drawW [] mixed (by kernel_rfl) (by kernel_rfl) ?_
    conv => whnf
    refine ⟨⟨rowsN_all _, by omega, by simpa using hlt⟩, ?_⟩
    rw [show (i : Int).toNat = i from rfl, rowsN_get hlt]
    conv => whnf
    refine ⟨by simp, ?_⟩
    conv => whnf
    refine ⟨⟨rowsN_all _, by omega, by simpa using hlt'⟩, ?_⟩
    rw [show (i : Int).toNat = i from rfl, rowsN_get hlt']
    conv => whnf
    refine ⟨by simp, ?_⟩
    conv => whnf
    refine ⟨by kernel_rfl, ?_⟩
    conv => whnf
    refine Br.mk (fun h => ?_) (fun h => ?_)
    · have hne : ¬ a.names[i] = b.names[i] := fun e => by rw [e] at h; simp at h
      conv => whnf
      exact ⟨by rw [eqW_false (fun e => hne (by subst e; rfl))], rfl⟩
    · have he : a.names[i] = b.names[i] := by
        rw [ba_beq] at h
        simp at h
        exact Prod.ext h.1 h.2
      conv => whnf
      refine ⟨i + 1, ⟨hlt, take_same hlt hlt' htake he⟩, by omega, ⟨[], rfl⟩, ⟨rfl, rfl, rfl, rfl, ?_, rfl, trivial⟩⟩
      show PV.d (.i .i64 (IntKind.wrap .i64 (i + 1))) = _
      rw [wrap_i64 (by omega) (by omega)]; rfl
  have hnames : a.names = b.names := by
    have : i = a.names.length := by simp at h; omega
    rw [this, List.take_length, hn, List.take_length] at htake
    exact htake
  clear h htake hle
  conv => whnf
  refine loopW (by kernel_rfl) (γ := Nat) (fun i => i ≤ a.more.length ∧ a.more.take i = b.more.take i) (fun i => [(2, .ptr 0 0), (3, .ptr 1 0), (6, .d (.i .i64 i))])
    (fun _ => [.box [.d (.sl (rowsN a.names)), .d (.i .i64 a.size), .d (.i .i64 a.queue), .d (.s a.agent), .d (.sl (rowsP a.more))], .box [.d (.sl (rowsN b.names)), .d (.i .i64 b.size), .d (.i .i64 b.queue), .d (.s b.agent), .d (.sl (rowsP b.more))]])
    (fun i => a.more.length - i) (fun i _ => ⟨Nat.zero_le _, rfl⟩) 0 ⟨Nat.zero_le _, rfl⟩ ⟨[], rfl⟩ ⟨rfl, rfl, rfl, rfl, rfl, rfl, trivial⟩ ?_
  rintro i ⟨hle, htake⟩
  conv => whnf
  refine Br.mk (fun h => ?_) (fun h => ?_)
  · have hlt : i < a.more.length := by simpa using h
    have hlt' : i < b.more.length := hm ▸ hlt
    clear h
    conv => whnf
    refine drawW [] mixed (by kernel_rfl) (by kernel_rfl) ?_
    conv => whnf
    refine ⟨⟨rowsP_all _, by omega, by simpa using hlt⟩, ?_⟩
    rw [show (i : Int).toNat = i from rfl, rowsP_get hlt]
    conv => whnf
    refine ⟨by simp, ?_⟩
    rw [show PV.agg (List.map PV.d (List.take 5 (List.drop 1 (D.s a.more[i].1 :: cellsV a.more[i].2)))) = valP a.more[i].2 from valP_take _]
    conv => whnf
    refine ⟨⟨rowsP_all _, by omega, by simpa using hlt'⟩, ?_⟩
    rw [show (i : Int).toNat = i from rfl, rowsP_get hlt']
    conv => whnf
    refine ⟨by simp, ?_⟩
    rw [show PV.agg (List.map PV.d (List.take 5 (List.drop 1 (D.s b.more[i].1 :: cellsV b.more[i].2)))) = valP b.more[i].2 from valP_take _]
    conv => whnf
    refine callF (equal_calls _ _ _ (Nat.le_refl _) ?_ ?_) (by simp [scBs, scB]) rfl ?_
    · have := bulkP_mem (List.getElem_mem hlt); omega
    · have := bulkP_mem (List.getElem_mem hlt'); omega
    conv => whnf
    refine drawW [] mixed (by kernel_rfl) (by kernel_rfl) ?_
    conv => whnf
    refine ⟨⟨rowsP_all _, by omega, by simpa using hlt⟩, ?_⟩
    rw [show (i : Int).toNat = i from rfl, rowsP_get hlt]
    conv => whnf
    refine ⟨⟨rowsP_all _, by omega, by simpa using hlt'⟩, ?_⟩
    rw [show (i : Int).toNat = i from rfl, rowsP_get hlt']
    conv => whnf
    refine Br.mk (fun h => ?_) (fun h => ?_)
    · have hne : ¬ a.more[i].1 = b.more[i].1 := by rw [ba_beq] at h; simpa using h
      conv => whnf
      repeat (first | (refine Br.t ?_; conv => whnf) | (refine Br.f ?_; conv => whnf))
      exact ⟨by rw [eqW_false (fun e => hne (by subst e; rfl))], rfl⟩
    have hkey : a.more[i].1 = b.more[i].1 := by rw [ba_beq] at h; simpa using h
    clear h
    conv => whnf
    repeat (first | (refine Br.t ?_; conv => whnf) | (refine Br.f ?_; conv => whnf))
    refine Br.mk (fun h => ?_) (fun h => ?_)
    · have hne : ¬ a.more[i].2 = b.more[i].2 := by simpa [eqV_not] using h
      conv => whnf
      exact ⟨by rw [eqW_false (fun e => hne (by subst e; rfl))], rfl⟩
    · have he : a.more[i].2 = b.more[i].2 := by simpa [eqV_iff] using h
      conv => whnf
      refine ⟨i + 1, ⟨hlt, take_same hlt hlt' htake (Prod.ext hkey he)⟩, by omega, ⟨[], rfl⟩, ⟨rfl, rfl, rfl, rfl, ?_, rfl, trivial⟩⟩
      show PV.d (.i .i64 (IntKind.wrap .i64 (i + 1))) = _
      rw [wrap_i64 (by omega) (by omega)]; rfl
  have hmore : a.more = b.more := by
    have : i = a.more.length := by simp at h; omega
    rw [this, List.take_length, hm, List.take_length] at htake
    exact htake
  conv => whnf
  exact ⟨by rw [eqW_true (Wsh.ext' hnames hs hq hg hmore)], rfl⟩

theorem law_names (w : Wsh) (name : ByteArray) (id : Int) (hw : w.names.length ≤ 1048576) (hm : bulkR (rowsP w.more) ≤ 1048576) : CallsA Try.prog 5 [wishC w, .d (.s name), .d (.i .i64 id)] [] YesR := by
  refine callsW_of 0 Try.call5 Try.func5 (c := _) rfl (by kernel_rfl) (Nat.le_of_ble_eq_true rfl) (Nat.le_refl 0) ?_
  conv => whnf
  refine callSome (farPairs_calls w.more hm) rfl fun x => ?_
  conv => whnf
  refine Br.mk (fun h => ?_) (fun h => ?_)
  · conv => whnf
    exact ⟨rfl, rfl⟩
  conv => whnf
  refine callP (twin_calls w hw hm) rfl rfl fun _ => ?_
  conv => whnf
  refine callP (xnumber_calls w name hw) rfl rfl fun _ => ?_
  conv => whnf
  refine callP (number_calls w name hw) rfl rfl fun _ => ?_
  conv => whnf
  refine Br.mk (fun h => absurd h (by simp)) (fun _ => ?_)
  conv => whnf
  repeat (first | (refine Br.t ?_; conv => whnf) | (refine Br.f ?_; conv => whnf))
  refine Br.mk (fun h => absurd h (by simp)) (fun _ => ?_)
  conv => whnf
  repeat (first | (refine Br.t ?_; conv => whnf) | (refine Br.f ?_; conv => whnf))
  refine callP (xname_calls w id hw) rfl rfl fun _ => ?_
  conv => whnf
  refine callP (name_calls w id hw) rfl rfl fun _ => ?_
  conv => whnf
  refine Br.mk (fun _ => ?_) (fun h => absurd h (by rw [ba_beq] at h; simp at h))
  conv => whnf
  repeat (first | (refine Br.t ?_; conv => whnf) | (refine Br.f ?_; conv => whnf))
  refine Br.mk (fun _ => ?_) (fun h => absurd h (by simp))
  conv => whnf
  repeat (first | (refine Br.t ?_; conv => whnf) | (refine Br.f ?_; conv => whnf))
  refine callP (sameWish_calls w w hw hm hm) rfl rfl fun _ => ?_
  conv => whnf
  repeat (first | (refine Br.t ?_; conv => whnf) | (refine Br.f ?_; conv => whnf))
  exact ⟨by simp [eqW], rfl⟩
end Go.Aw
