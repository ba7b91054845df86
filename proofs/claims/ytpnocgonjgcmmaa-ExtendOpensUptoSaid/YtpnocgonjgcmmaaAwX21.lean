/- Layer 21: the small functions: sameBytes, copied, Open, Body. -/
import Derived.Test.YtpnocgonjgcmmaaAwBytes
import Derived.Test.YtpnocgonjgcmmaaProg
set_option linter.unusedVariables false
set_option linter.unusedSimpArgs false
namespace Go.Aw
open Go.Proofs
theorem mixed : Try.prog.follows .mixedOrders = true := by kernel_rfl
set_option maxRecDepth 100000

theorem toNat_u8 {a b : UInt8} (h : (a.toNat : Int) = b.toNat) : a = b := UInt8.toNat_inj.1 (Int.ofNat.inj h)

theorem sameBytes_calls (a b : List UInt8) : PureA Try.prog 9 [bytesP a, bytesP b] (.d (.b (decide (a = b)))) := by
  refine CallsA.sized Try.call9 fun hz => ?_
  have ha : a.length ≤ 9223372036854775807 := sizedB hz.1
  refine callsW_of 0 Try.call9 Try.func9 (c := _) rfl (by kernel_rfl) (Nat.le_of_ble_eq_true rfl) (Nat.le_refl 0) ?_
  conv => whnf
  refine Br.mk (fun h => ?_) (fun h => ?_)
  · conv => whnf
    refine ⟨?_, rfl⟩
    simp at h
    have : ¬ a = b := fun e => h (by rw [e])
    simp [this]
  · have hl : a.length = b.length := by simp at h; omega
    conv => whnf
    refine loopW (by kernel_rfl) (γ := Nat) (fun i => i ≤ a.length ∧ a.take i = b.take i) (fun i => [(0, .d (.sl (rowsB a))), (1, .d (.sl (rowsB b))), (5, .d (.i .i64 i))]) (fun _ => []) (fun i => a.length - i) (fun i _ => ⟨Nat.zero_le _, rfl⟩) 0 ⟨Nat.zero_le _, rfl⟩
      ⟨[], rfl⟩ ⟨rfl, rfl, rfl, rfl, rfl, rfl, trivial⟩ ?_
    rintro i ⟨hi, hab⟩
    conv => whnf
    refine Br.mk (fun h => ?_) (fun h => ?_)
    · have hlt : i < a.length := by simpa using h
      conv => whnf
      refine drawW [] mixed (by kernel_rfl) (by kernel_rfl) ?_
      conv => whnf
      refine ⟨⟨rowsB_all _, by omega, by simpa using hlt⟩, ?_⟩
      rw [show (i : Int).toNat = i from rfl, rowsB_get hlt]
      conv => whnf
      refine ⟨⟨rowsB_all _, by omega, by simp; omega⟩, ?_⟩
      rw [show (i : Int).toNat = i from rfl, rowsB_get (hl ▸ hlt)]
      conv => whnf
      refine Br.mk (fun h => ?_) (fun h => ?_)
      · conv => whnf
        refine ⟨?_, rfl⟩
        have : ¬ a = b := fun e => by subst e; simp at h
        simp [this]
      · conv => whnf
        refine ⟨i + 1, ⟨hlt, ?_⟩, by omega, ⟨[], rfl⟩, ⟨rfl, rfl, rfl, rfl, ?_, rfl, trivial⟩⟩
        · have : a[i] = b[i] := toNat_u8 (by simpa using h)
          rw [List.take_add_one, List.take_add_one, hab, List.getElem?_eq_getElem hlt, List.getElem?_eq_getElem (hl ▸ hlt), this]
        · show PV.d (.i .i64 (IntKind.wrap .i64 (i + 1))) = _
          rw [wrap_i64 (by omega) (by omega)]; rfl
    · have hge : i = a.length := by simp at h; omega
      conv => whnf
      refine ⟨?_, rfl⟩
      have : a = b := by rw [hge, List.take_length, hl, List.take_length] at hab; exact hab
      simp [this]

theorem copied_calls (l : List UInt8) (h47 : l.length ≤ 140737488355328) : PureA Try.prog 6 [bytesP l] (bytesP l) := by
  refine CallsA.sized Try.call6 fun hz => ?_
  refine callsW_of 0 Try.call6 Try.func6 (c := _) rfl (by kernel_rfl) (Nat.le_of_ble_eq_true rfl) (Nat.le_refl 0) ?_
  conv => whnf
  refine NilQ.mk (fun h => ?_) ?_
  · conv => whnf
    refine Br.t ?_
    conv => whnf
    exact ⟨by rw [show l = [] by simpa [rowsB] using h]; rfl, rfl⟩
  · conv => whnf
    refine Br.f ?_
    conv => whnf
    refine ⟨by simp; omega, ?_⟩
    conv => whnf
    refine loopW (by kernel_rfl) (γ := Nat) (fun i => i ≤ l.length) (fun i => [(0, bytesP l), (3, .own 0 1 i), (4, .d (.i .i64 i))]) (fun i => [.buf (liftR (rowsB (l.take i)))]) (fun i => l.length - i) (fun i _ => ⟨Nat.zero_le _, by simp [sc_lift]⟩) 0 (Nat.zero_le _)
      ⟨[], rfl⟩ ⟨rfl, rfl, rfl, rfl, rfl, rfl, trivial⟩ ?_
    intro i hi
    conv => whnf
    refine Br.mk (fun h => ?_) (fun h => ?_)
    · have hlt : i < l.length := by simpa using h
      conv => whnf
      refine ⟨⟨rowsB_all _, by omega, by simpa using hlt⟩, ?_⟩
      rw [show (i : Int).toNat = i from rfl, rowsB_get hlt]
      conv => whnf
      refine Lit.data ?_
      conv => whnf
      refine ⟨⟨by simp [AllLen], by simp; omega, allLen_lift (rowsB_all _), by simp; omega, by simp; omega⟩, ?_⟩
      conv => whnf
      refine ⟨i + 1, hlt, by omega, ⟨[], ?_⟩, ⟨rfl, rfl, rfl, rfl, ?_, rfl, trivial⟩⟩
      · rw [rowsB_succ hlt]; simp
      · show PV.d (.i .i64 (IntKind.wrap .i64 (i + 1))) = _
        rw [wrap_i64 (by omega) (by omega)]; rfl
    · have hge : i = l.length := by simp at h; omega
      conv => whnf
      refine ⟨rowsB l, by simp [hge], by rw [hge, List.take_length]; exact toRows_map _, ?_⟩
      conv => whnf
      exact ⟨rfl, rfl⟩

/-- Open's answer. -/
def openT (l : List UInt8) : Int × List UInt8 × Int :=
  if 32768 < l.length then (0, [], 213)
  else match l with
    | a :: b :: r => if a = 20 then (b.toNat, r, 0) else (0, [], 210)
    | _ => (0, [], 210)
def openV (l : List UInt8) : PV := .tup [.d (.i .i64 (openT l).1), bytesP (openT l).2.1, .d (.i .i64 (openT l).2.2)]

theorem open_calls (l : List UInt8) : PureA Try.prog 7 [bytesP l] (openV l) := by
  refine CallsA.sized Try.call7 fun hz => ?_
  refine callsW_of 0 Try.call7 Try.func7 (c := _) rfl (by kernel_rfl) (Nat.le_of_ble_eq_true rfl) (Nat.le_refl 0) ?_
  conv => whnf
  refine Br.mk (fun h => ?_) (fun h => ?_)
  · conv => whnf
    refine ⟨?_, rfl⟩
    unfold openV openT
    rw [if_pos (by simp at h; omega)]; rfl
  · have h1 : ¬ 32768 < l.length := by simp at h; omega
    conv => whnf
    refine Br.mk (fun h => ?_) (fun h => ?_)
    · conv => whnf
      repeat (first | (refine Br.t ?_; conv => whnf) | (refine Br.f ?_; conv => whnf))
      refine ⟨?_, rfl⟩
      unfold openV openT
      rw [if_neg h1]
      match l, h with
      | [], _ => rfl
      | [_], _ => rfl
      | _ :: _ :: _, h => simp at h; omega
    · obtain ⟨a, b, r, rfl⟩ : ∃ a b r, l = a :: b :: r := by
        match l, h with
        | [], h => simp at h
        | [_], h => simp at h
        | a :: b :: r, _ => exact ⟨a, b, r, rfl⟩
      conv => whnf
      repeat (first | (refine Br.t ?_; conv => whnf) | (refine Br.f ?_; conv => whnf))
      refine ⟨⟨rowsB_all _, by omega, by simp; omega⟩, ?_⟩
      conv => whnf
      repeat (first | (refine Br.t ?_; conv => whnf) | (refine Br.f ?_; conv => whnf))
      refine Br.mk (fun h => ?_) (fun h => ?_)
      · conv => whnf
        refine ⟨?_, rfl⟩
        unfold openV openT
        rw [if_neg h1]
        have : ¬ a = 20 := fun e => by subst e; simp at h
        simp only [if_neg this]; rfl
      · have ha : a = 20 := UInt8.toNat_inj.1 (by simp at h; exact Int.ofNat.inj h)
        conv => whnf
        refine drawW [1, 2] mixed (by kernel_rfl) (by kernel_rfl) ?_
        conv => whnf
        refine ⟨⟨rowsB_all _, by omega, by simp; omega⟩, ?_⟩
        conv => whnf
        refine ⟨rowsB_all _, ?_⟩
        conv => whnf
        refine ⟨by simp; omega, ?_⟩
        conv => whnf
        rw [show List.drop (Int.toNat 2) (List.take (rowsB (a :: b :: r)).length (rowsB (a :: b :: r))) = rowsB r by rw [List.take_length]; rfl]
        refine ⟨⟨allLen_lift (rowsB_all _), by simp at h1 ⊢; omega, by simp at h1 ⊢; omega⟩, ?_⟩
        conv => whnf
        refine ⟨rowsB r, by simp, toRows_map _, ?_⟩
        conv => whnf
        refine ⟨?_, rfl⟩
        unfold openV openT
        rw [if_neg h1]
        simp only [ha, if_true]
        rw [wrap_i64 (by omega) (by have := b.toNat_lt; omega)]

theorem refOpen_calls (l : List UInt8) : PureA Try.prog 8 [bytesP l] (openV l) := by
  refine CallsA.sized Try.call8 fun hz => ?_
  refine callsW_of 0 Try.call8 Try.func8 (c := _) rfl (by kernel_rfl) (Nat.le_of_ble_eq_true rfl) (Nat.le_refl 0) ?_
  conv => whnf
  refine Br.mk (fun h => ?_) (fun h => ?_)
  · conv => whnf
    refine ⟨?_, rfl⟩
    unfold openV openT
    rw [if_pos (by simp at h; omega)]; rfl
  · have h1 : ¬ 32768 < l.length := by simp at h; omega
    conv => whnf
    refine Br.mk (fun h => ?_) (fun h => ?_)
    · conv => whnf
      repeat (first | (refine Br.t ?_; conv => whnf) | (refine Br.f ?_; conv => whnf))
      refine ⟨?_, rfl⟩
      unfold openV openT
      rw [if_neg h1]
      match l, h with
      | [], _ => rfl
      | [_], _ => rfl
      | _ :: _ :: _, h => simp at h; omega
    · obtain ⟨a, b, r, rfl⟩ : ∃ a b r, l = a :: b :: r := by
        match l, h with
        | [], h => simp at h
        | [_], h => simp at h
        | a :: b :: r, _ => exact ⟨a, b, r, rfl⟩
      conv => whnf
      repeat (first | (refine Br.t ?_; conv => whnf) | (refine Br.f ?_; conv => whnf))
      refine ⟨⟨rowsB_all _, by omega, by simp; omega⟩, ?_⟩
      conv => whnf
      repeat (first | (refine Br.t ?_; conv => whnf) | (refine Br.f ?_; conv => whnf))
      refine Br.mk (fun h => ?_) (fun h => ?_)
      · conv => whnf
        refine ⟨?_, rfl⟩
        unfold openV openT
        rw [if_neg h1]
        have : ¬ a = 20 := fun e => by subst e; simp at h
        simp only [if_neg this]; rfl
      · have ha : a = 20 := UInt8.toNat_inj.1 (by simp at h; exact Int.ofNat.inj h)
        conv => whnf
        refine ⟨rowsB_all _, ?_⟩
        conv => whnf
        refine ⟨by simp; omega, ?_⟩
        conv => whnf
        rw [show List.drop (Int.toNat 2) (List.take (rowsB (a :: b :: r)).length (rowsB (a :: b :: r))) = rowsB r by rw [List.take_length]; rfl]
        refine ⟨⟨allLen_lift (rowsB_all _), by simp at h1 ⊢; omega, by simp at h1 ⊢; omega⟩, ?_⟩
        conv => whnf
        refine ⟨⟨rowsB_all _, by omega, by simp; omega⟩, ?_⟩
        conv => whnf
        refine ⟨rowsB r, by simp, toRows_map _, ?_⟩
        conv => whnf
        refine ⟨?_, rfl⟩
        unfold openV openT
        rw [if_neg h1]
        simp only [ha, if_true]
        rw [wrap_i64 (by omega) (by have := b.toNat_lt; omega)]

theorem law_opens (l : List UInt8) (h47 : l.length ≤ 140737488355328) : CallsA Try.prog 3 [bytesP l] [] YesR := by
  refine callsW_of 0 Try.call3 Try.func3 (c := _) rfl (by kernel_rfl) (Nat.le_of_ble_eq_true rfl) (Nat.le_refl 0) ?_
  conv => whnf
  refine callP (copied_calls l h47) rfl rfl fun _ => ?_
  conv => whnf
  refine callP (open_calls l) rfl rfl fun _ => ?_
  conv => whnf
  refine callP (refOpen_calls l) rfl rfl fun _ => ?_
  conv => whnf
  refine Br.mk (fun _ => ?_) (fun h => absurd h (by simp))
  conv => whnf
  repeat (first | (refine Br.t ?_; conv => whnf) | (refine Br.f ?_; conv => whnf))
  refine Br.mk (fun _ => ?_) (fun h => absurd h (by simp))
  conv => whnf
  repeat (first | (refine Br.t ?_; conv => whnf) | (refine Br.f ?_; conv => whnf))
  refine callP (sameBytes_calls _ _) rfl rfl fun _ => ?_
  conv => whnf
  repeat (first | (refine Br.t ?_; conv => whnf) | (refine Br.f ?_; conv => whnf))
  refine Br.mk (fun _ => ?_) (fun h => absurd h (by simp))
  conv => whnf
  repeat (first | (refine Br.t ?_; conv => whnf) | (refine Br.f ?_; conv => whnf))
  refine callP (sameBytes_calls _ _) rfl rfl fun _ => ?_
  conv => whnf
  repeat (first | (refine Br.t ?_; conv => whnf) | (refine Br.f ?_; conv => whnf))
  exact ⟨by simp, rfl⟩

/-- Body's answer. -/
def bodyT (id : Int) (l : List UInt8) : List UInt8 × Int :=
  if id < 0 ∨ 255 < id then ([], 211)
  else if 32766 < l.length then ([], 213)
  else (20 :: UInt8.ofNat id.toNat :: l, 0)
def bodyV (id : Int) (l : List UInt8) : PV := .tup [bytesP (bodyT id l).1, .d (.i .i64 (bodyT id l).2)]

theorem body_calls (id : Int) (l : List UInt8) : PureA Try.prog 10 [.d (.i .i64 id), bytesP l] (bodyV id l) := by
  refine callsW_of 0 Try.call10 Try.func10 (c := _) rfl (by kernel_rfl) (Nat.le_of_ble_eq_true rfl) (Nat.le_refl 0) ?_
  conv => whnf
  refine Br.mk (fun h => ?_) (fun h => ?_)
  · conv => whnf
    repeat (first | (refine Br.t ?_; conv => whnf) | (refine Br.f ?_; conv => whnf))
    refine ⟨?_, rfl⟩
    unfold bodyV bodyT
    rw [if_pos (.inl (by simpa using h))]; rfl
  · have h0 : 0 ≤ id := by simpa using h
    conv => whnf
    repeat (first | (refine Br.t ?_; conv => whnf) | (refine Br.f ?_; conv => whnf))
    refine Br.mk (fun h => ?_) (fun h => ?_)
    · conv => whnf
      repeat (first | (refine Br.t ?_; conv => whnf) | (refine Br.f ?_; conv => whnf))
      refine ⟨?_, rfl⟩
      unfold bodyV bodyT
      rw [if_pos (.inr (by simpa using h))]; rfl
    · have h1 : id ≤ 255 := by simpa using h
      conv => whnf
      repeat (first | (refine Br.t ?_; conv => whnf) | (refine Br.f ?_; conv => whnf))
      have hn : ¬ (id < 0 ∨ 255 < id) := by omega
      refine Br.mk (fun h => ?_) (fun h => ?_)
      · conv => whnf
        refine ⟨?_, rfl⟩
        unfold bodyV bodyT
        rw [if_neg hn, if_pos (by simp at h; omega)]; rfl
      · have hl : ¬ 32766 < l.length := by simp at h; omega
        conv => whnf
        rw [show IntKind.i64.wrap (2 + ↑(rowsB l).length) = 2 + l.length by rw [wrap_i64] <;> simp <;> omega]
        refine ⟨by simp at hl ⊢; omega, ?_⟩
        conv => whnf
        refine Lit.data ?_
        conv => whnf
        rw [show IntKind.u8.wrap id = ((UInt8.ofNat id.toNat).toNat : Int) by rw [wrap_u8 h0 h1]; simp; omega]
        refine ⟨⟨by simp [AllLen], by simp, by simp [AllLen], by simp, by simp⟩, ?_⟩
        conv => whnf
        refine ⟨⟨allLen_lift (rowsB_all _), by simp, by simp [AllLen], by simp at hl ⊢; omega, by simp at hl ⊢; omega⟩, ?_⟩
        conv => whnf
        refine ⟨rowsB (20 :: UInt8.ofNat id.toNat :: l), by simp; omega, ?_, ?_⟩
        · exact toRows_map (rowsB (20 :: UInt8.ofNat id.toNat :: l))
        conv => whnf
        refine ⟨?_, rfl⟩
        unfold bodyV bodyT
        rw [if_neg hn, if_neg hl]

theorem refBody_calls (id : Int) (l : List UInt8) : PureA Try.prog 11 [.d (.i .i64 id), bytesP l] (bodyV id l) := by
  refine callsW_of 0 Try.call11 Try.func11 (c := _) rfl (by kernel_rfl) (Nat.le_of_ble_eq_true rfl) (Nat.le_refl 0) ?_
  conv => whnf
  refine Br.mk (fun h => ?_) (fun h => ?_)
  · conv => whnf
    repeat (first | (refine Br.t ?_; conv => whnf) | (refine Br.f ?_; conv => whnf))
    refine ⟨?_, rfl⟩
    unfold bodyV bodyT
    rw [if_pos (.inl (by simpa using h))]; rfl
  · have h0 : 0 ≤ id := by simpa using h
    conv => whnf
    repeat (first | (refine Br.t ?_; conv => whnf) | (refine Br.f ?_; conv => whnf))
    refine Br.mk (fun h => ?_) (fun h => ?_)
    · conv => whnf
      repeat (first | (refine Br.t ?_; conv => whnf) | (refine Br.f ?_; conv => whnf))
      refine ⟨?_, rfl⟩
      unfold bodyV bodyT
      rw [if_pos (.inr (by simpa using h))]; rfl
    · have h1 : id ≤ 255 := by simpa using h
      conv => whnf
      repeat (first | (refine Br.t ?_; conv => whnf) | (refine Br.f ?_; conv => whnf))
      have hn : ¬ (id < 0 ∨ 255 < id) := by omega
      refine Br.mk (fun h => ?_) (fun h => ?_)
      · conv => whnf
        refine ⟨?_, rfl⟩
        unfold bodyV bodyT
        rw [if_neg hn, if_pos (by simp at h; omega)]; rfl
      · have hl : ¬ 32766 < l.length := by simp at h; omega
        conv => whnf
        refine Lit.own ?_
        conv => whnf
        rw [show IntKind.u8.wrap id = ((UInt8.ofNat id.toNat).toNat : Int) by rw [wrap_u8 h0 h1]; simp; omega]
        refine ⟨⟨allLen_lift (rowsB_all _), by simp, by simp [AllLen], by simp at hl ⊢; omega, by simp at hl ⊢; omega⟩, ?_⟩
        conv => whnf
        refine ⟨rowsB (20 :: UInt8.ofNat id.toNat :: l), by simp; omega, ?_, ?_⟩
        · exact toRows_map (rowsB (20 :: UInt8.ofNat id.toNat :: l))
        conv => whnf
        refine ⟨?_, rfl⟩
        unfold bodyV bodyT
        rw [if_neg hn, if_neg hl]

theorem law_bodies (id : Int) (l : List UInt8) (h47 : l.length ≤ 140737488355328) : CallsA Try.prog 4 [.d (.i .i64 id), bytesP l] [] YesR := by
  refine callsW_of 0 Try.call4 Try.func4 (c := _) rfl (by kernel_rfl) (Nat.le_of_ble_eq_true rfl) (Nat.le_refl 0) ?_
  conv => whnf
  refine callP (copied_calls l h47) rfl rfl fun _ => ?_
  conv => whnf
  refine callP (body_calls id l) rfl rfl fun _ => ?_
  conv => whnf
  refine callP (refBody_calls id l) rfl rfl fun _ => ?_
  conv => whnf
  repeat (first | (refine Br.t ?_; conv => whnf) | (refine Br.f ?_; conv => whnf))
  refine Br.mk (fun _ => ?_) (fun h => absurd h (by simp))
  conv => whnf
  repeat (first | (refine Br.t ?_; conv => whnf) | (refine Br.f ?_; conv => whnf))
  refine callP (sameBytes_calls _ _) rfl rfl fun _ => ?_
  conv => whnf
  repeat (first | (refine Br.t ?_; conv => whnf) | (refine Br.f ?_; conv => whnf))
  refine Br.mk (fun _ => ?_) (fun h => absurd h (by simp))
  conv => whnf
  repeat (first | (refine Br.t ?_; conv => whnf) | (refine Br.f ?_; conv => whnf))
  refine callP (sameBytes_calls _ _) rfl rfl fun _ => ?_
  conv => whnf
  repeat (first | (refine Br.t ?_; conv => whnf) | (refine Br.f ?_; conv => whnf))
  exact ⟨by simp, rfl⟩
end Go.Aw
