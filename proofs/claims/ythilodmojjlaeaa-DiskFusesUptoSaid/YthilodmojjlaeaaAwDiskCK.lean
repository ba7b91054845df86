/- Layer 12: Crash. -/
import Derived.Test.YthilodmojjlaeaaAwDiskFK
set_option linter.unusedVariables false
set_option linter.unusedSimpArgs false
namespace Go.Aw
open Go.Proofs
set_option maxRecDepth 100000

/-- What a crash leaves of the writes from the i-th on. -/
def crashB (keep : List Bool) (torn : Int) (cut : Nat) : Nat → List Wr → List UInt8 → List UInt8
  | _, [], l => l
  | i, x :: r, l => crashB keep torn cut (i + 1) r (if x.2.2 then l else if (i : Int) = torn then splice l (x.1.toNat * 64) (x.2.1.take cut) else if keep.getD i false then splice l (x.1.toNat * 64) x.2.1 else l)
abbrev keepP (k : List Bool) : PV := .d (.sl (k.map fun b => [D.b b]))
theorem keepAll (k : List Bool) : AllLen 1 (k.map fun b => [D.b b]) := by
  intro r hr
  obtain ⟨x, _, rfl⟩ := List.mem_map.1 hr
  rfl
theorem allLen_lgs (ws : List Wr) (h : ∀ x ∈ ws, x.2.1.length = 64) : AllLen 66 (liftR (ws.map lgRow)) := by
  intro r hr
  simp only [liftR, List.map_map, List.mem_map] at hr
  obtain ⟨x, hx, rfl⟩ := hr
  simp [h x hx]
theorem splB2 (X b : List UInt8) (o : Nat) : splice (liftR (rowsB X)) o ((liftR (rowsB b)).take b.length) = liftR (rowsB (splice X o b)) := by
  rw [List.take_of_length_le (by simp)]
  simp [splice, liftR, rowsB, List.map_take, List.map_drop]
theorem keep_get (keep : List Bool) (i : Nat) (h : i < keep.length) : (keep.map fun b => [D.b b]).getD i [] = [D.b (keep.getD i false)] := by
  simp [List.getD_eq_getElem?_getD, h]
theorem lgRow_get (ws : List Wr) (i : Nat) (hi : i < ws.length) : (liftR (ws.map lgRow)).getD (i : Int).toNat [] = [.d (.i .i64 ws[i].1)] ++ ((ws[i].2.1.map byD).map .d ++ [.d (.b ws[i].2.2)]) := by
  rw [Int.toNat_natCast, List.getD_eq_getElem?_getD, List.getElem?_eq_getElem (by simp [liftR]; exact hi)]
  simp [liftR]
section
variable (l : List UInt8) (hl : l.length ≤ 16777216) (m : List (Int × Nat × List UInt8)) (c : Nat) (fused : Bool) (fuse : Int)
include hl
theorem diskCrash_some (ws : List Wr) (hn : ws.length ≤ 1048576) (hw : ∀ x ∈ ws, x.2.1.length = 64 ∧ 0 ≤ x.1 ∧ x.1 < (l.length / 64 : Nat)) (keep : List Bool) (hk : keep.length = ws.length) (torn : Int) (ht : -1 ≤ torn ∧ torn < ws.length) (cut : Nat) (hc : cut ≤ 64) :
    DetA Try.prog 31 [.ptr 2 0, keepP keep, .d (.i .i64 torn), .d (.i .i64 cut)] (dObs l m c (some (ws.map lgRow)) fused fuse) (errP 0)
      (dObs (crashB keep torn cut 0 ws l) [] c none false fuse ++ lgX (some (ws.map lgRow))) := by
  have hla := fun (X : List UInt8) (hX : X.length ≤ 16777216) (at_ : Nat) (ha : at_ < X.length / 64) (Y : Heap) => (diskLasting_calls X hX m c (some (ws.map lgRow)) fused fuse at_ ha).more Y rfl rfl (dObs_sc ..) (dObs_sc ..)
  have hrows := allLen_lgs ws fun x hx => (hw x hx).1
  refine callsW_of 4 Try.call31 Try.func31 (c := _) rfl (by kernel_rfl) (Nat.le_of_ble_eq_true rfl) (Nat.le_refl _) ?_
  ((conv => whnf); repeat (refine SeqW.go ?_; conv => whnf))
  repeat (first | (refine Br.t ?_; conv => whnf) | (refine Cd.mk (by omega) ?_; conv => whnf) | (refine Br.f ?_; conv => whnf) | (refine SeqW.go ?_; conv => whnf))
  first | refine Br.dec (fun g1 => ?_) (fun g1 => ?_) | refine Br.beq (fun g1 => ?_) (fun g1 => ?_) | refine Br.bne (fun g1 => ?_) (fun g1 => ?_) | refine Br.nbeq (fun g1 => ?_) (fun g1 => ?_) | refine Br.not (fun g1 => ?_) (fun g1 => ?_) | refine Br.mk (fun g1 => ?_) (fun g1 => ?_)
  · exact absurd (by simp [hk]) g1
  ((conv => whnf); repeat (refine SeqW.go ?_; conv => whnf))
  repeat (first | (refine Br.t ?_; conv => whnf) | (refine Cd.mk (by omega) ?_; conv => whnf) | (refine Br.f ?_; conv => whnf) | (refine SeqW.go ?_; conv => whnf))
  first | refine Br.dec (fun g2 => ?_) (fun g2 => ?_) | refine Br.beq (fun g2 => ?_) (fun g2 => ?_) | refine Br.bne (fun g2 => ?_) (fun g2 => ?_) | refine Br.nbeq (fun g2 => ?_) (fun g2 => ?_) | refine Br.not (fun g2 => ?_) (fun g2 => ?_) | refine Br.mk (fun g2 => ?_) (fun g2 => ?_)
  · omega
  ((conv => whnf); repeat (refine SeqW.go ?_; conv => whnf))
  repeat (first | (refine Br.t ?_; conv => whnf) | (refine Cd.mk (by omega) ?_; conv => whnf) | (refine Br.f ?_; conv => whnf) | (refine SeqW.go ?_; conv => whnf))
  first | refine Br.dec (fun g3 => ?_) (fun g3 => ?_) | refine Br.beq (fun g3 => ?_) (fun g3 => ?_) | refine Br.bne (fun g3 => ?_) (fun g3 => ?_) | refine Br.nbeq (fun g3 => ?_) (fun g3 => ?_) | refine Br.not (fun g3 => ?_) (fun g3 => ?_) | refine Br.mk (fun g3 => ?_) (fun g3 => ?_)
  · simp at g3; omega
  ((conv => whnf); repeat (refine SeqW.go ?_; conv => whnf))
  repeat (first | (refine Br.t ?_; conv => whnf) | (refine Cd.mk (by omega) ?_; conv => whnf) | (refine Br.f ?_; conv => whnf) | (refine SeqW.go ?_; conv => whnf))
  first | refine Br.dec (fun g4 => ?_) (fun g4 => ?_) | refine Br.beq (fun g4 => ?_) (fun g4 => ?_) | refine Br.bne (fun g4 => ?_) (fun g4 => ?_) | refine Br.nbeq (fun g4 => ?_) (fun g4 => ?_) | refine Br.not (fun g4 => ?_) (fun g4 => ?_) | refine Br.mk (fun g4 => ?_) (fun g4 => ?_)
  rotate_left
  · ((conv => whnf); repeat (refine SeqW.go ?_; conv => whnf))
    repeat (first | (refine Br.t ?_; conv => whnf) | (refine Cd.mk (by omega) ?_; conv => whnf) | (refine Br.f ?_; conv => whnf) | (refine SeqW.go ?_; conv => whnf))
    refine loopK (by kernel_rfl) (γ := Nat × List UInt8) 4 (fun g => g.1 ≤ ws.length ∧ g.2.length = l.length ∧ crashB keep torn cut g.1 (ws.drop g.1) g.2 = crashB keep torn cut 0 ws l) (fun g => [(52, .d (.i .i64 g.1))]) (fun g => [(0, dLast g.2)]) (fun g => ws.length - g.1)
      ⟨rfl, rfl⟩ (fun _ _ => by (repeat (first | exact allN | refine allC (by first | exact sc_lift _ _ | exact sc_wes _ _ _ | exact sc_arr rfl | rfl) ?_))) (0, l) ⟨Nat.zero_le _, rfl, rfl⟩ (by repeat (first | exact trivial | refine ⟨.refl _, ?_⟩)) ⟨rfl, rfl, trivial⟩ ?_
    rintro ⟨i, X⟩ ⟨hi, hX, hj⟩
    simp only at hi hX hj
    rw [← hX]
    ((conv => whnf); repeat (refine SeqW.go ?_; conv => whnf))
    have hlen : (ws.map lgRow).length = ws.length := List.length_map ..
    first | refine Br.dec (fun g6 => ?_) (fun g6 => ?_) | refine Br.beq (fun g6 => ?_) (fun g6 => ?_) | refine Br.bne (fun g6 => ?_) (fun g6 => ?_) | refine Br.nbeq (fun g6 => ?_) (fun g6 => ?_) | refine Br.not (fun g6 => ?_) (fun g6 => ?_) | refine Br.mk (fun g6 => ?_) (fun g6 => ?_)
    · have hi' : i < ws.length := by simp at g6; exact g6
      have hx := hw ws[i] (List.getElem_mem _)
      ((conv => whnf); repeat (refine SeqW.go ?_; conv => whnf))
      repeat (first | (refine Br.t ?_; conv => whnf) | (refine Cd.mk (by omega) ?_; conv => whnf) | (refine Br.f ?_; conv => whnf) | (refine SeqW.go ?_; conv => whnf))
      refine ⟨⟨rfl, by simp [liftR], by omega, by simp; omega⟩, ?_⟩
      ((conv => whnf); repeat (refine SeqW.go ?_; conv => whnf))
      refine ⟨⟨by simp [liftR], hrows, by simp; omega, rfl, rfl⟩, [.d (.i .i64 ws[i].1)], ws[i].2.1.map byD, [.d (.b ws[i].2.2)], lgRow_get ws i hi', rfl, by simp [hx.1], rfl, ?_⟩
      ((conv => whnf); repeat (refine SeqW.go ?_; conv => whnf))
      refine ⟨by kernel_rfl, ?_⟩
      ((conv => whnf); repeat (refine SeqW.go ?_; conv => whnf))
      refine ⟨⟨rfl, rfl, rfl, rfl, rfl⟩, ?_⟩
      ((conv => whnf); repeat (refine SeqW.go ?_; conv => whnf))
      repeat (first | (refine Br.t ?_; conv => whnf) | (refine Cd.mk (by omega) ?_; conv => whnf) | (refine Br.f ?_; conv => whnf) | (refine SeqW.go ?_; conv => whnf))
      refine ⟨(show 1 + 64 ≤ 65 by omega), ?_⟩
      ((conv => whnf); repeat (refine SeqW.go ?_; conv => whnf))
      repeat (first | (refine Br.t ?_; conv => whnf) | (refine Cd.mk (by omega) ?_; conv => whnf) | (refine Br.f ?_; conv => whnf) | (refine SeqW.go ?_; conv => whnf))
      rw [List.drop_eq_getElem_cons hi'] at hj
      simp only [crashB] at hj
      first | refine Br.dec (fun d1 => ?_) (fun d1 => ?_) | refine Br.beq (fun d1 => ?_) (fun d1 => ?_) | refine Br.bne (fun d1 => ?_) (fun d1 => ?_) | refine Br.nbeq (fun d1 => ?_) (fun d1 => ?_) | refine Br.not (fun d1 => ?_) (fun d1 => ?_) | refine Br.mk (fun d1 => ?_) (fun d1 => ?_)
      · ((conv => whnf); repeat (refine SeqW.go ?_; conv => whnf))
        repeat (first | (refine Br.t ?_; conv => whnf) | (refine Cd.mk (by omega) ?_; conv => whnf) | (refine Br.f ?_; conv => whnf) | (refine SeqW.go ?_; conv => whnf))
        rw [if_pos d1] at hj
        refine ⟨(i + 1, X), ⟨hi', rfl, hj⟩, by simp only; omega, (by repeat (first | exact trivial | refine ⟨.refl _, ?_⟩)), ⟨wrap_next (by omega), rfl, trivial⟩, (by repeat (first | exact trivial | refine ⟨rfl, ?_⟩))⟩
      · rw [if_neg (by simpa using d1)] at hj
        ((conv => whnf); repeat (refine SeqW.go ?_; conv => whnf))
        repeat (first | (refine Br.t ?_; conv => whnf) | (refine Cd.mk (by omega) ?_; conv => whnf) | (refine Br.f ?_; conv => whnf) | (refine SeqW.go ?_; conv => whnf))
        obtain ⟨a, ha⟩ : ∃ n : Nat, ws[i].1 = n := ⟨ws[i].1.toNat, by omega⟩
        first | refine Br.dec (fun d2 => ?_) (fun d2 => ?_) | refine Br.beq (fun d2 => ?_) (fun d2 => ?_) | refine Br.bne (fun d2 => ?_) (fun d2 => ?_) | refine Br.nbeq (fun d2 => ?_) (fun d2 => ?_) | refine Br.not (fun d2 => ?_) (fun d2 => ?_) | refine Br.mk (fun d2 => ?_) (fun d2 => ?_)
        · rw [if_pos d2] at hj
          ((conv => whnf); repeat (refine SeqW.go ?_; conv => whnf))
          repeat (first | (refine Br.t ?_; conv => whnf) | (refine Cd.mk (by omega) ?_; conv => whnf) | (refine Br.f ?_; conv => whnf) | (refine SeqW.go ?_; conv => whnf))
          refine drawW [6] mixed (by kernel_rfl) (by kernel_rfl) ?_
          ((conv => whnf); repeat (refine SeqW.go ?_; conv => whnf))
          refine OpF.rd rfl ⟨(show 0 < 1 by omega), rfl, rfl⟩ ?_
          ((conv => whnf); repeat (refine SeqW.go ?_; conv => whnf))
          rw [ha]
          try rw [← hX]
          refine (hla X (by omega) a (by omega) [_]).callF ?_
          ((conv => whnf); repeat (refine SeqW.go ?_; conv => whnf))
          refine ⟨_, fun _ _ _ _ _ _ => pxW_pt ⟨⟨by omega, by omega⟩, ⟨(show 0 < 64 by omega), (show 64 ≤ 16777216 by omega)⟩, rfl, rfl⟩, ?_⟩
          ((conv => whnf); repeat (refine SeqW.go ?_; conv => whnf))
          refine OpF.wr rfl ⟨⟨rfl, (show 0 + (cut - 0) ≤ 64 by omega)⟩, ⟨rfl, ?_, ?_, ?_, ?_⟩, rfl, rfl⟩ ?_
          · rw [srcB]; exact allLen_lift (rowsB_all _)
          · simp [liftR]
          · exact allLen_lift (rowsB_all _)
          · omega
          ((conv => whnf); repeat (refine SeqW.go ?_; conv => whnf))
          repeat (first | (refine Br.t ?_; conv => whnf) | (refine Cd.mk (by omega) ?_; conv => whnf) | (refine Br.f ?_; conv => whnf) | (refine SeqW.go ?_; conv => whnf))
          rw [srcB, List.drop_zero, Nat.sub_zero, show ((cut : Nat) : Int).toNat = cut from rfl, show min (liftR (rowsB (ws[i].2.1.take cut))).length 64 = (ws[i].2.1.take cut).length by simp; omega, splB2]
          rw [ha, Int.toNat_natCast] at hj
          try rw [hX]
          refine ⟨(i + 1, splice X (a * 64) (ws[i].2.1.take cut)), ⟨hi', (splice_length _ _ _ (by simp; omega)).trans hX, hj⟩, by simp only; omega, (by repeat (first | exact trivial | refine ⟨.refl _, ?_⟩)), ⟨wrap_next (by omega), rfl, trivial⟩, (by repeat (first | exact trivial | refine ⟨rfl, ?_⟩))⟩
        · rw [if_neg d2] at hj
          ((conv => whnf); repeat (refine SeqW.go ?_; conv => whnf))
          repeat (first | (refine Br.t ?_; conv => whnf) | (refine Cd.mk (by omega) ?_; conv => whnf) | (refine Br.f ?_; conv => whnf) | (refine SeqW.go ?_; conv => whnf))
          refine ⟨⟨keepAll keep, by omega, by simp; omega⟩, ?_⟩
          rw [show ((i : Nat) : Int).toNat = i from rfl, keep_get keep i (by omega)]
          ((conv => whnf); repeat (refine SeqW.go ?_; conv => whnf))
          repeat (first | (refine Br.t ?_; conv => whnf) | (refine Cd.mk (by omega) ?_; conv => whnf) | (refine Br.f ?_; conv => whnf) | (refine SeqW.go ?_; conv => whnf))
          first | refine Br.dec (fun d3 => ?_) (fun d3 => ?_) | refine Br.beq (fun d3 => ?_) (fun d3 => ?_) | refine Br.bne (fun d3 => ?_) (fun d3 => ?_) | refine Br.nbeq (fun d3 => ?_) (fun d3 => ?_) | refine Br.not (fun d3 => ?_) (fun d3 => ?_) | refine Br.mk (fun d3 => ?_) (fun d3 => ?_)
          · rw [if_pos d3] at hj
            ((conv => whnf); repeat (refine SeqW.go ?_; conv => whnf))
            refine drawW [] mixed (by kernel_rfl) (by kernel_rfl) ?_
            ((conv => whnf); repeat (refine SeqW.go ?_; conv => whnf))
            refine OpF.rd rfl ⟨(show 0 < 1 by omega), rfl, rfl⟩ ?_
            ((conv => whnf); repeat (refine SeqW.go ?_; conv => whnf))
            rw [ha]
            try rw [← hX]
            refine (hla X (by omega) a (by omega) [_]).callF ?_
            ((conv => whnf); repeat (refine SeqW.go ?_; conv => whnf))
            refine OpF.pure (fun _ => ⟨⟨(show (0 : Nat) < 64 by omega), (show (64 : Nat) ≤ 16777216 by omega)⟩, rfl, rfl⟩) ?_
            ((conv => whnf); repeat (refine SeqW.go ?_; conv => whnf))
            refine OpF.wr rfl ⟨⟨rfl, (show 0 + (64 - 0) ≤ 64 by omega)⟩, ⟨rfl, ?_, ?_, ?_, ?_⟩, rfl, rfl⟩ ?_
            · rw [srcB]; exact allLen_lift (rowsB_all _)
            · simp [liftR]
            · exact allLen_lift (rowsB_all _)
            · omega
            ((conv => whnf); repeat (refine SeqW.go ?_; conv => whnf))
            repeat (first | (refine Br.t ?_; conv => whnf) | (refine Cd.mk (by omega) ?_; conv => whnf) | (refine Br.f ?_; conv => whnf) | (refine SeqW.go ?_; conv => whnf))
            have hb0 : (ws[i].2.1.drop 0).take (64 - 0) = ws[i].2.1 := by rw [List.drop_zero, List.take_of_length_le]; omega
            rw [srcB, hb0]
            rw [show min (liftR (rowsB ws[i].2.1)).length 64 = 64 by simp only [liftR, List.length_map, rowsB_len]; omega]
            rw [splB X ws[i].2.1 _ hx.1]
            rw [ha, Int.toNat_natCast] at hj
            try rw [hX]
            refine ⟨(i + 1, splice X (a * 64) ws[i].2.1), ⟨hi', (splice_length _ _ _ (by omega)).trans hX, hj⟩, by simp only; omega, (by repeat (first | exact trivial | refine ⟨.refl _, ?_⟩)), ⟨wrap_next (by omega), rfl, trivial⟩, (by repeat (first | exact trivial | refine ⟨rfl, ?_⟩))⟩
          · ((conv => whnf); repeat (refine SeqW.go ?_; conv => whnf))
            repeat (first | (refine Br.t ?_; conv => whnf) | (refine Cd.mk (by omega) ?_; conv => whnf) | (refine Br.f ?_; conv => whnf) | (refine SeqW.go ?_; conv => whnf))
            rw [if_neg (by simpa using d3)] at hj
            refine ⟨(i + 1, X), ⟨hi', rfl, hj⟩, by simp only; omega, (by repeat (first | exact trivial | refine ⟨.refl _, ?_⟩)), ⟨wrap_next (by omega), rfl, trivial⟩, (by repeat (first | exact trivial | refine ⟨rfl, ?_⟩))⟩
    · have hi' : i = ws.length := by simp at g6; omega
      subst hi'
      rw [List.drop_length] at hj
      simp only [crashB] at hj
      subst hj
      ((conv => whnf); repeat (refine SeqW.go ?_; conv => whnf))
      repeat (first | (refine Br.t ?_; conv => whnf) | (refine Cd.mk (by omega) ?_; conv => whnf) | (refine Br.f ?_; conv => whnf) | (refine SeqW.go ?_; conv => whnf))
      rw [← hX]
      refine (forget_calls _ m c (some (ws.map lgRow)) fused fuse).call fun _ => ?_
      ((conv => whnf); repeat (refine SeqW.go ?_; conv => whnf))
      repeat (first | (refine Br.t ?_; conv => whnf) | (refine Cd.mk (by omega) ?_; conv => whnf) | (refine Br.f ?_; conv => whnf) | (refine SeqW.go ?_; conv => whnf))
      refine ⟨⟨Nat.le_of_ble_eq_true rfl, by (repeat (first | exact allN | refine allC (by first | exact sc_lift _ _ | exact sc_wes _ _ _ | exact sc_arr rfl | rfl) ?_))⟩, ?_⟩
      conv => whnf
      exact ⟨rfl, rfl⟩
  · ((conv => whnf); repeat (refine SeqW.go ?_; conv => whnf))
    repeat (first | (refine Br.t ?_; conv => whnf) | (refine Cd.mk (by omega) ?_; conv => whnf) | (refine Br.f ?_; conv => whnf) | (refine SeqW.go ?_; conv => whnf))
    first | refine Br.dec (fun g5 => ?_) (fun g5 => ?_) | refine Br.beq (fun g5 => ?_) (fun g5 => ?_) | refine Br.bne (fun g5 => ?_) (fun g5 => ?_) | refine Br.nbeq (fun g5 => ?_) (fun g5 => ?_) | refine Br.not (fun g5 => ?_) (fun g5 => ?_) | refine Br.mk (fun g5 => ?_) (fun g5 => ?_)
    · omega
    ((conv => whnf); repeat (refine SeqW.go ?_; conv => whnf))
    repeat (first | (refine Br.t ?_; conv => whnf) | (refine Cd.mk (by omega) ?_; conv => whnf) | (refine Br.f ?_; conv => whnf) | (refine SeqW.go ?_; conv => whnf))
    refine loopK (by kernel_rfl) (γ := Nat × List UInt8) 4 (fun g => g.1 ≤ ws.length ∧ g.2.length = l.length ∧ crashB keep torn cut g.1 (ws.drop g.1) g.2 = crashB keep torn cut 0 ws l) (fun g => [(52, .d (.i .i64 g.1))]) (fun g => [(0, dLast g.2)]) (fun g => ws.length - g.1)
      ⟨rfl, rfl⟩ (fun _ _ => by (repeat (first | exact allN | refine allC (by first | exact sc_lift _ _ | exact sc_wes _ _ _ | exact sc_arr rfl | rfl) ?_))) (0, l) ⟨Nat.zero_le _, rfl, rfl⟩ (by repeat (first | exact trivial | refine ⟨.refl _, ?_⟩)) ⟨rfl, rfl, trivial⟩ ?_
    rintro ⟨i, X⟩ ⟨hi, hX, hj⟩
    simp only at hi hX hj
    rw [← hX]
    ((conv => whnf); repeat (refine SeqW.go ?_; conv => whnf))
    have hlen : (ws.map lgRow).length = ws.length := List.length_map ..
    first | refine Br.dec (fun g6 => ?_) (fun g6 => ?_) | refine Br.beq (fun g6 => ?_) (fun g6 => ?_) | refine Br.bne (fun g6 => ?_) (fun g6 => ?_) | refine Br.nbeq (fun g6 => ?_) (fun g6 => ?_) | refine Br.not (fun g6 => ?_) (fun g6 => ?_) | refine Br.mk (fun g6 => ?_) (fun g6 => ?_)
    · have hi' : i < ws.length := by simp at g6; exact g6
      have hx := hw ws[i] (List.getElem_mem _)
      ((conv => whnf); repeat (refine SeqW.go ?_; conv => whnf))
      repeat (first | (refine Br.t ?_; conv => whnf) | (refine Cd.mk (by omega) ?_; conv => whnf) | (refine Br.f ?_; conv => whnf) | (refine SeqW.go ?_; conv => whnf))
      refine ⟨⟨rfl, by simp [liftR], by omega, by simp; omega⟩, ?_⟩
      ((conv => whnf); repeat (refine SeqW.go ?_; conv => whnf))
      refine ⟨⟨by simp [liftR], hrows, by simp; omega, rfl, rfl⟩, [.d (.i .i64 ws[i].1)], ws[i].2.1.map byD, [.d (.b ws[i].2.2)], lgRow_get ws i hi', rfl, by simp [hx.1], rfl, ?_⟩
      ((conv => whnf); repeat (refine SeqW.go ?_; conv => whnf))
      refine ⟨by kernel_rfl, ?_⟩
      ((conv => whnf); repeat (refine SeqW.go ?_; conv => whnf))
      refine ⟨⟨rfl, rfl, rfl, rfl, rfl⟩, ?_⟩
      ((conv => whnf); repeat (refine SeqW.go ?_; conv => whnf))
      repeat (first | (refine Br.t ?_; conv => whnf) | (refine Cd.mk (by omega) ?_; conv => whnf) | (refine Br.f ?_; conv => whnf) | (refine SeqW.go ?_; conv => whnf))
      refine ⟨(show 1 + 64 ≤ 65 by omega), ?_⟩
      ((conv => whnf); repeat (refine SeqW.go ?_; conv => whnf))
      repeat (first | (refine Br.t ?_; conv => whnf) | (refine Cd.mk (by omega) ?_; conv => whnf) | (refine Br.f ?_; conv => whnf) | (refine SeqW.go ?_; conv => whnf))
      rw [List.drop_eq_getElem_cons hi'] at hj
      simp only [crashB] at hj
      first | refine Br.dec (fun d1 => ?_) (fun d1 => ?_) | refine Br.beq (fun d1 => ?_) (fun d1 => ?_) | refine Br.bne (fun d1 => ?_) (fun d1 => ?_) | refine Br.nbeq (fun d1 => ?_) (fun d1 => ?_) | refine Br.not (fun d1 => ?_) (fun d1 => ?_) | refine Br.mk (fun d1 => ?_) (fun d1 => ?_)
      · ((conv => whnf); repeat (refine SeqW.go ?_; conv => whnf))
        repeat (first | (refine Br.t ?_; conv => whnf) | (refine Cd.mk (by omega) ?_; conv => whnf) | (refine Br.f ?_; conv => whnf) | (refine SeqW.go ?_; conv => whnf))
        rw [if_pos d1] at hj
        refine ⟨(i + 1, X), ⟨hi', rfl, hj⟩, by simp only; omega, (by repeat (first | exact trivial | refine ⟨.refl _, ?_⟩)), ⟨wrap_next (by omega), rfl, trivial⟩, (by repeat (first | exact trivial | refine ⟨rfl, ?_⟩))⟩
      · rw [if_neg (by simpa using d1)] at hj
        ((conv => whnf); repeat (refine SeqW.go ?_; conv => whnf))
        repeat (first | (refine Br.t ?_; conv => whnf) | (refine Cd.mk (by omega) ?_; conv => whnf) | (refine Br.f ?_; conv => whnf) | (refine SeqW.go ?_; conv => whnf))
        obtain ⟨a, ha⟩ : ∃ n : Nat, ws[i].1 = n := ⟨ws[i].1.toNat, by omega⟩
        first | refine Br.dec (fun d2 => ?_) (fun d2 => ?_) | refine Br.beq (fun d2 => ?_) (fun d2 => ?_) | refine Br.bne (fun d2 => ?_) (fun d2 => ?_) | refine Br.nbeq (fun d2 => ?_) (fun d2 => ?_) | refine Br.not (fun d2 => ?_) (fun d2 => ?_) | refine Br.mk (fun d2 => ?_) (fun d2 => ?_)
        · rw [if_pos d2] at hj
          ((conv => whnf); repeat (refine SeqW.go ?_; conv => whnf))
          repeat (first | (refine Br.t ?_; conv => whnf) | (refine Cd.mk (by omega) ?_; conv => whnf) | (refine Br.f ?_; conv => whnf) | (refine SeqW.go ?_; conv => whnf))
          refine drawW [6] mixed (by kernel_rfl) (by kernel_rfl) ?_
          ((conv => whnf); repeat (refine SeqW.go ?_; conv => whnf))
          refine OpF.rd rfl ⟨(show 0 < 1 by omega), rfl, rfl⟩ ?_
          ((conv => whnf); repeat (refine SeqW.go ?_; conv => whnf))
          rw [ha]
          try rw [← hX]
          refine (hla X (by omega) a (by omega) [_]).callF ?_
          ((conv => whnf); repeat (refine SeqW.go ?_; conv => whnf))
          refine ⟨_, fun _ _ _ _ _ _ => pxW_pt ⟨⟨by omega, by omega⟩, ⟨(show 0 < 64 by omega), (show 64 ≤ 16777216 by omega)⟩, rfl, rfl⟩, ?_⟩
          ((conv => whnf); repeat (refine SeqW.go ?_; conv => whnf))
          refine OpF.wr rfl ⟨⟨rfl, (show 0 + (cut - 0) ≤ 64 by omega)⟩, ⟨rfl, ?_, ?_, ?_, ?_⟩, rfl, rfl⟩ ?_
          · rw [srcB]; exact allLen_lift (rowsB_all _)
          · simp [liftR]
          · exact allLen_lift (rowsB_all _)
          · omega
          ((conv => whnf); repeat (refine SeqW.go ?_; conv => whnf))
          repeat (first | (refine Br.t ?_; conv => whnf) | (refine Cd.mk (by omega) ?_; conv => whnf) | (refine Br.f ?_; conv => whnf) | (refine SeqW.go ?_; conv => whnf))
          rw [srcB, List.drop_zero, Nat.sub_zero, show ((cut : Nat) : Int).toNat = cut from rfl, show min (liftR (rowsB (ws[i].2.1.take cut))).length 64 = (ws[i].2.1.take cut).length by simp; omega, splB2]
          rw [ha, Int.toNat_natCast] at hj
          try rw [hX]
          refine ⟨(i + 1, splice X (a * 64) (ws[i].2.1.take cut)), ⟨hi', (splice_length _ _ _ (by simp; omega)).trans hX, hj⟩, by simp only; omega, (by repeat (first | exact trivial | refine ⟨.refl _, ?_⟩)), ⟨wrap_next (by omega), rfl, trivial⟩, (by repeat (first | exact trivial | refine ⟨rfl, ?_⟩))⟩
        · rw [if_neg d2] at hj
          ((conv => whnf); repeat (refine SeqW.go ?_; conv => whnf))
          repeat (first | (refine Br.t ?_; conv => whnf) | (refine Cd.mk (by omega) ?_; conv => whnf) | (refine Br.f ?_; conv => whnf) | (refine SeqW.go ?_; conv => whnf))
          refine ⟨⟨keepAll keep, by omega, by simp; omega⟩, ?_⟩
          rw [show ((i : Nat) : Int).toNat = i from rfl, keep_get keep i (by omega)]
          ((conv => whnf); repeat (refine SeqW.go ?_; conv => whnf))
          repeat (first | (refine Br.t ?_; conv => whnf) | (refine Cd.mk (by omega) ?_; conv => whnf) | (refine Br.f ?_; conv => whnf) | (refine SeqW.go ?_; conv => whnf))
          first | refine Br.dec (fun d3 => ?_) (fun d3 => ?_) | refine Br.beq (fun d3 => ?_) (fun d3 => ?_) | refine Br.bne (fun d3 => ?_) (fun d3 => ?_) | refine Br.nbeq (fun d3 => ?_) (fun d3 => ?_) | refine Br.not (fun d3 => ?_) (fun d3 => ?_) | refine Br.mk (fun d3 => ?_) (fun d3 => ?_)
          · rw [if_pos d3] at hj
            ((conv => whnf); repeat (refine SeqW.go ?_; conv => whnf))
            refine drawW [] mixed (by kernel_rfl) (by kernel_rfl) ?_
            ((conv => whnf); repeat (refine SeqW.go ?_; conv => whnf))
            refine OpF.rd rfl ⟨(show 0 < 1 by omega), rfl, rfl⟩ ?_
            ((conv => whnf); repeat (refine SeqW.go ?_; conv => whnf))
            rw [ha]
            try rw [← hX]
            refine (hla X (by omega) a (by omega) [_]).callF ?_
            ((conv => whnf); repeat (refine SeqW.go ?_; conv => whnf))
            refine OpF.pure (fun _ => ⟨⟨(show (0 : Nat) < 64 by omega), (show (64 : Nat) ≤ 16777216 by omega)⟩, rfl, rfl⟩) ?_
            ((conv => whnf); repeat (refine SeqW.go ?_; conv => whnf))
            refine OpF.wr rfl ⟨⟨rfl, (show 0 + (64 - 0) ≤ 64 by omega)⟩, ⟨rfl, ?_, ?_, ?_, ?_⟩, rfl, rfl⟩ ?_
            · rw [srcB]; exact allLen_lift (rowsB_all _)
            · simp [liftR]
            · exact allLen_lift (rowsB_all _)
            · omega
            ((conv => whnf); repeat (refine SeqW.go ?_; conv => whnf))
            repeat (first | (refine Br.t ?_; conv => whnf) | (refine Cd.mk (by omega) ?_; conv => whnf) | (refine Br.f ?_; conv => whnf) | (refine SeqW.go ?_; conv => whnf))
            have hb0 : (ws[i].2.1.drop 0).take (64 - 0) = ws[i].2.1 := by rw [List.drop_zero, List.take_of_length_le]; omega
            rw [srcB, hb0]
            rw [show min (liftR (rowsB ws[i].2.1)).length 64 = 64 by simp only [liftR, List.length_map, rowsB_len]; omega]
            rw [splB X ws[i].2.1 _ hx.1]
            rw [ha, Int.toNat_natCast] at hj
            try rw [hX]
            refine ⟨(i + 1, splice X (a * 64) ws[i].2.1), ⟨hi', (splice_length _ _ _ (by omega)).trans hX, hj⟩, by simp only; omega, (by repeat (first | exact trivial | refine ⟨.refl _, ?_⟩)), ⟨wrap_next (by omega), rfl, trivial⟩, (by repeat (first | exact trivial | refine ⟨rfl, ?_⟩))⟩
          · ((conv => whnf); repeat (refine SeqW.go ?_; conv => whnf))
            repeat (first | (refine Br.t ?_; conv => whnf) | (refine Cd.mk (by omega) ?_; conv => whnf) | (refine Br.f ?_; conv => whnf) | (refine SeqW.go ?_; conv => whnf))
            rw [if_neg (by simpa using d3)] at hj
            refine ⟨(i + 1, X), ⟨hi', rfl, hj⟩, by simp only; omega, (by repeat (first | exact trivial | refine ⟨.refl _, ?_⟩)), ⟨wrap_next (by omega), rfl, trivial⟩, (by repeat (first | exact trivial | refine ⟨rfl, ?_⟩))⟩
    · have hi' : i = ws.length := by simp at g6; omega
      subst hi'
      rw [List.drop_length] at hj
      simp only [crashB] at hj
      subst hj
      ((conv => whnf); repeat (refine SeqW.go ?_; conv => whnf))
      repeat (first | (refine Br.t ?_; conv => whnf) | (refine Cd.mk (by omega) ?_; conv => whnf) | (refine Br.f ?_; conv => whnf) | (refine SeqW.go ?_; conv => whnf))
      rw [← hX]
      refine (forget_calls _ m c (some (ws.map lgRow)) fused fuse).call fun _ => ?_
      ((conv => whnf); repeat (refine SeqW.go ?_; conv => whnf))
      repeat (first | (refine Br.t ?_; conv => whnf) | (refine Cd.mk (by omega) ?_; conv => whnf) | (refine Br.f ?_; conv => whnf) | (refine SeqW.go ?_; conv => whnf))
      refine ⟨⟨Nat.le_of_ble_eq_true rfl, by (repeat (first | exact allN | refine allC (by first | exact sc_lift _ _ | exact sc_wes _ _ _ | exact sc_arr rfl | rfl) ?_))⟩, ?_⟩
      conv => whnf
      exact ⟨rfl, rfl⟩
omit hl in
theorem diskCrash_none (cut : Int) :
    DetA Try.prog 31 [.ptr 2 0, keepP [], .d (.i .i64 (-1)), .d (.i .i64 cut)] (dObs l m c none fused fuse) (errP 0) (dObs l [] c none false fuse) := by
  refine callsW_of 3 Try.call31 Try.func31 (c := _) rfl (by kernel_rfl) (Nat.le_of_ble_eq_true rfl) (Nat.le_refl _) ?_
  ((conv => whnf); repeat (refine SeqW.go ?_; conv => whnf))
  repeat (first | (refine Br.t ?_; conv => whnf) | (refine Cd.mk (by omega) ?_; conv => whnf) | (refine Br.f ?_; conv => whnf) | (refine SeqW.go ?_; conv => whnf))
  refine loopK (by kernel_rfl) (γ := Unit) 3 (fun _ => True) (fun _ => [(52, .d (.i .i64 0))]) (fun _ => []) (fun _ => 0)
    ⟨rfl, rfl⟩ (fun _ _ => by (repeat (first | exact allN | refine allC (by first | exact sc_lift _ _ | exact sc_wes _ _ _ | exact sc_arr rfl | rfl) ?_))) () trivial (by repeat (first | exact trivial | refine ⟨.refl _, ?_⟩)) ⟨rfl, rfl, trivial⟩ ?_
  rintro g -
  ((conv => whnf); repeat (refine SeqW.go ?_; conv => whnf))
  repeat (first | (refine Br.t ?_; conv => whnf) | (refine Cd.mk (by omega) ?_; conv => whnf) | (refine Br.f ?_; conv => whnf) | (refine SeqW.go ?_; conv => whnf))
  refine (forget_calls l m c none fused fuse).call fun _ => ?_
  ((conv => whnf); repeat (refine SeqW.go ?_; conv => whnf))
  repeat (first | (refine Br.t ?_; conv => whnf) | (refine Cd.mk (by omega) ?_; conv => whnf) | (refine Br.f ?_; conv => whnf) | (refine SeqW.go ?_; conv => whnf))
  refine ⟨⟨Nat.le_of_ble_eq_true rfl, by (repeat (first | exact allN | refine allC (by first | exact sc_lift _ _ | exact sc_wes _ _ _ | exact sc_arr rfl | rfl) ?_))⟩, ?_⟩
  conv => whnf
  exact ⟨rfl, rfl⟩
end
end Go.Aw
