/- Layer 12: Pending, Sync, Crash of a disk whose log is always an object. -/
import Derived.Test.YthilodmojjlaeaaAwDiskLK
import Derived.Test.YthilodmojjlaeaaAwPack3
set_option linter.unusedVariables false
set_option linter.unusedSimpArgs false
namespace Go.Aw
open Go.Proofs
set_option maxRecDepth 100000

/-- Numbers as data. -/
abbrev intsP (l : List Int) : PV := .d (.sl (l.map fun n => [D.i .i64 n]))
theorem intsAll (l : List Int) : AllLen 1 (l.map fun n => [D.i .i64 n]) := by
  intro r hr
  obtain ⟨x, _, rfl⟩ := List.mem_map.1 hr
  rfl
theorem pending_dk (l : List UInt8) (m : List (Int × Nat × List UInt8)) (c : Nat) (fused : Bool) (fuse : Int) (ws : List Wr) (hw : ∀ x ∈ ws, x.2.1.length = 64) (hk : ws.length ≤ 1048576) :
    DetA Try.prog 22 [.ptr 2 0] (dk l m c ws fused fuse) (intsP (ws.map (·.1))) (dk l m c ws fused fuse) := by
  refine callsW_of 4 Try.call22 Try.func22 (c := _) rfl (by kernel_rfl) (Nat.le_of_ble_eq_true rfl) (Nat.le_refl _) ?_
  have hwl : (ws.map lgRow).length = ws.length := by simp
  ((conv => whnf); repeat (refine SeqW.go ?_; conv => whnf))
  repeat' (first | (refine brIs ?_; (first | (refine Br.t ?_; conv => whnf) | (refine Br.f ?_; conv => whnf) | (refine Br.ne_self ?_; conv => whnf) | (refine Br.eq_self ?_; conv => whnf) | rw [rowsB_length] | rw [rowsB_td] | rw [liftB_app] | rw [Int.toNat_natCast] | rw [quoL] | rw [remL] | rw [wrap_i64 (n := ((_ : Nat) : Int)) (by omega) (by omega)] | rw [wrap_i64 (by omega) (by omega)] | (refine Br.dec (fun h => absurd h (by omega)) (fun h => ?_); conv => whnf) | (refine Br.dec (fun h => ?_) (fun h => absurd h (by omega)); conv => whnf) | (refine Br.beq (fun h => absurd h (by omega)) (fun h => ?_); conv => whnf) | (refine Br.beq (fun h => ?_) (fun h => absurd h (by omega)); conv => whnf) | (refine Br.bne (fun h => absurd h (by omega)) (fun h => ?_); conv => whnf) | (refine Br.bne (fun h => ?_) (fun h => absurd h (by omega)); conv => whnf) | (refine Br.nbeq (fun h => absurd h (by omega)) (fun h => ?_); conv => whnf) | (refine Br.nbeq (fun h => ?_) (fun h => absurd h (by omega)); conv => whnf) | (refine Br.dec (fun h => ?_) (fun h => ?_) <;> (conv => whnf)) | (refine Br.beq (fun h => ?_) (fun h => ?_) <;> (conv => whnf)) | (refine Br.bne (fun h => ?_) (fun h => ?_) <;> (conv => whnf)) | (refine Br.nbeq (fun h => ?_) (fun h => ?_) <;> (conv => whnf)) | (refine Br.not (fun h => ?_) (fun h => ?_) <;> (conv => whnf)) | (refine Br.mk (fun h => ?_) (fun h => ?_) <;> (conv => whnf)) | fail)) | (refine SeqW.go ?_; conv => whnf) | (refine cdIs ?_; (first | (refine Cd.mk ?_ ?_; (focus ((repeat' (refine And.intro ?_ ?_)) <;> (first | omega | assumption | exact True.intro | exact rfl | exact allLen_lift (rowsB_all _) | exact rowsB_all _ | (simp only [rowsB_length, liftR, List.length_map, Int.toNat_natCast]; omega) | (simp (disch := omega) only [wrap_i64, rowsB_length, liftR, List.length_map, Int.toNat_natCast, List.length_take, List.length_drop, List.length_append, List.length_replicate]; omega) | exact Nat.le_refl _ | exact allLen_lift (by assumption) | exact allLen_lift (allLen_one rfl) | (simp; done) | (simp; omega)))); conv => whnf) | (refine Cd.mk ⟨Nat.le_of_ble_eq_true rfl, ?_⟩ ?_; (focus ((repeat (first | exact allN | refine allC (by first | exact sc_lift _ _ | exact sc_wes _ _ _ | exact sc_arr rfl | rfl) ?_)); done)); conv => whnf) | rw [rowsB_length] | rw [rowsB_td] | rw [liftB_app] | rw [Int.toNat_natCast] | rw [quoL] | rw [remL] | rw [wrap_i64 (n := ((_ : Nat) : Int)) (by omega) (by omega)] | rw [wrap_i64 (by omega) (by omega)] | fail)) | (refine PubRows.mk _ ?_ (toRows_map _) ?_; (focus (first | exact rfl | (simp only [List.length_map, rowsB_length, List.length_append]; done) | (simp only [List.length_map, rowsB_length, List.length_append]; omega) | (simp; done) | (simp; omega))); conv => whnf) | (refine PubRows.mk _ rfl rfl ?_; conv => whnf) | rw [rowsB_length] | rw [rowsB_td] | rw [liftB_app] | rw [Int.toNat_natCast] | rw [quoL] | rw [remL] | rw [wrap_i64 (n := ((_ : Nat) : Int)) (by omega) (by omega)] | rw [wrap_i64 (by omega) (by omega)] | fail)
  refine loopK (by kernel_rfl) (γ := Nat) 5 (fun i => i ≤ ws.length) (fun i => [(19, .d (.i .i64 i)), (3, .own 4 1 i)]) (fun i => [(4, .buf (liftR (((ws.take i).map (·.1)).map fun n => [D.i .i64 n])))]) (fun i => ws.length - i)
    ⟨rfl, rfl⟩ (fun _ _ => by (repeat (first | exact allN | refine allC (by first | exact sc_lift _ _ | exact sc_wes _ _ _ | exact sc_arr rfl | rfl) ?_))) 0 (Nat.zero_le _) (by repeat (first | exact trivial | refine ⟨.refl _, ?_⟩)) ⟨rfl, rfl, rfl, rfl, trivial⟩ ?_
  intro i hi
  have hrows := allLen_lgs ws hw
  have hall2 := intsAll ((ws.take i).map (·.1))
  have hlen : ((ws.take i).map (·.1)).length = i := by simp; omega
  have hrow := fun h : i < ws.length => lgRow_get ws i h
  simp only [Int.toNat_natCast] at hrow
  ((conv => whnf); repeat (refine SeqW.go ?_; conv => whnf))
  repeat' (first | (refine brIs ?_; (first | (refine Br.t ?_; conv => whnf) | (refine Br.f ?_; conv => whnf) | (refine Br.ne_self ?_; conv => whnf) | (refine Br.eq_self ?_; conv => whnf) | rw [rowsB_length] | rw [rowsB_td] | rw [liftB_app] | rw [Int.toNat_natCast] | rw [quoL] | rw [remL] | rw [wrap_i64 (n := ((_ : Nat) : Int)) (by omega) (by omega)] | rw [wrap_i64 (by omega) (by omega)] | (refine Br.dec (fun h => absurd h (by omega)) (fun h => ?_); conv => whnf) | (refine Br.dec (fun h => ?_) (fun h => absurd h (by omega)); conv => whnf) | (refine Br.beq (fun h => absurd h (by omega)) (fun h => ?_); conv => whnf) | (refine Br.beq (fun h => ?_) (fun h => absurd h (by omega)); conv => whnf) | (refine Br.bne (fun h => absurd h (by omega)) (fun h => ?_); conv => whnf) | (refine Br.bne (fun h => ?_) (fun h => absurd h (by omega)); conv => whnf) | (refine Br.nbeq (fun h => absurd h (by omega)) (fun h => ?_); conv => whnf) | (refine Br.nbeq (fun h => ?_) (fun h => absurd h (by omega)); conv => whnf) | (refine Br.dec (fun h => ?_) (fun h => ?_) <;> (conv => whnf)) | (refine Br.beq (fun h => ?_) (fun h => ?_) <;> (conv => whnf)) | (refine Br.bne (fun h => ?_) (fun h => ?_) <;> (conv => whnf)) | (refine Br.nbeq (fun h => ?_) (fun h => ?_) <;> (conv => whnf)) | (refine Br.not (fun h => ?_) (fun h => ?_) <;> (conv => whnf)) | (refine Br.mk (fun h => ?_) (fun h => ?_) <;> (conv => whnf)) | fail)) | (refine SeqW.go ?_; conv => whnf) | (refine cdIs ?_; (first | (refine Cd.mk ?_ ?_; (focus ((repeat' (refine And.intro ?_ ?_)) <;> (first | omega | assumption | exact True.intro | exact rfl | exact allLen_lift (rowsB_all _) | exact rowsB_all _ | (simp only [rowsB_length, liftR, List.length_map, Int.toNat_natCast]; omega) | (simp (disch := omega) only [wrap_i64, rowsB_length, liftR, List.length_map, Int.toNat_natCast, List.length_take, List.length_drop, List.length_append, List.length_replicate]; omega) | exact Nat.le_refl _ | exact allLen_lift (by assumption) | exact allLen_lift (allLen_one rfl) | (simp; done) | (simp; omega)))); conv => whnf) | (refine Cd.mk ⟨Nat.le_of_ble_eq_true rfl, ?_⟩ ?_; (focus ((repeat (first | exact allN | refine allC (by first | exact sc_lift _ _ | exact sc_wes _ _ _ | exact sc_arr rfl | rfl) ?_)); done)); conv => whnf) | rw [rowsB_length] | rw [rowsB_td] | rw [liftB_app] | rw [Int.toNat_natCast] | rw [quoL] | rw [remL] | rw [wrap_i64 (n := ((_ : Nat) : Int)) (by omega) (by omega)] | rw [wrap_i64 (by omega) (by omega)] | fail)) | (refine PubRows.mk _ ?_ (toRows_map _) ?_; (focus (first | exact rfl | (simp only [List.length_map, rowsB_length, List.length_append]; done) | (simp only [List.length_map, rowsB_length, List.length_append]; omega) | (simp; done) | (simp; omega))); conv => whnf) | (refine PubRows.mk _ rfl rfl ?_; conv => whnf) | (refine Lit.data ?_; conv => whnf) | ((refine ⟨_, _, _, hrow (by omega), rfl, ?_, rfl, ?_⟩; (focus (rw [List.length_map]; exact hw _ (List.getElem_mem _))); conv => whnf)) | ((refine Cd.mk (by kernel_rfl) ?_; conv => whnf)) | rw [rowsB_length] | rw [rowsB_td] | rw [liftB_app] | rw [Int.toNat_natCast] | rw [quoL] | rw [remL] | rw [wrap_i64 (n := ((_ : Nat) : Int)) (by omega) (by omega)] | rw [wrap_i64 (by omega) (by omega)] | fail)
  · refine ⟨i + 1, by omega, by omega, ?_, ⟨rfl, rfl, rfl, rfl, trivial⟩, (by repeat (first | exact trivial | refine ⟨rfl, ?_⟩))⟩
    have e : (ws.take (i + 1)).map (·.1) = (ws.take i).map (·.1) ++ [ws[i].1] := by rw [List.take_succ_eq_append_getElem (by omega), List.map_append]; rfl
    rw [e, List.map_append]; simp only [liftR, List.map_append]; exact (by repeat (first | exact trivial | refine ⟨.refl _, ?_⟩))
  · rw [List.take_of_length_le (by omega)]
    exact ⟨rfl, rfl⟩

/-- The log is another object than before. -/
abbrev dkM (l : List UInt8) (m : List (Int × Nat × List UInt8)) (c : Nat) (ws : List Wr) (fused : Bool) (fuse : Int) : Heap :=
  [dLast l, .mapo (wesB m) c, .box [.own 0 1 l.length, .own 4 66 (ws.map lgRow).length, .mp 1, .d (.b fused), .d (.i .i64 fuse)], .gone, .buf (liftR (ws.map lgRow))]
theorem dk_moved {f : FuncId} {args : List PV} {S0 : Heap} {v : Int} {l : List UInt8} {m : List (Int × Nat × List UInt8)} {c : Nat} {ws : List Wr} {fused : Bool} {fuse : Int} (h4 : S0.length = 4) (h : DetA Try.prog f args S0 (errP v) (dk l m c ws fused fuse)) :
    DetA Try.prog f args S0 (errP v) (dkM l m c ws fused fuse) :=
  h.gone.turn [0, 1, 2, 4, 3] (by (repeat (first | exact True.intro | (refine And.intro ?_ ?_; · first | exact congrArg some (renLift _ _).symm | exact congrArg some (renWes _ _ _).symm | exact rfl)))) (by rw [h4]; rfl) (by (repeat (first | exact allN | refine allC (by first | exact sc_lift _ _ | exact sc_wes _ _ _ | exact sc_arr rfl | rfl) ?_))) rfl
theorem dk_anew {f : FuncId} {args : List PV} {S0 : Heap} {v : Int} {l : List UInt8} {m : List (Int × Nat × List UInt8)} {c : Nat} {rows : List (List D)} {fused : Bool} {fuse : Int} (h4 : S0.length = 4) (h : DetA Try.prog f args S0 (errP v) (dObs l m c none fused fuse ++ lgX (some rows))) :
    DetA Try.prog f args S0 (errP v) (dkM l m c [] fused fuse) :=
  (h.gone.adopt 2 1 66 rfl rfl).turn [0, 1, 2, 4, 5] (by (repeat (first | exact True.intro | (refine And.intro ?_ ?_; · first | exact congrArg some (renLift _ _).symm | exact congrArg some (renWes _ _ _).symm | exact rfl)))) (by rw [h4]; rfl) (by (repeat (first | exact allN | refine allC (by first | exact sc_lift _ _ | exact sc_wes _ _ _ | exact sc_arr rfl | rfl) ?_))) rfl
/-- A disk: what lasts; the map; the unsynced writes; the fuse. -/
structure DS where
  l : List UInt8
  m : List (Int × Nat × List UInt8)
  c : Nat
  ws : List Wr
  fused : Bool
  fuse : Int
abbrev DS.dk (d : DS) : Heap := Go.Aw.dk d.l d.m d.c d.ws d.fused d.fuse
abbrev DS.dkM (d : DS) : Heap := Go.Aw.dkM d.l d.m d.c d.ws d.fused d.fuse
structure DS.Ok (d : DS) : Prop where
  len : d.l.length ≤ 16777216
  map : MapOk d.l d.m d.c
  log : ∀ x ∈ d.ws, x.2.1.length = 64 ∧ 0 ≤ x.1 ∧ x.1 < (d.l.length / 64 : Nat)
  fus : 0 ≤ d.fuse ∧ d.fuse ≤ 9223372036854775807
def DS.sync (d : DS) : DS := if spendB d.fused d.fuse then ⟨imgB d.l d.m, [], d.c, [], d.fused, spendN d.fused d.fuse⟩ else ⟨d.l, d.m, d.c, d.ws, d.fused, spendN d.fused d.fuse⟩
theorem sync_dk (d : DS) (h : d.Ok) : DetA Try.prog 30 [.ptr 2 0] d.dk (errP 0) d.sync.dkM := by
  unfold DS.sync
  split
  · rename_i hs
    exact dk_anew rfl (diskSync_ok d.l h.len d.m d.c (some (d.ws.map lgRow)) d.fused d.fuse h.fus h.map hs)
  · rename_i hs
    exact dk_moved rfl (diskSync_blown d.l d.m d.c (some (d.ws.map lgRow)) d.fused d.fuse h.fus (by simpa using hs))
def DS.crash (d : DS) (keep : List Bool) (torn : Int) (cut : Nat) : DS := ⟨crashB keep torn cut 0 d.ws d.l, [], d.c, [], false, d.fuse⟩
theorem crash_dk (d : DS) (h : d.Ok) (hn : d.ws.length ≤ 1048576) (keep : List Bool) (hk : keep.length = d.ws.length) (torn : Int) (ht : -1 ≤ torn ∧ torn < d.ws.length) (cut : Nat) (hc : cut ≤ 64) :
    DetA Try.prog 31 [.ptr 2 0, keepP keep, .d (.i .i64 torn), .d (.i .i64 cut)] d.dk (errP 0) (d.crash keep torn cut).dkM :=
  dk_anew rfl (diskCrash_some d.l h.len d.m d.c d.fused d.fuse d.ws hn h.log keep hk torn ht cut hc)
def DS.write (d : DS) (a : Int) (b : List UInt8) : DS := ⟨d.l, (updB a b d.m d.c).1, (updB a b d.m d.c).2, d.ws ++ [(a, b, !spendB d.fused d.fuse)], d.fused, spendN d.fused d.fuse⟩
theorem write_DS (d : DS) (h : d.Ok) (hk : d.ws.length ≤ 1048576) (a : Int) (ha : inB (d.l.length / 64) (a, ([] : List UInt8)) = true) (b : List UInt8) (hb : b.length = 64) :
    DetA Try.prog 36 [.ptr 2 0, .d (.i .i64 a), bytesP b] d.dk (errP 0) (d.write a b).dk :=
  write_dk d.l h.len d.m d.c d.fused d.fuse h.fus d.ws (fun x hx => (h.log x hx).1) hk a ha b hb
theorem spendN_ok {fused : Bool} {fuse : Int} (h : 0 ≤ fuse ∧ fuse ≤ 9223372036854775807) : 0 ≤ spendN fused fuse ∧ spendN fused fuse ≤ 9223372036854775807 := by
  unfold spendN; split <;> omega
theorem DS.Ok.write {d : DS} (h : d.Ok) {a : Int} (ha : inB (d.l.length / 64) (a, ([] : List UInt8)) = true) {b : List UInt8} (hb : b.length = 64) : (d.write a b).Ok := by
  simp only [inB, decide_eq_true_eq] at ha
  obtain ⟨n, rfl⟩ : ∃ n : Nat, a = n := ⟨a.toNat, by omega⟩
  refine ⟨h.len, h.map.upd n (by omega) b hb, fun x hx => ?_, spendN_ok h.fus⟩
  rcases List.mem_append.1 hx with hx | hx
  · exact h.log x hx
  · rw [List.mem_singleton] at hx; subst hx; exact ⟨hb, by simp only [DS.write]; omega⟩
theorem DS.Ok.sync {d : DS} (h : d.Ok) : d.sync.Ok := by
  unfold DS.sync
  split
  · exact ⟨by simp [imgB_len]; exact h.len, .empty _ _, by simp, spendN_ok h.fus⟩
  · exact ⟨h.len, h.map, h.log, spendN_ok h.fus⟩
theorem splice_len {α : Type} (l b : List α) (o : Nat) (h : o + b.length ≤ l.length) : (splice l o b).length = l.length := by simp [splice]; omega
theorem crashB_len (keep : List Bool) (torn : Int) (cut : Nat) (hc : cut ≤ 64) : ∀ (ws : List Wr) (i : Nat) (l : List UInt8), (∀ x ∈ ws, x.2.1.length = 64 ∧ 0 ≤ x.1 ∧ x.1 < (l.length / 64 : Nat)) → (crashB keep torn cut i ws l).length = l.length
  | [], i, l, _ => rfl
  | x :: r, i, l, h => by
    have hx := h x (by simp)
    have e1 : (splice l (x.1.toNat * 64) (x.2.1.take cut)).length = l.length := splice_len _ _ _ (by simp; omega)
    have e2 : (splice l (x.1.toNat * 64) x.2.1).length = l.length := splice_len _ _ _ (by omega)
    have hr : ∀ y ∈ r, y.2.1.length = 64 ∧ 0 ≤ y.1 ∧ y.1 < (l.length / 64 : Nat) := fun y hy => h y (List.mem_cons_of_mem _ hy)
    simp only [crashB]
    split
    · exact crashB_len keep torn cut hc r _ l hr
    · split
      · rw [crashB_len keep torn cut hc r _ _ (by rw [e1]; exact hr), e1]
      · split
        · rw [crashB_len keep torn cut hc r _ _ (by rw [e2]; exact hr), e2]
        · exact crashB_len keep torn cut hc r _ l hr
theorem DS.Ok.crash {d : DS} (h : d.Ok) (keep : List Bool) (torn : Int) (cut : Nat) (hc : cut ≤ 64) : (d.crash keep torn cut).Ok :=
  ⟨by simp only [DS.crash]; rw [crashB_len keep torn cut hc d.ws 0 d.l h.log]; exact h.len, .empty _ _, by simp [DS.crash], h.fus⟩
/-- What a law's writes make of a disk. -/
def DS.new (l : List UInt8) : DS := ⟨l, [], 0, [], false, 0⟩
def DS.writes (d : DS) (ws : List (Int × List UInt8)) : DS := ws.foldl (fun d x => d.write x.1 (fullB x.2)) d
theorem new_dk (n : Nat) (h : 1 ≤ n ∧ n ≤ 65536) : DetA Try.prog 13 [.d (.i .i64 n)] [] (.tup [.ptr 2 0, errP 0]) (DS.new (List.replicate (n * 64) 0)).dk := (diskNew_ok n h).adopt 2 1 66 rfl rfl
theorem load_DS (l : List UInt8) (h : imgOk l) : DetA Try.prog 15 [bytesP l] [] (.tup [.ptr 2 0, errP 0]) (DS.new l).dk := load_dk l h
theorem DS.Ok.new {l : List UInt8} (h : l.length ≤ 16777216) : (DS.new l).Ok := ⟨h, .empty _ _, by simp [DS.new], by simp [DS.new]⟩
theorem DS.writes_l (d : DS) : ∀ (ws : List (Int × List UInt8)), (d.writes ws).l = d.l
  | [] => rfl
  | x :: r => by
    show ((d.write x.1 (fullB x.2)).writes r).l = d.l
    rw [DS.writes_l]; rfl
theorem DS.Ok.writes {d : DS} (h : d.Ok) : ∀ {ws : List (Int × List UInt8)}, (∀ x ∈ ws, inB (d.l.length / 64) x = true) → (d.writes ws).Ok
  | [], _ => h
  | x :: r, hw => DS.Ok.writes (d := d.write x.1 (fullB x.2)) (h.write (hw x (by simp)) (fullB_len _)) fun y hy => hw y (List.mem_cons_of_mem _ hy)
theorem DS.writes_app (d : DS) (a b : List (Int × List UInt8)) : d.writes (a ++ b) = (d.writes a).writes b := by simp [DS.writes]
theorem DS.writes_ws (d : DS) (hf : d.fused = false) : ∀ (ws : List (Int × List UInt8)), (d.writes ws).ws = d.ws ++ ws.map mkW ∧ (d.writes ws).fused = false ∧ (d.writes ws).fuse = d.fuse
  | [] => by simp [DS.writes, hf]
  | x :: r => by
    have e : (d.write x.1 (fullB x.2)).fused = false := hf
    have := DS.writes_ws (d.write x.1 (fullB x.2)) e r
    refine ⟨?_, this.2.1, ?_⟩
    · show ((d.write x.1 (fullB x.2)).writes r).ws = _
      rw [this.1]; simp [DS.write, spendB, hf]
    · show ((d.write x.1 (fullB x.2)).writes r).fuse = _
      rw [this.2.2]; simp [DS.write, spendN, hf]
theorem DS.writes_m (d : DS) : ∀ (ws : List (Int × List UInt8)), ((d.writes ws).m, (d.writes ws).c) = wrM (ws.map mkW) d.m d.c
  | [] => rfl
  | x :: r => DS.writes_m (d.write x.1 (fullB x.2)) r
theorem made_DS (l : List UInt8) (h : imgOk l) (ws : List (Int × List UInt8)) (hw : ∀ x ∈ ws, inB (l.length / 64) x = true) (hb : ∀ x ∈ ws, x.2.length ≤ 1048576) (hn : ws.length ≤ 1048576) :
    DetA Try.prog 26 [bytesP l, wsP ws] [] (.ptr 2 0) ((DS.new l).writes ws).dk := by
  have := made_calls l h ws hw hb hn
  have e1 := DS.writes_m (DS.new l) ws
  have e2 := DS.writes_ws (DS.new l) rfl ws
  have e3 := DS.writes_l (DS.new l) ws
  have e : ((DS.new l).writes ws).dk = dk l (wrM (ws.map mkW) [] 0).1 (wrM (ws.map mkW) [] 0).2 (ws.map mkW) false 0 := by
    unfold DS.dk
    rw [e3, e2.1, e2.2.1, e2.2.2]
    simp only [Prod.ext_iff] at e1
    rw [e1.1, e1.2]
    rfl
  rwa [e]
end Go.Aw
