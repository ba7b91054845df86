/- Operations on arrays, maps and parts, carried out by reduction. -/
import Derived.Test.YthilodmojjlaeaaAwPs
import Derived.Test.YthilodmojjlaeaaAwItr
set_option linter.unusedVariables false
set_option linter.unusedSimpArgs false
namespace Go.Aw

/-! ### Arrays, maps, parts -/
/-- What a map says of a number: reduction stops here. -/
inductive LookQ (k : IntKind) (n : Int) (es : List (D × Nat × PV)) (hit : PV → Prop) (miss : Prop) : Prop
  | hit (j : Nat) (p : PV) (hk : intKeys k es) (h : findE n es = some (j, p)) (x : hit p)
  | miss (hk : intKeys k es) (h : findE n es = none) (x : miss)
/-- A row that has a run of data: reduction stops here. -/
inductive Row3 (row : List PV) (a n b : Nat) (k : List PV → List D → List PV → Prop) : Prop
  | mk (pre : List PV) (run : List D) (post : List PV) (h : row = pre ++ (run.map .d ++ post)) (h1 : pre.length = a) (h2 : run.length = n) (h3 : post.length = b) (x : k pre run post)

/-- A step through a map: reduction stops here. -/
inductive NextQ (es : List (D × Nat × PV)) (since last : Nat) (seen : List Nat) (over : Prop) (step : D → Nat → PV → Prop) : Prop
  | mk (hold : ∀ x ∈ es, x.2.1 < since) (hsc : since ≤ last) (o : (∀ x ∈ es, x.2.1 ∈ seen) → over) (s : ∀ k bn p, (k, bn, p) ∈ es → bn ∉ seen → step k bn p)
/-- The entry at which the step stands. -/
inductive EntQ (es : List (D × Nat × PV)) (seen : List Nat) (clk last : Nat) (q : D → PV → Prop) : Prop
  | mk (seen' : List Nat) (k : D) (bn : Nat) (p : PV) (hs : seen = seen' ++ [bn]) (hx : (k, bn, p) ∈ es) (hn : (es.map fun x => x.2.1).Nodup) (hc : clk = last) (h : q k p)

def slX (Z : Prop) (P : Program) (S : Heap) (t : TypeId) (p : PV) (lo hi : Option PV) (K : PV → Heap → Prop) : Prop := match p with
  | .ptr o c => match arO P t with
    | some (n, e) => match szO P e with
      | some 1 => bndW Z hi n n fun m => bndW Z lo m 0 fun l => Cd (l < n ∧ n ≤ 16777216) (K (.asl o c l (m - l)) S)
      | _ => Z
    | none => Z
  | .own o s n => match elO P t with
    | some el => match szO P el with
      | some sz => match S[o]? with
        | some (.buf rows) => forceN sz fun sz => Cd (rows.length = n ∧ s = sz) (bndW Z hi n n fun m => bndW Z lo m 0 fun l => K (.sub o sz l (m - l) n) S)
        | some (.fro ds) => forceN sz fun sz => Cd (ds.length = n ∧ AllLen sz ds) (bndW Z hi ds.length ds.length fun m => bndW Z lo m 0 fun l => K (.d (.sl ((ds.take m).drop l))) S)
        | _ => Z
      | none => Z
    | none => Z
  | .sub o s off n k => match elO P t with
    | some el => match szO P el with
      | some sz => forceN sz fun sz => Cd (s = sz) (bndW Z hi n n fun m => bndW Z lo m 0 fun l => K (.sub o sz (off + l) (m - l) k) S)
      | none => Z
    | none => Z
  | _ => Z
def sliceX (Z : Prop) (P : Program) (vs : List PV) (S : Heap) (t : TypeId) (lo hi : Option Operand) (K : PV → Heap → Prop) : Prop := match lo, hi, vs with
  | none, none, [p] => slX Z P S t p none none K
  | some _, none, [p, l] => slX Z P S t p (some l) none K
  | none, some _, [p, h] => slX Z P S t p none (some h) K
  | some _, some _, [p, l, h] => slX Z P S t p (some l) (some h) K
  | _, _, _ => Z

/-- A source of rows. -/
def srcX (Z : Prop) (S : Heap) (sz : Nat) (x : PV) (k : List (List PV) → Prop) : Prop := match x with
  | .nils => k []
  | .d (.sl rows) => k (rows.map (·.map .d))
  | .own o _ n => match S[o]? with
    | some (.buf rows) => Cd (rows.length = n) (k rows)
    | some (.fro ds) => Cd (ds.length = n) (k (ds.map (·.map .d)))
    | _ => Z
  | .asl o c lo len => match S[o]? with
    | some (.arr pre n run _) => Cd (c = pre.length ∧ lo + len ≤ n) (k ((((run.drop lo).take len).map fun d => [d]).map (·.map .d)))
    | _ => Z
  | .sub o s off n m => match S[o]? with
    | some (.buf rows) => Cd (s = sz ∧ rows.length = m ∧ AllLen sz rows ∧ off + n ≤ m) (k ((rows.drop off).take n))
    | _ => Z
  | _ => Z

def appX (Z : Prop) (P : Program) (S : Heap) (t : TypeId) (p x : PV) (K : PV → Heap → Prop) : Prop := match elO P t with
  | some el => match szO P el, byO P el, zO P el with
    | some sz, some by_, some zs => srcX Z S sz x fun more => match p with
        | .nils => match Nat.beq zs.length sz && Nat.blt 0 sz with
          | true => forceN sz fun sz => forceN by_ fun by_ => Cd (AllLen sz more ∧ more.length * by_ ≤ 140737488355328 ∧ more.length ≤ 9223372036854775807) (forceH (S ++ [.buf more]) fun S' => forceO S.length fun o => K (.own o sz more.length) S')
          | false => Z
        | .own o s n => match S[o]? with
          | some (.buf rows) => match Nat.beq zs.length sz && Nat.blt 0 sz && Nat.beq s sz with
            | true => forceN sz fun sz => forceN by_ fun by_ => Cd (AllLen sz more ∧ rows.length = n ∧ AllLen sz rows ∧ (n + more.length) * by_ ≤ 140737488355328 ∧ n + more.length ≤ 9223372036854775807)
              (forceH (S.set o (.buf (rows ++ more))) fun S' => K (.own o sz (n + more.length)) S')
            | false => Z
          | _ => Z
        | _ => Z
    | _, _, _ => Z
  | none => Z

/-- copy: at a slice of an array; at own rows or a part of them. -/
def copyX (Z : Prop) (P : Program) (S : Heap) (t : TypeId) (p x : PV) (K : PV → Heap → Prop) : Prop := match elO P t with
  | some el => match szO P el with
    | some 1 => srcX Z S 1 x fun more => match p with
      | .asl o c lo len => match S[o]? with
        | some (.arr pre n run post) => Row3 more.flatten 0 more.length 0 fun _ ds _ => Cd (AllLen 1 more ∧ c = pre.length ∧ lo + len ≤ n)
            (forceH (S.set o (.arr pre n (splice run lo (ds.take (min more.length len))) post)) fun S' => K (.d (.i .i64 ((min more.length len : Nat) : Int))) S')
        | _ => Z
      | .own o s m => match S[o]? with
        | some (.buf rows) => Cd (s = 1 ∧ AllLen 1 more ∧ rows.length = m ∧ AllLen 1 rows) (forceH (S.set o (.buf (splice rows 0 (more.take (min more.length m))))) fun S' => K (.d (.i .i64 ((min more.length m : Nat) : Int))) S')
        | _ => Z
      | .sub o s off m k => match S[o]? with
        | some (.buf rows) => Cd (s = 1 ∧ AllLen 1 more ∧ rows.length = k ∧ AllLen 1 rows ∧ off + m ≤ k) (forceH (S.set o (.buf (splice rows off (more.take (min more.length m))))) fun S' => K (.d (.i .i64 ((min more.length m : Nat) : Int))) S')
        | _ => Z
      | _ => Z
    | _ => Z
  | none => Z

def zEl (P : Program) (el : TypeId) : Option PV := match wideO P el with
  | some (a, n, b) => match zO P el with
    | some zs => some (.wag (zs.take a) n (List.replicate n (.i .u8 0)) (zs.drop (a + n)))
    | none => none
  | none => z0 P el
def isAggZ (P : Program) (el : TypeId) : Bool := match (P.info? el).bind (·.zero) with
  | some (.agg _) => true
  | _ => false
/-- The element's zero is as told. -/
def zOk (P : Program) (el : TypeId) (z : PV) : Prop := match z with
  | .wag pre n run post => run.length = n ∧ zO P el = some (pre ++ (run.map .d ++ post)) ∧ isAggZ P el = true
  | z => z0 P el = some z

def pxW (Z : Prop) (P : Program) (vs : List PV) (S : Heap) (o : Oper) (K : PV → Heap → Prop) : Prop := match o.op with
  | .makeMap _ none => forceH (S ++ [.mapo [] 0]) fun S' => forceO S.length fun o => K (.mp o) S'
  | .alloc T => match wideO P T, zO P T with
    | some (a, n, _), some zs => forcePs (zs.take a) fun pre => forcePs (zs.drop (a + n)) fun post => Cd (zO P T = some (pre ++ ((List.replicate n (D.i .u8 0)).map .d ++ post)))
        (forceH (S ++ [.arr pre n (List.replicate n (.i .u8 0)) post]) fun S' => forceO S.length fun o => K (.ptr o 0) S')
    | _, _ => Z
  | .box T _ => match vs with
    | [.wag pre n run post] => forceH (S ++ [.arr pre n run post]) fun S' => forceO S.length fun o => K (.ptr o 0) S'
    | _ => Z
  | .build T parts => match wideO P T with
    | some (a, n, _) => match plO P T, zO P T with
      | some pl, some zs => match fillA (fun i => pl[i]?) zs ((parts.toList.map (·.1)).zip vs) with
        | some cs => forcePs (cs.take a) fun pre => forcePs (cs.drop (a + n)) fun post => Cd (fillA (fun i => pl[i]?) zs ((parts.toList.map (·.1)).zip vs) = some (pre ++ ((List.replicate n (D.i .u8 0)).map .d ++ post))) (K (.wag pre n (List.replicate n (.i .u8 0)) post) S)
        | none => Z
      | _, _ => Z
    | none => Z
  | .buildSlice T len parts => match elO P T with
    | some el => match szO P el, zO P el with
      | some sz, some zs => match len, parts.toList, vs with
        | 1, [(0, _)], [.wag pre n run post] => match toDs pre, toDs post with
          | some dp, some dq => Cd (zs.length = sz ∧ 0 < sz ∧ sz ≤ 16777216 ∧ pre.length + (n + post.length) = sz) (K (.d (.sl [dp ++ (run ++ dq)])) S)
          | _, _ => Z
        | _, _, _ => Z
      | _, _ => Z
    | none => Z
  | .store T _ _ => match vs with
    | [.ptr o c, .wag pre' n' run' post'] => match S[o]?, szO P T with
      | some (.arr pre n run post), some sz => Cd (c = 0 ∧ pre'.length = pre.length ∧ n' = n ∧ post'.length = post.length ∧ sz = pre'.length + (n' + post'.length)) (forceH (S.set o (.arr pre' n' run' post')) fun S' => K .any S')
      | _, _ => Z
    | [.ptr o c, p] => match S[o]?, szO P T, p.cellsOf with
      | some (.arr pre n run post), some 1, some [q] => Cd (c < pre.length ∧ p.cellsOf = some [p]) (forceH (S.set o (.arr (pre.set c p) n run post)) fun S' => K .any S')
      | _, _, _ => Z
    | [.rptr o c i, .d d] => match S[o]?, szO P T with
      | some (.arr pre n run post), some 1 => Cd (c = pre.length ∧ i < n ∧ PV.cellsOf (.d d) = some [.d d]) (forceH (S.set o (.arr pre n (run.set i d) post)) fun S' => K .any S')
      | _, _ => Z
    | _ => Z
  | .load T _ => match vs with
    | [.ptr o c] => match S[o]? with
      | some (.arr pre n run post) => match aggO P T, szO P T with
        | some true, some sz => match Nat.beq sz n with
          | true => Cd (c = pre.length ∧ sz = n) (K (.wag [] n run []) S)
          | false => Cd (c = 0 ∧ sz = pre.length + (n + post.length)) (K (.wag pre n run post) S)
        | some false, some _ => match pre[c]? with
          | some p => Cd (c < pre.length) (forceP p fun p => K p S)
          | none => match post[c - (pre.length + n)]? with
            | some p => Cd (pre.length + n ≤ c) (forceP p fun p => K p S)
            | none => Z
        | _, _ => Z
      | _ => Z
    | [.rptr o c i] => match S[o]?, aggO P T with
      | some (.arr pre n run post), some false => Cd (c = pre.length ∧ i < n) (K (.d (run.getD i (.i .u8 0))) S)
      | _, _ => Z
    | [.eptr o n r sz c] => match S[o]?, wideO P T, aggO P T, szO P T with
      | some (.buf rows), some (a, m, b), some true, some s => Cd (rows.length = n ∧ AllLen sz rows ∧ r < n ∧ c = 0 ∧ s = sz) (Row3 (rows.getD r []) a m b fun pre run post => forcePs pre fun pre => forcePs post fun post => K (.wag pre m run post) S)
      | _, _, _, _ => Z
    | _ => Z
  | .slice t _ lo hi none => sliceX Z P vs S t lo hi K
  | .range t _ => match mapKey P t, vs with
    | some _, [.mp mo] => match S[mo]? with
      | some (.mapo _ clk) => forceH (S ++ [.itr mo clk [] clk]) fun S' => forceO S.length fun o => K (.ptr o 0) S'
      | _ => Z
    | _, _ => Z
  | .next _ false => match vs with
    | [.ptr o 0] => match S[o]? with
      | some (.itr mo since seen last) => match S[mo]? with
        | some (.mapo es clk) => NextQ es since last seen (K (.tup [.d (.b false)]) S) fun k bn p => forceH (S.set o (.itr mo since (seen ++ [bn]) clk)) fun S' => K (.tup [.d (.b true), .d k, p]) S'
        | _ => Z
      | _ => Z
    | _ => Z
  | .entry _ => match vs with
    | [.ptr o 0] => match S[o]? with
      | some (.itr mo _ seen last) => match S[mo]? with
        | some (.mapo es clk) => EntQ es seen clk last fun k p => K (.tup [.d k, p]) S
        | _ => Z
      | _ => Z
    | _ => Z
  | .lookup t _ _ true => match mapKey P t, mapEl P t, vs with
    | some k, some el, [.mp o, .d (.i k' n)] => match S[o]?, zEl P el with
      | some (.mapo es _), some z => Cd (k' = k ∧ zOk P el z) (LookQ k n es (fun p => forceP p fun p => K (.tup [p, .d (.b true)]) S) (K (.tup [z, .d (.b false)]) S))
      | _, _ => Z
    | _, _, _ => Z
  | .mapUpdate t _ _ _ => match mapKey P t, vs with
    | some k, [.mp o, .d (.i k' n), p] => match S[o]? with
      | some (.mapo es clk) => Cd (k' = k ∧ intKeys k es) (forceH (S.set o (.mapo (updE k n p es clk).1 (updE k n p es clk).2)) fun S' => K .any S')
      | _ => Z
    | _, _ => Z
  | .insert t _ _ _ => match mapKey P t, vs with
    | some k, [.mp o, .d (.i k' n), p] => match S[o]? with
      | some (.mapo es clk) => Cd (k' = k ∧ intKeys k es) (forceH (S.set o (.mapo (updE k n p es clk).1 (updE k n p es clk).2)) fun S' => K .any S')
      | _ => Z
    | _, _ => Z
  | .indexAddr t _ _ => match arO P t, vs with
    | some (n, e), [.ptr o c, .d (.i _ i)] => match szO P e with
      | some 1 => Cd (0 ≤ i ∧ i < n) (K (.rptr o c i.toNat) S)
      | _ => Z
    | _, _ => Z
  | .call { callee := .builtin .len, args, argTypes } => match args.toList, argTypes.toList, vs with
    | [_], [t], [.asl _ _ _ len] => match elO P t with
      | some _ => K (.d (.i .i64 len)) S
      | none => Z
    | [_], [t], [.sub _ _ _ n _] => match elO P t with
      | some _ => K (.d (.i .i64 n)) S
      | none => Z
    | _, _, _ => Z
  | .call { callee := .builtin .append, args, argTypes } => match args.toList, argTypes.toList, vs with
    | [_, _], [t, t'], [p, x] => match Nat.decEq t' t with
      | isTrue _ => appX Z P S t p x K
      | isFalse _ => Z
    | _, _, _ => Z
  | .call { callee := .builtin .copy, args, argTypes } => match args.toList, argTypes.toList, vs with
    | [_, _], [t, _], [p, x] => copyX Z P S t p x K
    | _, _, _ => Z
  | .call { callee := .builtin .clear, args, argTypes } => match args.toList, argTypes.toList, vs with
    | [_], [t], [.mp o] => match mapKey P t, S[o]? with
      | some _, some (.mapo _ clk) => forceH (S.set o (.mapo [] clk)) fun S' => K (.tup []) S'
      | _, _ => Z
    | _, _, _ => Z
  | _ => Z

section
variable {P : Program} {w0 : World} {F0 mods F : Nat → Prop} {ρ : Nat → Option Nat} {S : Heap} {w : World} {K : PV → Heap → Prop}
theorem holds_fro (h : St w0 F0 mods F ρ S w) {o sz n : Nat} {ds : List (List D)} (hx : S[o]? = some (.fro ds)) (hn : ds.length = n) {v : Value} (hv : RepPV w F ρ (info S) (.own o sz n) v) : Holds P w F ρ (info S) (ds.map (·.map .d)) v :=
  holds_sl (by simp only [RepPV]; exact fro_rep h hx hn hv)
theorem srcX_holds (h : St w0 F0 mods F ρ S w) {sz : Nat} {x : PV} {k : List (List PV) → Prop} (hk : srcX False S sz x k) {v : Value} (hv : RepPV w F ρ (info S) x v) : ∃ more, Holds P w F ρ (info S) more v ∧ k more := by
  unfold srcX at hk
  split at hk
  · simp only [RepPV] at hv; subst hv; exact ⟨_, holds_nil, hk⟩
  · exact ⟨_, holds_sl hv, hk⟩
  · split at hk
    · rename_i rows hx; obtain ⟨h1, hk⟩ := hk; exact ⟨_, holds_own h hx h1 hv, hk⟩
    · rename_i rows hx; obtain ⟨h1, hk⟩ := hk; exact ⟨_, holds_fro h hx h1 hv, hk⟩
    · exact hk.elim
  · split at hk
    · rename_i hx; obtain ⟨⟨h1, h2⟩, hk⟩ := hk; exact ⟨_, holds_asl h hx h1 h2 hv, hk⟩
    · exact hk.elim
  · split at hk
    · rename_i hx; obtain ⟨⟨h0, h1, h2, h3⟩, hk⟩ := hk; subst h0; exact ⟨_, holds_sub h hx h1 h2 h3 hv, hk⟩
    · exact hk.elim
  · exact hk.elim

theorem slX_ok (h : St w0 F0 mods F ρ S w) {t : TypeId} {p : PV} {lo hi : Option PV} (hk : slX False P S t p lo hi K) {v : Value} (hv : RepPV w F ρ (info S) p v) {lv hv' : Option Value} (h1 : RepO w F ρ (info S) lo lv) (h2 : RepO w F ρ (info S) hi hv') :
    OpOk P (do pure (.value (← Instr.sliceAt t v lv hv' none))) w0 F0 mods F ρ S w K := by
  unfold slX at hk
  split at hk
  · split at hk
    · rename_i n e ha
      split at hk
      · rename_i hs
        obtain ⟨m, e2, hk⟩ := bndW_A hk
        obtain ⟨l, e1, hk⟩ := bndW_A hk
        obtain ⟨⟨g1, g2⟩, hk⟩ := hk
        exact ok_sliceArr h ha hs (by unfold maxLen; omega) hv h1 h2 e2 e1 g1 hk
      · exact hk.elim
    · exact hk.elim
  · split at hk
    · rename_i el he
      split at hk
      · rename_i sz hs
        split at hk
        · rename_i rows hx
          obtain ⟨⟨g1, g2⟩, hk⟩ := (forceN_iff _ _).1 hk
          obtain ⟨m, e2, hk⟩ := bndW_A hk
          obtain ⟨l, e1, hk⟩ := bndW_A hk
          subst g2
          exact ok_sliceOwn h he hs hx g1 hv h1 h2 e2 e1 hk
        · rename_i ds hx
          obtain ⟨⟨g1, g2⟩, hk⟩ := (forceN_iff _ _).1 hk
          obtain ⟨m, e2, hk⟩ := bndW_A hk
          obtain ⟨l, e1, hk⟩ := bndW_A hk
          exact ok_slice_sl h he hs g2 (by simp only [RepPV]; exact fro_rep h hx g1 hv) h1 h2 e2 e1 hk
        · exact hk.elim
      · exact hk.elim
    · exact hk.elim
  · split at hk
    · rename_i el he
      split at hk
      · rename_i sz hs
        obtain ⟨g2, hk⟩ := (forceN_iff _ _).1 hk
        obtain ⟨m, e2, hk⟩ := bndW_A hk
        obtain ⟨l, e1, hk⟩ := bndW_A hk
        subst g2
        exact ok_sliceSub h he hs hv h1 h2 e2 e1 hk
      · exact hk.elim
    · exact hk.elim
  · exact hk.elim

theorem appX_ok (h : St w0 F0 mods F ρ S w) {t ty : TypeId} {p x : PV} (hk : appX False P S t p x K) {v u : Value} (hv : RepPV w F ρ (info S) p v) (hu : RepPV w F ρ (info S) x u) :
    OpOk P (do pure (.value (← Builtin.append_ #[t, t] ty #[v, u]))) w0 F0 mods F ρ S w K := by
  unfold appX at hk
  split at hk
  · rename_i el he
    split at hk
    · rename_i sz by_ zs hs hb hz
      obtain ⟨more, hm, hk⟩ := srcX_holds (P := P) h hk hu
      split at hk
      · split at hk
        case h_2 => exact hk.elim
        rename_i hbb
        simp only [Bool.and_eq_true] at hbb
        obtain ⟨⟨h3, h4, h5⟩, hk⟩ := (forceN_iff _ _).1 ((forceN_iff _ _).1 hk)
        exact ok_appendH h he hs hb hz (Nat.eq_of_beq_eq_true hbb.1) (by have := hbb.2; simpa [Nat.blt_eq] using this) hv hm h3 ⟨⟨h4, h5⟩, (forceO_iff _ _).1 ((forceH_iff _ _).1 hk)⟩
      · split at hk
        · rename_i rows hx
          split at hk
          case h_2 => exact hk.elim
          rename_i hbb
          simp only [Bool.and_eq_true] at hbb
          obtain ⟨⟨h3, h4, h5, h6⟩, hk⟩ := (forceN_iff _ _).1 ((forceN_iff _ _).1 hk)
          exact ok_appendH h he hs hb hz (Nat.eq_of_beq_eq_true hbb.1.1) (by have := hbb.1.2; simpa [Nat.blt_eq] using this) hv hm h3 ⟨Nat.eq_of_beq_eq_true hbb.2, rows, hx, h4, h5, h6, (forceH_iff _ _).1 hk⟩
        · exact hk.elim
      · exact hk.elim
    · exact hk.elim
  · exact hk.elim

theorem flat_splice {rows more : List (List PV)} (ha : AllLen 1 rows) (hb : AllLen 1 more) {c : Nat} (hl : c + more.length ≤ rows.length) : (splice rows c more).flatten = splice rows.flatten c more.flatten := by
  have key : ∀ (rs : List (List PV)) (j : Nat), AllLen 1 rs → rs.flatten.drop j = (rs.drop j).flatten ∧ rs.flatten.take j = (rs.take j).flatten := by
    intro rs
    induction rs with
    | nil => intro j _; simp
    | cons r rs ih =>
      intro j hr
      obtain ⟨x, rfl⟩ : ∃ x, r = [x] := List.length_eq_one_iff.1 (hr r (by simp))
      cases j with
      | zero => simp
      | succ j =>
        have := ih j (fun r h => hr r (by simp [h]))
        simp [this.1, this.2]
  have hm : more.flatten.length = more.length := by rw [hb.flatten]; omega
  simp only [splice, List.flatten_append, hm]
  rw [(key rows c ha).2, (key rows _ ha).1]

theorem copyX_ok (h : St w0 F0 mods F ρ S w) {t t' ty : TypeId} {p x : PV} (hk : copyX False P S t p x K) {v u : Value} (hv : RepPV w F ρ (info S) p v) (hu : RepPV w F ρ (info S) x u) :
    OpOk P (do pure (.value (← Builtin.copy_ #[t, t'] ty #[v, u]))) w0 F0 mods F ρ S w K := by
  unfold copyX at hk
  split at hk
  · rename_i el he
    split at hk
    · rename_i hs
      have hk0 := srcX_holds (P := P) h hk hu
      clear hk
      obtain ⟨more, hm, hk⟩ := hk0
      split at hk
      · rename_i o c lo len
        split at hk
        · rename_i pre n run post hx
          obtain ⟨_, ds, _, hr, h1, h2, h3, ⟨g1, g2, g3⟩, hk⟩ := hk
          obtain rfl := List.eq_nil_of_length_eq_zero h1
          obtain rfl := List.eq_nil_of_length_eq_zero h3
          simp only [List.nil_append, List.append_nil] at hr
          simp only [RepPV] at hv
          obtain ⟨_, b, cap, rfl, k1, k2, hb⟩ := hv
          have hb := hb (by rw [info_of hx]; rfl)
          have hn := arr_len h hx
          subst g2
          have hfl : (more.take (min more.length len)).flatten = (ds.take (min more.length len)).map .d := by
            have : ∀ (m : List (List PV)) (d : List D) (j : Nat), AllLen 1 m → m.flatten = d.map .d → (m.take j).flatten = (d.take j).map PV.d := by
              intro m
              induction m with
              | nil => intro d j _ e; simp at e; simp [e]
              | cons r m ih =>
                intro d j hr e
                obtain ⟨x, rfl⟩ : ∃ x, r = [x] := List.length_eq_one_iff.1 (hr r (by simp))
                cases d with
                | nil => simp at e
                | cons y d =>
                  simp only [List.flatten_cons, List.singleton_append, List.map_cons, List.cons.injEq] at e
                  cases j with
                  | zero => simp
                  | succ j => simp [ih d j (fun r h => hr r (by simp [h])) e.2, e.1]
            exact this _ _ _ g1 hr
          have hml : (ds.take (min more.length len)).length = min more.length len := by rw [List.length_take]; omega
          have hspl : (splice run lo (ds.take (min more.length len))).length = n := by rw [splice_length _ _ _ (by omega)]; exact hn
          refine ok_copyH (y := .arr pre n (splice run lo (ds.take (min more.length len))) post) h he hs hx (by simp) (by simp) (fun _ _ _ _ e => by cases e; exact hspl) hb g1 hm (by simp [Ob.cells]; omega) ?_ rfl ((forceH_iff _ _).1 hk)
          rw [hfl]
          simp only [Ob.cells]
          apply List.ext_getElem?
          intro j
          rw [splice_get _ _ _ (by simp; omega)]
          simp only [List.length_map, hml]
          by_cases hj : j < pre.length
          · rw [if_neg (by omega), List.getElem?_append_left hj, List.getElem?_append_left hj]
          · have e1 : ∀ r : List D, (pre ++ (r.map PV.d ++ post))[j]? = (r.map PV.d ++ post)[j - pre.length]? := fun r => List.getElem?_append_right (by omega)
            rw [e1, e1]
            by_cases hj2 : j - pre.length < n
            · have e2 : ∀ r : List D, r.length = n → (r.map PV.d ++ post)[j - pre.length]? = (r[j - pre.length]?).map PV.d := fun r hr => by rw [List.getElem?_append_left (by simp; omega), List.getElem?_map]
              rw [e2 _ hn, e2 _ hspl, splice_get _ _ _ (by omega), hml]
              by_cases e : lo ≤ j - pre.length ∧ j - pre.length < lo + min more.length len
              · rw [if_pos e, if_pos (by omega), List.getElem?_map]
                congr 2; omega
              · rw [if_neg e, if_neg (by omega)]
            · have e2 : ∀ r : List D, r.length = n → (r.map PV.d ++ post)[j - pre.length]? = post[j - pre.length - n]? := fun r hr => by rw [List.getElem?_append_right (by simp; omega)]; congr 1; simp; omega
              rw [if_neg (by omega), e2 _ hn, e2 _ hspl]
        · exact hk.elim
      · rename_i o s m
        split at hk
        · rename_i rows hx
          obtain ⟨⟨rfl, g1, g2, g3⟩, hk⟩ := hk
          have hi' : info S o = .buf m := by rw [info_of hx, Ob.info, g2]
          simp only [RepPV] at hv
          obtain ⟨hf, a, cap, rfl, h2⟩ := hv
          have hml : (more.take (min more.length m)).length = min more.length m := by rw [List.length_take]; omega
          have hsl : (splice rows 0 (more.take (min more.length m))).length = rows.length := splice_length _ _ _ (by omega)
          rcases (h2 m hi').2 rfl with ⟨_, rfl, rfl, rfl⟩ | ⟨b, hb, rfl, k3, k4, _⟩
          · -- no rows: nothing is copied
            have hr0 : rows = [] := List.eq_nil_of_length_eq_zero g2
            have hk' := (forceH_iff _ _).1 hk
            have e0 : splice rows 0 (more.take (min more.length 0)) = rows := by simp [splice]
            rw [e0, show S.set o (.buf rows) = S from by apply List.ext_getElem?; intro j; rw [List.getElem?_set]; split <;> first | (rename_i e; subst e; rw [hx]; simp [(List.getElem?_eq_some_iff.1 hx).1]) | rfl] at hk'
            obtain ⟨a', c', vs', rfl, q1, q2, q3⟩ := hm
            have hfc : (Builtin.firstCells 1 0 (.slice a' more.length c')).run P w = .ok #[] w := by
              cases a' with
              | none => exact run_firstCells_none ..
              | some ad => exact run_firstCells_some w 1 0 ad _ _ [] rfl (fun j v hj => by simp at hj)
            refine .value h (v := goInt 0) ?_ (by simp [RepPV, RepD, goInt]) hk'
            have hmin : Nat.min more.length 0 = 0 := Nat.min_zero _
            simp [Builtin.copy_, run_underlying (elO_under he), Builtin.lenOf, run_size hs, hfc]
          · refine ok_copyH (y := .buf (splice rows 0 (more.take (min more.length m)))) h he hs hx (by simp) (by simp) (fun _ _ _ _ e => by cases e) hb g1 hm (by simp only [Ob.cells]; rw [g3.flatten]; omega) ?_ ?_ ((forceH_iff _ _).1 hk)
            · simp only [Ob.cells]
              exact flat_splice g3 (fun r hr => g1 r (List.mem_of_mem_take hr)) (by omega)
            · simp only [Ob.info, hsl]
        · exact hk.elim
      · rename_i o s off m k
        split at hk
        · rename_i rows hx
          obtain ⟨⟨rfl, g1, g2, g3, g4⟩, hk⟩ := hk
          have hi' : info S o = .buf k := by rw [info_of hx, Ob.info, g2]
          simp only [RepPV] at hv
          obtain ⟨hf, a, cap, rfl, k1, k2, h2⟩ := hv
          have hml : (more.take (min more.length m)).length = min more.length m := by rw [List.length_take]; omega
          have hsl : (splice rows off (more.take (min more.length m))).length = rows.length := splice_length _ _ _ (by omega)
          rcases ((h2 k hi').2 rfl).2 with h0 | ⟨b, hb, rfl⟩
          · subst h0
            have hk' := (forceH_iff _ _).1 hk
            have e0 : splice rows off (more.take (min more.length 0)) = rows := by simp [splice]
            rw [e0, show S.set o (.buf rows) = S from by apply List.ext_getElem?; intro j; rw [List.getElem?_set]; split <;> first | (rename_i e; subst e; rw [hx]; simp [(List.getElem?_eq_some_iff.1 hx).1]) | rfl] at hk'
            obtain ⟨a', c', vs', rfl, q1, q2, q3⟩ := hm
            have hfc : (Builtin.firstCells 1 0 (.slice a' more.length c')).run P w = .ok #[] w := by
              cases a' with
              | none => exact run_firstCells_none ..
              | some ad => exact run_firstCells_some w 1 0 ad _ _ [] rfl (fun j v hj => by simp at hj)
            refine .value h (v := goInt 0) ?_ (by simp [RepPV, RepD, goInt]) hk'
            cases a with
            | none => simp [Builtin.copy_, run_underlying (elO_under he), Builtin.lenOf, run_size hs, hfc]
            | some ad => simp [Builtin.copy_, run_underlying (elO_under he), Builtin.lenOf, run_size hs, hfc, storeCells]
          · rw [Nat.mul_one] at *
            refine ok_copyH (y := .buf (splice rows off (more.take (min more.length m)))) h he hs hx (by simp) (by simp) (fun _ _ _ _ e => by cases e) hb g1 hm (by simp only [Ob.cells]; rw [g3.flatten]; omega) ?_ ?_ ((forceH_iff _ _).1 hk)
            · simp only [Ob.cells]
              exact flat_splice g3 (fun r hr => g1 r (List.mem_of_mem_take hr)) (by omega)
            · simp only [Ob.info, hsl]
        · exact hk.elim
      · exact hk.elim
    · exact hk.elim
  · exact hk.elim
end

theorem zEl_rep {P : Program} {el : TypeId} {z : PV} (h : zOk P el z) (w : World) (F : Nat → Prop) (ρ : Nat → Option Nat) (C : Nat → OI) : ∃ zv, (P.info? el).bind (·.zero) = some zv ∧ RepPV w F ρ C z zv := by
  have one : ∀ z, z0 P el = some z → ∃ zv, (P.info? el).bind (·.zero) = some zv ∧ RepPV w F ρ C z zv := fun z h => by
    obtain ⟨zv, h1, rfl⟩ := Option.map_eq_some_iff.1 h
    exact ⟨zv, h1, cst_rep zv⟩
  unfold zOk at h
  split at h
  · rename_i pre n run post
    obtain ⟨h1, h2, h3⟩ := h
    obtain ⟨i, zv, hi, hz, hr⟩ := zO_rep (w := w) (F := F) (ρ := ρ) (C := C) h2
    have hb : (P.info? el).bind (·.zero) = some zv := by rw [hi]; exact hz
    unfold isAggZ at h3
    rw [hb] at h3
    split at h3
    · rename_i arr harr
      cases harr
      exact ⟨_, hb, wag_of h1 hr⟩
    · cases h3
  · exact one _ h

theorem toDs_app : ∀ {a b : List PV} {x y : List D}, toDs a = some x → toDs b = some y → toDs (a ++ b) = some (x ++ y)
  | [], b, x, y, h, h' => by simp only [toDs, Option.some.injEq] at h; subst h; simpa using h'
  | p :: a, b, x, y, h, h' => by
    simp only [toDs] at h
    split at h
    · rename_i d ds h1 h2
      cases h
      simp [toDs, h1, toDs_app h2 h']
    · cases h
theorem ok_slWag {P : Program} {w0 : World} {F0 mods F : Nat → Prop} {ρ : Nat → Option Nat} {S : Heap} {w : World} {K : PV → Heap → Prop} (h : St w0 F0 mods F ρ S w) {t e : TypeId} (hu : elO P t = some e) {sz : Nat} (hs : szO P e = some sz) {zs : List PV} (hz : zO P e = some zs) (hzs : zs.length = sz) (hpos : 0 < sz)
    {parts : Array (Nat × Value)} {pre post : List PV} {run : List D} {n : Nat} (hp : Parts w F ρ (info S) [(0, .wag pre n run post)] parts.toList) (hrun : run.length = n) (hl : pre.length + (n + post.length) = sz) (hbig : sz ≤ 16777216) {dp dq : List D} (h1 : toDs pre = some dp) (h2 : toDs post = some dq)
    (hK : K (.d (.sl [dp ++ (run ++ dq)])) S) : OpOk P (do pure (.value (← Instr.buildSlice t 1 parts))) w0 F0 mods F ρ S w K := by
  have hlen : (pre ++ (run.map PV.d ++ post)).length = sz := by simp; omega
  have hd : toDs (pre ++ (run.map PV.d ++ post)) = some (dp ++ (run ++ dq)) := toDs_app h1 (toDs_app (by
    have : ∀ l : List D, toDs (l.map PV.d) = some l := fun l => by
      induction l with
      | nil => rfl
      | cons d r ih => simp [toDs, PV.toD, ih]
    exact this run) h2)
  have hdl := toDs_length hd
  refine ok_buildSlice h hu hs hz hzs hpos hp (cs := pre ++ (run.map PV.d ++ post)) ?_ (by omega) hd (by rw [hdl, hlen]; omega) ?_
  · simp only [fillA, PV.cellsOf, List.replicate_one, List.flatten_singleton]
    rw [if_pos ⟨hlen, by simp; omega⟩]
    simp only [splice, Nat.zero_mul, List.take_zero, List.nil_append]
    rw [List.drop_eq_nil_of_le (by rw [hlen, hzs]; omega), List.append_nil]
  · have : chunks sz 1 (dp ++ (run ++ dq)) = [dp ++ (run ++ dq)] := by
      simp only [chunks]
      rw [List.take_of_length_le (by rw [hdl, hlen]; exact Nat.le_refl _)]
    rw [this]; exact hK

theorem pxW_pt {P : Program} {vs : List PV} {S : Heap} {o : Oper} {K : PV → Heap → Prop} (h : pxW False P vs S o K) : SemV P vs S o K := by
  obtain ⟨dst, op, ty, pos, after, g⟩ := o
  intro w0 F0 mods F ρ w a hs he
  unfold pxW at h
  split at h
  · rename_i t hop
    simp only at hop; subst hop
    simp only [execOp]
    exact ok_makeMap hs t ((forceO_iff _ _).1 ((forceH_iff _ _).1 h))
  · rename_i T hop
    simp only at hop; subst hop
    simp only [execOp]
    split at h
    · rename_i hz
      obtain ⟨hc, h⟩ := (forcePs_iff _ _).1 ((forcePs_iff _ _).1 h)
      exact ok_allocArr hs hc (by simp) ((forceO_iff _ _).1 ((forceH_iff _ _).1 h))
    · exact h.elim
  · rename_i T x hop
    simp only at hop; subst hop
    split at h
    · obtain ⟨v, e1, e2⟩ := reps_one he
      simp only [Op.operands, List.map_cons, List.map_nil, List.cons.injEq, and_true] at e1
      simp only [execOp, e1]
      exact ok_boxArr hs e2 ((forceO_iff _ _).1 ((forceH_iff _ _).1 h))
    · exact h.elim
  · rename_i T parts hop
    simp only at hop; subst hop
    split at h
    · split at h
      · rename_i pl zs hpl hz
        split at h
        · obtain ⟨hc, h⟩ := (forcePs_iff _ _).1 ((forcePs_iff _ _).1 h)
          simp only [Op.operands] at he
          have hp := parts_zip he
          simp only [execOp]
          generalize hq : Array.map _ parts = q
          obtain ⟨nx, v', w', pv, S', F', ρ', k1, k2, ⟨rfl, rfl⟩, k4, k5, k6⟩ := ok_build (K := fun p s => p = .agg _ ∧ s = S) hs hpl hz (parts := q) (by rw [← hq, Array.toList_map]; exact hp) hc ⟨rfl, rfl⟩
          refine ⟨nx, v', w', _, _, F', ρ', k1, k2, h, ?_, k5, k6⟩
          simp only [RepPV] at k4
          obtain ⟨arr, rfl, k4⟩ := k4
          exact wag_of (by simp) k4
        · exact h.elim
      · exact h.elim
    · exact h.elim
  · rename_i T len parts hop
    simp only at hop; subst hop
    split at h
    · rename_i el hel
      split at h
      · rename_i sz zs hsz hz
        split at h
        · rename_i x pre n run post hpt
          split at h
          · rename_i dp dq h1 h2
            obtain ⟨⟨g1, g2, g3, g4⟩, h⟩ := h
            simp only [Op.operands] at he
            have hp := parts_zip he
            rw [hpt] at hp
            have hrun : run.length = n := by
              obtain ⟨v, e1, e2⟩ := reps_one he
              simp only [RepPV] at e2
              exact e2.1
            simp only [execOp]
            generalize hq : Array.map _ parts = q
            exact ok_slWag hs hel hsz hz g1 g2 (by rw [← hq, Array.toList_map, hpt]; exact hp) hrun g4 g3 h1 h2 h
          · exact h.elim
        · exact h.elim
      · exact h.elim
    · exact h.elim
  · rename_i T x y hop
    simp only at hop; subst hop
    split at h
    · obtain ⟨v, u, e1, e2, e3⟩ := reps_two he
      simp only [Op.operands, List.map_cons, List.map_nil, List.cons.injEq, and_true] at e1
      split at h
      · rename_i sz hx hsz
        obtain ⟨⟨rfl, h1, h2, h3, rfl⟩, h⟩ := h
        simp only [execOp, e1.1, e1.2]
        exact ok_storeArr hs hx h1 h2 h3 hsz e2 e3 ((forceH_iff _ _).1 h)
      · exact h.elim
    · obtain ⟨v, u, e1, e2, e3⟩ := reps_two he
      simp only [Op.operands, List.map_cons, List.map_nil, List.cons.injEq, and_true] at e1
      split at h
      · rename_i hx hsz hcc
        obtain ⟨⟨h1, h2⟩, h⟩ := h
        simp only [execOp, e1.1, e1.2]
        exact ok_storeArrPre hs hx hsz h2 h1 e2 e3 ((forceH_iff _ _).1 h)
      · exact h.elim
    · obtain ⟨v, u, e1, e2, e3⟩ := reps_two he
      simp only [Op.operands, List.map_cons, List.map_nil, List.cons.injEq, and_true] at e1
      split at h
      · rename_i hx hsz
        obtain ⟨⟨h1, h2, h3⟩, h⟩ := h
        simp only [execOp, e1.1, e1.2]
        exact ok_storeRun hs hx hsz h3 h1 h2 e2 e3 ((forceH_iff _ _).1 h)
      · exact h.elim
    · exact h.elim
  · rename_i T x hop
    simp only at hop; subst hop
    split at h
    · obtain ⟨v, e1, e2⟩ := reps_one he
      simp only [Op.operands, List.map_cons, List.map_nil, List.cons.injEq, and_true] at e1
      split at h
      · rename_i hx
        simp only [execOp, e1]
        split at h
        · rename_i sz ha hsz
          split at h
          · obtain ⟨⟨h1, h2⟩, h⟩ := h
            subst h2
            exact ok_loadRun hs ha hx h1 hsz e2 h
          · obtain ⟨⟨rfl, h2⟩, h⟩ := h
            subst h2
            exact ok_loadArr hs ha hx hsz e2 h
        · rename_i ha hsz
          split at h
          · rename_i p hp
            obtain ⟨h1, h⟩ := h
            exact ok_loadArrCell hs ha hx (.inl ⟨h1, hp⟩) e2 ((forceP_iff _ _).1 h)
          · split at h
            · rename_i p hp
              obtain ⟨h1, h⟩ := h
              exact ok_loadArrCell hs ha hx (.inr ⟨h1, hp⟩) e2 ((forceP_iff _ _).1 h)
            · exact h.elim
        · exact h.elim
      · exact h.elim
    · obtain ⟨v, e1, e2⟩ := reps_one he
      simp only [Op.operands, List.map_cons, List.map_nil, List.cons.injEq, and_true] at e1
      split at h
      · rename_i pre n run post hx ha
        obtain ⟨⟨h1, h2⟩, h⟩ := h
        simp only [execOp, e1]
        have hn := arr_len hs hx
        refine ok_loadRptr hs ha hx h1 h2 e2 ?_ h
        rw [List.getD_eq_getElem?_getD, List.getElem?_eq_getElem (by omega)]; rfl
      · exact h.elim
    · rename_i oo nn r rsz cc
      obtain ⟨v, e1, e2⟩ := reps_one he
      simp only [Op.operands, List.map_cons, List.map_nil, List.cons.injEq, and_true] at e1
      split at h
      · rename_i rows a0 m b s hx hw ha hsz
        obtain ⟨⟨h1, h2, h3, rfl, rfl⟩, pre, run, post, hrow, g1, g2, g3, h⟩ := h
        have h := (forcePs_iff _ _).1 ((forcePs_iff _ _).1 h)
        simp only [execOp, e1]
        have hr : rows[r]? = some (rows.getD r []) := by simp [List.getD_eq_getElem?_getD, List.getElem?_eq_getElem (show r < rows.length by omega)]
        have hl : (rows.getD r []).length = s := h2 _ (List.mem_of_getElem? hr)
        have := ok_loadA (P := P) (K := fun q S' => q = .agg ((rows.getD r []).take s) ∧ S' = S) (t := T) hs e2 (by
          simp only [loadA, ha]
          exact ⟨rows, _, hx, h1, h2, hr, s, hsz, by omega, by simp⟩)
        obtain ⟨nx, v', w', pv, S', F', ρ', k1, k2, ⟨rfl, rfl⟩, k4, k5, k6⟩ := this
        refine ⟨nx, v', w', _, _, F', ρ', k1, k2, h, ?_, k5, k6⟩
        rw [List.take_of_length_le (by omega), hrow] at k4
        simp only [RepPV] at k4
        obtain ⟨arr, rfl, k4⟩ := k4
        exact wag_of g2 k4
      · exact h.elim
    · exact h.elim
  · rename_i t x lo hi hop
    simp only at hop; subst hop
    simp only [execOp]
    unfold sliceX at h
    split at h
    · obtain ⟨v, e1, e2⟩ := reps_one he
      simp only [Op.operands, List.map_cons, List.map_nil, List.cons.injEq, and_true, Option.toArray, Array.toList_append, List.append_nil] at e1
      simp only [e1, Option.map_none]
      exact slX_ok hs h e2 trivial trivial
    · obtain ⟨v, u, e1, e2, e3⟩ := reps_two he
      simp only [Op.operands, List.map_cons, List.map_nil, List.cons.injEq, and_true, Option.toArray, Array.toList_append, List.append_nil, List.cons_append, List.nil_append] at e1
      simp only [e1.1, e1.2, Option.map_none, Option.map_some]
      exact slX_ok hs h e2 e3 trivial
    · obtain ⟨v, u, e1, e2, e3⟩ := reps_two he
      simp only [Op.operands, List.map_cons, List.map_nil, List.cons.injEq, and_true, Option.toArray, Array.toList_append, List.append_nil, List.cons_append, List.nil_append] at e1
      simp only [e1.1, e1.2, Option.map_none, Option.map_some]
      exact slX_ok hs h e2 trivial e3
    · obtain ⟨v, u, t', e1, e2, e3, e4⟩ := reps_three he
      simp only [Op.operands, List.map_cons, List.map_nil, List.cons.injEq, and_true, Option.toArray, Array.toList_append, List.append_nil, List.cons_append, List.nil_append] at e1
      simp only [e1.1, e1.2.1, e1.2.2, Option.map_some]
      exact slX_ok hs h e2 e3 e4
    · exact h.elim
  · rename_i t x hop
    simp only at hop; subst hop
    split at h
    · rename_i k mo hk
      split at h
      · rename_i es clk hx
        obtain ⟨kt, el, ht, _, _⟩ := mapKey_under hk
        obtain ⟨v, e1, e2⟩ := reps_one he
        simp only [Op.operands, List.map_cons, List.map_nil, List.cons.injEq, and_true] at e1
        simp only [execOp, e1]
        exact ok_range hs ht hx e2 ((forceO_iff _ _).1 ((forceH_iff _ _).1 h))
      · exact h.elim
    · exact h.elim
  · rename_i x hop
    simp only at hop; subst hop
    split at h
    · rename_i oo
      obtain ⟨v, e1, e2⟩ := reps_one he
      simp only [Op.operands, List.map_cons, List.map_nil, List.cons.injEq, and_true] at e1
      split at h
      · rename_i mo since seen last hx
        split at h
        · rename_i es clk hm
          obtain ⟨g1, g2, g3, g4⟩ := h
          simp only [execOp, e1]
          exact ok_next hs hx hm g1 g2 e2 g3 fun y hy hn => (forceH_iff _ _).1 (g4 y.1 y.2.1 y.2.2 hy hn)
        · exact h.elim
      · exact h.elim
    · exact h.elim
  · rename_i x hop
    simp only at hop; subst hop
    split at h
    · rename_i oo
      obtain ⟨v, e1, e2⟩ := reps_one he
      simp only [Op.operands, List.map_cons, List.map_nil, List.cons.injEq, and_true] at e1
      split at h
      · rename_i mo since seen last hx
        split at h
        · rename_i es clk hm
          obtain ⟨seen', k, bn, p, rfl, hy, hn, rfl, h⟩ := h
          simp only [execOp, e1]
          exact ok_entry (x := (k, bn, p)) hs hx hm hy hn e2 h
        · exact h.elim
      · exact h.elim
    · exact h.elim
  · rename_i t x y hop
    simp only at hop; subst hop
    split at h
    · rename_i k el oo k' n hk hel
      split at h
      · rename_i es clk z hx hz
        obtain ⟨⟨rfl, hzo⟩, h⟩ := h
        obtain ⟨v, u, e1, e2, e3⟩ := reps_two he
        simp only [Op.operands, List.map_cons, List.map_nil, List.cons.injEq, and_true] at e1
        simp only [execOp, e1.1, e1.2]
        obtain ⟨zv, hzv, hzr⟩ := zEl_rep hzo w F ρ (info S)
        cases h with
        | hit j p hks hf hh => exact ok_lookup hs hk hel hx hks e2 e3 hzv hzr (by rw [hf]; exact (forceP_iff _ _).1 hh)
        | miss hks hf hh => exact ok_lookup hs hk hel hx hks e2 e3 hzv hzr (by rw [hf]; exact hh)
      · exact h.elim
    · exact h.elim
  · rename_i t x y z hop
    simp only at hop; subst hop
    split at h
    · rename_i k oo k' n p hk
      split at h
      · rename_i es clk hx
        obtain ⟨⟨rfl, hks⟩, h⟩ := h
        obtain ⟨v, u, t', e1, e2, e3, e4⟩ := reps_three he
        simp only [Op.operands, List.map_cons, List.map_nil, List.cons.injEq, and_true] at e1
        simp only [execOp, e1.1, e1.2.1, e1.2.2]
        exact ok_mapUpdate hs hk hx hks e2 e3 e4 ((forceH_iff _ _).1 h)
      · exact h.elim
    · exact h.elim
  · rename_i t x y z hop
    simp only at hop; subst hop
    split at h
    · rename_i k oo k' n p hk
      split at h
      · rename_i es clk hx
        obtain ⟨⟨rfl, hks⟩, h⟩ := h
        obtain ⟨v, u, t', e1, e2, e3, e4⟩ := reps_three he
        simp only [Op.operands, List.map_cons, List.map_nil, List.cons.injEq, and_true] at e1
        simp only [execOp, e1.1, e1.2.1, e1.2.2]
        exact ok_mapUpdate hs hk hx hks e2 e3 e4 ((forceH_iff _ _).1 h)
      · exact h.elim
    · exact h.elim
  · rename_i t x y hop
    simp only at hop; subst hop
    split at h
    · rename_i n e oo c k i ha
      split at h
      · rename_i hsz
        obtain ⟨⟨h1, h2⟩, h⟩ := h
        obtain ⟨v, u, e1, e2, e3⟩ := reps_two he
        simp only [Op.operands, List.map_cons, List.map_nil, List.cons.injEq, and_true] at e1
        simp only [execOp, e1.1, e1.2]
        simp only [RepPV, RepD] at e2 e3
        obtain ⟨hf, b, rfl, hb⟩ := e2
        subst e3
        refine .value hs (v := .pointer (some ⟨b, c + i.toNat, none⟩)) ?_ (by simp only [RepPV]; exact ⟨hf, b, rfl, hb⟩) h
        simp [Instr.indexAt, asIntOf, run_underlying (arO_under ha), Instr.sureAddr, h1, h2, run_size hsz, add_mid]
      · exact h.elim
    · exact h.elim
  · rename_i args argTypes hop
    simp only at hop; subst hop
    obtain ⟨al⟩ := args
    obtain ⟨tl⟩ := argTypes
    split at h
    · rename_i _ t _ _ _ len hal htl
      split at h
      · rename_i el hel
        obtain ⟨v, e1, e2⟩ := reps_one he
        simp only at hal htl
        subst hal htl
        simp only [Op.operands, Call.operands, Array.toList_append, List.nil_append, List.map_cons, List.map_nil, List.cons.injEq, and_true] at e1
        simp only [RepPV] at e2
        obtain ⟨_, b, cap, rfl, _⟩ := e2
        refine .value hs (v := .int .i64 len) ?_ (by simp [RepPV, RepD]) h
        simp [execOp, resolve, invoke, builtin, Builtin.len_, e1, run_underlying (elO_under hel), goInt]
      · exact h.elim
    · rename_i _ t _ _ _ len _ hal htl
      split at h
      · rename_i el hel
        obtain ⟨v, e1, e2⟩ := reps_one he
        simp only at hal htl
        subst hal htl
        simp only [Op.operands, Call.operands, Array.toList_append, List.nil_append, List.map_cons, List.map_nil, List.cons.injEq, and_true] at e1
        simp only [RepPV] at e2
        obtain ⟨_, a', cap, rfl, _⟩ := e2
        refine .value hs (v := .int .i64 len) ?_ (by simp [RepPV, RepD]) h
        simp [execOp, resolve, invoke, builtin, Builtin.len_, e1, run_underlying (elO_under hel), goInt]
      · exact h.elim
    · exact h.elim
  · rename_i args argTypes hop
    simp only at hop; subst hop
    obtain ⟨al⟩ := args
    obtain ⟨tl⟩ := argTypes
    split at h
    · rename_i t t' p x hal htl
      split at h
      · rename_i heq _
        subst heq
        obtain ⟨v, u, e1, e2, e3⟩ := reps_two he
        simp only at hal htl
        subst hal htl
        simp only [Op.operands, Call.operands, Array.toList_append, List.nil_append, List.map_cons, List.map_nil, List.cons.injEq, and_true] at e1
        have := appX_ok (ty := ty) hs h e2 e3
        simpa [execOp, resolve, invoke, builtin, e1.1, e1.2] using this
      · exact h.elim
    · exact h.elim
  · rename_i args argTypes hop
    simp only at hop; subst hop
    obtain ⟨al⟩ := args
    obtain ⟨tl⟩ := argTypes
    split at h
    · rename_i t t' p x hal htl
      obtain ⟨v, u, e1, e2, e3⟩ := reps_two he
      simp only at hal htl
      subst hal htl
      simp only [Op.operands, Call.operands, Array.toList_append, List.nil_append, List.map_cons, List.map_nil, List.cons.injEq, and_true] at e1
      have := copyX_ok (ty := ty) (t' := t') hs h e2 e3
      simpa [execOp, resolve, invoke, builtin, e1.1, e1.2] using this
    · exact h.elim
  · rename_i args argTypes hop
    simp only at hop; subst hop
    obtain ⟨al⟩ := args
    obtain ⟨tl⟩ := argTypes
    split at h
    · rename_i t oo hal htl
      split at h
      · rename_i k es clk hk hx
        obtain ⟨v, e1, e2⟩ := reps_one he
        simp only at hal htl
        subst hal htl
        simp only [Op.operands, Call.operands, Array.toList_append, List.nil_append, List.map_cons, List.map_nil, List.cons.injEq, and_true] at e1
        obtain ⟨kt, el, ht, _, _⟩ := mapKey_under hk
        have := ok_clearMap (ty := ty) hs ht hx e2 ((forceH_iff _ (fun S' => K (.tup []) S')).1 h)
        simpa [execOp, resolve, invoke, builtin, e1] using this
      · exact h.elim
    · exact h.elim
  · exact h.elim
theorem pxW_Z {Z : Prop} {P : Program} {vs : List PV} {S : Heap} {o : Oper} {K : PV → Heap → Prop} (h : pxW Z P vs S o K) : SemV P vs S o K ∨ Z := by
  by_cases hz : Z
  · exact .inr hz
  · have : Z = False := propext ⟨hz, False.elim⟩
    subst this
    exact .inl (pxW_pt h)
end Go.Aw
