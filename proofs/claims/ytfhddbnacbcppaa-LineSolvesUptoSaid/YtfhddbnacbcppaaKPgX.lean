/- The engine: two structs compared; min and max. -/
import Derived.Test.YtfhddbnacbcppaaKPgK
import Derived.Laws.StructEq
set_option linter.unusedVariables false
set_option linter.unnecessarySimpa false
set_option linter.unusedSimpArgs false
namespace Go.PG

/-- The kinds of a type's cells, for a type whose values are compared cell by cell. -/
def flatFs (P : Program) (rec : Nat → Option (List TK)) : List Field → Nat → Option (List TK)
  | [], _ => some []
  | f :: fs, off =>
    if (f.name != "_") && (f.offset == off) then
      match tab P f.type, rec f.type with
      | some fi, some l => if l.length = fi.size then (flatFs P rec fs (off + fi.size)).map (l ++ ·) else none
      | _, _ => none
    else none

def flatK (P : Program) : Nat → Nat → Option (List TK)
  | 0, _ => none
  | n + 1, t => match tab P t with
    | none => none
    | some i => match i.kind with
      | .int k => some [.int k]
      | .bool => some [.bool]
      | .str => some [.str]
      | .struct _ => match P.underlying t with
        | some (.struct fs) => if P.stoodInHeld t then none else flatFs P (flatK P n) fs.toList 0
        | _ => none
      | _ => none

def eqKs : List TK → List V → List V → Option Bool
  | [], [], [] => some true
  | .int k :: ks, .int a x :: cs, .int b y :: ds => if a = k ∧ b = k then (eqKs ks cs ds).map ((x == y) && ·) else none
  | .bool :: ks, .bool x :: cs, .bool y :: ds => (eqKs ks cs ds).map ((x == y) && ·)
  | .str :: ks, .str x :: cs, .str y :: ds => (eqKs ks cs ds).map ((x.toList == y.toList) && ·)
  | _, _, _ => none

theorem eqKs_split : ∀ (l1 l2 : List TK) (cs ds : List V) (b : Bool), eqKs (l1 ++ l2) cs ds = some b →
    ∃ b1 b2, eqKs l1 (cs.take l1.length) (ds.take l1.length) = some b1 ∧ eqKs l2 (cs.drop l1.length) (ds.drop l1.length) = some b2 ∧ b = (b1 && b2)
  | [], l2, cs, ds, b, h => ⟨true, b, by simp [eqKs], by simpa using h, by simp⟩
  | k :: l1, l2, cs, ds, b, h => by
    rw [List.cons_append] at h
    unfold eqKs at h
    split at h
    · rename_i he; simp at he
    · rename_i k' ks a x cs' b' y ds' he
      simp only [List.cons.injEq] at he
      obtain ⟨rfl, rfl⟩ := he
      split at h
      · rename_i hc
        simp only [Option.map_eq_some_iff] at h
        obtain ⟨r, hr, rfl⟩ := h
        obtain ⟨b1, b2, h1, h2, rfl⟩ := eqKs_split l1 l2 cs' ds' r hr
        exact ⟨(x == y) && b1, b2, by simp [eqKs, hc, h1], by simpa using h2, by rw [Bool.and_assoc]⟩
      · cases h
    · rename_i ks x cs' y ds' he
      simp only [List.cons.injEq] at he
      obtain ⟨rfl, rfl⟩ := he
      simp only [Option.map_eq_some_iff] at h
      obtain ⟨r, hr, rfl⟩ := h
      obtain ⟨b1, b2, h1, h2, rfl⟩ := eqKs_split l1 l2 cs' ds' r hr
      exact ⟨(x == y) && b1, b2, by simp [eqKs, h1], by simpa using h2, by rw [Bool.and_assoc]⟩
    · rename_i ks x cs' y ds' he
      simp only [List.cons.injEq] at he
      obtain ⟨rfl, rfl⟩ := he
      simp only [Option.map_eq_some_iff] at h
      obtain ⟨r, hr, rfl⟩ := h
      obtain ⟨b1, b2, h1, h2, rfl⟩ := eqKs_split l1 l2 cs' ds' r hr
      exact ⟨(x.toList == y.toList) && b1, b2, by simp [eqKs, h1], by simpa using h2, by rw [Bool.and_assoc]⟩
    · cases h

theorem eqKs_one {k : TK} {cs ds : List V} {b : Bool} (h : eqKs [k] cs ds = some b) : ∃ c d, cs = [c] ∧ ds = [d] ∧
    ((∃ j x y, k = .int j ∧ c = .int j x ∧ d = .int j y ∧ b = (x == y)) ∨ (∃ x y, k = .bool ∧ c = .bool x ∧ d = .bool y ∧ b = (x == y)) ∨ (∃ x y, k = .str ∧ c = .str x ∧ d = .str y ∧ b = (x.toList == y.toList))) := by
  have nil : ∀ (cs ds : List V) (r : Bool), eqKs [] cs ds = some r → cs = [] ∧ ds = [] ∧ r = true := by
    intro cs ds r h
    cases cs <;> cases ds <;> simp [eqKs] at h
    exact ⟨rfl, rfl, h⟩
  unfold eqKs at h
  split at h
  · rename_i he; simp at he
  · rename_i k' ks a x cs' b' y ds' he
    simp only [List.cons.injEq] at he
    obtain ⟨rfl, rfl⟩ := he
    split at h
    · rename_i hc
      obtain ⟨rfl, rfl⟩ := hc
      simp only [Option.map_eq_some_iff] at h
      obtain ⟨r, hr, rfl⟩ := h
      obtain ⟨rfl, rfl, rfl⟩ := nil _ _ _ hr
      exact ⟨_, _, rfl, rfl, .inl ⟨_, x, y, rfl, rfl, rfl, by simp⟩⟩
    · cases h
  · rename_i ks x cs' y ds' he
    simp only [List.cons.injEq] at he
    obtain ⟨rfl, rfl⟩ := he
    simp only [Option.map_eq_some_iff] at h
    obtain ⟨r, hr, rfl⟩ := h
    obtain ⟨rfl, rfl, rfl⟩ := nil _ _ _ hr
    exact ⟨_, _, rfl, rfl, .inr (.inl ⟨x, y, rfl, rfl, rfl, by simp⟩)⟩
  · rename_i ks x cs' y ds' he
    simp only [List.cons.injEq] at he
    obtain ⟨rfl, rfl⟩ := he
    simp only [Option.map_eq_some_iff] at h
    obtain ⟨r, hr, rfl⟩ := h
    obtain ⟨rfl, rfl, rfl⟩ := nil _ _ _ hr
    exact ⟨_, _, rfl, rfl, .inr (.inr ⟨x, y, rfl, rfl, rfl, by simp⟩)⟩
  · cases h

theorem kind_bool {d : TypeDesc} (h : kindOf d = .bool) : d = .bool := by
  cases d <;> simp [kindOf] at h
  rfl

/-- A value of a type, out of its cells. -/
def ofCells (isA : Bool) (vs : List Value) : Value := if isA then .agg vs.toArray else vs.headD undef

theorem ba_eq (x y : ByteArray) : (x == y) = (x.toList == y.toList) := beq_toListBytes x y

theorem eq_run {P : Program} {w : World} {st : Nat → Own} : ∀ (n : Nat) (t d : Nat) (i : TI) (l : List TK) (cs ds : List V) (vs us : List Value) (b : Bool), n ≤ d → tab P t = some i → flatK P n t = some l →
    RepL w st cs vs → RepL w st ds us → eqKs l cs ds = some b → (Op.equalIn d t (ofCells i.isA vs) (ofCells i.isA us)).run P w = .ok b w
  | 0, t, d, i, l, cs, ds, vs, us, b, _, _, h, _, _, _ => by simp [flatK] at h
  | n + 1, t, d, i, l, cs, ds, vs, us, b, hd, hi, h, hv, hu, he => by
    obtain ⟨d, rfl⟩ : ∃ d', d = d' + 1 := ⟨d - 1, by omega⟩
    obtain ⟨info, dsc, z, hT⟩ := tab_ok hi
    have one : ∀ (c e : V), cs = [c] → ds = [e] → ∃ v u, vs = [v] ∧ us = [u] ∧ Rep w st c v ∧ Rep w st e u := by
      rintro c e rfl rfl
      obtain ⟨v, hv1, hv2, _⟩ := hv.get (j := 0) (c := c) rfl
      obtain ⟨u, hu1, hu2, _⟩ := hu.get (j := 0) (c := e) rfl
      have l1 := hv.1
      have l2 := hu.1
      match vs, us, l1, l2 with
      | [v'], [u'], _, _ =>
        simp at hv1 hu1
        subst hv1 hu1
        exact ⟨_, _, rfl, rfl, hv2, hu2⟩
    simp only [flatK, hi] at h
    split at h
    · rename_i k hk
      cases h
      have hdsc := kind_int (hT.kind.symm.trans hk)
      subst hdsc
      obtain ⟨c, e, rfl, rfl, hcase⟩ := eqKs_one he
      obtain ⟨v, u, rfl, rfl, hv', hu'⟩ := one c e rfl rfl
      rcases hcase with ⟨j, x, y, hj, rfl, rfl, rfl⟩ | ⟨x, y, hj, _⟩ | ⟨x, y, hj, _⟩
      · cases hj
        rw [rep_int hv', rep_int hu']
        have : i.isA = false := hT.isA
        simp [ofCells, this, Op.equalIn, hT.run_und]
      · cases hj
      · cases hj
    · rename_i hk
      cases h
      have hdsc := kind_bool (hT.kind.symm.trans hk)
      subst hdsc
      obtain ⟨c, e, rfl, rfl, hcase⟩ := eqKs_one he
      obtain ⟨v, u, rfl, rfl, hv', hu'⟩ := one c e rfl rfl
      rcases hcase with ⟨j, x, y, hj, _⟩ | ⟨x, y, hj, rfl, rfl, rfl⟩ | ⟨x, y, hj, _⟩
      · cases hj
      · rw [rep_bool hv', rep_bool hu']
        have : i.isA = false := hT.isA
        simp [ofCells, this, Op.equalIn, hT.run_und]
      · cases hj
    · rename_i hk
      cases h
      have hdsc := kind_str (hT.kind.symm.trans hk)
      subst hdsc
      obtain ⟨c, e, rfl, rfl, hcase⟩ := eqKs_one he
      obtain ⟨v, u, rfl, rfl, hv', hu'⟩ := one c e rfl rfl
      rcases hcase with ⟨j, x, y, hj, _⟩ | ⟨x, y, hj, _⟩ | ⟨x, y, hj, rfl, rfl, rfl⟩
      · cases hj
      · cases hj
      · rw [(rep_str hv').1, (rep_str hu').1]
        have : i.isA = false := hT.isA
        simp [ofCells, this, Op.equalIn, hT.run_und, ba_eq]
    · rename_i fs0 hk
      split at h
      · rename_i fs hund
        split at h
        · cases h
        · rename_i hst
          have hst' : P.stoodInHeld t = false := by simpa using hst
          have hdd : dsc = .struct fs := by have := hT.und; rw [hund] at this; cases this; rfl
          have hA : i.isA = true := by rw [hT.isA, hdd]; rfl
          simp only [ofCells, hA, if_true]
          have hf : P.fieldsOf t = fs := by simp [Program.fieldsOf, hund]
          rw [run_equalIn_struct w d t vs.toArray us.toArray (by rw [hf]; exact hund) hst', hf]
          -- field by field
          have go : ∀ (fs : List Field) (off : Nat) (l : List TK) (b : Bool), flatFs P (flatK P n) fs off = some l → eqKs l (cs.drop off) (ds.drop off) = some b → (Op.eqFields d vs.toArray us.toArray fs).run P w = .ok b w := by
            intro fs
            induction fs with
            | nil =>
              intro off l b hl hb
              simp only [flatFs, Option.some.injEq] at hl
              subst hl
              have : b = true := by
                cases h1 : cs.drop off <;> cases h2 : ds.drop off <;> simp [h1, h2, eqKs] at hb
                exact hb
              subst this
              simp [Op.eqFields]
            | cons f fs ih =>
              intro off l b hl hb
              simp only [flatFs] at hl
              split at hl
              · rename_i hcond
                simp only [Bool.and_eq_true, bne_iff_ne, ne_eq, beq_iff_eq] at hcond
                obtain ⟨hname, hoff⟩ := hcond
                split at hl
                · rename_i fi lf hfi hlf
                  split at hl
                  · rename_i hlen
                    simp only [Option.map_eq_some_iff] at hl
                    obtain ⟨lr, hlr, rfl⟩ := hl
                    obtain ⟨b1, b2, e1, e2, rfl⟩ := eqKs_split _ _ _ _ _ hb
                    rw [hlen] at e1 e2
                    rw [List.drop_drop] at e2
                    rw [List.drop_drop] at e2
                    have ihr := ih (off + fi.size) lr b2 hlr e2
                    obtain ⟨_, _, _, hTf⟩ := tab_ok hfi
                    have hp : ∀ (xs : List V) (ws : List Value), RepL w st xs ws → fi.size ≤ (xs.drop off).length → (fi.isA = false → fi.size = 1) → (part f.type ws.toArray f.offset).run P w = .ok (ofCells fi.isA ((ws.drop off).take fi.size)) w := by
                      intro xs ws hxs hle h1
                      rw [hoff]
                      cases hA : fi.isA with
                      | true =>
                        simp only [part, Sem.run_bind, hTf.run_isAgg, Result.andThen_ok, hA, if_true, hTf.run_size, Sem.run_pure, ofCells]
                        congr 2
                        apply Array.ext'
                        simp [List.take_drop, Nat.add_comm]
                      | false =>
                        have hs1 := h1 hA
                        have hlt : off < ws.length := by
                          have := hxs.1
                          simp at hle
                          omega
                        simp only [part, Sem.run_bind, hTf.run_isAgg, Result.andThen_ok, hA, Bool.false_eq_true, if_false, ofCells, hs1]
                        have h9 : (ws.drop off).head? = some ws[off] := by rw [List.head?_drop]; simp [hlt]
                        simp [hlt, List.head?_take, h9]
                    have hlens : fi.size ≤ (cs.drop off).length ∧ fi.size ≤ (ds.drop off).length := by
                      have key : ∀ (l : List TK) (a c : List V) (r : Bool), eqKs l a c = some r → a.length = l.length ∧ c.length = l.length := by
                        intro l
                        induction l with
                        | nil => intro a c r h; cases a <;> cases c <;> simp [eqKs] at h ⊢
                        | cons k l ih =>
                          intro a c r h
                          have := eqKs_split [k] l a c r h
                          obtain ⟨r1, r2, g1, g2, _⟩ := this
                          obtain ⟨x, y, k1, k2, _⟩ := eqKs_one g1
                          obtain ⟨i1, i2⟩ := ih _ _ _ g2
                          have q1 := congrArg List.length k1
                          have q2 := congrArg List.length k2
                          simp at q1 q2 i1 i2 ⊢
                          omega
                      obtain ⟨k1, k2⟩ := key _ _ _ _ e1
                      rw [hlen] at k1 k2
                      simp only [List.length_take] at k1 k2
                      omega
                    have hsz : fi.isA = false → fi.size = 1 := by
                      intro hA
                      rw [← hlen]
                      cases n with
                      | zero => simp [flatK] at hlf
                      | succ n =>
                        simp only [flatK, hfi] at hlf
                        split at hlf
                        · cases hlf; rfl
                        · cases hlf; rfl
                        · cases hlf; rfl
                        · rename_i hkf
                          obtain ⟨ff, hff, _⟩ := kind_struct (hTf.kind.symm.trans hkf)
                          rw [hTf.isA, hff] at hA
                          cases hA
                        · cases hlf
                    have hrec := eq_run n f.type d fi lf _ _ _ _ b1 (by omega) hfi hlf ((hv.drop off).take fi.size) ((hu.drop off).take fi.size) e1
                    simp only [Op.eqFields, if_pos hname, Sem.run_bind, hp cs vs hv hlens.1 hsz, hp ds us hu hlens.2 hsz, Result.andThen_ok, hrec]
                    cases b1
                    · simp
                    · simpa using ihr
                  · cases hl
                · cases hl
              · cases hl
          exact go fs.toList 0 l b h (by simpa using he)
      · cases h
    · cases h

/-- A type whose == is asked cell by cell, without the model's guard. -/
def eqKinds (P : Program) (t : Nat) : Option (List TK) :=
  match tab P t with
  | some i => if i.isA && !P.eqGuardType P.depth t then flatK P 6 t else none
  | none => none

def effEq (P : Program) (op : BinOp) (t : Nat) (a b : V) : Option V :=
  match a, b with
  | .agg cs, .agg ds =>
    match eqKinds P t with
    | none => none
    | some ks =>
      match op with
      | .eql => (eqKs ks cs ds).map .bool
      | .neq => (eqKs ks cs ds).map fun b => .bool !b
      | _ => none
  | .bool x, .bool y =>
    match tab P t with
    | some i => match i.kind, op with
      | .bool, .eql => some (.bool (x == y))
      | .bool, .neq => some (.bool (!(x == y)))
      | _, _ => none
    | none => none
  | _, _ => none

theorem eq_good {P ρ o w st h op t t' x y a b v} (ho : o.op = .binOp op t x y t') (hx : Rep w st a (ρ x)) (hy : Rep w st b (ρ y)) (hh : HeapOk w st h) (he : effEq P op t a b = some v) : Good P ρ o w st h v [] := by
  unfold effEq at he
  split at he
  · rename_i cs ds
    split at he
    · cases he
    · rename_i ks hks
      unfold eqKinds at hks
      split at hks
      · rename_i i hi
        split at hks
        · rename_i hc
          simp only [Bool.and_eq_true, Bool.not_eq_true'] at hc
          obtain ⟨hA, hgt⟩ := hc
          obtain ⟨vs, hm, hr⟩ := rep_agg hx
          obtain ⟨us, hm', hr'⟩ := rep_agg hy
          have key : ∀ r, eqKs ks cs ds = some r → (Op.equalIn 10000 t (.agg vs.toArray) (.agg us.toArray)).run P w = .ok r w := by
            intro r hr0
            have := eq_run 6 t 10000 i ks cs ds vs us r (by omega) hi hks hr hr' hr0
            simpa [ofCells, hA] using this
          have run : ∀ m, (binOp op t (.agg vs.toArray) (.agg us.toArray)).run P w = .ok m w → (execOp ρ o).run P w = .ok (.value m) w := by
            intro m hm1
            unfold execOp
            simp only [ho, hm, hm', Sem.run_bind, run_eqGuard_agg w op t x y vs.toArray us.toArray hgt, Result.andThen_ok, hm1, Sem.run_pure]
          split at he
          · simp only [Option.map_eq_some_iff] at he
            obtain ⟨r, hr0, rfl⟩ := he
            exact good_bool hh (run _ (by rw [run_eql_struct, key r hr0]; rfl))
          · simp only [Option.map_eq_some_iff] at he
            obtain ⟨r, hr0, rfl⟩ := he
            exact good_bool hh (run _ (by rw [run_neq_struct, key r hr0]; rfl))
          · cases he
        · cases hks
      · cases hks
  · rename_i b b'
    split at he
    · rename_i i hi
      obtain ⟨info, dsc, z, hT⟩ := tab_ok hi
      have ex := rep_bool hx
      have ey := rep_bool hy
      have run : ∀ m, (binOp op t (.bool b) (.bool b')).run P w = .ok m w → (execOp ρ o).run P w = .ok (.value m) w := by
        intro m hm1
        unfold execOp
        simp only [ho, ex, ey, Sem.run_bind]
        have : (eqGuard op t x y (.bool b) (.bool b')).run P w = .ok () w := by
          unfold eqGuard
          cases op <;> rfl
        simp only [this, Result.andThen_ok, hm1, Sem.run_pure]
      split at he
      · rename_i hk
        cases he
        have hdsc := kind_bool (hT.kind.symm.trans hk)
        subst hdsc
        exact good_bool hh (run _ (by
          show Sem.run P (do pure (Value.bool (← Op.equal t (Value.bool b) (Value.bool b')))) w = _
          simp only [Op.equal, Op.maxDepth, Sem.run_bind, run_equalIn_bool w 9999 t b b' hT.und, Result.andThen_ok, Sem.run_pure]))
      · rename_i hk
        cases he
        have hdsc := kind_bool (hT.kind.symm.trans hk)
        subst hdsc
        exact good_bool hh (run _ (by
          show Sem.run P (do pure (Value.bool (!(← Op.equal t (Value.bool b) (Value.bool b'))))) w = _
          simp only [Op.equal, Op.maxDepth, Sem.run_bind, run_equalIn_bool w 9999 t b b' hT.und, Result.andThen_ok, Sem.run_pure]))
      · cases he
    · cases he
  · cases he

def effShift (op : BinOp) (a b : V) : Option V :=
  match a, b with
  | .int k x, .int _ y =>
    match op with
    | .shl => if 0 ≤ y then some (.int k (k.wrap (x * 2 ^ (min y.toNat k.bits)))) else none
    | .shr => if 0 ≤ y then some (.int k (x.fdiv (2 ^ (min y.toNat k.bits)))) else none
    | _ => none
  | _, _ => none

theorem shift_good {P ρ o w st h op t t' x y a b v} (ho : o.op = .binOp op t x y t') (hx : Rep w st a (ρ x)) (hy : Rep w st b (ρ y)) (hh : HeapOk w st h) (he : effShift op a b = some v) : Good P ρ o w st h v [] := by
  unfold effShift at he
  split at he
  · rename_i k n k' n'
    have ex := rep_int hx
    have ey := rep_int hy
    have run : ∀ m, (binOp op t (.int k n) (.int k' n')).run P w = .ok m w → (execOp ρ o).run P w = .ok (.value m) w := by
      intro m hm
      unfold execOp
      simp only [ho, ex, ey, Sem.run_bind]
      have : (eqGuard op t x y (.int k n) (.int k' n')).run P w = .ok () w := by
        unfold eqGuard
        cases op <;> rfl
      simp only [this, Result.andThen_ok, hm, Sem.run_pure]
    split at he
    · split at he
      · rename_i hn
        cases he
        refine good_int hh (run _ ?_)
        have : ¬ n' < 0 := by omega
        simp [binOp, Op.shift, this]
      · cases he
    · split at he
      · rename_i hn
        cases he
        refine good_int hh (run _ ?_)
        have : ¬ n' < 0 := by omega
        simp [binOp, Op.shift, this]
      · cases he
    · cases he
  · cases he

/-- Is a value nil? -/
def isNilV (k : TK) (a : V) (h : Heap) : Option Bool :=
  match k, a with
  | .slice _, .nil => some true
  | .slice _, .emp _ => some false
  | .slice _, .sl _ (_ :: _) => some false
  | .slice _, .so n g _ _ (_ + 1) => if live h n g = true then some false else none
  | .ptr _, .nilp => some true
  | .ptr _, .pr _ => some false
  | .ptr _, .ep n g _ _ _ => if live h n g = true then some false else none
  | _, _ => none

def nilOf (k : TK) (b : V) : Bool :=
  match k, b with
  | .slice _, .nil => true
  | .ptr _, .nilp => true
  | _, _ => false

/-- A value held against nil. -/
def effNilEq (P : Program) (op : BinOp) (t : Nat) (a b : V) (h : Heap) : Option V :=
  match tab P t with
  | none => none
  | some i =>
    if nilOf i.kind b = true then
      match isNilV i.kind a h with
      | none => none
      | some r => match op with
        | .eql => some (.bool r)
        | .neq => some (.bool !r)
        | _ => none
    else none

theorem kind_ptr {d : TypeDesc} {e : Nat} (h : kindOf d = .ptr e) : ∃ e', d = .pointer e' := by
  cases d <;> simp [kindOf] at h
  exact ⟨_, rfl⟩

theorem rep_nilp' {w st m} (h : Rep w st .nilp m) : m = .pointer none := by
  cases h with
  | s h => cases h; rfl
  | stale ht => simp [V.tok] at ht

theorem rep_pr' {w st cs m} (h : Rep w st (.pr cs) m) : ∃ ad, m = .pointer (some ad) := by
  cases h with
  | s h => cases h; exact ⟨_, rfl⟩
  | stale ht => simp [V.tok] at ht

theorem nilEq_good {P ρ o w st h op t t' x y a b v} (ho : o.op = .binOp op t x y t') (hx : Rep w st a (ρ x)) (hy : Rep w st b (ρ y)) (hh : HeapOk w st h) (he : effNilEq P op t a b h = some v) : Good P ρ o w st h v [] := by
  unfold effNilEq at he
  split at he
  · cases he
  · rename_i i hi
    obtain ⟨info, dsc, z, hT⟩ := tab_ok hi
    split at he
    · rename_i hb
      split at he
      · cases he
      · rename_i r hr
        have key : ∃ u m, ρ x = u ∧ ρ y = m ∧ (∀ op, (eqGuard op t x y u m).run P w = .ok () w) ∧ (Op.equalIn 10000 t u m).run P w = .ok r w ∧ (binOp .eql t u m = do pure (.bool (← Op.equal t u m))) ∧ (binOp .neq t u m = do pure (.bool (!(← Op.equal t u m)))) := by
          unfold nilOf at hb
          split at hb
          · rename_i e hk
            have hd := kind_slice (hT.kind.symm.trans hk)
            subst hd
            have em := rep_nil hy
            have slice : ∀ ad len cap, ρ x = .slice ad len cap → r = ad.isNone → ∃ u m, ρ x = u ∧ ρ y = m ∧ (∀ op, (eqGuard op t x y u m).run P w = .ok () w) ∧ (Op.equalIn 10000 t u m).run P w = .ok r w ∧ (binOp .eql t u m = do pure (.bool (← Op.equal t u m))) ∧ (binOp .neq t u m = do pure (.bool (!(← Op.equal t u m)))) := by
              intro ad len cap hm hr
              subst hr
              refine ⟨_, _, hm, em, fun op => by cases op <;> rfl, ?_, rfl, rfl⟩
              rw [show (10000 : Nat) = 9999 + 1 from rfl, Op.equalIn]
              cases ad <;> simp only [Sem.run_bind, hT.run_und, Result.andThen_ok, Sem.run_pure, Option.isNone]
            rw [hk] at hr
            unfold isNilV at hr
            split at hr
            · cases hr; exact slice _ _ _ (rep_nil hx) rfl
            · cases hr; obtain ⟨a, cap, hm⟩ := rep_emp hx; exact slice _ _ _ hm rfl
            · cases hr
              rcases (rep_sl hx).2 with ⟨_, hm⟩ | ⟨_, _, _, hm⟩ | ⟨b, off, cap, cells, ty, fr, hm, _⟩
              · cases hm
              · cases hm
              · exact slice _ _ _ hm rfl
            · split at hr
              · rename_i hl
                cases hr
                rcases live_so hh hl hx with ⟨_, _, hm⟩ | ⟨b, oo, ad, cap, cells, ty, hm, _⟩
                · cases hm
                · exact slice _ _ _ hm rfl
              · cases hr
            · rename_i he1; cases he1
            · rename_i he1; cases he1
            · rename_i he1; cases he1
            · cases hr
          · rename_i e hk
            obtain ⟨e', hd⟩ := kind_ptr (hT.kind.symm.trans hk)
            subst hd
            have em : ρ y = .pointer none := rep_nilp' hy
            have ptr : ∀ ad, ρ x = .pointer ad → r = ad.isNone → ∃ u m, ρ x = u ∧ ρ y = m ∧ (∀ op, (eqGuard op t x y u m).run P w = .ok () w) ∧ (Op.equalIn 10000 t u m).run P w = .ok r w ∧ (binOp .eql t u m = do pure (.bool (← Op.equal t u m))) ∧ (binOp .neq t u m = do pure (.bool (!(← Op.equal t u m)))) := by
              intro ad hm hr
              subst hr
              refine ⟨_, _, hm, em, fun op => by cases op <;> rfl, ?_, rfl, rfl⟩
              rw [show (10000 : Nat) = 9999 + 1 from rfl, Op.equalIn]
              cases ad <;> simp only [Sem.run_bind, hT.run_und, Result.andThen_ok, Sem.run_pure, Option.isNone]
            rw [hk] at hr
            unfold isNilV at hr
            split at hr
            · rename_i he1; cases he1
            · rename_i he1; cases he1
            · rename_i he1; cases he1
            · rename_i he1; cases he1
            · cases hr
              exact ptr none (rep_nilp' hx) rfl
            · cases hr
              obtain ⟨ad, hm⟩ := rep_pr' hx
              exact ptr _ hm rfl
            · split at hr
              · rename_i hl
                cases hr
                obtain ⟨b, o, hm, _⟩ := live_ep hh hl hx
                exact ptr _ hm rfl
              · cases hr
            · cases hr
          · cases hb
        obtain ⟨u, m, hu, hm, hg, hq, hb1, hb2⟩ := key
        have run : ∀ q, (binOp op t u m).run P w = .ok q w → (execOp ρ o).run P w = .ok (.value q) w := by
          intro q hq1
          unfold execOp
          simp only [ho, hu, hm, Sem.run_bind, hg, Result.andThen_ok, hq1, Sem.run_pure]
        split at he
        · cases he
          refine good_bool hh (run _ ?_)
          rw [hb1]
          simp only [Op.equal, Op.maxDepth, Sem.run_bind, hq, Result.andThen_ok, Sem.run_pure]
        · cases he
          refine good_bool hh (run _ ?_)
          rw [hb2]
          simp only [Op.equal, Op.maxDepth, Sem.run_bind, hq, Result.andThen_ok, Sem.run_pure]
        · cases he
    · cases he

/-- A binary operation. -/
def effBin2 (P : Program) (op : BinOp) (t : Nat) (a b : V) (h : Heap) : Option V :=
  match effBin op a b with
  | some v => some v
  | none => match effShift op a b with
    | some v => some v
    | none => match effEq P op t a b with
      | some v => some v
      | none => effNilEq P op t a b h

theorem bin2_good {P ρ o w st h op t t' x y a b v} (ho : o.op = .binOp op t x y t') (hx : Rep w st a (ρ x)) (hy : Rep w st b (ρ y)) (hh : HeapOk w st h) (he : effBin2 P op t a b h = some v) : Good P ρ o w st h v [] := by
  unfold effBin2 at he
  split at he
  · rename_i hb; cases he; exact binOp_good ho hx hy hh hb
  · split at he
    · rename_i hb; cases he; exact shift_good ho hx hy hh hb
    · split at he
      · rename_i hb; cases he; exact eq_good ho hx hy hh hb
      · exact nilEq_good ho hx hy hh he

def effMax (a b : V) : Option V :=
  match a, b with
  | .int k x, .int k' y => if k = k' then some (.int k (if y > x then y else x)) else none
  | _, _ => none

def effMin (a b : V) : Option V :=
  match a, b with
  | .int k x, .int k' y => if k = k' then some (.int k (if y < x then y else x)) else none
  | _, _ => none

theorem max_good {P ρ o w st h x y ts a b v} (ho : o.op = .call { callee := .builtin .max, args := #[x, y], argTypes := ts }) (hx : Rep w st a (ρ x)) (hy : Rep w st b (ρ y)) (hh : HeapOk w st h) (he : effMax a b = some v) : Good P ρ o w st h v [] := by
  unfold effMax at he
  split at he
  · split at he
    · rename_i hk
      cases he
      refine good_int hh ?_
      unfold execOp
      simp [ho, rep_int hx, rep_int hy, resolve, invoke, builtin, Builtin.max_, Builtin.max2]
    · cases he
  · cases he

theorem min_good {P ρ o w st h x y ts a b v} (ho : o.op = .call { callee := .builtin .min, args := #[x, y], argTypes := ts }) (hx : Rep w st a (ρ x)) (hy : Rep w st b (ρ y)) (hh : HeapOk w st h) (he : effMin a b = some v) : Good P ρ o w st h v [] := by
  unfold effMin at he
  split at he
  · split at he
    · rename_i hk
      cases he
      refine good_int hh ?_
      unfold execOp
      simp [ho, rep_int hx, rep_int hy, resolve, invoke, builtin, Builtin.min_, Builtin.min2]
    · cases he
  · cases he

end Go.PG
