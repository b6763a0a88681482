/- The engine: the operations on numbers, strings and windows. -/
import Derived.Test.YtfhddbnacbcppaaKPgD
set_option linter.unusedVariables false
set_option linter.unnecessarySimpa false
set_option linter.unusedSimpArgs false
namespace Go.PG

theorem move_good {P ρ o w st h x v} (ho : o.op = .move x ∨ o.op = .assign x) (hρ : Rep w st v (ρ x)) (hh : HeapOk w st h) : Good P ρ o w st h v [] := by
  refine good_pure ?_ hρ hh
  unfold execOp
  rcases ho with ho | ho <;> simp only [ho, Sem.run_pure]

theorem pick_good {P ρ o w st h c x y b vx vy} (ho : o.op = .pick c x y) (hc : Rep w st (.bool b) (ρ c)) (hx : b = true → Rep w st vx (ρ x)) (hy : b = false → Rep w st vy (ρ y)) (hh : HeapOk w st h) :
    Good P ρ o w st h (if b then vx else vy) [] := by
  have e := rep_bool hc
  refine good_pure (m := if b then ρ x else ρ y) ?_ ?_ hh
  · unfold execOp
    simp only [ho, e, asBool, pure_bind, Sem.run_pure]
  · cases b
    · exact hy rfl
    · exact hx rfl

def effNil (a : V) (h : Heap) : Option V :=
  match a with
  | .ep n g sz k off => if live h n g = true then some (.ep n g sz k off) else none
  | .pr cs => some (.pr cs)
  | .fn (.func f) cs => some (.fn (.func f) cs)
  | _ => none

theorem nilCheck_good {P ρ o w st h x a v} (ho : o.op = .nilCheck x) (hρ : Rep w st a (ρ x)) (hh : HeapOk w st h) (he : effNil a h = some v) : Good P ρ o w st h v [] := by
  unfold effNil at he
  split at he
  · split at he
    · rename_i hl
      cases he
      obtain ⟨b, oo, hm, hs⟩ := live_ep hh hl hρ
      refine good_pure (m := ρ x) ?_ hρ hh
      unfold execOp
      simp only [ho, hm, Sem.run_pure]
    · cases he
  · cases he
    obtain ⟨b, oo, hm, hp⟩ := rep_pr hρ
    refine good_pure (m := ρ x) ?_ hρ hh
    unfold execOp
    simp only [ho, hm, Sem.run_pure]
  · rename_i f cs
    cases he
    have : ∃ vs, ρ x = .func (.func f) #[] vs := by
      generalize ρ x = m at hρ
      cases hρ with
      | s h => cases h; exact ⟨_, rfl⟩
      | fn => exact ⟨_, rfl⟩
      | stale ht => simp [V.tok] at ht
    obtain ⟨vs, hm⟩ := this
    refine good_pure (m := ρ x) ?_ hρ hh
    unfold execOp
    simp only [ho, hm, Sem.run_pure]
  · cases he

theorem extract_good {P ρ o w st h x k cs v} (ho : o.op = .extract x k) (hρ : Rep w st (.tup cs) (ρ x)) (hh : HeapOk w st h) (he : cs[k]? = some v) : Good P ρ o w st h v [] := by
  obtain ⟨vs, hm, hl, hr⟩ := rep_tup hρ
  have hk : k < vs.size := by have := (List.getElem?_eq_some_iff.1 he).1; omega
  refine good_pure (m := vs[k]) ?_ (hr k v _ he (by simp [hk])) hh
  unfold execOp
  simp [ho, hm, Instr.extract, hk]

theorem makeFunc_good {P ρ o w st h f} {caps : Array Operand} {cs : List V} (ho : o.op = .makeFunc f #[] caps) (hl : cs.length = caps.size)
    (hr : ∀ (j : Nat) (c : V) (x : Operand), cs[j]? = some c → caps[j]? = some x → Rep w st c (ρ x)) (hh : HeapOk w st h) : Good P ρ o w st h (.fn f cs) [] := by
  refine good_pure (m := .func f #[] (caps.map ρ)) ?_ (.fn (by simp [hl]) fun j c v hc hv => ?_) hh
  · unfold execOp
    simp [ho, Instr.makeFunc]
  · simp only [Array.getElem?_map, Option.map_eq_some_iff] at hv
    obtain ⟨x, hx, rfl⟩ := hv
    exact hr j c x hc hx

def effUn (op : UnOp) (a : V) : Option V :=
  match op, a with
  | .neg, .int k n => some (.int k (k.wrap (0 - n)))
  | .not, .bool b => some (.bool !b)
  | _, _ => none

theorem unOp_good {P ρ o w st h op t x a v} (ho : o.op = .unOp op t x) (hρ : Rep w st a (ρ x)) (hh : HeapOk w st h) (he : effUn op a = some v) : Good P ρ o w st h v [] := by
  unfold effUn at he
  split at he
  · cases he
    have e := rep_int hρ
    refine good_pure (m := .int _ _) ?_ (.s .int) hh
    unfold execOp
    simp only [ho, e, Op.unary, Op.intArith, Sem.run_bind, Sem.run_pure, Result.andThen_ok]
  · cases he
    have e := rep_bool hρ
    refine good_pure (m := .bool _) ?_ (.s .bool) hh
    unfold execOp
    simp only [ho, e, Op.unary, Sem.run_bind, Sem.run_pure, Result.andThen_ok]
  · cases he

/-- Two cells that can be compared: equal or not. -/
def eqCell : V → V → Option Bool
  | .int k a, .int k' b => if k = k' then some (a == b) else none
  | .bool a, .bool b => some (a == b)
  | .str a, .str b => some (a.toList == b.toList)
  | _, _ => none

def effBin (op : BinOp) (a b : V) : Option V :=
  match a, b with
  | .int k x, .int k' y =>
    if k = k' then
      match op with
      | .add => some (.int k (k.wrap (x + y)))
      | .sub => some (.int k (k.wrap (x - y)))
      | .mul => some (.int k (k.wrap (x * y)))
      | .quo => if y = 0 then none else some (.int k (k.wrap (x.tdiv y)))
      | .rem => if y = 0 then none else some (.int k (x.tmod y))
      | .eql => some (.bool (x == y))
      | .neq => some (.bool (x != y))
      | .lss => some (.bool (decide (x < y)))
      | .leq => some (.bool (decide (x ≤ y)))
      | .gtr => some (.bool (decide (x > y)))
      | .geq => some (.bool (decide (x ≥ y)))
      | .or => some (.int k (k.wrap (BitVec.ofInt k.bits x ||| BitVec.ofInt k.bits y).toNat))
      | .and => some (.int k (k.wrap (BitVec.ofInt k.bits x &&& BitVec.ofInt k.bits y).toNat))
      | _ => none
    else none
  | .str x, .str y =>
    match op with
    | .add => if x.size + y.size ≤ LIM then some (.str (x ++ y)) else none
    | .eql => some (.bool (x.toList == y.toList))
    | .neq => some (.bool (!(x.toList == y.toList)))
    | .lss => some (.bool (Op.bytesLess x.toList y.toList))
    | .leq => some (.bool (Op.bytesLess x.toList y.toList || x.toList == y.toList))
    | .gtr => some (.bool (!(Op.bytesLess x.toList y.toList || x.toList == y.toList)))
    | .geq => some (.bool (!(Op.bytesLess x.toList y.toList)))
    | _ => none
  | _, _ => none

theorem good_int {P ρ o w st h k n} (hh : HeapOk w st h) (hr : (execOp ρ o).run P w = .ok (.value (.int k n)) w) : Good P ρ o w st h (.int k n) [] := good_pure hr (.s .int) hh
theorem good_bool {P ρ o w st h b} (hh : HeapOk w st h) (hr : (execOp ρ o).run P w = .ok (.value (.bool b)) w) : Good P ρ o w st h (.bool b) [] := good_pure hr (.s .bool) hh

theorem binOp_good {P ρ o w st h op t t' x y a b v} (ho : o.op = .binOp op t x y t') (hx : Rep w st a (ρ x)) (hy : Rep w st b (ρ y)) (hh : HeapOk w st h) (he : effBin op a b = some v) : Good P ρ o w st h v [] := by
  unfold effBin at he
  split at he
  · rename_i k n k' n'
    split at he
    · rename_i e
      subst e
      have ex := rep_int hx
      have ey := rep_int hy
      have run : ∀ m, (binOp op t (.int k n) (.int k n')).run P w = .ok m w → (execOp ρ o).run P w = .ok (.value m) w := by
        intro m hm
        unfold execOp
        simp only [ho, ex, ey, Sem.run_bind]
        have : (eqGuard op t x y (.int k n) (.int k n')).run P w = .ok () w := by
          unfold eqGuard
          cases op <;> rfl
        simp only [this, Result.andThen_ok, hm, Sem.run_pure]
      cases op <;> simp only [reduceCtorEq] at he <;> first
        | (cases he; exact good_int hh (run _ (by simp [binOp, Op.intArith, Op.intBits])))
        | (cases he; exact good_bool hh (run _ (by simp [binOp, Op.intCmp])))
        | (split at he
           · cases he
           · rename_i hne; cases he; exact good_int hh (run _ (by simp [binOp, Op.intDiv, hne])))
        | cases he
    · cases he
  · rename_i s s'
    obtain ⟨ex, lx⟩ := rep_str hx
    obtain ⟨ey, ly⟩ := rep_str hy
    have run : ∀ m, (binOp op t (.string s) (.string s')).run P w = .ok m w → (execOp ρ o).run P w = .ok (.value m) w := by
      intro m hm
      unfold execOp
      simp only [ho, ex, ey, Sem.run_bind]
      have : (eqGuard op t x y (.string s) (.string s')).run P w = .ok () w := by
        unfold eqGuard
        cases op <;> rfl
      simp only [this, Result.andThen_ok, hm, Sem.run_pure]
    cases op
    case add =>
      simp only at he
      split at he
      · rename_i hle
        cases he
        refine good_pure (run (.string (s ++ s')) ?_) (.s (.str ?_)) hh
        · have : ¬ ((s.size : Int) + (s'.size : Int) > IntKind.i64.max) := by
            have : IntKind.i64.max = 9223372036854775807 := rfl
            unfold LIM at hle; omega
          simp only [binOp, Op.stringOp, Int.natCast_add, this, if_false, Sem.run_pure]
        · simpa using hle
      · cases he
    all_goals first
      | (cases he; exact good_bool hh (run _ (by simp [binOp, Op.stringOp])))
      | cases he
  · cases he

end Go.PG
