/- The engine: frames, and the operations of a region one behind the other. -/
import Derived.Test.YtfhddbnacbcppaaKPgL
import Derived.Test.YtfhddbnacbcppaaKPgX
set_option linter.unusedVariables false
set_option linter.unnecessarySimpa false
set_option linter.unusedSimpArgs false
namespace Go.PG

structure Env where
  t : List V
  h : Heap
  deriving Inhabited

def Env.ev (e : Env) : Operand → V
  | .tmp t => e.t.getD t .dead
  | .const v => (vOf v).getD .dead
  | .global _ => .dead
  | .func f => .fn (.func f) []

def Env.upd (e : Env) (dst : Option Nat) (v : V) (ups : List (Nat × Ob)) : Env :=
  ⟨match dst with
    | some d => e.t.set d v
    | none => e.t, hsets e.h ups⟩

structure Rel (st : Nat → Own) (e : Env) (a : Act) (w : World) : Prop where
  defers : a.defers = []
  size : a.tmps.size = e.t.length
  tmps : ∀ (i : Nat) (c : V) (v : Value), e.t[i]? = some c → a.tmps[i]? = some v → Rep w st c v
  heap : HeapOk w st e.h

theorem Rel.ev {st e a w} (hr : Rel st e a w) (x : Operand) : Rep w st (e.ev x) (a.eval x) := by
  cases x with
  | tmp t =>
    simp only [Env.ev, Act.eval]
    by_cases ht : t < e.t.length
    · have h1 : e.t[t]? = some (e.t.getD t .dead) := by simp [ht]
      have h2 : a.tmps[t]? = some (a.tmps.getD t undef) := by simp [hr.size, ht]
      exact hr.tmps t _ _ h1 h2
    · have : e.t.getD t V.dead = .dead := by simp [ht]
      rw [this]; exact .dead
  | const v =>
    simp only [Env.ev, Act.eval]
    cases h : vOf v with
    | none => exact .dead
    | some c => exact .s (vOf_sound h w _)
  | global g => exact .dead
  | func f => exact .s (.fn (by simp) (by simp))

theorem Rel.put {st st' e a w w' dst v ups m} (hr : Rel st e a w) (hf : Fr w st w' st') (hv : Rep w' st' v m) (hh : HeapOk w' st' (hsets e.h ups)) : Rel st' (e.upd dst v ups) (a.put dst m) w' := by
  cases dst with
  | none => exact ⟨hr.defers, hr.size, fun i c v h1 h2 => (hr.tmps i c v h1 h2).frame hr.heap.shut hf, hh⟩
  | some d =>
    refine ⟨hr.defers, by simp [Act.put, Env.upd, hr.size], fun i c u h1 h2 => ?_, hh⟩
    simp only [Env.upd, Act.put] at h1 h2
    rw [List.getElem?_set] at h1
    rw [Array.getElem?_setIfInBounds] at h2
    by_cases hd : d = i
    · subst hd
      simp only [if_true] at h1 h2
      split at h1
      · rename_i hlt
        rw [if_pos (by rw [hr.size]; exact hlt)] at h2
        cases h1; cases h2; exact hv
      · cases h1
    · rw [if_neg hd] at h1 h2
      exact (hr.tmps i c u h1 h2).frame hr.heap.shut hf

def eff (P : Program) (o : Oper) (e : Env) : Option (V × List (Nat × Ob)) :=
  match o.op with
  | .move x => some (e.ev x, [])
  | .assign x => some (e.ev x, [])
  | .pick c x y => match e.ev c with
    | .bool b => some (if b then e.ev x else e.ev y, [])
    | _ => none
  | .alloc t => effAlloc P t (o.dst.getD 0) e.h
  | .box t x => effBox P t (o.dst.getD 0) (e.ev x) e.h
  | .build t ps => (effBuild P t ps e.ev).map (·, [])
  | .buildSlice t n ps => effBuildSlice P t n ps e.ev (o.dst.getD 0) e.h
  | .load t x => (effLoad P t (e.ev x) e.h).map (·, [])
  | .store t x y => (effStore P t (e.ev x) (e.ev y) e.h).map (V.dead, ·)
  | .nilCheck x => (effNil (e.ev x) e.h).map (·, [])
  | .binOp op t x y _ => (effBin2 P op t (e.ev x) (e.ev y) e.h).map (·, [])
  | .unOp op _ x => (effUn op (e.ev x)).map (·, [])
  | .convert s d x => (effConv P s d (e.ev x)).map (·, [])
  | .makeFunc f first caps => if first.size = 0 then some (.fn f (caps.toList.map e.ev), []) else none
  | .makeSlice t x y => effMake P t (e.ev x) (e.ev y) (o.dst.getD 0) e.h
  | .slice t x lo hi none => (effSlice P t (e.ev x) (lo.map e.ev) (hi.map e.ev) e.h).map (·, [])
  | .fieldAddr s x f => (effField P s (e.ev x) f e.h).map (·, [])
  | .field s x f => (effPart P s (e.ev x) f).map (·, [])
  | .indexAddr t x i => (effIndex P t (e.ev x) (e.ev i) e.h).map (·, [])
  | .index t x i => (effByte P t (e.ev x) (e.ev i)).map (·, [])
  | .extract x k => match e.ev x with
    | .tup cs => (cs[k]?).map (·, [])
    | _ => none
  | .call c => match c.callee with
    | .builtin .len => match c.args.toList, c.argTypes.toList with
      | [x], [t] => (effLen P t (e.ev x) e.h).map (·, [])
      | _, _ => none
    | .builtin .append => match c.args.toList, c.argTypes.toList with
      | [x, y], [t, t'] => effAppend P t t' (e.ev x) (e.ev y) (o.dst.getD 0) e.h
      | _, _ => none
    | .builtin .max => match c.args.toList with
      | [x, y] => (effMax (e.ev x) (e.ev y)).map (·, [])
      | _ => none
    | .builtin .min => match c.args.toList with
      | [x, y] => (effMin (e.ev x) (e.ev y)).map (·, [])
      | _ => none
    | _ => none
  | _ => none

theorem eff_good {P : Program} {o : Oper} {e : Env} {st a w v ups} (hr : Rel st e a w) (he : eff P o e = some (v, ups)) : Good P a.eval o w st e.h v ups := by
  unfold eff at he
  split at he
  · rename_i ho; cases he; exact move_good (.inl ho) (hr.ev _) hr.heap
  · rename_i ho; cases he; exact move_good (.inr ho) (hr.ev _) hr.heap
  · rename_i c x y ho
    split at he
    · rename_i b hb
      cases he
      exact pick_good ho (by rw [← hb]; exact hr.ev _) (fun _ => hr.ev _) (fun _ => hr.ev _) hr.heap
    · cases he
  · rename_i ho; exact alloc_good ho hr.heap he
  · rename_i ho; exact box_good ho (hr.ev _) hr.heap he
  · rename_i ho
    simp only [Option.map_eq_some_iff, Prod.mk.injEq] at he
    obtain ⟨v', he, rfl, rfl⟩ := he
    exact build_good ho (fun x => hr.ev x) hr.heap he
  · rename_i ho; exact buildSlice_good ho (fun x => hr.ev x) hr.heap he
  · rename_i ho
    simp only [Option.map_eq_some_iff, Prod.mk.injEq] at he
    obtain ⟨v', he, rfl, rfl⟩ := he
    exact load_good ho (hr.ev _) hr.heap he
  · rename_i ho
    simp only [Option.map_eq_some_iff, Prod.mk.injEq] at he
    obtain ⟨v', he, rfl, rfl⟩ := he
    exact store_good ho (hr.ev _) (hr.ev _) hr.heap he
  · rename_i ho
    simp only [Option.map_eq_some_iff, Prod.mk.injEq] at he
    obtain ⟨v', he, rfl, rfl⟩ := he
    exact nilCheck_good ho (hr.ev _) hr.heap he
  · rename_i ho
    simp only [Option.map_eq_some_iff, Prod.mk.injEq] at he
    obtain ⟨v', he, rfl, rfl⟩ := he
    exact bin2_good ho (hr.ev _) (hr.ev _) hr.heap he
  · rename_i ho
    simp only [Option.map_eq_some_iff, Prod.mk.injEq] at he
    obtain ⟨v', he, rfl, rfl⟩ := he
    exact unOp_good ho (hr.ev _) hr.heap he
  · rename_i ho
    simp only [Option.map_eq_some_iff, Prod.mk.injEq] at he
    obtain ⟨v', he, rfl, rfl⟩ := he
    exact conv_good ho (hr.ev _) hr.heap he
  · rename_i f first caps ho
    split at he
    · rename_i hz
      cases he
      have hz' : first = #[] := Array.eq_empty_of_size_eq_zero hz
      subst hz'
      refine makeFunc_good ho (by simp) (fun j c x hc hx => ?_) hr.heap
      simp only [List.getElem?_map, Array.getElem?_toList, Option.map_eq_some_iff] at hc
      obtain ⟨y, hy, rfl⟩ := hc
      rw [hx] at hy
      cases hy
      exact hr.ev _
    · cases he
  · rename_i ho; exact makeSlice_good ho (hr.ev _) (hr.ev _) hr.heap he
  · rename_i t x lo hi ho
    simp only [Option.map_eq_some_iff, Prod.mk.injEq] at he
    obtain ⟨v', he, rfl, rfl⟩ := he
    refine slice_good ho (hr.ev _) (fun y hy => ?_) (fun hn => ?_) (fun y hy => ?_) (fun hn => ?_) hr.heap he
    · subst hy; exact ⟨_, rfl, hr.ev _⟩
    · subst hn; rfl
    · subst hy; exact ⟨_, rfl, hr.ev _⟩
    · subst hn; rfl
  · rename_i ho
    simp only [Option.map_eq_some_iff, Prod.mk.injEq] at he
    obtain ⟨v', he, rfl, rfl⟩ := he
    exact fieldAddr_good ho (hr.ev _) hr.heap he
  · rename_i ho
    simp only [Option.map_eq_some_iff, Prod.mk.injEq] at he
    obtain ⟨v', he, rfl, rfl⟩ := he
    exact field_good ho (hr.ev _) hr.heap he
  · rename_i ho
    simp only [Option.map_eq_some_iff, Prod.mk.injEq] at he
    obtain ⟨v', he, rfl, rfl⟩ := he
    exact indexAddr_good ho (hr.ev _) (hr.ev _) hr.heap he
  · rename_i ho
    simp only [Option.map_eq_some_iff, Prod.mk.injEq] at he
    obtain ⟨v', he, rfl, rfl⟩ := he
    exact index_good ho (hr.ev _) (hr.ev _) hr.heap he
  · rename_i x k ho
    split at he
    · rename_i cs hcs
      simp only [Option.map_eq_some_iff, Prod.mk.injEq] at he
      obtain ⟨v', he, rfl, rfl⟩ := he
      exact extract_good ho (by rw [← hcs]; exact hr.ev _) hr.heap he
    · cases he
  · rename_i c ho
    obtain ⟨callee, args, argTypes⟩ := c
    simp only at he
    split at he
    · split at he
      · rename_i x t hx ht
        have hx' : args = #[x] := by apply Array.ext'; simpa using hx
        have ht' : argTypes = #[t] := by apply Array.ext'; simpa using ht
        subst hx' ht'
        simp only [Option.map_eq_some_iff, Prod.mk.injEq] at he
        obtain ⟨v', he, rfl, rfl⟩ := he
        exact len_good ho (hr.ev _) hr.heap he
      · cases he
    · split at he
      · rename_i x y t t' hx ht
        have hx' : args = #[x, y] := by apply Array.ext'; simpa using hx
        have ht' : argTypes = #[t, t'] := by apply Array.ext'; simpa using ht
        subst hx' ht'
        exact append_good ho (hr.ev _) (hr.ev _) hr.heap he
      · cases he
    · split at he
      · rename_i x y hx
        have hx' : args = #[x, y] := by apply Array.ext'; simpa using hx
        subst hx'
        simp only [Option.map_eq_some_iff, Prod.mk.injEq] at he
        obtain ⟨v', he, rfl, rfl⟩ := he
        exact max_good ho (hr.ev _) (hr.ev _) hr.heap he
      · cases he
    · split at he
      · rename_i x y hx
        have hx' : args = #[x, y] := by apply Array.ext'; simpa using hx
        subst hx'
        simp only [Option.map_eq_some_iff, Prod.mk.injEq] at he
        obtain ⟨v', he, rfl, rfl⟩ := he
        exact min_good ho (hr.ev _) (hr.ev _) hr.heap he
      · cases he
    · cases he
  · cases he

/-! ### Calls -/

/-- A function with a body of its own. -/
def Entered (P : Program) (f : FuncId) : Prop := ∃ fn, P.funcs[f]? = some fn ∧ fn.body.isSome = true ∧ (fn.name == "runtime.NumGoroutine") = false

/-- Called with values that stand for vs, whatever the memory: it returns what stands for r, and has changed nothing that was there. -/
def PC (P : Program) (f : FuncId) (vs : List V) (r : V) : Prop :=
  Entered P f ∧ ∀ (w : World) (S : Nat → Prop) (ms : Array Value), (∀ b, S b → b < w.heap.size) → ms.size = vs.length →
    (∀ (j : Nat) (c : V) (m : Value), vs[j]? = some c → ms[j]? = some m → RepS w S c m) →
    Calls P f ms w fun en w' => ∃ m S', en = .returned m ∧ RepS w' S' r m ∧ (∀ b, b < w.heap.size → (S' b ↔ S b)) ∧ (∀ b, S' b → b < w'.heap.size) ∧
      w.heap.size ≤ w'.heap.size ∧ (∀ b, b < w.heap.size → w'.heap[b]? = w.heap[b]?) ∧ Same3 w w'

mutual
/-- A value that refers to no memory. -/
def V.flat : V → Bool
  | .agg cs => flatL cs
  | .tup cs => flatL cs
  | .bool _ => true | .int _ _ => true | .str _ => true | .nil => true | .nilp => true | .nilfn => true | .nilm => true
  | .fn _ cs => flatL cs
  | _ => false
def V.flatL : List V → Bool
  | [] => true
  | c :: cs => c.flat && flatL cs
end

theorem V.flatL_iff (cs : List V) : V.flatL cs = true ↔ ∀ c ∈ cs, c.flat = true := by
  induction cs with
  | nil => simp [V.flatL]
  | cons c cs ih => simp [V.flatL, ih]

/-- A call that changes nothing: of what is sealed alone, or with an answer that refers to no memory (what goes into a list or a map may be read by it). -/
inductive CallOk (P : Program) (h : Heap) (f : FuncId) (args : List V) (r : V) : Prop
  | pure (hi : V.idfreeL args = true) (hp : PC P f args r)
  | lent (n : Nat) (args' : List V) (hi : args.mapM (resV h n) = some args') (hp : PC P f args' r) (hf : r.flat = true)

def Ex (P : Program) (o : Oper) (e : Env) (v : V) (ups : List (Nat × Ob)) : Prop :=
  match o.op with
  | .call c => match c.callee with
    | .value x => ∃ f caps, e.ev x = .fn (.func f) caps ∧ CallOk P e.h f (c.args.toList.map e.ev ++ caps) v ∧ ups = []
    | _ => eff P o e = some (v, ups)
  | _ => eff P o e = some (v, ups)

end Go.PG
