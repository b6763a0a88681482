/- The engine: how a region is stepped through. -/
import Derived.Test.YtfhddbnacbcppaaKPgO
set_option linter.unusedVariables false
set_option linter.unnecessarySimpa false
set_option linter.unusedSimpArgs false
namespace Go.PG

/-- Is it a call of a function? -/
def isCall (o : Oper) : Bool :=
  match o.op with
  | .call c => match c.callee with
    | .value _ => true
    | _ => false
  | _ => false

def EvL (P : Program) (ops : Array Oper) : List Oper → Env → (Env → Prop) → Prop
  | [], e, K => K e
  | o :: os, e, K => (gd ops e o = some false ∧ EvL P ops os (e.upd o.dst (.tup []) []) K) ∨ (gd ops e o = some true ∧ ∃ v ups, Ex P o e v ups ∧ EvL P ops os (e.upd o.dst v ups) K) ∨
    (isCall o = true ∧ gd ops e o = some true ∧ ∃ e1, Le e e1 ∧ ∃ v ups, Ex P o e1 v ups ∧ EvL P ops os (e1.upd o.dst v ups) K)

theorem evl_run {P : Program} {ops : Array Oper} {K : Env → Prop} : ∀ (l : List Oper) (k : Nat) (e : Env), (∀ j, l[j]? = ops[k + j]?) → EvL P ops l e K → ∃ e', Run P ops (List.range' k l.length) e e' ∧ K e'
  | [], k, e, _, h => ⟨e, .nil, h⟩
  | o :: os, k, e, hl, h => by
    have h0 : ops[k]? = some o := by simpa using (hl 0).symm
    have h1 : ∀ j, os[j]? = ops[k + 1 + j]? := fun j => by have := hl (j + 1); simpa [Nat.add_assoc, Nat.add_comm 1 j] using this
    rw [List.length_cons, List.range'_succ]
    rcases h with ⟨hg, h⟩ | ⟨hg, v, ups, hx, h⟩ | ⟨_, hg, e1, hl, v, ups, hx, h⟩
    · obtain ⟨e', r1, r2⟩ := evl_run os (k + 1) _ h1 h
      exact ⟨e', .skip h0 hg r1, r2⟩
    · obtain ⟨e', r1, r2⟩ := evl_run os (k + 1) _ h1 h
      exact ⟨e', .op h0 hg hx r1, r2⟩
    · obtain ⟨e', r1, r2⟩ := evl_run os (k + 1) _ h1 h
      exact ⟨e', .opw h0 hg hl hx r1, r2⟩

theorem tr_reg {P : Program} {id : Nat} {l : List Oper} {e : Env} {Q : Post} (h : EvL P l.toArray l e (Q .normal)) : Tr P (.region id l.toArray false) e Q := by
  refine tr_region ?_
  obtain ⟨e', h1, h2⟩ := evl_run l 0 e (by simp) h
  refine ⟨e', ?_, h2⟩
  rw [List.range_eq_range']
  simpa using h1

theorem ex_eff {P o e v ups} (hc : isCall o = false) : Ex P o e v ups ↔ eff P o e = some (v, ups) := by
  unfold Ex
  unfold isCall at hc
  split
  · rename_i c ho
    rw [ho] at hc
    simp only at hc
    split
    · rename_i x hx; rw [hx] at hc; cases hc
    · exact Iff.rfl
  · exact Iff.rfl

/-- What is left to show behind an operation's outcome. -/
def After (r : Option (V × List (Nat × Ob))) (K : V → List (Nat × Ob) → Prop) : Prop :=
  match r with
  | some (v, ups) => K v ups
  | none => False

@[simp] theorem after_some (v : V) (ups : List (Nat × Ob)) (K : V → List (Nat × Ob) → Prop) : After (some (v, ups)) K = K v ups := rfl

theorem evl_nil {P ops e K} : EvL P ops [] e K = K e := rfl

theorem evl_op {P : Program} {ops : Array Oper} {dst : Option Nat} {op : Op} {ty : TypeId} {pos : String} {aft : Array Edge} {os : List Oper} {e : Env} {K : Env → Prop}
    (hc : isCall ⟨dst, op, ty, pos, aft, none⟩ = false)
    (h : After (eff P ⟨dst, op, ty, pos, aft, none⟩ e) fun v ups => EvL P ops os (e.upd dst v ups) K) : EvL P ops (⟨dst, op, ty, pos, aft, none⟩ :: os) e K := by
  refine .inr (.inl ⟨rfl, ?_⟩)
  unfold After at h
  split at h
  · rename_i v ups he
    exact ⟨v, ups, (ex_eff hc).2 he, h⟩
  · exact h.elim

theorem evl_call {P : Program} {ops : Array Oper} {dst : Option Nat} {x : Operand} {args : Array Operand} {ats : Array TypeId} {ty : TypeId} {pos : String} {aft : Array Edge} {os : List Oper} {e : Env} {K : Env → Prop}
    {f : FuncId} {caps vs : List V} {r : V} (hx : e.ev x = .fn (.func f) caps) (ha : args.toList.map e.ev ++ caps = vs) (hi : V.idfreeL vs = true) (hp : PC P f vs r)
    (h : EvL P ops os (e.upd dst r []) K) : EvL P ops (⟨dst, .call ⟨.value x, args, ats⟩, ty, pos, aft, none⟩ :: os) e K := by
  subst ha
  exact .inr (.inl ⟨rfl, r, [], ⟨f, caps, hx, .pure hi hp, rfl⟩, h⟩)

theorem evl_lent {P : Program} {ops : Array Oper} {dst : Option Nat} {x : Operand} {args : Array Operand} {ats : Array TypeId} {ty : TypeId} {pos : String} {aft : Array Edge} {os : List Oper} {e : Env} {K : Env → Prop}
    {f : FuncId} {caps vs : List V} {r : V} (hx : e.ev x = .fn (.func f) caps) (ha : (args.toList.map e.ev ++ caps).mapM (resV e.h 4) = some vs) (hp : PC P f vs r) (hf : r.flat = true)
    (h : EvL P ops os (e.upd dst r []) K) : EvL P ops (⟨dst, .call ⟨.value x, args, ats⟩, ty, pos, aft, none⟩ :: os) e K :=
  .inr (.inl ⟨rfl, r, [], ⟨f, caps, hx, .lent 4 vs ha hp hf, rfl⟩, h⟩)

/-- A guarded operation, its guard known. -/
theorem evl_no {P : Program} {ops : Array Oper} {dst : Option Nat} {op : Op} {ty : TypeId} {pos : String} {aft : Array Edge} {g : Nat × Bool} {os : List Oper} {e : Env} {K : Env → Prop}
    (hg : gd ops e ⟨dst, op, ty, pos, aft, some g⟩ = some false) (h : EvL P ops os (e.upd dst (.tup []) []) K) : EvL P ops (⟨dst, op, ty, pos, aft, some g⟩ :: os) e K := .inl ⟨hg, h⟩

theorem evl_yes {P : Program} {ops : Array Oper} {dst : Option Nat} {op : Op} {ty : TypeId} {pos : String} {aft : Array Edge} {g : Nat × Bool} {os : List Oper} {e : Env} {K : Env → Prop}
    (hg : gd ops e ⟨dst, op, ty, pos, aft, some g⟩ = some true) (h : EvL P ops (⟨dst, op, ty, pos, aft, none⟩ :: os) e K) : EvL P ops (⟨dst, op, ty, pos, aft, some g⟩ :: os) e K := by
  rcases h with ⟨h1, _⟩ | ⟨_, v, ups, h2, h3⟩ | ⟨hc, _, e1, hl, v, ups, h2, h3⟩
  · cases h1
  · exact .inr (.inl ⟨hg, v, ups, h2, h3⟩)
  · exact .inr (.inr ⟨hc, hg, e1, hl, v, ups, h2, h3⟩)

/-- A frame with what a loop's round leaves: the slots and ids that a state names. -/
def Env.keep (n : Nat) (vars : List (Nat × V)) (h : Heap) : Env :=
  ⟨vars.foldl (fun l x => l.set x.1 x.2) (List.replicate n V.dead), h⟩

/-- Dropping ids from sight. -/
theorem heap_drop {w : World} {st : Nat → Own} {h h' : Heap} (hh : HeapOk w st h) (hd : ∀ n x, hget h' n = some x → hget h n = some x)
    (hclosed : ∀ n x, hget h' n = some x → ∀ st', (∀ b, st b = .shut → st' b = .shut) → (∀ b m g o, st b = .id m g o → hget h' m ≠ none → st' b = .id m g o) → (∀ b m g o, st' b = .id m g o → st b = .id m g o) → ObOk w st' n x) :
    ∃ st', HeapOk w st' h' ∧ Hist w st w st' ∧ (∀ b, st b = .shut → st' b = .shut) ∧ (∀ b n g o, st b = .id n g o → hget h' n ≠ none → st' b = .id n g o) ∧ (∀ b n g o, st' b = .id n g o → st b = .id n g o) := by
  let st' : Nat → Own := fun b => match st b with
    | .id n g o => if (hget h' n).isSome = true then .id n g o else .none
    | y => y
  have k1 : ∀ b, st b = .shut → st' b = .shut := fun b hb => by show (match st b with | .id n g o => _ | y => y) = _; rw [hb]
  have k2 : ∀ b n g o, st b = .id n g o → hget h' n ≠ none → st' b = .id n g o := fun b n g o hb hn => by
    show (match st b with | .id n g o => if (hget h' n).isSome = true then Own.id n g o else .none | y => y) = _
    rw [hb]
    have : (hget h' n).isSome = true := by cases h : hget h' n <;> simp [h] at hn ⊢
    simp [this]
  have k3 : ∀ b n g o, st' b = .id n g o → st b = .id n g o ∧ hget h' n ≠ none := fun b n g o hb => by
    have hb' : (match st b with | .id n g o => if (hget h' n).isSome = true then Own.id n g o else .none | y => y) = .id n g o := hb
    split at hb'
    · rename_i e
      split at hb'
      · rename_i hs
        injection hb' with f1 f2 f3
        subst f1 f2 f3
        exact ⟨e, by intro hn; rw [hn] at hs; cases hs⟩
      · cases hb'
    · rename_i hno
      exact absurd hb' (hno _ _ _)
  have k4 : ∀ b, st' b = .shut → st b = .shut := fun b hb => by
    have hb' : (match st b with | .id n g o => if (hget h' n).isSome = true then Own.id n g o else .none | y => y) = .shut := hb
    split at hb'
    · split at hb' <;> cases hb'
    · exact hb'
  refine ⟨st', ⟨fun n x hx => hclosed n x hx st' k1 k2 (fun b n g o hb => (k3 b n g o hb).1), fun b n g o hb => ?_, fun b b' n g o g' o' h1 h2 => hh.inj _ _ _ _ _ _ _ (k3 _ _ _ _ h1).1 (k3 _ _ _ _ h2).1, fun b hb => hh.shut b (k4 b hb)⟩,
    ⟨Same3.refl w, Nat.le_refl _, fun b hb hn => ⟨?_, rfl⟩⟩, k1, k2, fun b n g o hb => (k3 b n g o hb).1⟩
  · obtain ⟨h1, h2⟩ := k3 _ _ _ _ hb
    obtain ⟨r1, y, r2, r3⟩ := hh.dom _ _ _ _ h1
    refine ⟨r1, ?_⟩
    cases e : hget h' n with
    | none => exact absurd e h2
    | some z =>
      have := hd n z e
      rw [r2] at this
      cases this
      exact ⟨_, rfl, r3⟩
  · show (match st b with | .id n g o => _ | y => y) = st b
    cases e : st b with
    | id n g o => exact absurd e (hn _ _ _)
    | _ => rfl

mutual
/-- All ids that a value names are ids of h. -/
def V.within (h : Heap) : V → Bool
  | .agg cs => withinL h cs
  | .tup cs => withinL h cs
  | .fn _ cs => withinL h cs
  | .so n _ _ _ _ => (hget h n).isSome
  | .ep n _ _ _ _ => (hget h n).isSome
  | .mo n _ => (hget h n).isSome
  | .dead => true
  | .bool _ => true | .int _ _ => true | .str _ => true | .nil => true | .sl _ _ => true | .emp _ => true | .nilp => true | .pr _ => true
  | .nilfn => true | .nilm => true | .mp _ _ => true
def V.withinL (h : Heap) : List V → Bool
  | [] => true
  | c :: cs => c.within h && withinL h cs
end

theorem V.withinL_iff (h : Heap) (cs : List V) : V.withinL h cs = true ↔ ∀ c ∈ cs, c.within h = true := by
  induction cs with
  | nil => simp [V.withinL]
  | cons c cs ih => simp [V.withinL, ih]

theorem rep_within {w : World} {st st' : Nat → Own} {h' : Heap} {c v} (hr : Rep w st c v) (hw : c.within h' = true) (k1 : ∀ b, st b = .shut → st' b = .shut)
    (k2 : ∀ b n g o, st b = .id n g o → hget h' n ≠ none → st' b = .id n g o) : Rep w st' c v := by
  have some_ne : ∀ n, (hget h' n).isSome = true → hget h' n ≠ none := fun n h e => by rw [e] at h; cases h
  induction hr with
  | s h => exact .s (h.frame fun b hb => ⟨k1 b hb, rfl⟩)
  | agg hl h1 _ ih =>
    rw [V.within, V.withinL_iff] at hw
    exact .agg hl h1 fun j c v hc hv => ih j c v hc hv (hw c (List.mem_of_getElem? hc))
  | tup hl _ ih =>
    rw [V.within, V.withinL_iff] at hw
    exact .tup hl fun j c v hc hv => ih j c v hc hv (hw c (List.mem_of_getElem? hc))
  | so0 => exact .so0
  | so hs hb hc hf ha => exact .so (k2 _ _ _ _ hs (some_ne _ hw)) hb hc hf ha
  | ep hs => exact .ep (k2 _ _ _ _ hs (some_ne _ hw))
  | mo hs => exact .mo (k2 _ _ _ _ hs (some_ne _ hw))
  | @stale c n g g' o b v ht hs hg hv =>
    refine .stale ht (k2 _ _ _ _ hs (some_ne _ ?_)) hg hv
    cases c <;> simp [V.tok, V.within] at ht hw ⊢
    all_goals (obtain ⟨rfl, rfl⟩ := ht; exact hw)
  | fn hl _ ih =>
    rw [V.within, V.withinL_iff] at hw
    exact .fn hl fun j c v hc hv => ih j c v hc hv (hw c (List.mem_of_getElem? hc))
  | dead => exact .dead

theorem idfree_within {h : Heap} {c : V} (hi : c.idfree = true) : c.within h = true := by
  have key : ∀ (n : Nat) (c : V), SizeOf.sizeOf c < n → c.idfree = true → c.within h = true := by
    intro n
    induction n with
    | zero => intro c hc; omega
    | succ n ih =>
      intro c hc hi
      have kids : ∀ cs : List V, SizeOf.sizeOf cs ≤ n → (∀ c ∈ cs, c.idfree = true) → V.withinL h cs = true := by
        intro cs hs hcs
        rw [V.withinL_iff]
        intro c hmem
        refine ih c ?_ (hcs c hmem)
        have := List.sizeOf_lt_of_mem hmem
        omega
      cases c <;> simp only [V.idfree, V.within, V.idfreeL_iff] at hi ⊢ <;> first
        | (refine kids _ ?_ hi; simp at hc; omega)
        | (simp at hi; done)
  exact key _ c (Nat.lt_succ_self _) hi

/-- Objects that stay: the same as before, and what they name stays. -/
def heapLe (h h' : Heap) : Prop := ∀ n x, hget h' n = some x → hget h n = some x ∧ (match x with
  | .arr _ p _ l => p = true ∨ ∀ y ∈ l, y.within h' = true
  | .map _ ks vs => (∀ y ∈ ks, y.within h' = true) ∧ ∀ y ∈ vs, y.within h' = true)

theorem cells_within {h : Heap} {x : V} (hx : x.within h = true) : ∀ c ∈ x.cells, c.within h = true := by
  cases x with
  | agg cs => rw [V.within, V.withinL_iff] at hx; exact hx
  | _ => intro c hc; simp [V.cells] at hc; subst hc; exact hx

/-- A slot: dead now, or as it was, and what it names stays; or nil, seen as an empty sealed list, or as an empty window; or an empty list that is not nil. -/
def slotLe (h' : Heap) (c c' : V) : Prop := c' = .dead ∨ (c' = c ∧ c'.within h' = true) ∨ (c = .nil ∧ ∃ sz, c' = .sl sz []) ∨ (c = .nil ∧ ∃ n g sz, c' = .so n g sz 0 0) ∨ (∃ sz, c = .emp sz ∧ c' = .sl sz [])

theorem le_env {e e' : Env} (hl : e'.t.length = e.t.length) (ht : ∀ (i : Nat) (c c' : V), e.t[i]? = some c → e'.t[i]? = some c' → slotLe e'.h c c') (hh : heapLe e.h e'.h) : Le e e' := by
  intro st a w hr
  obtain ⟨st', h1, h2, k1, k2, k3⟩ := heap_drop (h' := e'.h) hr.heap (fun n x hx => (hh n x hx).1) (fun n x hx st' k1 k2 k3 => by
    have hob := hr.heap.ob n x (hh n x hx).1
    have hw := (hh n x hx).2
    cases x with
    | arr g p sz l =>
      obtain ⟨a1, a2, a3, a4⟩ := hob
      refine ⟨a1, a2, a3, ?_⟩
      rcases a4 with ⟨e0, hn⟩ | ⟨b, o, cells, ty, hb, hc, hR⟩
      · exact .inl ⟨e0, fun b g o hb => hn _ _ _ (k3 _ _ _ _ hb)⟩
      · refine .inr ⟨b, o, cells, ty, k2 _ _ _ _ hb (by rw [hx]; simp), hc, fun i j x c hxi hcj => ⟨(hR i j x c hxi hcj).1, (hR i j x c hxi hcj).2.1, rep_within (h' := e'.h) (hR i j x c hxi hcj).2.2 ?_ k1 k2⟩⟩
        have hmem := List.mem_of_getElem? hxi
        have hmc := List.mem_of_getElem? hcj
        rcases hw with hp | hw
        · exact idfree_within (cells_free (a3 hp x hmem) c hmc)
        · exact cells_within (hw x hmem) c hmc
    | map g ks vs =>
      obtain ⟨b, es, clock, hb, hc, e1, e2, e3, r1, r2⟩ := hob
      refine ⟨b, es, clock, k2 _ _ _ _ hb (by rw [hx]; simp), hc, e1, e2, e3, fun j e k he hk => rep_within (r1 j e k he hk) (hw.1 k (List.mem_of_getElem? hk)) k1 k2, fun j e k he hk => rep_within (r2 j e k he hk) (hw.2 k (List.mem_of_getElem? hk)) k1 k2⟩)
  refine ⟨st', ⟨hr.defers, by rw [hr.size, hl], fun i c' v hc' hv => ?_, h1⟩, h2⟩
  have hlt : i < e.t.length := by have := (List.getElem?_eq_some_iff.1 hc').1; omega
  have hc := List.getElem?_eq_getElem hlt
  rcases ht i _ c' hc hc' with rfl | ⟨rfl, hw⟩ | ⟨h0, sz, rfl⟩ | ⟨h0, n, g, sz, rfl⟩ | ⟨sz, h0, rfl⟩
  · exact .dead
  · exact rep_within (hr.tmps i _ v hc hv) hw k1 k2
  · have := hr.tmps i _ v hc hv
    rw [h0] at this
    rw [rep_nil this]
    exact .s .slnil
  · have := hr.tmps i _ v hc hv
    rw [h0] at this
    rw [rep_nil this]
    exact .so0
  · have := hr.tmps i _ v hc hv
    rw [h0] at this
    obtain ⟨a, cap, rfl⟩ := rep_emp this
    exact .s .sle

theorem keep_get (n : Nat) : ∀ (vars : List (Nat × V)) (l : List V) (i : Nat) (c' : V), (vars.foldl (fun l x => l.set x.1 x.2) l)[i]? = some c' → (∃ x ∈ vars, x.1 = i ∧ x.2 = c') ∨ l[i]? = some c'
  | [], l, i, c', h => .inr h
  | x :: vars, l, i, c', h => by
    rcases keep_get n vars (l.set x.1 x.2) i c' h with ⟨y, hy, h1, h2⟩ | h
    · exact .inl ⟨y, by simp [hy], h1, h2⟩
    · rw [List.getElem?_set] at h
      split at h
      · rename_i hx
        split at h
        · cases h; exact .inl ⟨x, by simp, hx, rfl⟩
        · cases h
      · exact .inr h

theorem keep_len : ∀ (vars : List (Nat × V)) (l : List V), (vars.foldl (fun l x => l.set x.1 x.2) l).length = l.length
  | [], _ => rfl
  | x :: vars, l => by rw [List.foldl_cons, keep_len vars]; simp

/-- The slots that are kept, one by one. -/
def keepOk (e : Env) (h' : Heap) : List (Nat × V) → Prop
  | [] => True
  | x :: r => (∃ c, e.t[x.1]? = some c ∧ slotLe h' c x.2) ∧ keepOk e h' r

theorem keepOk_mem {e : Env} {h' : Heap} : ∀ {vars : List (Nat × V)}, keepOk e h' vars → ∀ x ∈ vars, ∃ c, e.t[x.1]? = some c ∧ slotLe h' c x.2
  | [], _, x, hx => by simp at hx
  | y :: r, h, x, hx => by
    rcases List.mem_cons.1 hx with rfl | hx
    · exact h.1
    · exact keepOk_mem h.2 x hx

/-- The ids that are kept, one by one. -/
def heapKeep (h : Heap) (h' : Heap) : Heap → Prop
  | [] => True
  | (n, x) :: r => (hget h n = some x ∧ (match x with
      | .arr _ p _ l => p = true ∨ ∀ y ∈ l, y.within h' = true
      | .map _ ks vs => (∀ y ∈ ks, y.within h' = true) ∧ ∀ y ∈ vs, y.within h' = true)) ∧ heapKeep h h' r

theorem heapKeep_le {h h' : Heap} : ∀ {r : Heap}, heapKeep h h' r → ∀ n x, hget r n = some x → hget h n = some x ∧ (match x with
      | .arr _ p _ l => p = true ∨ ∀ y ∈ l, y.within h' = true
      | .map _ ks vs => (∀ y ∈ ks, y.within h' = true) ∧ ∀ y ∈ vs, y.within h' = true)
  | [], _, n, x, hx => by simp [hget] at hx
  | (m, y) :: r, hk, n, x, hx => by
    simp only [hget] at hx
    split at hx
    · rename_i e; cases hx; subst e; exact hk.1
    · exact heapKeep_le hk.2 n x hx

theorem le_keep {e : Env} {n : Nat} {vars : List (Nat × V)} {h' : Heap} (hn : e.t.length = n) (hv : keepOk e h' vars) (hh : heapKeep e.h h' h') : Le e (Env.keep n vars h') := by
  refine le_env (by simp only [Env.keep]; rw [keep_len]; simp [hn]) (fun i c c' hc hc' => ?_) (heapKeep_le hh)
  rcases keep_get n vars _ i c' hc' with ⟨x, hx, h1, h2⟩ | h
  · obtain ⟨c0, g1, g2⟩ := keepOk_mem hv x hx
    rw [h1, hc] at g1
    cases g1
    rw [← h2]; exact g2
  · exact .inl (List.mem_replicate.1 (List.mem_of_getElem? h)).2

theorem tr_seq_k {P x y e} {Q : Post} (h : ∀ K : Env → Prop, (∀ e', Tr P y e' Q → K e') → Tr P x e (Post.andThen K Q)) : Tr P (.seq x y) e Q := tr_seq (h _ fun _ h => h)

theorem tr_cond_t {P c x y e} {Q : Post} (hc : e.ev c = .bool true) (h : Tr P x e Q) : Tr P (.cond c x y) e Q := tr_cond hc (fun _ => h) (fun h => by cases h)
theorem tr_cond_f {P c x y e} {Q : Post} (hc : e.ev c = .bool false) (h : Tr P y e Q) : Tr P (.cond c x y) e Q := tr_cond hc (fun h => by cases h) (fun _ => h)

/-! ### The same as equations, for simp -/

@[congr] theorem after_congr {r r' : Option (V × List (Nat × Ob))} {K : V → List (Nat × Ob) → Prop} (h : r = r') : After r K = After r' K := by rw [h]
@[congr] theorem evl_congr {P : Program} {ops : Array Oper} {os : List Oper} {e e' : Env} {K : Env → Prop} (h : e = e') : EvL P ops os e K = EvL P ops os e' K := by rw [h]
@[congr] theorem tr_congr {P : Program} {c : Code} {e e' : Env} {Q : Post} (h : e = e') : Tr P c e Q = Tr P c e' Q := by rw [h]

theorem evl_op_eq {P : Program} {ops : Array Oper} {dst : Option Nat} {op : Op} {ty : TypeId} {pos : String} {aft : Array Edge} {os : List Oper} {e : Env} {K : Env → Prop}
    (hc : isCall ⟨dst, op, ty, pos, aft, none⟩ = false) :
    EvL P ops (⟨dst, op, ty, pos, aft, none⟩ :: os) e K = After (eff P ⟨dst, op, ty, pos, aft, none⟩ e) fun v ups => EvL P ops os (e.upd dst v ups) K := by
  apply propext
  constructor
  · rintro (⟨h, _⟩ | ⟨_, v, ups, hx, h⟩ | ⟨h, _⟩)
    · cases h
    · rw [ex_eff hc] at hx
      rw [hx]; exact h
    · rw [hc] at h; cases h
  · exact evl_op hc

/-- A guarded operation: two ways, by its test. -/
def WaysL (b : Option Bool) (P : Program) (ops : Array Oper) (dst : Option Nat) (op : Op) (ty : TypeId) (pos : String) (aft : Array Edge) (os : List Oper) (e : Env) (K : Env → Prop) : Prop :=
  match b with
  | some c => if c then EvL P ops (⟨dst, op, ty, pos, aft, none⟩ :: os) e K else EvL P ops os (e.upd dst (.tup []) []) K
  | none => False

section
variable {P : Program} {ops : Array Oper} {dst : Option Nat} {op : Op} {ty : TypeId} {pos : String} {aft : Array Edge} {os : List Oper} {e : Env} {K : Env → Prop}
@[go_sem] theorem waysl_true : WaysL (some true) P ops dst op ty pos aft os e K = EvL P ops (⟨dst, op, ty, pos, aft, none⟩ :: os) e K := by simp [WaysL]
@[go_sem] theorem waysl_false : WaysL (some false) P ops dst op ty pos aft os e K = EvL P ops os (e.upd dst (.tup []) []) K := by simp [WaysL]
theorem waysl_if {c : Bool} (hn : c = false → EvL P ops os (e.upd dst (.tup []) []) K) (hy : c = true → EvL P ops (⟨dst, op, ty, pos, aft, none⟩ :: os) e K) : WaysL (some c) P ops dst op ty pos aft os e K := by
  cases c
  · simpa [WaysL] using hn rfl
  · simpa [WaysL] using hy rfl
theorem waysl_not {c : Bool} (hn : c = true → EvL P ops os (e.upd dst (.tup []) []) K) (hy : c = false → EvL P ops (⟨dst, op, ty, pos, aft, none⟩ :: os) e K) : WaysL (some (!c)) P ops dst op ty pos aft os e K := by
  cases c
  · simpa [WaysL] using hy rfl
  · simpa [WaysL] using hn rfl

@[go_sem] theorem evl_guard_eq {g : Nat × Bool} :
    EvL P ops (⟨dst, op, ty, pos, aft, some g⟩ :: os) e K = WaysL (gd ops e ⟨dst, op, ty, pos, aft, some g⟩) P ops dst op ty pos aft os e K := by
  apply propext
  constructor
  · rintro (⟨h, h2⟩ | ⟨h, v, ups, hx, h2⟩ | ⟨hc, h, e1, hl, v, ups, hx, h2⟩)
    · rw [h, waysl_false]; exact h2
    · rw [h, waysl_true]; exact .inr (.inl ⟨rfl, v, ups, hx, h2⟩)
    · rw [h, waysl_true]; exact .inr (.inr ⟨hc, rfl, e1, hl, v, ups, hx, h2⟩)
  · intro h
    cases hb : gd ops e ⟨dst, op, ty, pos, aft, some g⟩ with
    | none => rw [hb] at h; exact h.elim
    | some c =>
      rw [hb] at h
      cases c with
      | false => rw [waysl_false] at h; exact .inl ⟨hb, h⟩
      | true => rw [waysl_true] at h; exact evl_yes hb h
end

/-- What is behind an operation. -/
def CoL (P : Program) (ops : Array Oper) (os : List Oper) (dst : Option Nat) (e : Env) (K : Env → Prop) (v : V) (ups : List (Nat × Ob)) : Prop := EvL P ops os (e.upd dst v ups) K
@[go_sem] theorem col_eq {P : Program} {ops : Array Oper} {os : List Oper} {dst : Option Nat} {e : Env} {K : Env → Prop} {v : V} {ups : List (Nat × Ob)} : CoL P ops os dst e K v ups = EvL P ops os (e.upd dst v ups) K := rfl

@[go_sem] theorem evl_move {P : Program} {ops : Array Oper} {dst : Option Nat} (x : Operand) {ty : TypeId} {pos : String} {aft : Array Edge} {os : List Oper} {e : Env} {K : Env → Prop} :
    EvL P ops (⟨dst, (.move x), ty, pos, aft, none⟩ :: os) e K = After (eff P ⟨dst, (.move x), ty, pos, aft, none⟩ e) (CoL P ops os dst e K) := evl_op_eq rfl
@[go_sem] theorem evl_assign {P : Program} {ops : Array Oper} {dst : Option Nat} (x : Operand) {ty : TypeId} {pos : String} {aft : Array Edge} {os : List Oper} {e : Env} {K : Env → Prop} :
    EvL P ops (⟨dst, (.assign x), ty, pos, aft, none⟩ :: os) e K = After (eff P ⟨dst, (.assign x), ty, pos, aft, none⟩ e) (CoL P ops os dst e K) := evl_op_eq rfl
@[go_sem] theorem evl_pick {P : Program} {ops : Array Oper} {dst : Option Nat} (a b c : Operand) {ty : TypeId} {pos : String} {aft : Array Edge} {os : List Oper} {e : Env} {K : Env → Prop} :
    EvL P ops (⟨dst, (.pick a b c), ty, pos, aft, none⟩ :: os) e K = After (eff P ⟨dst, (.pick a b c), ty, pos, aft, none⟩ e) (CoL P ops os dst e K) := evl_op_eq rfl
@[go_sem] theorem evl_alloc {P : Program} {ops : Array Oper} {dst : Option Nat} (t : TypeId) {ty : TypeId} {pos : String} {aft : Array Edge} {os : List Oper} {e : Env} {K : Env → Prop} :
    EvL P ops (⟨dst, (.alloc t), ty, pos, aft, none⟩ :: os) e K = After (eff P ⟨dst, (.alloc t), ty, pos, aft, none⟩ e) (CoL P ops os dst e K) := evl_op_eq rfl
@[go_sem] theorem evl_box {P : Program} {ops : Array Oper} {dst : Option Nat} (t : TypeId) (x : Operand) {ty : TypeId} {pos : String} {aft : Array Edge} {os : List Oper} {e : Env} {K : Env → Prop} :
    EvL P ops (⟨dst, (.box t x), ty, pos, aft, none⟩ :: os) e K = After (eff P ⟨dst, (.box t x), ty, pos, aft, none⟩ e) (CoL P ops os dst e K) := evl_op_eq rfl
@[go_sem] theorem evl_build {P : Program} {ops : Array Oper} {dst : Option Nat} (t : TypeId) (x : Array (Nat × Operand)) {ty : TypeId} {pos : String} {aft : Array Edge} {os : List Oper} {e : Env} {K : Env → Prop} :
    EvL P ops (⟨dst, (.build t x), ty, pos, aft, none⟩ :: os) e K = After (eff P ⟨dst, (.build t x), ty, pos, aft, none⟩ e) (CoL P ops os dst e K) := evl_op_eq rfl
@[go_sem] theorem evl_buildSlice {P : Program} {ops : Array Oper} {dst : Option Nat} (t n : Nat) (x : Array (Nat × Operand)) {ty : TypeId} {pos : String} {aft : Array Edge} {os : List Oper} {e : Env} {K : Env → Prop} :
    EvL P ops (⟨dst, (.buildSlice t n x), ty, pos, aft, none⟩ :: os) e K = After (eff P ⟨dst, (.buildSlice t n x), ty, pos, aft, none⟩ e) (CoL P ops os dst e K) := evl_op_eq rfl
@[go_sem] theorem evl_load {P : Program} {ops : Array Oper} {dst : Option Nat} (t : TypeId) (x : Operand) {ty : TypeId} {pos : String} {aft : Array Edge} {os : List Oper} {e : Env} {K : Env → Prop} :
    EvL P ops (⟨dst, (.load t x), ty, pos, aft, none⟩ :: os) e K = After (eff P ⟨dst, (.load t x), ty, pos, aft, none⟩ e) (CoL P ops os dst e K) := evl_op_eq rfl
@[go_sem] theorem evl_store {P : Program} {ops : Array Oper} {dst : Option Nat} (t : TypeId) (x y : Operand) {ty : TypeId} {pos : String} {aft : Array Edge} {os : List Oper} {e : Env} {K : Env → Prop} :
    EvL P ops (⟨dst, (.store t x y), ty, pos, aft, none⟩ :: os) e K = After (eff P ⟨dst, (.store t x y), ty, pos, aft, none⟩ e) (CoL P ops os dst e K) := evl_op_eq rfl
@[go_sem] theorem evl_nilCheck {P : Program} {ops : Array Oper} {dst : Option Nat} (x : Operand) {ty : TypeId} {pos : String} {aft : Array Edge} {os : List Oper} {e : Env} {K : Env → Prop} :
    EvL P ops (⟨dst, (.nilCheck x), ty, pos, aft, none⟩ :: os) e K = After (eff P ⟨dst, (.nilCheck x), ty, pos, aft, none⟩ e) (CoL P ops os dst e K) := evl_op_eq rfl
@[go_sem] theorem evl_binOp {P : Program} {ops : Array Oper} {dst : Option Nat} (op : BinOp) (t u : TypeId) (x y : Operand) {ty : TypeId} {pos : String} {aft : Array Edge} {os : List Oper} {e : Env} {K : Env → Prop} :
    EvL P ops (⟨dst, (.binOp op t x y u), ty, pos, aft, none⟩ :: os) e K = After (eff P ⟨dst, (.binOp op t x y u), ty, pos, aft, none⟩ e) (CoL P ops os dst e K) := evl_op_eq rfl
@[go_sem] theorem evl_unOp {P : Program} {ops : Array Oper} {dst : Option Nat} (op : UnOp) (t : TypeId) (x : Operand) {ty : TypeId} {pos : String} {aft : Array Edge} {os : List Oper} {e : Env} {K : Env → Prop} :
    EvL P ops (⟨dst, (.unOp op t x), ty, pos, aft, none⟩ :: os) e K = After (eff P ⟨dst, (.unOp op t x), ty, pos, aft, none⟩ e) (CoL P ops os dst e K) := evl_op_eq rfl
@[go_sem] theorem evl_convert {P : Program} {ops : Array Oper} {dst : Option Nat} (t u : TypeId) (x : Operand) {ty : TypeId} {pos : String} {aft : Array Edge} {os : List Oper} {e : Env} {K : Env → Prop} :
    EvL P ops (⟨dst, (.convert t u x), ty, pos, aft, none⟩ :: os) e K = After (eff P ⟨dst, (.convert t u x), ty, pos, aft, none⟩ e) (CoL P ops os dst e K) := evl_op_eq rfl
@[go_sem] theorem evl_makeFunc {P : Program} {ops : Array Oper} {dst : Option Nat} (f : Fn) (a b : Array Operand) {ty : TypeId} {pos : String} {aft : Array Edge} {os : List Oper} {e : Env} {K : Env → Prop} :
    EvL P ops (⟨dst, (.makeFunc f a b), ty, pos, aft, none⟩ :: os) e K = After (eff P ⟨dst, (.makeFunc f a b), ty, pos, aft, none⟩ e) (CoL P ops os dst e K) := evl_op_eq rfl
@[go_sem] theorem evl_makeSlice {P : Program} {ops : Array Oper} {dst : Option Nat} (t : TypeId) (x y : Operand) {ty : TypeId} {pos : String} {aft : Array Edge} {os : List Oper} {e : Env} {K : Env → Prop} :
    EvL P ops (⟨dst, (.makeSlice t x y), ty, pos, aft, none⟩ :: os) e K = After (eff P ⟨dst, (.makeSlice t x y), ty, pos, aft, none⟩ e) (CoL P ops os dst e K) := evl_op_eq rfl
@[go_sem] theorem evl_slice {P : Program} {ops : Array Oper} {dst : Option Nat} (t : TypeId) (x : Operand) (a b c : Option Operand) {ty : TypeId} {pos : String} {aft : Array Edge} {os : List Oper} {e : Env} {K : Env → Prop} :
    EvL P ops (⟨dst, (.slice t x a b c), ty, pos, aft, none⟩ :: os) e K = After (eff P ⟨dst, (.slice t x a b c), ty, pos, aft, none⟩ e) (CoL P ops os dst e K) := evl_op_eq rfl
@[go_sem] theorem evl_fieldAddr {P : Program} {ops : Array Oper} {dst : Option Nat} (t f : Nat) (x : Operand) {ty : TypeId} {pos : String} {aft : Array Edge} {os : List Oper} {e : Env} {K : Env → Prop} :
    EvL P ops (⟨dst, (.fieldAddr t x f), ty, pos, aft, none⟩ :: os) e K = After (eff P ⟨dst, (.fieldAddr t x f), ty, pos, aft, none⟩ e) (CoL P ops os dst e K) := evl_op_eq rfl
@[go_sem] theorem evl_field {P : Program} {ops : Array Oper} {dst : Option Nat} (t f : Nat) (x : Operand) {ty : TypeId} {pos : String} {aft : Array Edge} {os : List Oper} {e : Env} {K : Env → Prop} :
    EvL P ops (⟨dst, (.field t x f), ty, pos, aft, none⟩ :: os) e K = After (eff P ⟨dst, (.field t x f), ty, pos, aft, none⟩ e) (CoL P ops os dst e K) := evl_op_eq rfl
@[go_sem] theorem evl_indexAddr {P : Program} {ops : Array Oper} {dst : Option Nat} (t : TypeId) (x y : Operand) {ty : TypeId} {pos : String} {aft : Array Edge} {os : List Oper} {e : Env} {K : Env → Prop} :
    EvL P ops (⟨dst, (.indexAddr t x y), ty, pos, aft, none⟩ :: os) e K = After (eff P ⟨dst, (.indexAddr t x y), ty, pos, aft, none⟩ e) (CoL P ops os dst e K) := evl_op_eq rfl
@[go_sem] theorem evl_index {P : Program} {ops : Array Oper} {dst : Option Nat} (t : TypeId) (x y : Operand) {ty : TypeId} {pos : String} {aft : Array Edge} {os : List Oper} {e : Env} {K : Env → Prop} :
    EvL P ops (⟨dst, (.index t x y), ty, pos, aft, none⟩ :: os) e K = After (eff P ⟨dst, (.index t x y), ty, pos, aft, none⟩ e) (CoL P ops os dst e K) := evl_op_eq rfl
@[go_sem] theorem evl_extract {P : Program} {ops : Array Oper} {dst : Option Nat} (x : Operand) (k : Nat) {ty : TypeId} {pos : String} {aft : Array Edge} {os : List Oper} {e : Env} {K : Env → Prop} :
    EvL P ops (⟨dst, (.extract x k), ty, pos, aft, none⟩ :: os) e K = After (eff P ⟨dst, (.extract x k), ty, pos, aft, none⟩ e) (CoL P ops os dst e K) := evl_op_eq rfl
@[go_sem] theorem evl_builtin {P : Program} {ops : Array Oper} {dst : Option Nat} (b : Builtin) (a : Array Operand) (t : Array TypeId) {ty : TypeId} {pos : String} {aft : Array Edge} {os : List Oper} {e : Env} {K : Env → Prop} :
    EvL P ops (⟨dst, (.call ⟨.builtin b, a, t⟩), ty, pos, aft, none⟩ :: os) e K = After (eff P ⟨dst, (.call ⟨.builtin b, a, t⟩), ty, pos, aft, none⟩ e) (CoL P ops os dst e K) := evl_op_eq rfl

attribute [go_sem] evl_nil after_some eff hsets hset hget effLoad effAlloc effBox effBuild effBuildSlice effStore effNil effUn effBin effBin2 effShift effEq effNilEq nilOf isNilV effMax effMin eqKinds eqKs effConv effMake effSlice effField effPart effIndex
  effByte effLen effAppend elems live single setV splice buildFill listFill bnd gd vOf vOf1 okv V.cells V.idfree V.idfreeL Ob.gen Post.andThen Post.inBlock
  List.getD_cons_zero List.getD_cons_succ List.getElem?_cons_zero List.getElem?_cons_succ List.set_cons_zero List.set_cons_succ List.take_succ_cons List.drop_succ_cons List.take_zero List.drop_zero
  List.length_cons List.length_nil Option.map_some Option.bind_some Option.getD_some Option.getD_none List.headD_cons List.nil_append List.cons_append List.append_nil List.getElem?_toArray cond_true cond_false Bool.not_true Bool.not_false Int.toNat_natCast List.getElem?_map List.length_map Int.natCast_nonneg and_true true_and and_self Bool.false_eq_true Bool.and_self Bool.true_and Bool.and_true

end Go.PG
