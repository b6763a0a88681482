/- The engine: stepping through a region whose order is open. -/
import Derived.Test.YtfhddbnacbcppaaKPgS
set_option linter.unusedVariables false
set_option linter.unnecessarySimpa false
set_option linter.unusedSimpArgs false
namespace Go.PG

structure Inf where
  i : Nat
  wk : List Key
  rd : List Key

def wkOf (dst : Option Nat) (ups : List (Nat × Ob)) : List Key := (match dst with | some d => [.s d] | none => []) ++ ups.map fun x => .h x.1

theorem wk_eq (i : Nat) (d : Option Nat) (v : V) (u : List (Nat × Ob)) (rd : List Key) : (⟨i, d, v, u, rd⟩ : Rc).wk = wkOf d u := by cases d <;> rfl

def Rc.inf (r : Rc) : Inf := ⟨r.i, r.wk, r.rd⟩

def confsI (p q : Inf) : Bool := (p.wk.any fun k => k ∈ q.rd || k ∈ q.wk) || q.wk.any fun k => k ∈ p.rd

def okInf (ops : Array Oper) : List Inf → Bool
  | [] => true
  | r :: rs => (rs.all fun q => !confsI r q || (decide (q.i < ops.size) && ((Region.before ops).getD q.i 0).testBit r.i)) && okInf ops rs

theorem okInf_pairs {ops : Array Oper} : ∀ (recs : List Rc), okInf ops (recs.map Rc.inf) = true → okPairs ops recs
  | [], _ => trivial
  | r :: rs, h => by
    simp only [List.map_cons, okInf, Bool.and_eq_true, List.all_map, List.all_eq_true] at h
    refine ⟨fun q hq hc => ?_, okInf_pairs rs h.2⟩
    have h1 := h.1 q hq
    have hci : confsI r.inf q.inf = true := hc
    simp only [Function.comp, hci, Bool.not_true, Bool.false_or, Bool.and_eq_true, decide_eq_true_eq] at h1
    exact before_anc ops q.i r.i h1.1 h1.2

/-- A call whose outcome rests on rd alone. -/
def CallLocal (P : Program) (ops : Array Oper) (o : Oper) (e : Env) (v : V) (rd : List Key) : Prop :=
  ∀ e2 : Env, (∀ k ∈ rd, look e2 k = look e k) → gd ops e2 o = some true ∧ Ex P o e2 v []

def EvD (P : Program) (ops : Array Oper) : List (Nat × Oper) → Env → List Inf → (List Inf → Env → Prop) → Prop
  | [], e, acc, K => K acc.reverse e
  | (i, o) :: os, e, acc, K =>
    (gd ops e o = some false ∧ EvD P ops os (e.upd o.dst (.tup []) []) (⟨i, wkOf o.dst [], rdOf ops o e⟩ :: acc) K) ∨
    (gd ops e o = some true ∧ isCall o = false ∧ ∃ v ups, eff P o e = some (v, ups) ∧ EvD P ops os (e.upd o.dst v ups) (⟨i, wkOf o.dst ups, rdOf ops o e⟩ :: acc) K) ∨
    (isCall o = true ∧ ∃ v rd, CallLocal P ops o e v rd ∧ EvD P ops os (e.upd o.dst v []) (⟨i, wkOf o.dst [], rd⟩ :: acc) K)

theorem evd_run {P : Program} {ops : Array Oper} {K : List Inf → Env → Prop} : ∀ (l : List (Nat × Oper)) (e : Env) (acc : List Inf), (∀ x ∈ l, ops[x.1]? = some x.2) → (∀ x ∈ l, ∀ d, x.2.dst = some d → d < e.t.length) →
    EvD P ops l e acc K → ∃ recs, RunD P ops (l.map (·.1)) e recs ∧ K (acc.reverse ++ recs.map Rc.inf) (folds e recs)
  | [], e, acc, _, _, h => ⟨[], .nil, by simpa [EvD, folds] using h⟩
  | (i, o) :: os, e, acc, hl, hd, h => by
    have ho : ops[i]? = some o := hl (i, o) (by simp)
    have hdo : ∀ d, o.dst = some d → d < e.t.length := hd (i, o) (by simp)
    have next : ∀ (v : V) (ups : List (Nat × Ob)) (rd : List Key), (∀ e2 : Env, e2.t.length = e.t.length → (∀ k ∈ rd, look e2 k = look e k) → StepOk P ops o e2 ⟨i, o.dst, v, ups, rd⟩) →
        EvD P ops os (e.upd o.dst v ups) (⟨i, wkOf o.dst ups, rd⟩ :: acc) K → ∃ recs, RunD P ops (((i, o) :: os).map (·.1)) e recs ∧ K (acc.reverse ++ recs.map Rc.inf) (folds e recs) := by
      intro v ups rd hloc h'
      have happ : Rc.app e ⟨i, o.dst, v, ups, rd⟩ = e.upd o.dst v ups := rfl
      obtain ⟨recs, r1, r2⟩ := evd_run os (e.upd o.dst v ups) _ (fun x hx => hl x (by simp [hx])) (fun x hx d hxd => by
        rw [← happ, app_len]; exact hd x (by simp [hx]) d hxd) h'
      refine ⟨⟨i, o.dst, v, ups, rd⟩ :: recs, .cons ho rfl rfl hdo hloc (by rw [happ]; exact r1), ?_⟩
      have e1 : folds e (⟨i, o.dst, v, ups, rd⟩ :: recs) = folds (e.upd o.dst v ups) recs := rfl
      rw [e1]
      have e2 : acc.reverse ++ List.map Rc.inf (⟨i, o.dst, v, ups, rd⟩ :: recs) = (⟨i, wkOf o.dst ups, rd⟩ :: acc).reverse ++ List.map Rc.inf recs := by simp [Rc.inf, wk_eq]
      rw [e2]
      exact r2
    rcases h with ⟨g, h⟩ | ⟨g, hc, v, ups, he, h⟩ | ⟨_, v, rd, hcl, h⟩
    · exact next (.tup []) [] _ (fun e2 _ hk => .inl ⟨by rw [gd_local hk]; exact g, rfl, rfl⟩) h
    · exact next v ups _ (fun e2 _ hk => .inr ⟨by rw [gd_local hk]; exact g, (ex_eff hc).2 (by rw [eff_local hk]; exact he)⟩) h
    · exact next v [] rd (fun e2 _ hk => .inr (hcl e2 hk)) h

theorem HeapOk.ext {w : World} {st : Nat → Own} {h h' : Heap} (hh : HeapOk w st h) (he : ∀ n, hget h' n = hget h n) : HeapOk w st h' :=
  ⟨fun n x hx => hh.ob n x (by rw [← he]; exact hx), fun b n g o hb => by
    obtain ⟨r1, y, r2, r3⟩ := hh.dom b n g o hb
    exact ⟨r1, y, by rw [he]; exact r2, r3⟩, hh.inj, hh.shut⟩

def dstOk (l : List Oper) (n : Nat) : Bool := l.all fun o => match o.dst with | some d => decide (d < n) | none => true

theorem tr_draw {P : Program} {id : Nat} {l : List Oper} {e : Env} {Q : Post} (hs : ∀ t, ∃ m, Sched m l.toArray (Region.schedule (P.follows .mixedOrders) l.toArray t))
    (n : Nat) (hn : e.t.length = n) (hd : dstOk l n = true)
    (h : EvD P l.toArray (l.zipIdx.map fun x => (x.2, x.1)) e [] fun infs e' => okInf l.toArray infs = true ∧ Q .normal e') : Tr P (.region id l.toArray true) e Q := by
  have hmap : (l.zipIdx.map fun x => (x.2, x.1)).map (·.1) = List.range l.length := by
    rw [List.map_map]
    apply List.ext_getElem?
    intro i
    by_cases hi : i < l.length
    · simp [List.getElem?_zipIdx, hi]
    · simp [List.getElem?_zipIdx, hi]
  obtain ⟨recs, hrun, hok, hq⟩ := evd_run (K := fun infs e' => okInf l.toArray infs = true ∧ Q .normal e') _ e [] (fun x hx => by
    simp only [List.mem_map] at hx
    obtain ⟨⟨o, i⟩, hx, rfl⟩ := hx
    have := List.mem_zipIdx hx
    simp at this
    obtain ⟨h1, h2⟩ := this
    simp only [List.getElem?_toArray, List.getElem?_eq_some_iff]
    exact ⟨h1, h2.symm⟩) (fun x hx d hxd => by
    simp only [List.mem_map] at hx
    obtain ⟨⟨o, i⟩, hx, rfl⟩ := hx
    have := List.all_eq_true.1 hd o (List.fst_mem_of_mem_zipIdx hx)
    have hxd' : o.dst = some d := hxd
    rw [hxd'] at this
    rw [hn]
    simpa using this) h
  rw [hmap] at hrun
  intro st a w hr
  refine wp_region_draw fun t => ?_
  obtain ⟨m, hsch⟩ := hs t
  obtain ⟨e2, g1, g2, g3⟩ := sched_run hsch (τ := List.range l.length) (fun i => by simp) List.nodup_range hrun (okInf_pairs recs (by simpa using hok))
  have hrd : Rel st e a { w with drawn := w.drawn + 1 } := ⟨hr.defers, hr.size, fun i c v h1 h2 => (hr.tmps i c v h1 h2).frame hr.heap.shut (Fr.drew w st), hr.heap.drew⟩
  refine run_wp g1 hrd fun st' a' w' f1 f2 => ⟨folds e recs, st', hq, ?_, (Fr.drew w st).hist.trans f2⟩
  have hlen : (folds e recs).t.length = e2.t.length := by rw [folds_len, g2]
  have ht : (folds e recs).t = e2.t := by
    apply List.ext_getElem?
    intro i
    exact (look_slot (g3 (.s i)).symm)
  exact ⟨f1.defers, by rw [ht]; exact f1.size, fun i c v h1 h2 => f1.tmps i c v (by rw [← ht]; exact h1) h2, f1.heap.ext fun n => look_id (g3 (.h n)).symm⟩

/-! ### Schedules -/

/-- Every edge leads back. -/
def edgesBack (m : Region.Mode) (ops : Array Oper) : Bool := ops.toList.zipIdx.all fun x => x.1.after.all fun e => !Region.binds m e || decide (e.on < x.2)

theorem sched_back {m : Region.Mode} {ops : Array Oper} (h : edgesBack m ops = true) (t : Nat) : Sched m ops (Region.linearise m ops t) := by
  unfold Region.linearise
  refine lin_go (fun i => i) (fun i o ho e he hb => ?_) ops.size t _ [] (by simp) (fun i hi => by simp [hi]) List.nodup_nil (by simp) (by simp) (fun pre i post hp => by simp at hp)
  have hi : i < ops.size := (Array.getElem?_eq_some_iff.1 ho).1
  have := List.all_eq_true.1 h (o, i) (by
    rw [List.mem_zipIdx_iff_getElem?]
    simpa using ho)
  have := Array.all_eq_true_iff_forall_mem.1 this e he
  simp [hb] at this
  omega

/-- The same along an order that is given. -/
def edgesAlong (m : Region.Mode) (ops : Array Oper) (rank : List Nat) : Bool := ops.toList.zipIdx.all fun x => x.1.after.all fun e => !Region.binds m e || (decide (e.on < ops.size) && decide (rank.getD e.on 0 < rank.getD x.2 0))

theorem sched_along {m : Region.Mode} {ops : Array Oper} {rank : List Nat} (h : edgesAlong m ops rank = true) (t : Nat) : Sched m ops (Region.linearise m ops t) := by
  unfold Region.linearise
  refine lin_go (fun i => rank.getD i 0) (fun i o ho e he hb => ?_) ops.size t _ [] (by simp) (fun i hi => by simp [hi]) List.nodup_nil (by simp) (by simp) (fun pre i post hp => by simp at hp)
  have := List.all_eq_true.1 h (o, i) (by
    rw [List.mem_zipIdx_iff_getElem?]
    simpa using ho)
  have := Array.all_eq_true_iff_forall_mem.1 this e he
  simp [hb] at this
  simpa using this

theorem sched_plain {b : Bool} {ops : Array Oper} (hd : Region.departs ops = false) (h : edgesBack .any ops = true) (t : Nat) : ∃ m, Sched m ops (Region.schedule b ops t) := by
  refine ⟨.any, ?_⟩
  unfold Region.schedule
  rw [hd]
  simp only [Bool.not_false, Bool.or_true, if_true]
  exact sched_back h t

theorem sched_mixed {b : Bool} {ops : Array Oper} (hb : b = true) (h : edgesBack .any ops = true) (t : Nat) : ∃ m, Sched m ops (Region.schedule b ops t) := by
  refine ⟨.any, ?_⟩
  unfold Region.schedule
  rw [hb]
  simp only [Bool.true_or, if_true]
  exact sched_back h t

theorem sched_dep {ops : Array Oper} (rank : List Nat) (h1 : edgesBack .text ops = true) (h2 : edgesAlong .gc ops rank = true) (h3 : edgesBack .any ops = true) (b : Bool) (t : Nat) : ∃ m, Sched m ops (Region.schedule b ops t) := by
  unfold Region.schedule
  split
  · exact ⟨.any, sched_back h3 t⟩
  · split
    · exact ⟨.text, sched_back h1 _⟩
    · exact ⟨.gc, sched_along h2 _⟩

/-! ### Stepping -/

theorem evd_nil {P ops e acc K} : EvD P ops [] e acc K = K acc.reverse e := rfl

theorem evd_op_eq {P : Program} {ops : Array Oper} {i : Nat} {dst : Option Nat} {op : Op} {ty : TypeId} {pos : String} {aft : Array Edge} {os : List (Nat × Oper)} {e : Env} {acc : List Inf} {K : List Inf → Env → Prop}
    (hc : isCall ⟨dst, op, ty, pos, aft, none⟩ = false) :
    EvD P ops ((i, ⟨dst, op, ty, pos, aft, none⟩) :: os) e acc K = After (eff P ⟨dst, op, ty, pos, aft, none⟩ e) fun v ups => EvD P ops os (e.upd dst v ups) (⟨i, wkOf dst ups, rdOf ops ⟨dst, op, ty, pos, aft, none⟩ e⟩ :: acc) K := by
  apply propext
  constructor
  · rintro (⟨h, _⟩ | ⟨_, _, v, ups, hx, h⟩ | ⟨h, _⟩)
    · cases h
    · rw [hx]; exact h
    · rw [hc] at h; cases h
  · intro h
    unfold After at h
    split at h
    · rename_i v ups he
      exact .inr (.inl ⟨rfl, hc, v, ups, he, h⟩)
    · exact h.elim

def WaysD (b : Option Bool) (P : Program) (ops : Array Oper) (i : Nat) (dst : Option Nat) (op : Op) (ty : TypeId) (pos : String) (aft : Array Edge) (g : Nat × Bool) (os : List (Nat × Oper)) (e : Env) (acc : List Inf) (K : List Inf → Env → Prop) : Prop :=
  match b with
  | some c => if c then After (eff P ⟨dst, op, ty, pos, aft, none⟩ e) fun v ups => EvD P ops os (e.upd dst v ups) (⟨i, wkOf dst ups, rdOf ops ⟨dst, op, ty, pos, aft, some g⟩ e⟩ :: acc) K
    else EvD P ops os (e.upd dst (.tup []) []) (⟨i, wkOf dst [], rdOf ops ⟨dst, op, ty, pos, aft, some g⟩ e⟩ :: acc) K
  | none => False

section
variable {P : Program} {ops : Array Oper} {i : Nat} {dst : Option Nat} {op : Op} {ty : TypeId} {pos : String} {aft : Array Edge} {g : Nat × Bool} {os : List (Nat × Oper)} {e : Env} {acc : List Inf} {K : List Inf → Env → Prop}
@[go_sem] theorem waysd_true : WaysD (some true) P ops i dst op ty pos aft g os e acc K = After (eff P ⟨dst, op, ty, pos, aft, none⟩ e) fun v ups => EvD P ops os (e.upd dst v ups) (⟨i, wkOf dst ups, rdOf ops ⟨dst, op, ty, pos, aft, some g⟩ e⟩ :: acc) K := by simp [WaysD]
@[go_sem] theorem waysd_false : WaysD (some false) P ops i dst op ty pos aft g os e acc K = EvD P ops os (e.upd dst (.tup []) []) (⟨i, wkOf dst [], rdOf ops ⟨dst, op, ty, pos, aft, some g⟩ e⟩ :: acc) K := by simp [WaysD]
theorem waysd_if {c : Bool} (hn : c = false → WaysD (some false) P ops i dst op ty pos aft g os e acc K) (hy : c = true → WaysD (some true) P ops i dst op ty pos aft g os e acc K) : WaysD (some c) P ops i dst op ty pos aft g os e acc K := by
  cases c
  · exact hn rfl
  · exact hy rfl
theorem waysd_not {c : Bool} (hn : c = true → WaysD (some false) P ops i dst op ty pos aft g os e acc K) (hy : c = false → WaysD (some true) P ops i dst op ty pos aft g os e acc K) : WaysD (some (!c)) P ops i dst op ty pos aft g os e acc K := by
  cases c
  · exact hy rfl
  · exact hn rfl

theorem evd_guard {P : Program} {ops : Array Oper} {i : Nat} {dst : Option Nat} {op : Op} {ty : TypeId} {pos : String} {aft : Array Edge} {g : Nat × Bool} {os : List (Nat × Oper)} {e : Env} {acc : List Inf} {K : List Inf → Env → Prop}
    (hc : isCall ⟨dst, op, ty, pos, aft, none⟩ = false) :
    EvD P ops ((i, ⟨dst, op, ty, pos, aft, some g⟩) :: os) e acc K = WaysD (gd ops e ⟨dst, op, ty, pos, aft, some g⟩) P ops i dst op ty pos aft g os e acc K := by
  have hc' : isCall ⟨dst, op, ty, pos, aft, some g⟩ = false := hc
  have heff : eff P ⟨dst, op, ty, pos, aft, some g⟩ e = eff P ⟨dst, op, ty, pos, aft, none⟩ e := rfl
  apply propext
  constructor
  · rintro (⟨h, h2⟩ | ⟨h, _, v, ups, hx, h2⟩ | ⟨h, _⟩)
    · rw [h, waysd_false]; exact h2
    · rw [h, waysd_true, ← heff, hx]; exact h2
    · rw [hc'] at h; cases h
  · intro h
    cases hb : gd ops e ⟨dst, op, ty, pos, aft, some g⟩ with
    | none => rw [hb] at h; exact h.elim
    | some c =>
      rw [hb] at h
      cases c with
      | false => rw [waysd_false] at h; exact .inl ⟨hb, h⟩
      | true =>
        rw [waysd_true] at h
        unfold After at h
        split at h
        · rename_i v ups he
          exact .inr (.inl ⟨hb, hc', v, ups, he, h⟩)
        · exact h.elim
end

/-- A call in such a region: of what is sealed alone. -/
theorem evd_call {P : Program} {ops : Array Oper} {i : Nat} {dst : Option Nat} {x : Operand} {args : Array Operand} {ats : Array TypeId} {ty : TypeId} {pos : String} {aft : Array Edge} {os : List (Nat × Oper)} {e : Env} {acc : List Inf} {K : List Inf → Env → Prop}
    {f : FuncId} {caps vs : List V} {r : V} (hx : e.ev x = .fn (.func f) caps) (ha : args.toList.map e.ev ++ caps = vs) (hi : V.idfreeL vs = true) (hp : PC P f vs r)
    (h : EvD P ops os (e.upd dst r []) (⟨i, wkOf dst [], rdOf ops ⟨dst, .call ⟨.value x, args, ats⟩, ty, pos, aft, none⟩ e⟩ :: acc) K) : EvD P ops ((i, ⟨dst, .call ⟨.value x, args, ats⟩, ty, pos, aft, none⟩) :: os) e acc K := by
  subst ha
  refine .inr (.inr ⟨rfl, r, _, fun e2 hk => ?_, h⟩)
  have hev : ∀ y ∈ #[x].toList ++ args.toList, e2.ev y = e.ev y := by
    intro y hy
    cases y with
    | tmp t =>
      have := look_slot (hk (.s t) (by
        unfold rdOf
        simp only [List.mem_append, List.mem_flatMap]
        refine .inl (.inl ⟨.tmp t, ?_, by simp [slotOf]⟩)
        simp only [Op.operands, Call.operands, Array.toList_append]
        exact hy))
      simp only [Env.ev, List.getD_eq_getElem?_getD, this]
    | _ => rfl
  have hargs : args.toList.map e2.ev = args.toList.map e.ev := List.map_congr_left fun y hy => hev y (by simp; exact .inr (by simpa using hy))
  refine ⟨rfl, f, caps, by rw [hev x (by simp)]; exact hx, ?_, rfl⟩
  show CallOk P e2.h f (args.toList.map e2.ev ++ caps) r
  rw [hargs]
  exact .pure hi hp

section
variable {P : Program} {ops : Array Oper} {i : Nat} {dst : Option Nat} {ty : TypeId} {pos : String} {aft : Array Edge} {g : Nat × Bool} {os : List (Nat × Oper)} {e : Env} {acc : List Inf} {K : List Inf → Env → Prop}
theorem evd_move (x : Operand) : EvD P ops ((i, ⟨dst, (.move x), ty, pos, aft, none⟩) :: os) e acc K = After (eff P ⟨dst, (.move x), ty, pos, aft, none⟩ e) fun v ups => EvD P ops os (e.upd dst v ups) (⟨i, wkOf dst ups, rdOf ops ⟨dst, (.move x), ty, pos, aft, none⟩ e⟩ :: acc) K := evd_op_eq rfl
theorem evdg_move (x : Operand) : EvD P ops ((i, ⟨dst, (.move x), ty, pos, aft, some g⟩) :: os) e acc K = WaysD (gd ops e ⟨dst, (.move x), ty, pos, aft, some g⟩) P ops i dst (.move x) ty pos aft g os e acc K := evd_guard rfl
theorem evd_assign (x : Operand) : EvD P ops ((i, ⟨dst, (.assign x), ty, pos, aft, none⟩) :: os) e acc K = After (eff P ⟨dst, (.assign x), ty, pos, aft, none⟩ e) fun v ups => EvD P ops os (e.upd dst v ups) (⟨i, wkOf dst ups, rdOf ops ⟨dst, (.assign x), ty, pos, aft, none⟩ e⟩ :: acc) K := evd_op_eq rfl
theorem evdg_assign (x : Operand) : EvD P ops ((i, ⟨dst, (.assign x), ty, pos, aft, some g⟩) :: os) e acc K = WaysD (gd ops e ⟨dst, (.assign x), ty, pos, aft, some g⟩) P ops i dst (.assign x) ty pos aft g os e acc K := evd_guard rfl
theorem evd_pick (a b c : Operand) : EvD P ops ((i, ⟨dst, (.pick a b c), ty, pos, aft, none⟩) :: os) e acc K = After (eff P ⟨dst, (.pick a b c), ty, pos, aft, none⟩ e) fun v ups => EvD P ops os (e.upd dst v ups) (⟨i, wkOf dst ups, rdOf ops ⟨dst, (.pick a b c), ty, pos, aft, none⟩ e⟩ :: acc) K := evd_op_eq rfl
theorem evdg_pick (a b c : Operand) : EvD P ops ((i, ⟨dst, (.pick a b c), ty, pos, aft, some g⟩) :: os) e acc K = WaysD (gd ops e ⟨dst, (.pick a b c), ty, pos, aft, some g⟩) P ops i dst (.pick a b c) ty pos aft g os e acc K := evd_guard rfl
theorem evd_alloc (t : TypeId) : EvD P ops ((i, ⟨dst, (.alloc t), ty, pos, aft, none⟩) :: os) e acc K = After (eff P ⟨dst, (.alloc t), ty, pos, aft, none⟩ e) fun v ups => EvD P ops os (e.upd dst v ups) (⟨i, wkOf dst ups, rdOf ops ⟨dst, (.alloc t), ty, pos, aft, none⟩ e⟩ :: acc) K := evd_op_eq rfl
theorem evdg_alloc (t : TypeId) : EvD P ops ((i, ⟨dst, (.alloc t), ty, pos, aft, some g⟩) :: os) e acc K = WaysD (gd ops e ⟨dst, (.alloc t), ty, pos, aft, some g⟩) P ops i dst (.alloc t) ty pos aft g os e acc K := evd_guard rfl
theorem evd_box (t : TypeId) (x : Operand) : EvD P ops ((i, ⟨dst, (.box t x), ty, pos, aft, none⟩) :: os) e acc K = After (eff P ⟨dst, (.box t x), ty, pos, aft, none⟩ e) fun v ups => EvD P ops os (e.upd dst v ups) (⟨i, wkOf dst ups, rdOf ops ⟨dst, (.box t x), ty, pos, aft, none⟩ e⟩ :: acc) K := evd_op_eq rfl
theorem evdg_box (t : TypeId) (x : Operand) : EvD P ops ((i, ⟨dst, (.box t x), ty, pos, aft, some g⟩) :: os) e acc K = WaysD (gd ops e ⟨dst, (.box t x), ty, pos, aft, some g⟩) P ops i dst (.box t x) ty pos aft g os e acc K := evd_guard rfl
theorem evd_build (t : TypeId) (x : Array (Nat × Operand)) : EvD P ops ((i, ⟨dst, (.build t x), ty, pos, aft, none⟩) :: os) e acc K = After (eff P ⟨dst, (.build t x), ty, pos, aft, none⟩ e) fun v ups => EvD P ops os (e.upd dst v ups) (⟨i, wkOf dst ups, rdOf ops ⟨dst, (.build t x), ty, pos, aft, none⟩ e⟩ :: acc) K := evd_op_eq rfl
theorem evdg_build (t : TypeId) (x : Array (Nat × Operand)) : EvD P ops ((i, ⟨dst, (.build t x), ty, pos, aft, some g⟩) :: os) e acc K = WaysD (gd ops e ⟨dst, (.build t x), ty, pos, aft, some g⟩) P ops i dst (.build t x) ty pos aft g os e acc K := evd_guard rfl
theorem evd_buildSlice (t n : Nat) (x : Array (Nat × Operand)) : EvD P ops ((i, ⟨dst, (.buildSlice t n x), ty, pos, aft, none⟩) :: os) e acc K = After (eff P ⟨dst, (.buildSlice t n x), ty, pos, aft, none⟩ e) fun v ups => EvD P ops os (e.upd dst v ups) (⟨i, wkOf dst ups, rdOf ops ⟨dst, (.buildSlice t n x), ty, pos, aft, none⟩ e⟩ :: acc) K := evd_op_eq rfl
theorem evdg_buildSlice (t n : Nat) (x : Array (Nat × Operand)) : EvD P ops ((i, ⟨dst, (.buildSlice t n x), ty, pos, aft, some g⟩) :: os) e acc K = WaysD (gd ops e ⟨dst, (.buildSlice t n x), ty, pos, aft, some g⟩) P ops i dst (.buildSlice t n x) ty pos aft g os e acc K := evd_guard rfl
theorem evd_load (t : TypeId) (x : Operand) : EvD P ops ((i, ⟨dst, (.load t x), ty, pos, aft, none⟩) :: os) e acc K = After (eff P ⟨dst, (.load t x), ty, pos, aft, none⟩ e) fun v ups => EvD P ops os (e.upd dst v ups) (⟨i, wkOf dst ups, rdOf ops ⟨dst, (.load t x), ty, pos, aft, none⟩ e⟩ :: acc) K := evd_op_eq rfl
theorem evdg_load (t : TypeId) (x : Operand) : EvD P ops ((i, ⟨dst, (.load t x), ty, pos, aft, some g⟩) :: os) e acc K = WaysD (gd ops e ⟨dst, (.load t x), ty, pos, aft, some g⟩) P ops i dst (.load t x) ty pos aft g os e acc K := evd_guard rfl
theorem evd_store (t : TypeId) (x y : Operand) : EvD P ops ((i, ⟨dst, (.store t x y), ty, pos, aft, none⟩) :: os) e acc K = After (eff P ⟨dst, (.store t x y), ty, pos, aft, none⟩ e) fun v ups => EvD P ops os (e.upd dst v ups) (⟨i, wkOf dst ups, rdOf ops ⟨dst, (.store t x y), ty, pos, aft, none⟩ e⟩ :: acc) K := evd_op_eq rfl
theorem evdg_store (t : TypeId) (x y : Operand) : EvD P ops ((i, ⟨dst, (.store t x y), ty, pos, aft, some g⟩) :: os) e acc K = WaysD (gd ops e ⟨dst, (.store t x y), ty, pos, aft, some g⟩) P ops i dst (.store t x y) ty pos aft g os e acc K := evd_guard rfl
theorem evd_nilCheck (x : Operand) : EvD P ops ((i, ⟨dst, (.nilCheck x), ty, pos, aft, none⟩) :: os) e acc K = After (eff P ⟨dst, (.nilCheck x), ty, pos, aft, none⟩ e) fun v ups => EvD P ops os (e.upd dst v ups) (⟨i, wkOf dst ups, rdOf ops ⟨dst, (.nilCheck x), ty, pos, aft, none⟩ e⟩ :: acc) K := evd_op_eq rfl
theorem evdg_nilCheck (x : Operand) : EvD P ops ((i, ⟨dst, (.nilCheck x), ty, pos, aft, some g⟩) :: os) e acc K = WaysD (gd ops e ⟨dst, (.nilCheck x), ty, pos, aft, some g⟩) P ops i dst (.nilCheck x) ty pos aft g os e acc K := evd_guard rfl
theorem evd_binOp (op : BinOp) (t u : TypeId) (x y : Operand) : EvD P ops ((i, ⟨dst, (.binOp op t x y u), ty, pos, aft, none⟩) :: os) e acc K = After (eff P ⟨dst, (.binOp op t x y u), ty, pos, aft, none⟩ e) fun v ups => EvD P ops os (e.upd dst v ups) (⟨i, wkOf dst ups, rdOf ops ⟨dst, (.binOp op t x y u), ty, pos, aft, none⟩ e⟩ :: acc) K := evd_op_eq rfl
theorem evdg_binOp (op : BinOp) (t u : TypeId) (x y : Operand) : EvD P ops ((i, ⟨dst, (.binOp op t x y u), ty, pos, aft, some g⟩) :: os) e acc K = WaysD (gd ops e ⟨dst, (.binOp op t x y u), ty, pos, aft, some g⟩) P ops i dst (.binOp op t x y u) ty pos aft g os e acc K := evd_guard rfl
theorem evd_unOp (op : UnOp) (t : TypeId) (x : Operand) : EvD P ops ((i, ⟨dst, (.unOp op t x), ty, pos, aft, none⟩) :: os) e acc K = After (eff P ⟨dst, (.unOp op t x), ty, pos, aft, none⟩ e) fun v ups => EvD P ops os (e.upd dst v ups) (⟨i, wkOf dst ups, rdOf ops ⟨dst, (.unOp op t x), ty, pos, aft, none⟩ e⟩ :: acc) K := evd_op_eq rfl
theorem evdg_unOp (op : UnOp) (t : TypeId) (x : Operand) : EvD P ops ((i, ⟨dst, (.unOp op t x), ty, pos, aft, some g⟩) :: os) e acc K = WaysD (gd ops e ⟨dst, (.unOp op t x), ty, pos, aft, some g⟩) P ops i dst (.unOp op t x) ty pos aft g os e acc K := evd_guard rfl
theorem evd_convert (t u : TypeId) (x : Operand) : EvD P ops ((i, ⟨dst, (.convert t u x), ty, pos, aft, none⟩) :: os) e acc K = After (eff P ⟨dst, (.convert t u x), ty, pos, aft, none⟩ e) fun v ups => EvD P ops os (e.upd dst v ups) (⟨i, wkOf dst ups, rdOf ops ⟨dst, (.convert t u x), ty, pos, aft, none⟩ e⟩ :: acc) K := evd_op_eq rfl
theorem evdg_convert (t u : TypeId) (x : Operand) : EvD P ops ((i, ⟨dst, (.convert t u x), ty, pos, aft, some g⟩) :: os) e acc K = WaysD (gd ops e ⟨dst, (.convert t u x), ty, pos, aft, some g⟩) P ops i dst (.convert t u x) ty pos aft g os e acc K := evd_guard rfl
theorem evd_makeFunc (f : Fn) (a b : Array Operand) : EvD P ops ((i, ⟨dst, (.makeFunc f a b), ty, pos, aft, none⟩) :: os) e acc K = After (eff P ⟨dst, (.makeFunc f a b), ty, pos, aft, none⟩ e) fun v ups => EvD P ops os (e.upd dst v ups) (⟨i, wkOf dst ups, rdOf ops ⟨dst, (.makeFunc f a b), ty, pos, aft, none⟩ e⟩ :: acc) K := evd_op_eq rfl
theorem evdg_makeFunc (f : Fn) (a b : Array Operand) : EvD P ops ((i, ⟨dst, (.makeFunc f a b), ty, pos, aft, some g⟩) :: os) e acc K = WaysD (gd ops e ⟨dst, (.makeFunc f a b), ty, pos, aft, some g⟩) P ops i dst (.makeFunc f a b) ty pos aft g os e acc K := evd_guard rfl
theorem evd_makeSlice (t : TypeId) (x y : Operand) : EvD P ops ((i, ⟨dst, (.makeSlice t x y), ty, pos, aft, none⟩) :: os) e acc K = After (eff P ⟨dst, (.makeSlice t x y), ty, pos, aft, none⟩ e) fun v ups => EvD P ops os (e.upd dst v ups) (⟨i, wkOf dst ups, rdOf ops ⟨dst, (.makeSlice t x y), ty, pos, aft, none⟩ e⟩ :: acc) K := evd_op_eq rfl
theorem evdg_makeSlice (t : TypeId) (x y : Operand) : EvD P ops ((i, ⟨dst, (.makeSlice t x y), ty, pos, aft, some g⟩) :: os) e acc K = WaysD (gd ops e ⟨dst, (.makeSlice t x y), ty, pos, aft, some g⟩) P ops i dst (.makeSlice t x y) ty pos aft g os e acc K := evd_guard rfl
theorem evd_slice (t : TypeId) (x : Operand) (a b c : Option Operand) : EvD P ops ((i, ⟨dst, (.slice t x a b c), ty, pos, aft, none⟩) :: os) e acc K = After (eff P ⟨dst, (.slice t x a b c), ty, pos, aft, none⟩ e) fun v ups => EvD P ops os (e.upd dst v ups) (⟨i, wkOf dst ups, rdOf ops ⟨dst, (.slice t x a b c), ty, pos, aft, none⟩ e⟩ :: acc) K := evd_op_eq rfl
theorem evdg_slice (t : TypeId) (x : Operand) (a b c : Option Operand) : EvD P ops ((i, ⟨dst, (.slice t x a b c), ty, pos, aft, some g⟩) :: os) e acc K = WaysD (gd ops e ⟨dst, (.slice t x a b c), ty, pos, aft, some g⟩) P ops i dst (.slice t x a b c) ty pos aft g os e acc K := evd_guard rfl
theorem evd_fieldAddr (t f : Nat) (x : Operand) : EvD P ops ((i, ⟨dst, (.fieldAddr t x f), ty, pos, aft, none⟩) :: os) e acc K = After (eff P ⟨dst, (.fieldAddr t x f), ty, pos, aft, none⟩ e) fun v ups => EvD P ops os (e.upd dst v ups) (⟨i, wkOf dst ups, rdOf ops ⟨dst, (.fieldAddr t x f), ty, pos, aft, none⟩ e⟩ :: acc) K := evd_op_eq rfl
theorem evdg_fieldAddr (t f : Nat) (x : Operand) : EvD P ops ((i, ⟨dst, (.fieldAddr t x f), ty, pos, aft, some g⟩) :: os) e acc K = WaysD (gd ops e ⟨dst, (.fieldAddr t x f), ty, pos, aft, some g⟩) P ops i dst (.fieldAddr t x f) ty pos aft g os e acc K := evd_guard rfl
theorem evd_field (t f : Nat) (x : Operand) : EvD P ops ((i, ⟨dst, (.field t x f), ty, pos, aft, none⟩) :: os) e acc K = After (eff P ⟨dst, (.field t x f), ty, pos, aft, none⟩ e) fun v ups => EvD P ops os (e.upd dst v ups) (⟨i, wkOf dst ups, rdOf ops ⟨dst, (.field t x f), ty, pos, aft, none⟩ e⟩ :: acc) K := evd_op_eq rfl
theorem evdg_field (t f : Nat) (x : Operand) : EvD P ops ((i, ⟨dst, (.field t x f), ty, pos, aft, some g⟩) :: os) e acc K = WaysD (gd ops e ⟨dst, (.field t x f), ty, pos, aft, some g⟩) P ops i dst (.field t x f) ty pos aft g os e acc K := evd_guard rfl
theorem evd_indexAddr (t : TypeId) (x y : Operand) : EvD P ops ((i, ⟨dst, (.indexAddr t x y), ty, pos, aft, none⟩) :: os) e acc K = After (eff P ⟨dst, (.indexAddr t x y), ty, pos, aft, none⟩ e) fun v ups => EvD P ops os (e.upd dst v ups) (⟨i, wkOf dst ups, rdOf ops ⟨dst, (.indexAddr t x y), ty, pos, aft, none⟩ e⟩ :: acc) K := evd_op_eq rfl
theorem evdg_indexAddr (t : TypeId) (x y : Operand) : EvD P ops ((i, ⟨dst, (.indexAddr t x y), ty, pos, aft, some g⟩) :: os) e acc K = WaysD (gd ops e ⟨dst, (.indexAddr t x y), ty, pos, aft, some g⟩) P ops i dst (.indexAddr t x y) ty pos aft g os e acc K := evd_guard rfl
theorem evd_index (t : TypeId) (x y : Operand) : EvD P ops ((i, ⟨dst, (.index t x y), ty, pos, aft, none⟩) :: os) e acc K = After (eff P ⟨dst, (.index t x y), ty, pos, aft, none⟩ e) fun v ups => EvD P ops os (e.upd dst v ups) (⟨i, wkOf dst ups, rdOf ops ⟨dst, (.index t x y), ty, pos, aft, none⟩ e⟩ :: acc) K := evd_op_eq rfl
theorem evdg_index (t : TypeId) (x y : Operand) : EvD P ops ((i, ⟨dst, (.index t x y), ty, pos, aft, some g⟩) :: os) e acc K = WaysD (gd ops e ⟨dst, (.index t x y), ty, pos, aft, some g⟩) P ops i dst (.index t x y) ty pos aft g os e acc K := evd_guard rfl
theorem evd_extract (x : Operand) (k : Nat) : EvD P ops ((i, ⟨dst, (.extract x k), ty, pos, aft, none⟩) :: os) e acc K = After (eff P ⟨dst, (.extract x k), ty, pos, aft, none⟩ e) fun v ups => EvD P ops os (e.upd dst v ups) (⟨i, wkOf dst ups, rdOf ops ⟨dst, (.extract x k), ty, pos, aft, none⟩ e⟩ :: acc) K := evd_op_eq rfl
theorem evdg_extract (x : Operand) (k : Nat) : EvD P ops ((i, ⟨dst, (.extract x k), ty, pos, aft, some g⟩) :: os) e acc K = WaysD (gd ops e ⟨dst, (.extract x k), ty, pos, aft, some g⟩) P ops i dst (.extract x k) ty pos aft g os e acc K := evd_guard rfl
theorem evd_builtin (b : Builtin) (a : Array Operand) (t : Array TypeId) : EvD P ops ((i, ⟨dst, (.call ⟨.builtin b, a, t⟩), ty, pos, aft, none⟩) :: os) e acc K = After (eff P ⟨dst, (.call ⟨.builtin b, a, t⟩), ty, pos, aft, none⟩ e) fun v ups => EvD P ops os (e.upd dst v ups) (⟨i, wkOf dst ups, rdOf ops ⟨dst, (.call ⟨.builtin b, a, t⟩), ty, pos, aft, none⟩ e⟩ :: acc) K := evd_op_eq rfl
theorem evdg_builtin (b : Builtin) (a : Array Operand) (t : Array TypeId) : EvD P ops ((i, ⟨dst, (.call ⟨.builtin b, a, t⟩), ty, pos, aft, some g⟩) :: os) e acc K = WaysD (gd ops e ⟨dst, (.call ⟨.builtin b, a, t⟩), ty, pos, aft, some g⟩) P ops i dst (.call ⟨.builtin b, a, t⟩) ty pos aft g os e acc K := evd_guard rfl
end

attribute [go_sem] evd_nil rdOf slotOf idOf V.tok wkOf Op.operands Call.operands List.flatMap_cons List.flatMap_nil List.zipIdx_cons List.zipIdx_nil List.map_cons List.map_nil List.append_toArray
  List.reverse_cons List.reverse_nil Option.toArray_some Option.toArray_none

end Go.PG
