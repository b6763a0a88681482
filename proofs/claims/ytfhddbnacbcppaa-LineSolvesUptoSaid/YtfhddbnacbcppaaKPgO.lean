/- The engine: code over frames, loops, and how a function's contract follows. -/
import Derived.Test.YtfhddbnacbcppaaKPgN
set_option linter.unusedVariables false
set_option linter.unnecessarySimpa false
set_option linter.unusedSimpArgs false
namespace Go.PG

abbrev Post := Exit → Env → Prop

/-- Code over frames. -/
def Tr (P : Program) (c : Code) (e : Env) (Q : Post) : Prop :=
  ∀ st a w, Rel st e a w → c.wp P (fun x a' w' => ∃ e' st', Q x e' ∧ Rel st' e' a' w' ∧ Hist w st w' st') a w

def Post.andThen (k : Env → Prop) (Q : Post) : Post
  | .normal, e => k e
  | x, e => Q x e

def Post.inBlock (id : Nat) (Q : Post) : Post
  | .exit j, e => if j = id then Q .normal e else Q (.exit j) e
  | x, e => Q x e

theorem Tr.mono {P c e} {Q Q' : Post} (h : Tr P c e Q) (hq : ∀ x e, Q x e → Q' x e) : Tr P c e Q' :=
  fun st a w hr => wp_mono (h st a w hr) fun _ _ _ ⟨e', st', h1, h2, h3⟩ => ⟨e', st', hq _ _ h1, h2, h3⟩

theorem tr_seq {P x y e} {Q : Post} (h : Tr P x e (Post.andThen (fun e' => Tr P y e' Q) Q)) : Tr P (.seq x y) e Q := by
  intro st a w hr
  refine wp_seq (wp_mono (h st a w hr) ?_)
  rintro ex a' w' ⟨e', st', h1, h2, h3⟩
  cases ex with
  | normal => exact wp_mono (h1 st' a' w' h2) fun _ _ _ ⟨e2, st2, g1, g2, g3⟩ => ⟨e2, st2, g1, g2, h3.trans g3⟩
  | _ => exact ⟨e', st', h1, h2, h3⟩

theorem tr_skip {P e} {Q : Post} (h : Q .normal e) : Tr P .skip e Q := fun st _ w hr => wp_skip ⟨e, st, h, hr, Hist.refl w st⟩
theorem tr_label {P e l} {Q : Post} (h : Q .normal e) : Tr P (.label l) e Q := fun st _ w hr => wp_label ⟨e, st, h, hr, Hist.refl w st⟩
theorem tr_ret {P e} {Q : Post} (h : Q .ret e) : Tr P .ret e Q := fun st _ w hr => wp_ret ⟨e, st, h, hr, Hist.refl w st⟩
theorem tr_exit {P e id} {Q : Post} (h : Q (.exit id) e) : Tr P (.exit id) e Q := fun st _ w hr => wp_exit ⟨e, st, h, hr, Hist.refl w st⟩

theorem tr_cond {P c x y e b} {Q : Post} (hc : e.ev c = .bool b) (ht : b = true → Tr P x e Q) (hf : b = false → Tr P y e Q) : Tr P (.cond c x y) e Q := by
  intro st a w hr
  have := hr.ev c
  rw [hc] at this
  exact wp_cond_split (rep_bool this) (fun h => ht h st a w hr) (fun h => hf h st a w hr)

theorem tr_block {P id c e} {Q : Post} (h : Tr P c e (Post.inBlock id Q)) : Tr P (.block id c) e Q := by
  intro st a w hr
  refine wp_block (wp_mono (h st a w hr) ?_)
  rintro ex a' w' ⟨e', st', h1, h2, h3⟩
  cases ex with
  | exit j =>
    simp only [Post.inBlock, Exit.inBlock] at h1 ⊢
    split <;> rename_i hj
    · rw [if_pos hj] at h1; exact ⟨e', st', h1, h2, h3⟩
    · rw [if_neg hj] at h1; exact ⟨e', st', h1, h2, h3⟩
  | _ => exact ⟨e', st', h1, h2, h3⟩

theorem tr_region {P id e} {ops : Array Oper} {Q : Post} (h : ∃ e', Run P ops (List.range ops.size) e e' ∧ Q .normal e') : Tr P (.region id ops false) e Q := by
  obtain ⟨e', h1, h2⟩ := h
  intro st a w hr
  exact wp_region (run_wp h1 hr fun st' a' w' g1 g2 => ⟨e', st', h2, g1, g2⟩)

theorem tr_le {P c e e'} {Q : Post} (hl : Le e e') (h : Tr P c e' Q) : Tr P c e Q := by
  intro st a w hr
  obtain ⟨st', hr', hf⟩ := hl st a w hr
  exact wp_mono (h st' a w hr') fun _ _ _ ⟨e2, st2, g1, g2, g3⟩ => ⟨e2, st2, g1, g2, hf.trans g3⟩

/-- A loop: a state s that every round lowers; E s is the frame at a round's head. -/
theorem tr_loop {P c e} {Q : Post} {ι : Type} (E : ι → Env) (I : ι → Prop) (μ : ι → Nat) (s0 : ι) (h0 : I s0) (hl : Le e (E s0))
    (hr : ∀ s, I s → Tr P c (E s) (Post.andThen (fun e' => ∃ s', I s' ∧ μ s' < μ s ∧ Le e' (E s')) Q)) : Tr P (.loop c) e Q := by
  refine tr_le hl ?_
  intro st0 a0 w0 hrel0 b k cs
  have key : ∀ n s a w st, μ s = n → I s → Rel st (E s) a w →
      ∃ ex a' w', (∃ e' st', Q ex e' ∧ Rel st' e' a' w' ∧ Hist w st w' st') ∧ Arrives P (lone (b.at a (.code c :: .inLoop c :: k)) cs w) b k cs ex a' w' := by
    intro n
    induction n using Nat.strongRecOn with
    | _ n ih =>
      intro s a w st hn hI hrel
      obtain ⟨ex, a1, w1, ⟨e1, st1, hq, hrel1, hf1⟩, harr⟩ := hr s hI st a w hrel b (.inLoop c :: k) cs
      cases ex with
      | normal =>
        obtain ⟨s', hI', hlt, hle⟩ := hq
        obtain ⟨st2, hrel2, hf2⟩ := hle st1 a1 w1 hrel1
        obtain ⟨ex2, a2, w2, ⟨e2, st3, hq2, hrel3, hf3⟩, harr2⟩ := ih (μ s') (hn ▸ hlt) s' a1 w1 st2 rfl hI' hrel2
        exact ⟨ex2, a2, w2, ⟨e2, st3, hq2, hrel3, (hf1.trans hf2).trans hf3⟩, .of_steps (Steps.trans harr (.one step_inLoop)) harr2⟩
      | exit id => exact ⟨_, a1, w1, ⟨e1, st1, hq, hrel1, hf1⟩, .pass (x := .inLoop c) rfl (fun _ _ => .inl (by simp)) harr⟩
      | goto l => exact ⟨_, a1, w1, ⟨e1, st1, hq, hrel1, hf1⟩, .pass (x := .inLoop c) rfl (fun _ _ => .inl (by simp)) harr⟩
      | ret => exact ⟨_, a1, w1, ⟨e1, st1, hq, hrel1, hf1⟩, .pass (x := .inLoop c) rfl (fun _ _ => .inl (by simp)) harr⟩
      | panic ch => exact ⟨_, a1, w1, ⟨e1, st1, hq, hrel1, hf1⟩, .pass (x := .inLoop c) rfl (fun _ _ => .inl (by simp)) harr⟩
      | outgrown => exact ⟨_, a1, w1, ⟨e1, st1, hq, hrel1, hf1⟩, .pass (x := .inLoop c) rfl (fun _ _ => .inl (by simp)) harr⟩
  obtain ⟨ex, a', w', hq, harr⟩ := key _ s0 a0 w0 st0 rfl h0 hrel0
  exact ⟨ex, a', w', hq, .of_steps (.one step_loop) harr⟩

/-- Less is known: some slots are dead, a nil slice is an id's window, or a sealed list. -/
def V.le (c c' : V) : Prop := c' = .dead ∨ c = c' ∨ (c = .nil ∧ ∃ sz, c' = .sl sz []) 

theorem V.le_rep {w st} {c c' : V} {v : Value} (h : V.le c c') (hr : Rep w st c v) : Rep w st c' v := by
  rcases h with rfl | rfl | ⟨rfl, sz, rfl⟩
  · exact .dead
  · exact hr
  · rw [rep_nil hr]; exact .s .slnil

/-- The results of a function. -/
def resOf (P : Program) (e : Env) : ResultVar → Option V
  | .tmp t => resV e.h 4 (e.t.getD t .dead)
  | .cell t ty => (effLoad P ty (e.t.getD t .dead) e.h).bind (resV e.h 4)

def resAll (P : Program) (e : Env) (rs : List ResultVar) : Option V :=
  match rs.mapM (resOf P e) with
  | some [v] => some v
  | some vs => some (.tup vs)
  | none => none

/-- What a function's results read as, once nobody changes anything any more. -/
theorem res_ok {P : Program} {st e a w} (hr : Rel st e a w) (rv : ResultVar) {v : V} (he : resOf P e rv = some v) :
    ∃ m, (match rv with | .tmp t => pure (a.tmps.getD t undef) | .cell t ty => do loadVar ty (← asAddr (a.tmps.getD t undef)) : Sem Value).run P w = .ok m w ∧ RepS w (okS st) v m := by
  cases rv with
  | tmp t => exact ⟨_, rfl, resV_ok hr.heap 4 _ v _ (hr.ev (.tmp t)) he⟩
  | cell t ty =>
    simp only [resOf, Option.bind_eq_some_iff] at he
    obtain ⟨c, h1, h2⟩ := he
    obtain ⟨ad, u, g1, g2, g3⟩ := load_spec (hr.ev (.tmp t)) hr.heap h1
    refine ⟨u, ?_, resV_ok hr.heap 4 c v u g3 h2⟩
    have g1' : a.tmps.getD t undef = .pointer (some ad) := g1
    simp only [g1', asAddr, pure_bind, g2]

theorem mapM_res {P : Program} {st e a w} (hr : Rel st e a w) : ∀ (rs : List ResultVar) (vs : List V), rs.mapM (resOf P e) = some vs →
    ∃ ms : List Value, (rs.mapM (m := Sem) fun | .tmp t => pure (a.tmps.getD t undef) | .cell t ty => do loadVar ty (← asAddr (a.tmps.getD t undef))).run P w = .ok ms w ∧ ms.length = vs.length ∧
      ∀ (j : Nat) (c : V) (m : Value), vs[j]? = some c → ms[j]? = some m → RepS w (okS st) c m
  | [], vs, h => by simp at h; subst h; exact ⟨[], rfl, rfl, by simp⟩
  | rv :: rs, vs, h => by
    simp only [List.mapM_cons, Option.bind_eq_bind, Option.bind_eq_some_iff, Option.pure_def, Option.some.injEq] at h
    obtain ⟨v, hv, vs', hvs, rfl⟩ := h
    obtain ⟨m, r1, r2⟩ := res_ok hr rv hv
    obtain ⟨ms, s1, s2, s3⟩ := mapM_res hr rs vs' hvs
    refine ⟨m :: ms, ?_, by simp [s2], fun j c x hc hx => ?_⟩
    · rw [List.mapM_cons, Sem.run_bind]
      have r1' := r1
      cases rv with
      | tmp t => simp only [] at r1' ⊢; rw [r1', Result.andThen_ok, Sem.run_bind, s1]; rfl
      | cell t ty => simp only [] at r1' ⊢; rw [r1', Result.andThen_ok, Sem.run_bind, s1]; rfl
    · cases j with
      | zero => simp at hc hx; subst hc hx; exact r2
      | succ j => simp at hc hx; exact s3 j c x hc hx

theorem results_run {P : Program} {fn : Func} {st e a w v} (hr : Rel st e a w) (he : resAll P e fn.results.toList = some v) : ∃ m, (results fn a.tmps).run P w = .ok m w ∧ RepS w (okS st) v m := by
  have key : ∀ vs, fn.results.toList.mapM (resOf P e) = some vs → ∃ ms : List Value, (results fn a.tmps).run P w = .ok (if h : ms.toArray.size = 1 then ms.toArray[0] else .tuple ms.toArray) w ∧ ms.length = vs.length ∧
      ∀ (j : Nat) (c : V) (m : Value), vs[j]? = some c → ms[j]? = some m → RepS w (okS st) c m := by
    intro vs hvs
    obtain ⟨ms, h1, h2, h3⟩ := mapM_res hr _ _ hvs
    refine ⟨ms, ?_, h2, h3⟩
    unfold results
    rw [Sem.run_bind, Array.mapM_eq_mapM_toList, Sem.run_map]
    erw [h1]
    rfl
  unfold resAll at he
  split at he
  · rename_i c hc
    cases he
    obtain ⟨ms, h1, h2, h3⟩ := key _ hc
    match ms, h2 with
    | [m], _ => exact ⟨m, h1, h3 0 v m rfl rfl⟩
  · rename_i vs hne hc
    cases he
    obtain ⟨ms, h1, h2, h3⟩ := key _ hc
    rw [dif_neg (by
      intro h
      simp at h
      rw [h] at h2
      obtain ⟨c, rfl⟩ : ∃ c, vs = [c] := by
        match vs, h2 with
        | [c], _ => exact ⟨c, rfl⟩
      exact hne c rfl)] at h1
    exact ⟨_, h1, .tup (by simpa using h2) fun j c m hc hm => h3 j c m hc (by simpa using hm)⟩
  · cases he

/-- What a body owes at its end. -/
def Fin (P : Program) (fn : Func) (r : V) : Post
  | .normal, e | .ret, e => resAll P e fn.results.toList = some r
  | _, _ => False

open Classical in
/-- A function's contract from its body. -/
theorem pc_of {P : Program} {f : FuncId} {fn : Func} {c : Code} {vs : List V} {r : V} (hf : P.funcs[f]? = some fn) (hb : fn.body = some c) (hn : (fn.name == "runtime.NumGoroutine") = false) 
    (h : Tr P c ⟨vs ++ List.replicate (fn.ntmps - vs.length) .dead, []⟩ (Fin P fn r)) : PC P f vs r := by
  refine ⟨⟨fn, hf, by rw [hb]; rfl, hn⟩, fun w S ms hS hms hrep => calls_of_wp hf hb ?_⟩
  let st : Nat → Own := fun b => if S b then .shut else .none
  have hst : ∀ b, st b = .shut ↔ S b := by
    intro b
    show (if S b then Own.shut else .none) = .shut ↔ S b
    by_cases hb : S b <;> simp [hb]
  have hno : ∀ b n g o, st b ≠ .id n g o := by
    intro b n g o
    show (if S b then Own.shut else .none) ≠ _
    split <;> simp
  have hrel : Rel st ⟨vs ++ List.replicate (fn.ntmps - vs.length) .dead, []⟩ { tmps := ms ++ Array.replicate (fn.ntmps - ms.size) undef, defers := [] } w := by
    refine ⟨rfl, by simp [hms], fun i c v h1 h2 => ?_, ⟨fun n x hx => by simp [hget] at hx, fun b n g o hb => absurd hb (hno _ _ _ _), fun b b' n g o g' o' hb => absurd hb (hno _ _ _ _), fun b hb => hS b ((hst b).1 hb)⟩⟩
    simp only at h1 h2
    rw [List.getElem?_append] at h1
    rw [Array.getElem?_append, hms] at h2
    by_cases hi : i < vs.length
    · rw [if_pos hi] at h1 h2
      exact .s ((hrep i c v h1 h2).frame fun b hb => ⟨(hst b).2 hb, rfl⟩)
    · rw [if_neg hi] at h1
      have := List.mem_replicate.1 (List.mem_of_getElem? h1)
      rw [this.2]; exact .dead
  have post : ∀ (ex : Exit) (a' : Act) (w' : World) (e' : Env) (st' : Nat → Own), (ex = .normal ∨ ex = .ret) → resAll P e' fn.results.toList = some r → Rel st' e' a' w' → Hist w st w' st' →
      a'.defers = [] ∧ ∃ v, (results fn a'.tmps).run P w' = .ok v w' ∧ (fun en w' => ∃ m S', en = Ending.returned m ∧ RepS w' S' r m ∧ (∀ b, b < w.heap.size → (S' b ↔ S b)) ∧ (∀ b, S' b → b < w'.heap.size) ∧
        w.heap.size ≤ w'.heap.size ∧ (∀ b, b < w.heap.size → w'.heap[b]? = w.heap[b]?) ∧ Same3 w w') (.returned v) w' := by
    intro ex a' w' e' st' _ hres hrel' hfr
    obtain ⟨m, h1, h2⟩ := results_run hrel' hres
    refine ⟨hrel'.defers, m, h1, m, okS st', rfl, h2, fun b hb => ?_, fun b hb => ?_, hfr.size, fun b hb => (hfr.non b hb (hno b)).2, hfr.env⟩
    · unfold okS
      rw [(hfr.non b hb (hno b)).1]
      show (if S b then Own.shut else .none) ≠ .none ↔ S b
      by_cases hb : S b <;> simp [hb]
    · unfold okS at hb
      cases hs : st' b with
      | none => exact absurd hs hb
      | shut => exact hrel'.heap.shut b hs
      | id n g o => exact (hrel'.heap.dom _ _ _ _ hs).1
  refine wp_mono (h st _ w hrel) ?_
  rintro ex a' w' ⟨e', st', hq, hrel', hfr⟩
  cases ex with
  | normal => exact post .normal a' w' e' st' (.inl rfl) hq hrel' hfr
  | ret => exact post .ret a' w' e' st' (.inr rfl) hq hrel' hfr
  | exit => exact hq.elim
  | goto => exact hq.elim
  | panic => exact hq.elim
  | outgrown => exact hq.elim

end Go.PG
