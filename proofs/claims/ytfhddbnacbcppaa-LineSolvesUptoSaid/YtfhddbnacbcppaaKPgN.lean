/- The engine: operations in a row, in the machine's own words. -/
import Derived.Test.YtfhddbnacbcppaaKPgM
set_option linter.unusedVariables false
set_option linter.unnecessarySimpa false
set_option linter.unusedSimpArgs false
namespace Go.PG

theorem flat_any {w w' S S' c v} (h : RepS w S c v) (hf : c.flat = true) : RepS w' S' c v := by
  induction h with
  | bool => exact .bool
  | int => exact .int
  | str h => exact .str h
  | agg hl h1 _ ih =>
    rw [V.flat, V.flatL_iff] at hf
    exact .agg hl h1 fun j c v hc hv => ih j c v hc hv (hf c (List.mem_of_getElem? hc))
  | tup hl _ ih =>
    rw [V.flat, V.flatL_iff] at hf
    exact .tup hl fun j c v hc hv => ih j c v hc hv (hf c (List.mem_of_getElem? hc))
  | nil => exact .nil
  | slnil => simp [V.flat] at hf
  | sl => simp [V.flat] at hf
  | sle => simp [V.flat] at hf
  | emp => simp [V.flat] at hf
  | nilp => exact .nilp
  | pr => simp [V.flat] at hf
  | fn hl _ ih =>
    rw [V.flat, V.flatL_iff] at hf
    exact .fn hl fun j c v hc hv => ih j c v hc hv (hf c (List.mem_of_getElem? hc))
  | nilfn => exact .nilfn
  | nilm => exact .nilm
  | mpnil => simp [V.flat] at hf
  | mp => simp [V.flat] at hf

/-- The state behind a call that changed nothing: what it left sealed among what is new. -/
def callO (w : World) (st : Nat → Own) (S' : Nat → Prop) [DecidablePred S'] : Nat → Own := fun b => if b < w.heap.size then st b else if S' b then .shut else .none

theorem call_fr {w w' : World} {st : Nat → Own} {h : Heap} (hh : HeapOk w st h) (S' : Nat → Prop) [DecidablePred S'] (henv : Same3 w w') (hsz : w.heap.size ≤ w'.heap.size) (hS : ∀ b, S' b → b < w'.heap.size)
    (hk : ∀ b, b < w.heap.size → w'.heap[b]? = w.heap[b]?) : Fr w st w' (callO w st S') ∧ HeapOk w' (callO w st S') h := by
  have hid : ∀ b n g o, callO w st S' b = .id n g o → st b = .id n g o := by
    intro b n g o hb
    unfold callO at hb
    split at hb
    · exact hb
    · split at hb <;> cases hb
  have hid' : ∀ b n g o, st b = .id n g o → callO w st S' b = .id n g o := by
    intro b n g o hb
    unfold callO
    rw [if_pos (hh.dom _ _ _ _ hb).1]; exact hb
  have hf : Fr w st w' (callO w st S') := by
    refine ⟨henv, hsz, fun b hb _ => ⟨by unfold callO; rw [if_pos hb], hk b hb⟩, fun b n g o hs => .inl ⟨hid' _ _ _ _ hs, fun cells ty hc => ⟨cells, ?_, rfl⟩⟩⟩
    rw [hk b (hh.dom _ _ _ _ hs).1]; exact hc
  refine ⟨hf, fun n x hx => (hh.ob n x hx).keep hh.shut hf (fun b g o hb => ⟨hid' _ _ _ _ hb, hk b (hh.dom _ _ _ _ hb).1⟩) (fun b g o hb => ⟨b, g, o, hid _ _ _ _ hb⟩), fun b n g o hb => ?_, fun b b' n g o g' o' h1 h2 => hh.inj _ _ _ _ _ _ _ (hid _ _ _ _ h1) (hid _ _ _ _ h2), fun b hb => ?_⟩
  · obtain ⟨r1, r2⟩ := hh.dom _ _ _ _ (hid _ _ _ _ hb)
    exact ⟨by omega, r2⟩
  · unfold callO at hb
    split at hb
    · have := hh.shut b hb; omega
    · split at hb
      · rename_i h1; exact hS b h1
      · cases hb

theorem fn_rep {w st f cs m} (h : Rep w st (.fn (.func f) cs) m) : ∃ vs : Array Value, m = .func (.func f) #[] vs ∧ vs.size = cs.length ∧ ∀ (j : Nat) (c : V) (v : Value), cs[j]? = some c → vs[j]? = some v → Rep w st c v := by
  cases h with
  | s h => cases h with | fn hl h => exact ⟨_, rfl, hl, fun j c v h1 h2 => .s (h j c v h1 h2)⟩
  | fn hl h => exact ⟨_, rfl, hl, h⟩
  | stale ht => simp [V.tok] at ht

theorem call_exec {P : Program} {ρ : Operand → Value} {o : Oper} {c : Call} {x : Operand} {f : FuncId} {vs : Array Value} (ho : o.op = .call c) (hc : c.callee = .value x) (hx : ρ x = .func (.func f) #[] vs)
    (hent : Entered P f) (w : World) : (execOp ρ o).run P w = .ok (.enter f (c.args.map ρ ++ vs)) w := by
  obtain ⟨fn, hf, hb, hn⟩ := hent
  have hb' : fn.body ≠ none := by intro h; rw [h] at hb; cases hb
  have hn' : fn.name ≠ "runtime.NumGoroutine" := by simpa using hn
  unfold execOp
  simp [ho, resolve, hc, hx, Deferred.ofValue, invoke, callFunc, hf, hn', hb']

open Classical in
theorem call_wp {P : Program} {o : Oper} {e : Env} {st a w v} {c : Call} {x : Operand} {f : FuncId} {caps : List V} (hr : Rel st e a w) (ho : o.op = .call c) (hc : c.callee = .value x)
    (hx : e.ev x = .fn (.func f) caps) (hok : CallOk P e.h f (c.args.toList.map e.ev ++ caps) v) {next : Act → World → Prop} {Q : Exit → Act → World → Prop}
    (hn : ∀ st' m w', Rel st' (e.upd o.dst v []) (a.put o.dst m) w' → Fr w st w' st' → next (a.put o.dst m) w') : o.wp P a w next Q := by
  have hxr := hr.ev x
  rw [hx] at hxr
  obtain ⟨vs, hm, hvl, hvr⟩ := fn_rep hxr
  have hargs : ∀ (j : Nat) (cc : V) (m : Value), (c.args.toList.map e.ev ++ caps)[j]? = some cc → (c.args.map a.eval ++ vs)[j]? = some m → Rep w st cc m := by
    intro j cc m h1 h2
    rw [List.getElem?_append] at h1
    rw [Array.getElem?_append] at h2
    simp only [List.length_map, Array.length_toList, Array.size_map] at h1 h2
    by_cases hj : j < c.args.size
    · rw [if_pos hj] at h1 h2
      simp only [List.getElem?_map, Array.getElem?_toList, Array.getElem?_map, Option.map_eq_some_iff] at h1 h2
      obtain ⟨y, hy, rfl⟩ := h1
      obtain ⟨z, hz, rfl⟩ := h2
      rw [hy] at hz
      cases hz
      exact hr.ev _
    · rw [if_neg hj] at h1 h2
      exact hvr _ _ _ h1 h2
  have hlen : (c.args.map a.eval ++ vs).size = (c.args.toList.map e.ev ++ caps).length := by simp [hvl]
  have fin : ∀ (S : Nat → Prop) (args' : List V), PC P f args' v → (∀ b, S b → b < w.heap.size) → args'.length = (c.args.toList.map e.ev ++ caps).length →
      (∀ (j : Nat) (cc : V) (m : Value), args'[j]? = some cc → (c.args.map a.eval ++ vs)[j]? = some m → RepS w S cc m) →
      (∀ w' (S' : Nat → Prop) m, RepS w' S' v m → (∀ b, b < w.heap.size → (S' b ↔ S b)) → Rep w' (callO w st S') v m) → o.wp P a w next Q := by
    intro S args' hp hS hl hrep hres
    unfold Oper.wp
    rw [call_exec ho hc hm hp.1, Oper.upon_enter]
    refine (hp.2 w S _ hS (by rw [hlen, hl]) hrep).mono ?_
    rintro en w' ⟨m, S', rfl, hm', h1, h2, h3, h4, h5⟩
    obtain ⟨hf, hh'⟩ := call_fr hr.heap S' h5 h3 h2 h4
    exact hn _ m w' (hr.put hf (hres w' S' m hm' h1) hh') hf
  cases hok with
  | pure hi hp =>
    rw [V.idfreeL_iff] at hi
    refine fin (fun b => st b = .shut) _ hp hr.heap.shut rfl (fun j cc m h1 h2 => (hargs j cc m h1 h2).shut (hi cc (List.mem_of_getElem? h1))) (fun w' S' m hm' h1 => .s (hm'.frame fun b hb => ⟨?_, rfl⟩))
    show callO w st S' b = .shut
    unfold callO
    split
    · rename_i hlt; exact (h1 b hlt).1 hb
    · first | rfl | rw [if_pos hb]
  | lent n args' hi hp hf =>
    obtain ⟨g1, g2⟩ := mapM_get hi
    refine fin (okS st) _ hp (fun b hb => ?_) g1 (fun j cc m h1 h2 => ?_) (fun w' S' m hm' h1 => .s (flat_any hm' hf))
    · unfold okS at hb
      cases hs : st b with
      | none => exact absurd hs hb
      | shut => exact hr.heap.shut b hs
      | id n g o => exact (hr.heap.dom _ _ _ _ hs).1
    · obtain ⟨c0, hc0, hc1⟩ := g2 j cc h1
      exact resV_ok hr.heap n c0 cc m (hargs j c0 m hc0 h2) hc1

/-- One operation, in the machine's words. -/
theorem op_wp {P : Program} {o : Oper} {e : Env} {st a w v ups} (hr : Rel st e a w) (hx : Ex P o e v ups) {next : Act → World → Prop} {Q : Exit → Act → World → Prop}
    (hn : ∀ st' m w', Rel st' (e.upd o.dst v ups) (a.put o.dst m) w' → Fr w st w' st' → next (a.put o.dst m) w') : o.wp P a w next Q := by
  have ofEff : eff P o e = some (v, ups) → o.wp P a w next Q := by
    intro he
    obtain ⟨m, w', st', hrun, hv, hh, hf⟩ := eff_good hr he
    have := hn st' m w' (hr.put hf hv hh) hf
    unfold Oper.wp
    rcases hrun with hrun | ⟨hrun, rfl⟩
    · rw [hrun, Oper.upon_value]; exact this
    · rw [hrun, Oper.upon_skip]; exact this
  unfold Ex at hx
  split at hx
  · rename_i c ho
    split at hx
    · rename_i x hc
      obtain ⟨f, caps, h1, h2, rfl⟩ := hx
      exact call_wp hr ho hc h1 h2 hn
    · exact ofEff hx
  · exact ofEff hx

/-- Whether an operation is wanted: its guard. -/
def gd (ops : Array Oper) (e : Env) (o : Oper) : Option Bool :=
  match o.guard with
  | none => some true
  | some (j, want) =>
    match (ops[j]?).bind (·.dst) with
    | some d => match e.t[d]? with
      | some (.bool b) => some (bif want then b else !b)
      | some (.tup []) => some false
      | _ => none
    | none => none

theorem gd_ok {ops : Array Oper} {e : Env} {o : Oper} {b : Bool} {st a w} (hr : Rel st e a w) (h : gd ops e o = some b) : Region.wanted o (yielded ops a.tmps) = b := by
  unfold gd at h
  unfold Region.wanted
  split at h
  · rename_i hg; rw [hg]; simpa using h
  · rename_i j want hg
    rw [hg]
    split at h
    · rename_i d hd
      split at h
      · rename_i b' hb
        have hlt := (List.getElem?_eq_some_iff.1 hb).1
        have hm : a.tmps[d]? = some (.bool b') := by
          obtain ⟨m, hm⟩ : ∃ m, a.tmps[d]? = some m := ⟨_, Array.getElem?_eq_getElem (by rw [hr.size]; exact hlt)⟩
          rw [hm, rep_bool (hr.tmps d _ _ hb hm)]
        simp only [yielded, hd, Option.bind_some, hm]
        cases h
        cases b' <;> cases want <;> rfl
      · rename_i hb
        have hlt := (List.getElem?_eq_some_iff.1 hb).1
        have hm : a.tmps[d]? = some (.tuple #[]) := by
          obtain ⟨m, hm⟩ : ∃ m, a.tmps[d]? = some m := ⟨_, Array.getElem?_eq_getElem (by rw [hr.size]; exact hlt)⟩
          obtain ⟨vs, e1, e2, _⟩ := rep_tup (hr.tmps d _ _ hb hm)
          have e3 : vs = #[] := Array.eq_empty_of_size_eq_zero (by simpa using e2)
          rw [hm, e1, e3]
        simp only [yielded, hd, Option.bind_some, hm]
        cases h
        rfl
      · cases h
    · cases h

/-- What nobody here owned has not changed. -/
structure Hist (w : World) (st : Nat → Own) (w' : World) (st' : Nat → Own) : Prop where
  env : Same3 w w'
  size : w.heap.size ≤ w'.heap.size
  non : ∀ b, b < w.heap.size → (∀ n g o, st b ≠ .id n g o) → st' b = st b ∧ w'.heap[b]? = w.heap[b]?

theorem Fr.hist {w st w' st'} (h : Fr w st w' st') : Hist w st w' st' := ⟨h.env, h.size, h.non⟩
theorem Hist.refl (w : World) (st : Nat → Own) : Hist w st w st := ⟨Same3.refl w, Nat.le_refl _, fun _ _ _ => ⟨rfl, rfl⟩⟩
theorem Hist.trans {w st w1 st1 w2 st2} (h : Hist w st w1 st1) (h' : Hist w1 st1 w2 st2) : Hist w st w2 st2 := by
  refine ⟨h.env.trans h'.env, Nat.le_trans h.size h'.size, fun b hb hn => ?_⟩
  obtain ⟨e1, e2⟩ := h.non b hb hn
  obtain ⟨f1, f2⟩ := h'.non b (Nat.lt_of_lt_of_le hb h.size) (by rw [e1]; exact hn)
  exact ⟨f1.trans e1, f2.trans e2⟩

/-- e may be taken for e': what stands for e stands for e' too. -/
def Le (e e' : Env) : Prop := ∀ st a w, Rel st e a w → ∃ st', Rel st' e' a w ∧ Hist w st w st'

theorem Le.refl (e : Env) : Le e e := fun st _ w hr => ⟨st, hr, Hist.refl w st⟩
theorem Le.trans {e e1 e2 : Env} (h : Le e e1) (h' : Le e1 e2) : Le e e2 := fun st a w hr => by
  obtain ⟨s1, r1, f1⟩ := h st a w hr
  obtain ⟨s2, r2, f2⟩ := h' s1 a w r1
  exact ⟨s2, r2, f1.trans f2⟩

/-- Operations in a row: what they do to a frame. -/
inductive Run (P : Program) (ops : Array Oper) : List Nat → Env → Env → Prop
  | nil {e} : Run P ops [] e e
  | skip {i rest o e e'} (hi : ops[i]? = some o) (hg : gd ops e o = some false) (h : Run P ops rest (e.upd o.dst (.tup []) []) e') : Run P ops (i :: rest) e e'
  | opw {i rest o e e1 e' v ups} (hi : ops[i]? = some o) (hg : gd ops e o = some true) (hl : Le e e1) (hx : Ex P o e1 v ups) (h : Run P ops rest (e1.upd o.dst v ups) e') : Run P ops (i :: rest) e e'
  | op {i rest o e e' v ups} (hi : ops[i]? = some o) (hg : gd ops e o = some true) (hx : Ex P o e v ups) (h : Run P ops rest (e.upd o.dst v ups) e') : Run P ops (i :: rest) e e'

theorem run_wp {P : Program} {ops : Array Oper} {is : List Nat} {e e' : Env} (h : Run P ops is e e') : ∀ {st a w} {Q : Exit → Act → World → Prop}, Rel st e a w →
    (∀ st' a' w', Rel st' e' a' w' → Hist w st w' st' → Q .normal a' w') → wpOps P ops Q is a w := by
  induction h with
  | nil => intro st a w Q hr hq; exact hq st a w hr (Hist.refl w st)
  | @skip i rest o e e' hi hg _ ih =>
    intro st a w Q hr hq
    simp only [wpOps, hi, gd_ok hr hg, Bool.false_eq_true, if_false]
    exact ih (hr.put (Fr.refl w st) (.s (.tup rfl (by simp))) hr.heap) fun st' a' w' h1 h2 => hq st' a' w' h1 h2
  | opw hi hg hl hx _ ih =>
    intro st a w Q hr hq
    simp only [wpOps, hi, gd_ok hr hg, if_true]
    obtain ⟨st1, hr1, hh1⟩ := hl st a w hr
    exact .inl (op_wp hr1 hx fun st' m w' h1 h2 => ih h1 fun st2 a2 w2 h3 h4 => hq st2 a2 w2 h3 (hh1.trans (h2.hist.trans h4)))
  | op hi hg hx _ ih =>
    intro st a w Q hr hq
    simp only [wpOps, hi, gd_ok hr hg, if_true]
    exact .inl (op_wp hr hx fun st' m w' h1 h2 => ih h1 fun st2 a2 w2 h3 h4 => hq st2 a2 w2 h3 (h2.hist.trans h4))

end Go.PG
