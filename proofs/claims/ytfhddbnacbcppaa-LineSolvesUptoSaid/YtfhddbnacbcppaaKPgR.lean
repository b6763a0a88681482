/- The engine: every order of a region comes to the same. -/
import Derived.Test.YtfhddbnacbcppaaKPgQ
set_option linter.unusedVariables false
set_option linter.unnecessarySimpa false
set_option linter.unusedSimpArgs false
namespace Go.PG

/-- j stands behind none of i's ways back: an edge, or a chain of them, leads from i to j. -/
inductive Anc (ops : Array Oper) : Nat → Nat → Prop
  | edge {i o e} (ho : ops[i]? = some o) (he : e ∈ o.after) (hb : Region.binds .any e = true) : Anc ops e.on i
  | trans {i o e j} (ho : ops[i]? = some o) (he : e ∈ o.after) (hb : Region.binds .any e = true) (h : Anc ops j e.on) : Anc ops j i

theorem before_go (ops : Array Oper) : ∀ (l : List Oper) (acc : Array Nat), (∀ j o, l[j]? = some o → ops[acc.size + j]? = some o) → (∀ i j, i < acc.size → (acc.getD i 0).testBit j = true → Anc ops j i) →
    ∀ i j, i < acc.size + l.length → ((l.foldl (fun acc o => acc.push (o.after.foldl (fun s e => if Region.binds .any e then s ||| 2 ^ e.on ||| acc.getD e.on 0 else s) 0)) acc).getD i 0).testBit j = true → Anc ops j i
  | [], acc, _, hacc, i, j, hi, h => hacc i j (by simpa using hi) h
  | o :: l, acc, hl, hacc, i, j, hi, h => by
    have ho : ops[acc.size]? = some o := by simpa using hl 0 o rfl
    have inner : ∀ (es : List Edge) (s : Nat), (∀ e ∈ es, e ∈ o.after) → (∀ j, s.testBit j = true → Anc ops j acc.size) →
        ∀ j, (es.foldl (fun s e => if Region.binds .any e then s ||| 2 ^ e.on ||| acc.getD e.on 0 else s) s).testBit j = true → Anc ops j acc.size := by
      intro es
      induction es with
      | nil => intro s _ hs j hj; exact hs j hj
      | cons e es ih =>
        intro s hes hs j hj
        refine ih _ (fun e' he' => hes e' (by simp [he'])) (fun j hj => ?_) j hj
        dsimp only at hj
        split at hj
        · rename_i hb
          simp only [Nat.testBit_or, Bool.or_eq_true] at hj
          rcases hj with (hj | hj) | hj
          · exact hs j hj
          · have : e.on = j := by simpa [Nat.testBit_two_pow] using hj
            rw [← this]
            exact .edge ho (hes e (by simp)) hb
          · have hlt : e.on < acc.size := by
              by_cases hlt : e.on < acc.size
              · exact hlt
              · simp [hlt] at hj
            exact .trans ho (hes e (by simp)) hb (hacc e.on j hlt hj)
        · exact hs j hj
    have hfold : ∀ j, (o.after.foldl (fun s e => if Region.binds .any e then s ||| 2 ^ e.on ||| acc.getD e.on 0 else s) 0).testBit j = true → Anc ops j acc.size := by
      rw [← Array.foldl_toList]
      exact inner _ 0 (fun e he => by simpa using he) (fun j hj => by simp at hj)
    rw [List.foldl_cons] at h
    refine before_go ops l _ (fun k o' hk => ?_) (fun i' j' hi' h' => ?_) i j (by simp at hi ⊢; omega) h
    · rw [Array.size_push]
      have := hl (k + 1) o' (by simpa using hk)
      rw [show acc.size + 1 + k = acc.size + (k + 1) by omega]; exact this
    · rw [Array.size_push] at hi'
      by_cases e : i' = acc.size
      · subst e
        rw [Array.getD_eq_getD_getElem?, Array.getElem?_push_size, Option.getD_some] at h'
        exact hfold j' h'
      · have hlt : i' < acc.size := by omega
        rw [Array.getD_eq_getD_getElem?, Array.getElem?_push_lt hlt] at h'
        refine hacc i' j' hlt ?_
        simp [hlt] at h' ⊢
        exact h'

theorem before_anc (ops : Array Oper) (i j : Nat) (hi : i < ops.size) (h : ((Region.before ops).getD i 0).testBit j = true) : Anc ops j i := by
  unfold Region.before at h
  rw [← Array.foldl_toList] at h
  exact before_go ops ops.toList #[] (fun k o hk => by simpa using hk) (fun i j hi _ => by simp at hi) i j (by simpa using hi) h

theorem binds_any {m : Region.Mode} {e : Edge} (h : Region.binds .any e = true) : Region.binds m e = true := by
  unfold Region.binds at h ⊢
  split <;> simp_all

theorem sched_anc {m : Region.Mode} {ops : Array Oper} {l : List Nat} (hs : Sched m ops l) {i j : Nat} (h : Anc ops j i) : ∀ pre post, l = pre ++ i :: post → j ∈ pre := by
  induction h with
  | edge ho he hb => intro pre post hl; exact hs.edges pre _ post hl _ ho _ he (binds_any hb)
  | @trans i o e j ho he hb _ ih =>
    intro pre post hl
    have h1 := hs.edges pre _ post hl _ ho _ he (binds_any hb)
    obtain ⟨p1, p2, hp⟩ := List.append_of_mem h1
    have := ih p1 (p2 ++ i :: post) (by rw [hl, hp]; simp)
    rw [hp]
    exact List.mem_append_left _ this

def StepOk (P : Program) (ops : Array Oper) (o : Oper) (e : Env) (r : Rc) : Prop :=
  (gd ops e o = some false ∧ r.v = .tup [] ∧ r.ups = []) ∨ (gd ops e o = some true ∧ Ex P o e r.v r.ups)

/-- A run in one order, with what each step reads and writes. -/
inductive RunD (P : Program) (ops : Array Oper) : List Nat → Env → List Rc → Prop
  | nil {e} : RunD P ops [] e []
  | cons {i rest e o r recs} (ho : ops[i]? = some o) (hi : r.i = i) (hd : r.dst = o.dst) (hlen : ∀ d, r.dst = some d → d < e.t.length)
      (hloc : ∀ e2 : Env, e2.t.length = e.t.length → (∀ k ∈ r.rd, look e2 k = look e k) → StepOk P ops o e2 r) (h : RunD P ops rest (r.app e) recs) : RunD P ops (i :: rest) e (r :: recs)

theorem Run.append {P : Program} {ops : Array Oper} {l1 l2 : List Nat} {e e1 e2 : Env} (h : Run P ops l1 e e1) (h' : Run P ops l2 e1 e2) : Run P ops (l1 ++ l2) e e2 := by
  induction h with
  | nil => exact h'
  | skip hi hg _ ih => exact .skip hi hg (ih h')
  | opw hi hg hl hx _ ih => exact .opw hi hg hl hx (ih h')
  | op hi hg hx _ ih => exact .op hi hg hx (ih h')

/-- Two steps that must not change places. -/
def conf (p q : Rc) : Bool := p.wk.any fun k => k ∈ q.rd || k ∈ q.wk
def confs (p q : Rc) : Bool := conf p q || q.wk.any fun k => k ∈ p.rd

def okPairs (ops : Array Oper) : List Rc → Prop
  | [] => True
  | r :: rs => (∀ q ∈ rs, confs r q = true → Anc ops r.i q.i) ∧ okPairs ops rs

theorem runD_info {P : Program} {ops : Array Oper} : ∀ {l : List Nat} {e : Env} {recs : List Rc}, RunD P ops l e recs →
    recs.map (·.i) = l ∧ (∀ r ∈ recs, ∀ d, r.dst = some d → d < e.t.length) ∧
    ∀ pre r post, recs = pre ++ r :: post → ∃ o, ops[r.i]? = some o ∧ r.dst = o.dst ∧ ∀ e2 : Env, e2.t.length = e.t.length → (∀ k ∈ r.rd, look e2 k = look (folds e pre) k) → StepOk P ops o e2 r := by
  intro l e recs h
  induction h with
  | nil => exact ⟨rfl, by simp, fun pre r post h => by simp at h⟩
  | @cons i rest e o r recs ho hi hd hlen hloc _ ih =>
    obtain ⟨h1, h2, h3⟩ := ih
    rw [app_len] at h2 h3
    refine ⟨by simp [h1, hi], fun r' hr' => ?_, fun pre r' post hp => ?_⟩
    · rcases List.mem_cons.1 hr' with rfl | hr'
      · exact hlen
      · exact h2 r' hr'
    · cases pre with
      | nil =>
        simp at hp
        obtain ⟨rfl, rfl⟩ := hp
        exact ⟨o, by rw [hi]; exact ho, hd, fun e2 hl hk => hloc e2 hl hk⟩
      | cons x pre =>
        simp at hp
        obtain ⟨rfl, hp⟩ := hp
        exact h3 pre r' post hp

theorem okPairs_mid {ops : Array Oper} : ∀ {pre : List Rc} {r : Rc} {post : List Rc}, okPairs ops (pre ++ r :: post) → (∀ p ∈ pre, confs p r = true → Anc ops p.i r.i) ∧ (∀ q ∈ post, confs r q = true → Anc ops r.i q.i)
  | [], r, post, h => ⟨by simp, h.1⟩
  | p :: pre, r, post, h => by
    obtain ⟨h1, h2⟩ := okPairs_mid h.2
    refine ⟨fun p' hp' => ?_, h2⟩
    rcases List.mem_cons.1 hp' with rfl | hp'
    · exact h.1 r (by simp)
    · exact h1 p' hp'

theorem any_of {l : List Key} {p : Key → Bool} {k : Key} (hk : k ∈ l) (hp : p k = true) : l.any p = true := List.any_eq_true.2 ⟨k, hk, hp⟩

/-- Every schedule comes to what the one order came to. -/
theorem sched_run {P : Program} {ops : Array Oper} {m : Region.Mode} {τ l : List Nat} {e : Env} {recs : List Rc} (hs : Sched m ops l) (hτ : ∀ i, i ∈ τ ↔ i < ops.size) (hnd : τ.Nodup)
    (hrun : RunD P ops τ e recs) (hok : okPairs ops recs) :
    ∃ e2, Run P ops l e e2 ∧ e2.t.length = e.t.length ∧ ∀ k, look e2 k = look (folds e recs) k := by
  obtain ⟨hmap, hdst, hstep⟩ := runD_info hrun
  have key : ∀ pre, (∃ post, l = pre ++ post) → ∃ e2, Run P ops pre e e2 ∧ e2.t.length = e.t.length ∧ ∀ k, look e2 k = look (folds e (recs.filter fun r => r.i ∈ pre)) k := by
    refine snoc_ind (fun _ => ⟨e, .nil, rfl, fun k => by
      have h0 : recs.filter (fun r => decide (r.i ∈ ([] : List Nat))) = [] := by rw [List.filter_eq_nil_iff]; intro a _; simp
      rw [h0]; rfl⟩) ?_
    intro pre i ih hpost
    obtain ⟨post, hpost⟩ := hpost
    obtain ⟨e2, hr2, hl2, hk2⟩ := ih ⟨i :: post, by rw [hpost]; simp⟩
    have hil : i ∈ l := by rw [hpost]; simp
    have hni : i ∉ pre := by
      have := hs.nodup
      rw [hpost, List.append_assoc, List.nodup_append] at this
      intro h
      exact this.2.2 i h i (by simp) rfl
    have hir : i ∈ recs.map (·.i) := by rw [hmap]; exact (hτ i).2 ((hs.all i).1 hil)
    obtain ⟨r, hrm, hri⟩ := List.mem_map.1 hir
    obtain ⟨A, B, hAB⟩ := List.append_of_mem hrm
    have hndm : (recs.map (·.i)).Nodup := by rw [hmap]; exact hnd
    rw [hAB, List.map_append, List.map_cons, List.nodup_append, List.nodup_cons] at hndm
    obtain ⟨_, ⟨hrB, _⟩, hAr⟩ := hndm
    have hrA : ∀ p ∈ A, p.i ≠ i := fun p hp e => hAr p.i (List.mem_map_of_mem hp) r.i (by simp) (by rw [e, hri])
    have hrB' : ∀ q ∈ B, q.i ≠ i := fun q hq e => hrB (by rw [hri, ← e]; exact List.mem_map_of_mem hq)
    obtain ⟨c1, c2⟩ := okPairs_mid (hAB ▸ hok)
    have hlpre : l = pre ++ i :: post := by rw [hpost]; simp
    -- who must come first has come; who must come later has not
    have before : ∀ p ∈ A, confs p r = true → p.i ∈ pre := fun p hp hc => sched_anc hs (hri ▸ c1 p hp hc) pre post hlpre
    have after : ∀ q ∈ B, confs r q = true → q.i ∉ pre := by
      intro q hq hc hmem
      obtain ⟨p1, p2, hp⟩ := List.append_of_mem hmem
      have := sched_anc hs (c2 q hq hc) p1 (p2 ++ i :: post) (by rw [hlpre, hp]; simp)
      rw [hri] at this
      exact hni (by rw [hp]; exact List.mem_append_left _ this)
    have hdA : ∀ p ∈ A, ∀ d, p.dst = some d → d < e.t.length := fun p hp => hdst p (by rw [hAB]; simp [hp])
    have hdF : ∀ p ∈ recs.filter (fun r => r.i ∈ pre), ∀ d, p.dst = some d → d < e.t.length := fun p hp => hdst p (List.mem_filter.1 hp).1
    obtain ⟨o, ho, hod, hstep'⟩ := hstep A r B hAB
    -- what it reads is what it read
    have hread : ∀ k ∈ r.rd, look e2 k = look (folds e A) k := by
      intro k hk
      rw [hk2, look_folds e k _ hdF, look_folds e k _ hdA]
      have hf : (recs.filter (fun r => r.i ∈ pre)).filter (fun r => k ∈ r.wk) = A.filter (fun r => k ∈ r.wk) := by
        rw [hAB, List.filter_filter, List.filter_append, List.filter_cons]
        have hrn : (decide (k ∈ r.wk) && decide (r.i ∈ pre)) = false := by
          rw [hri]; simp [hni]
        rw [if_neg (by rw [hrn]; simp)]
        have hB0 : B.filter (fun r => decide (k ∈ r.wk) && decide (r.i ∈ pre)) = [] := by
          rw [List.filter_eq_nil_iff]
          intro q hq hc
          simp only [Bool.and_eq_true, decide_eq_true_eq] at hc
          refine after q hq ?_ hc.2
          unfold confs
          rw [Bool.or_eq_true]
          exact .inr (any_of hc.1 (by simp [hk]))
        rw [hB0, List.append_nil]
        refine List.filter_congr fun p hp => ?_
        by_cases hw : k ∈ p.wk
        · have := before p hp (by
            unfold confs conf
            rw [Bool.or_eq_true]
            exact .inl (any_of hw (by simp [hk])))
          simp [hw, this]
        · simp [hw]
      rw [hf]
    have hstepped := hstep' e2 hl2 hread
    refine ⟨r.app e2, hr2.append ?_, by rw [app_len, hl2], fun k => ?_⟩
    · rw [hri] at ho
      have happ : r.app e2 = e2.upd o.dst r.v r.ups := by unfold Rc.app; rw [hod]
      rw [happ]
      rcases hstepped with ⟨g1, g2, g3⟩ | ⟨g1, g2⟩
      · rw [g2, g3]; exact .skip ho g1 .nil
      · exact .op ho g1 g2 .nil
    · have hrd : ∀ d, r.dst = some d → d < e2.t.length := fun d hd => by rw [hl2]; exact hdst r hrm d hd
      rw [look_app e2 r hrd k, hk2, look_folds e k _ hdF, look_folds e k _ (fun p hp => hdst p (List.mem_filter.1 hp).1)]
      have hsplit : (recs.filter (fun r => r.i ∈ pre ++ [i])).filter (fun r => k ∈ r.wk) =
          A.filter (fun p => decide (k ∈ p.wk) && decide (p.i ∈ pre)) ++ (if k ∈ r.wk then [r] else []) ++ B.filter (fun q => decide (k ∈ q.wk) && decide (q.i ∈ pre)) := by
        rw [hAB, List.filter_filter, List.filter_append, List.filter_cons]
        have e1 : A.filter (fun r => decide (k ∈ r.wk) && decide (r.i ∈ pre ++ [i])) = A.filter (fun p => decide (k ∈ p.wk) && decide (p.i ∈ pre)) :=
          List.filter_congr fun p hp => by simp [hrA p hp]
        have e2 : B.filter (fun r => decide (k ∈ r.wk) && decide (r.i ∈ pre ++ [i])) = B.filter (fun p => decide (k ∈ p.wk) && decide (p.i ∈ pre)) :=
          List.filter_congr fun p hp => by simp [hrB' p hp]
        rw [e1, e2]
        by_cases hw : k ∈ r.wk
        · rw [if_pos hw, if_pos (by simp [hw, hri])]; simp
        · rw [if_neg hw, if_neg (by simp [hw])]; simp
      have hold : (recs.filter (fun r => r.i ∈ pre)).filter (fun r => k ∈ r.wk) =
          A.filter (fun p => decide (k ∈ p.wk) && decide (p.i ∈ pre)) ++ B.filter (fun q => decide (k ∈ q.wk) && decide (q.i ∈ pre)) := by
        rw [hAB, List.filter_filter, List.filter_append, List.filter_cons]
        rw [if_neg (by rw [hri]; simp [hni])]
      rw [hsplit, hold]
      by_cases hw : k ∈ r.wk
      · have hB0 : B.filter (fun q => decide (k ∈ q.wk) && decide (q.i ∈ pre)) = [] := by
          rw [List.filter_eq_nil_iff]
          intro q hq hc
          simp only [Bool.and_eq_true, decide_eq_true_eq] at hc
          refine after q hq ?_ hc.2
          unfold confs conf
          rw [Bool.or_eq_true]
          exact .inl (any_of hw (by simp [hc.1]))
        rw [hB0]
        simp [hw]
      · simp [hw]
  obtain ⟨e2, h1, h2, h3⟩ := key l ⟨[], by simp⟩
  refine ⟨e2, h1, h2, fun k => ?_⟩
  rw [h3 k]
  congr 2
  rw [List.filter_eq_self]
  intro r hr
  have : r.i ∈ recs.map (·.i) := List.mem_map_of_mem hr
  rw [hmap] at this
  simpa using (hs.all r.i).2 ((hτ r.i).1 this)

end Go.PG
