/- The engine: regions whose order Go leaves open: every order that their edges allow comes to the same. -/
import Derived.Test.YtfhddbnacbcppaaKPgP
set_option linter.unusedVariables false
set_option linter.unnecessarySimpa false
set_option linter.unusedSimpArgs false
namespace Go.PG

/-- What an operation may read or write: a slot, or an id. -/
inductive Key where
  | s (i : Nat)
  | h (n : Nat)
  deriving DecidableEq

def look (e : Env) : Key → Option (V ⊕ Ob)
  | .s i => (e.t[i]?).map .inl
  | .h n => (hget e.h n).map .inr

structure Rc where
  i : Nat
  dst : Option Nat
  v : V
  ups : List (Nat × Ob)
  rd : List Key

def upKey (ups : List (Nat × Ob)) (n : Nat) : Option Ob :=
  match ups with
  | [] => none
  | (m, x) :: r => match upKey r n with
    | some y => some y
    | none => if n = m then some x else none

def Rc.wk (r : Rc) : List Key := (match r.dst with | some d => [.s d] | none => []) ++ r.ups.map fun x => .h x.1

def Rc.vl (r : Rc) : Key → Option (V ⊕ Ob)
  | .s _ => some (.inl r.v)
  | .h n => (upKey r.ups n).map .inr

theorem hget_hsets : ∀ (ups : List (Nat × Ob)) (h : Heap) (n : Nat), hget (hsets h ups) n = match upKey ups n with | some x => some x | none => hget h n
  | [], h, n => rfl
  | (m, x) :: r, h, n => by
    rw [hsets, hget_hsets r]
    simp only [upKey]
    cases upKey r n with
    | some y => rfl
    | none =>
      simp only [hget_hset]
      split <;> rfl

theorem upKey_mem : ∀ (ups : List (Nat × Ob)) (n : Nat), (∃ x, upKey ups n = some x) ↔ n ∈ ups.map (·.1)
  | [], n => by simp [upKey]
  | (m, x) :: r, n => by
    have ih := upKey_mem r n
    simp only [upKey, List.map_cons, List.mem_cons]
    cases h : upKey r n with
    | some y => simp only [h] at ih; simp; exact .inr (by simpa using ih)
    | none =>
      simp only [h, reduceCtorEq, exists_false, false_iff] at ih
      by_cases e : n = m
      · simp [e]
      · simp only [e, if_false, reduceCtorEq, exists_false, false_or, false_iff]; exact ih

def Rc.app (e : Env) (r : Rc) : Env := e.upd r.dst r.v r.ups

theorem app_len (e : Env) (r : Rc) : (r.app e).t.length = e.t.length := by
  unfold Rc.app Env.upd
  cases r.dst <;> simp

theorem look_app (e : Env) (r : Rc) (hd : ∀ d, r.dst = some d → d < e.t.length) (k : Key) : look (r.app e) k = if k ∈ r.wk then r.vl k else look e k := by
  cases k with
  | s i =>
    have hw : Key.s i ∈ r.wk ↔ r.dst = some i := by
      unfold Rc.wk
      cases r.dst <;> simp [eq_comm]
    simp only [look, Rc.app, Env.upd, Rc.vl]
    by_cases h : r.dst = some i
    · rw [if_pos (hw.2 h), h]
      simp [hd i h]
    · rw [if_neg (fun x => h (hw.1 x))]
      cases hdst : r.dst with
      | none => rfl
      | some d =>
        have : d ≠ i := by rintro rfl; exact h hdst
        simp [this]
  | h n =>
    have hw : Key.h n ∈ r.wk ↔ n ∈ r.ups.map (·.1) := by
      unfold Rc.wk
      cases r.dst <;> simp
    simp only [look, Rc.app, Env.upd, Rc.vl, hget_hsets]
    by_cases h : n ∈ r.ups.map (·.1)
    · rw [if_pos (hw.2 h)]
      obtain ⟨x, hx⟩ := (upKey_mem r.ups n).2 h
      rw [hx]
    · rw [if_neg (fun x => h (hw.1 x))]
      have : upKey r.ups n = none := by
        cases hx : upKey r.ups n with
        | none => rfl
        | some x => exact absurd ((upKey_mem r.ups n).1 ⟨x, hx⟩) h
      rw [this]

def folds (e : Env) (l : List Rc) : Env := l.foldl Rc.app e

theorem folds_len : ∀ (l : List Rc) (e : Env), (folds e l).t.length = e.t.length
  | [], _ => rfl
  | r :: l, e => by show (folds (r.app e) l).t.length = _; rw [folds_len l, app_len]

theorem snoc_ind {α : Type} {p : List α → Prop} (h0 : p []) (h1 : ∀ l a, p l → p (l ++ [a])) (l : List α) : p l := by
  rw [← List.reverse_reverse l]
  induction l.reverse with
  | nil => simpa using h0
  | cons a l ih => rw [List.reverse_cons]; exact h1 _ _ ih

/-- What a key holds behind a row of steps: what the last one that writes it has left. -/
theorem look_folds (e : Env) (k : Key) : ∀ (l : List Rc), (∀ r ∈ l, ∀ d, r.dst = some d → d < e.t.length) →
    look (folds e l) k = match (l.filter fun r => k ∈ r.wk).getLast? with | some r => r.vl k | none => look e k := by
  refine snoc_ind (p := fun l => (∀ r ∈ l, ∀ d, r.dst = some d → d < e.t.length) → look (folds e l) k = match (l.filter fun r => k ∈ r.wk).getLast? with | some r => r.vl k | none => look e k) (fun _ => rfl) (fun l r ih hd => ?_)
  · have e1 : folds e (l ++ [r]) = r.app (folds e l) := by simp [folds]
    rw [e1, look_app _ _ (fun d h => by rw [folds_len]; exact hd r (by simp) d h), ih fun r' hr' => hd r' (by simp [hr'])]
    rw [List.filter_append]
    by_cases h : k ∈ r.wk
    · rw [if_pos h]
      simp [List.filter_cons, h]
    · rw [if_neg h]
      simp [List.filter_cons, h]

/-- A schedule: every operation once, each behind those that its edges name. -/
structure Sched (m : Region.Mode) (ops : Array Oper) (l : List Nat) : Prop where
  nodup : l.Nodup
  all : ∀ i, i ∈ l ↔ i < ops.size
  edges : ∀ pre i post, l = pre ++ i :: post → ∀ o, ops[i]? = some o → ∀ e ∈ o.after, Region.binds m e = true → e.on ∈ pre

theorem lin_go {m : Region.Mode} {ops : Array Oper} (rank : Nat → Nat)
    (hrank : ∀ i o, ops[i]? = some o → ∀ e ∈ o.after, Region.binds m e = true → e.on < ops.size ∧ rank e.on < rank i) :
    ∀ (fuel t : Nat) (listed : Array Bool) (acc : List Nat), listed.size = ops.size → (∀ i, i < ops.size → (listed.getD i true = true ↔ i ∈ acc)) → acc.Nodup → (∀ i ∈ acc, i < ops.size) → fuel + acc.length = ops.size →
    (∀ pre i post, acc.reverse = pre ++ i :: post → ∀ o, ops[i]? = some o → ∀ e ∈ o.after, Region.binds m e = true → e.on ∈ pre) →
    Sched m ops (Region.linearise.go m ops fuel t listed acc) := by
  intro fuel
  induction fuel with
  | zero =>
    intro t listed acc hsz hl hnd hin hlen hed
    simp only [Region.linearise.go]
    refine ⟨(List.reverse_perm acc).nodup_iff.2 hnd, fun i => ⟨fun h => hin i (by simpa using h), fun h => ?_⟩, hed⟩
    -- all of them: as many as there are
    have hlen' : acc.length = ops.size := by omega
    have key : ∀ (n : Nat) (l : List Nat), l.Nodup → (∀ i ∈ l, i < n) → l.length = n → ∀ i, i < n → i ∈ l := by
      intro n
      induction n with
      | zero => intro l _ _ _ i hi; omega
      | succ n ih =>
        intro l hnd hin hlen i hi
        have hn : n ∈ l := by
          by_cases h : n ∈ l
          · exact h
          · -- then all n + 1 of them are below n
            exfalso
            have hb : ∀ j ∈ l, j < n := fun j hj => by
              have := hin j hj
              have : j ≠ n := by rintro rfl; exact h hj
              omega
            have hle : l.length ≤ (List.range n).length := List.Nodup.length_le_of_subset hnd (fun i hi => List.mem_range.2 (hb i hi))
            simp at hle
            omega
        by_cases e : i = n
        · rw [e]; exact hn
        · have := ih (l.erase n) (hnd.erase n) (fun j hj => by
            have h1 := hin j (List.mem_of_mem_erase hj)
            have h2 : j ≠ n := by rintro rfl; exact (hnd.not_mem_erase) hj
            omega) (by rw [List.length_erase_of_mem hn]; omega) i (by omega)
          exact List.mem_of_mem_erase this
    simpa using key ops.size acc hnd hin hlen' i h
  | succ fuel ih =>
    intro t listed acc hsz hl hnd hin hlen hed
    simp only [Region.linearise.go]
    split
    · rename_i i hi
      have hmem := List.mem_of_getElem? hi
      simp only [List.mem_filter, List.mem_range, Bool.and_eq_true, Bool.not_eq_true', Option.getD_eq_iff, Option.map_eq_some_iff] at hmem
      obtain ⟨hlt, hnl, hpred⟩ := hmem
      have hni : i ∉ acc := by
        intro h
        have := (hl i hlt).2 h
        rw [hnl] at this; cases this
      refine ih _ _ _ (by simpa using hsz) (fun j hj => ?_) (List.nodup_cons.2 ⟨hni, hnd⟩) (fun j hj => ?_) (by simp; omega) (fun pre j post hp o ho e he hb => ?_)
      · rw [Array.getD_eq_getD_getElem?, Array.getElem?_setIfInBounds]
        by_cases e : i = j
        · subst e
          simp [hsz, hlt]
        · rw [if_neg e, ← Array.getD_eq_getD_getElem?, hl j hj]
          simp [Ne.symm e]
      · rcases List.mem_cons.1 hj with rfl | hj
        · exact hlt
        · exact hin j hj
      · rw [List.reverse_cons] at hp
        rcases List.eq_nil_or_concat post with rfl | ⟨post', x, rfl⟩
        · -- i itself
          have h1 := List.append_inj' hp rfl
          obtain ⟨h1, h2⟩ := h1
          simp at h2
          subst h2
          rw [← h1]
          simp only [List.mem_reverse]
          rcases hpred with hpred | hpred
          · obtain ⟨o', ho', hall⟩ := hpred
            rw [ho] at ho'
            cases ho'
            have := Array.all_eq_true_iff_forall_mem.1 hall e he
            simp [hb] at this
            have hon := (hrank i o ho e he hb).1
            have : listed.getD e.on true = true := by
              rw [Array.getD_eq_getD_getElem?]
              have hx : e.on < listed.size := by omega
              simp [hx] at this ⊢
              exact this
            exact (hl e.on hon).1 this
          · exact absurd hpred.2 (by simp)
        · have : acc.reverse = pre ++ j :: post' := by
            have h2 : acc.reverse ++ [i] = (pre ++ j :: post') ++ [x] := by rw [hp]; simp
            exact (List.append_inj' h2 rfl).1
          exact hed pre j post' this o ho e he hb
    · rename_i hnone
      exfalso
      -- something is still to come: the one of the least rank can be taken
      have hex : ∃ i, i < ops.size ∧ i ∉ acc := by
        by_cases h : ∃ i, i < ops.size ∧ i ∉ acc
        · exact h
        · exfalso
          have hall : ∀ i ∈ List.range ops.size, i ∈ acc := fun i hi => by
            by_cases hm : i ∈ acc
            · exact hm
            · exact absurd ⟨i, List.mem_range.1 hi, hm⟩ h
          have := List.Nodup.length_le_of_subset List.nodup_range hall
          simp at this
          omega
      have hmin : ∀ n, (∃ i, i < ops.size ∧ i ∉ acc ∧ rank i ≤ n) → ∃ i, i < ops.size ∧ i ∉ acc ∧ ∀ j, j < ops.size → rank j < rank i → j ∈ acc := by
        intro n
        induction n with
        | zero =>
          rintro ⟨i, h1, h2, h3⟩
          exact ⟨i, h1, h2, fun j _ hj => by omega⟩
        | succ n ihn =>
          rintro ⟨i, h1, h2, h3⟩
          by_cases h : ∃ j, j < ops.size ∧ j ∉ acc ∧ rank j ≤ n
          · exact ihn h
          · refine ⟨i, h1, h2, fun j hj hjr => ?_⟩
            by_cases hm : j ∈ acc
            · exact hm
            · exact absurd ⟨j, hj, hm, by omega⟩ h
      obtain ⟨i0, g1, g2⟩ := hex
      obtain ⟨i, hlt, hni, hlow⟩ := hmin (rank i0) ⟨i0, g1, g2, Nat.le_refl _⟩
      have hin' : i ∈ (List.range ops.size).filter fun i => !listed.getD i true && ((ops[i]?).map (·.after.all fun e => !Region.binds m e || listed.getD e.on false)).getD false := by
        simp only [List.mem_filter, List.mem_range, Bool.and_eq_true, Bool.not_eq_true']
        refine ⟨hlt, ?_, ?_⟩
        · cases h : listed.getD i true with
          | false => rfl
          | true => exact absurd ((hl i hlt).1 h) hni
        · have ho : ops[i]? = some ops[i] := by simp [hlt]
          rw [ho]
          simp only [Option.map_some, Option.getD_some]
          rw [Array.all_eq_true_iff_forall_mem]
          intro e he
          cases hb : Region.binds m e with
          | false => simp
          | true =>
            obtain ⟨k1, k2⟩ := hrank i _ ho e he hb
            have := (hl e.on k1).2 (hlow e.on k1 k2)
            rw [Array.getD_eq_getD_getElem?] at this
            have hx : e.on < listed.size := by omega
            simp [hx] at this ⊢
            exact this
      have hpos := List.length_pos_of_mem hin'
      rw [List.getElem?_eq_none_iff] at hnone
      have := Nat.mod_lt t hpos
      omega

end Go.PG
