/- The engine: a loop that counts. -/
import Derived.Test.YtfhddbnacbcppaaKPgT
set_option linter.unusedVariables false
set_option linter.unnecessarySimpa false
set_option linter.unusedSimpArgs false
namespace Go.PG

theorem le_slots {e e' : Env} (hh : e'.h = e.h) (hl : e'.t.length = e.t.length) (ht : ∀ (i : Nat) (c c' : V), e.t[i]? = some c → e'.t[i]? = some c' → c' = .dead ∨ c' = c) : Le e e' := by
  intro st a w hr
  refine ⟨st, ⟨hr.defers, by rw [hr.size, hl], fun i c' v hc' hv => ?_, by rw [hh]; exact hr.heap⟩, Hist.refl w st⟩
  have hlt : i < e.t.length := by have := (List.getElem?_eq_some_iff.1 hc').1; omega
  have hc := List.getElem?_eq_getElem hlt
  rcases ht i _ c' hc hc' with rfl | rfl
  · exact .dead
  · exact hr.tmps i _ v hc hv

theorem keep_upd (n : Nat) (l : List (Nat × V)) (h : Heap) (t : Nat) (v : V) : (Env.keep n l h).upd (some t) v [] = Env.keep n (l ++ [(t, v)]) h := by
  simp [Env.upd, Env.keep, hsets, List.foldl_append]

theorem keep_ev_last (n : Nat) (l : List (Nat × V)) (h : Heap) (t : Nat) (v : V) (ht : t < n) : (Env.keep n (l ++ [(t, v)]) h).ev (.tmp t) = v := by
  simp [Env.ev, Env.keep, List.foldl_append, keep_len, ht]

theorem keep_ev_prev (n : Nat) (l : List (Nat × V)) (h : Heap) (t t' : Nat) (v : V) (ht : t' ≠ t) : (Env.keep n (l ++ [(t, v)]) h).ev (.tmp t') = (Env.keep n l h).ev (.tmp t') := by
  simp only [Env.ev, Env.keep, List.foldl_append, List.foldl_cons, List.foldl_nil, List.getD_eq_getElem?_getD, List.getElem?_set]
  rw [if_neg (by omega)]

/-- What a round of a counting loop may come to. -/
def rangePost (b0 b1 : Nat) (next : Env → Prop) (Q : Post) : Post
  | .normal, e => next e
  | .exit j, e => if j = b1 then next e else if j = b0 then Q .normal e else Q (.exit j) e
  | x, e => Q x e

theorem wrap_small {n : Int} (h0 : -9223372036854775808 ≤ n) (h1 : n < 9223372036854775808) : IntKind.i64.wrap n = n := by
  unfold IntKind.wrap; simp [IntKind.signed, IntKind.bits]; omega

theorem keep_not {n : Nat} {l : List (Nat × V)} {t : Nat} (h : ∀ x ∈ l, x.1 ≠ t) (c : V) (hc : (l.foldl (fun l x => l.set x.1 x.2) (List.replicate n V.dead))[t]? = some c) : c = .dead := by
  rcases keep_get n l _ t c hc with ⟨x, hx, h1, _⟩ | h2
  · exact absurd h1 (h x hx)
  · exact (List.mem_replicate.1 (List.mem_of_getElem? h2)).2

end Go.PG
