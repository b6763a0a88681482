/- The engine: a law that says true, from its function's contract. -/
import Derived.Test.YtfhddbnacbcppaaKPgLk
import Derived.Test.YtfhddbnacbcppaaKPgM
import Derived.WalkKit
import Derived.ProofKit
import Derived.OpenShut
import Derived.Below
import Derived.Carry
set_option linter.unusedVariables false
set_option linter.unnecessarySimpa false
set_option linter.unusedSimpArgs false
namespace Go.PG
open Go.ChangeShapes Go.WideShapes Go.ChangeAt Go.RowKit

/-- An argument of a type. -/
def VA (P : Program) (n t : Nat) (x : V) : Prop :=
  ∃ i cs, tab P t = some i ∧ VT P n t cs ∧ (i.isA = true → x = .agg cs) ∧ (i.isA = false → cs = [x])

/-- A type whose arguments are told so. -/
def plainA (P : Program) (n t : Nat) : Bool :=
  plain P n t && (match tab P t with
    | some i => match i.kind with
      | .struct _ => true
      | _ => i.isA == false && i.size == 1
    | none => false)

theorem VT_int {P : Program} {n t : Nat} {cs : List V} {i : TI} {k : IntKind} (h : VT P n t cs) (hi : tab P t = some i) (hk : i.kind = .int k) : ∃ x, cs = [.int k x] ∧ k.min ≤ x ∧ x ≤ k.max := by
  cases n with
  | zero => cases h
  | succ n =>
    obtain ⟨i', hi', h⟩ := h
    rw [hi] at hi'; cases hi'
    rw [hk] at h
    exact h

theorem VT_bool {P : Program} {n t : Nat} {cs : List V} {i : TI} (h : VT P n t cs) (hi : tab P t = some i) (hk : i.kind = .bool) : ∃ b, cs = [.bool b] := by
  cases n with
  | zero => cases h
  | succ n =>
    obtain ⟨i', hi', h⟩ := h
    rw [hi] at hi'; cases hi'
    rw [hk] at h
    exact h

theorem VT_str {P : Program} {n t : Nat} {cs : List V} {i : TI} (h : VT P n t cs) (hi : tab P t = some i) (hk : i.kind = .str) : ∃ s, cs = [.str s] := by
  cases n with
  | zero => cases h
  | succ n =>
    obtain ⟨i', hi', h⟩ := h
    rw [hi] at hi'; cases hi'
    rw [hk] at h
    exact h

theorem VT_slice {P : Program} {n t e : Nat} {cs : List V} {i ei : TI} {α : Type} (en : α → V) (Q : α → Prop) (h : VT P n t cs) (hi : tab P t = some i) (hk : i.kind = .slice e) (he : tab P e = some ei)
    (hx : ∀ (m : Nat) (x : V) (ys : List V), VT P m e ys → (ei.isA = true → x = .agg ys) → (ei.isA = false → [x] = ys) → ∃ a, x = en a ∧ Q a) :
    ∃ l : List α, cs = [.sl ei.size (l.map en)] ∧ ∀ a ∈ l, Q a := by
  cases n with
  | zero => cases h
  | succ n =>
    obtain ⟨i', hi', h⟩ := h
    rw [hi] at hi'; cases hi'
    rw [hk] at h
    obtain ⟨ei', l, he', rfl, hl⟩ := h
    rw [he] at he'; cases he'
    have key : ∀ l : List V, (∀ x ∈ l, ∃ ys, VT P n e ys ∧ ys.length = ei.size ∧ (ei.isA = true → x = .agg ys) ∧ (ei.isA = false → [x] = ys)) → ∃ l' : List α, l = l'.map en ∧ ∀ a ∈ l', Q a := by
      intro l
      induction l with
      | nil => intro _; exact ⟨[], rfl, by simp⟩
      | cons x l ih =>
        intro h
        obtain ⟨ys, y1, _, y3, y4⟩ := h x (by simp)
        obtain ⟨a, rfl, ha⟩ := hx n x ys y1 y3 y4
        obtain ⟨l', rfl, hl'⟩ := ih (fun z hz => h z (by simp [hz]))
        refine ⟨a :: l', rfl, fun z hz => ?_⟩
        rcases List.mem_cons.1 hz with rfl | hz
        · exact ha
        · exact hl' z hz
    obtain ⟨l', rfl, hl'⟩ := key l hl
    exact ⟨l', rfl, hl'⟩

theorem VT_struct {P : Program} {n t : Nat} {cs : List V} {i : TI} {fs : List (Nat × Nat)} (h : VT P n t cs) (hi : tab P t = some i) (hk : i.kind = .struct fs) : ∃ m, fsVT P (VT P m) fs cs := by
  cases n with
  | zero => cases h
  | succ n =>
    obtain ⟨i', hi', h⟩ := h
    rw [hi] at hi'; cases hi'
    rw [hk] at h
    exact ⟨n, h⟩

theorem fsVT_cons {P : Program} {rec : Nat → List V → Prop} {o t : Nat} {r : List (Nat × Nat)} {cs : List V} (h : fsVT P rec ((o, t) :: r) cs) : ∃ a b, cs = a ++ b ∧ rec t a ∧ fsVT P rec r b := by
  obtain ⟨i, a, b, _, rfl, _, h1, h2⟩ := h
  exact ⟨a, b, rfl, h1, h2⟩

theorem fsVT_nil {P : Program} {rec : Nat → List V → Prop} {cs : List V} (h : fsVT P rec [] cs) : cs = [] := h

theorem VA_of {P : Program} {n t : Nat} {x : V} {i : TI} (h : VA P n t x) (hi : tab P t = some i) : ∃ cs, VT P n t cs ∧ (i.isA = true → x = .agg cs) ∧ (i.isA = false → cs = [x]) := by
  obtain ⟨i', cs, hi', h1, h2, h3⟩ := h
  rw [hi] at hi'; cases hi'
  exact ⟨cs, h1, h2, h3⟩

section
variable {H : Type} {enc : TypeId × Value → H} {P : Program} {w : World} {sp : Nat → Bool} {held : Bool} {bk : DataW H → Nat} {bks : List (DataW H) → Nat}

theorem arg_rep (hB : Bk bk bks) {n t : Nat} {v : Value} {d : DataW H} {p : List MemPlace} {r : Reach} {base : Nat} (hp : plainA P n t = true)
    (hok : Value.okWide P w r base t v) (h : DataW.Trod enc P w 0 sp held t v d p) (hle : bk d ≤ LIM) : ∃ x, RepS w (fun b => b < w.heap.size) x v ∧ VA P n t x ∧ x.bulk ≤ bk d := by
  obtain ⟨fuel, h⟩ := h
  simp only [plainA, Bool.and_eq_true] at hp
  obtain ⟨hp, hq⟩ := hp
  cases hi : tab P t with
  | none => rw [hi] at hq; cases hq
  | some i =>
    rw [hi] at hq
    simp only at hq
    obtain ⟨info, dd, z, hT⟩ := tab_ok hi
    have one : i.isA = false → i.size = 1 → v.cells = #[v] → ∃ x, RepS w (fun b => b < w.heap.size) x v ∧ VA P n t x ∧ x.bulk ≤ bk d := by
      intro h1 h2 h3
      rw [h3] at h
      obtain ⟨vs, r1, r2, r3⟩ := trod_rep hB n fuel t [v] d p i hp hi (by simp [h2]) h hle
      match vs, r1.1 with
      | [x], _ =>
        exact ⟨x, (r1.2 0 x v rfl rfl).1, ⟨i, [x], hi, r2, (fun h => absurd h (by rw [h1]; simp)), fun _ => rfl⟩, by simpa [V.bulkL] using r3⟩
    cases n with
    | zero => cases hp
    | succ n =>
      cases hk : i.kind with
      | int k =>
        rw [hk] at hq
        simp only [Bool.and_eq_true, beq_iff_eq] at hq
        have hd := kind_int (hT.kind.symm.trans hk)
        subst hd
        obtain ⟨y, rfl⟩ := okWide_int hT.und hok
        exact one hq.1 hq.2 rfl
      | bool =>
        rw [hk] at hq
        simp only [Bool.and_eq_true, beq_iff_eq] at hq
        have hd : dd = .bool := by have := hT.kind.symm.trans hk; cases dd <;> simp [kindOf] at this; rfl
        subst hd
        obtain ⟨y, rfl⟩ := okWide_bool hT.und hok
        exact one hq.1 hq.2 rfl
      | str =>
        rw [hk] at hq
        simp only [Bool.and_eq_true, beq_iff_eq] at hq
        have hd := kind_str (hT.kind.symm.trans hk)
        subst hd
        obtain ⟨y, rfl⟩ := okWide_string hT.und hok
        exact one hq.1 hq.2 rfl
      | slice e =>
        rw [hk] at hq
        simp only [Bool.and_eq_true, beq_iff_eq] at hq
        have hd := kind_slice (hT.kind.symm.trans hk)
        subst hd
        obtain ⟨a, l, c, rfl⟩ := okWide_slice hT.und hok
        exact one hq.1 hq.2 rfl
      | struct fs =>
        obtain ⟨fields, rfl, rfl⟩ := kind_struct (hT.kind.symm.trans hk)
        have hp' := hp
        simp only [plain, hi, hk, Bool.and_eq_true] at hp'
        obtain ⟨cs, rfl, hcs⟩ := okWide_struct hT.und hok
        rw [cellsOf_tab hi] at hcs
        obtain ⟨vs, r1, r2, r3⟩ := trod_rep hB (n + 1) fuel t cs.toList d p i hp hi (by simpa using hcs) (by simpa [Value.cells] using h) hle
        refine ⟨.agg vs, .agg (by have := r1.1; simp at this; omega) (fun j v hv => ?_) (fun j c v hc hv => ?_), ⟨i, vs, hi, r2, fun _ => rfl, (fun h => absurd h (by rw [hp'.1]; simp))⟩, by simpa [V.bulk] using r3⟩
        · have hj : j < vs.length := by rw [r1.1]; have := (Array.getElem?_eq_some_iff.1 hv).1; simpa using this
          exact (r1.2 j _ v (List.getElem?_eq_getElem hj) (by simpa using hv)).2
        · exact (r1.2 j c v hc (by simpa using hv)).1
      | _ => simp [plain, hi, hk] at hp

theorem args_rep (hB : Bk bk bks) {n : Nat} {r : Reach} {base : Nat} : ∀ (ts : List Nat) (vs : List Value) (ds : List (DataW H)) (p : List MemPlace), ts.all (plainA P n) = true →
    (∀ (j t : Nat) (v : Value), ts[j]? = some t → vs[j]? = some v → Value.okWide P w r base t v) → DataW.TrodAll enc P w 0 sp held ts vs ds p → bks ds ≤ LIM →
    ∃ xs : List V, xs.length = vs.length ∧ ts.length = vs.length ∧ (∀ (j : Nat) (x : V) (v : Value), xs[j]? = some x → vs[j]? = some v → RepS w (fun b => b < w.heap.size) x v) ∧
      (∀ (j t : Nat) (x : V), ts[j]? = some t → xs[j]? = some x → VA P n t x) ∧ V.bulkL xs ≤ bks ds
  | [], vs, ds, p, _, _, h, _ => by
    obtain ⟨rfl, rfl, rfl⟩ := trodAll_nil h
    exact ⟨[], rfl, rfl, by simp, by simp, by simp [V.bulkL]⟩
  | t :: ts, vs, ds, p, ha, hok, h, hle => by
    obtain ⟨v, vs, d, ds, p, q, rfl, rfl, rfl, h1, h2⟩ := trodAll_cons h
    simp only [List.all_cons, Bool.and_eq_true] at ha
    have hc := hB.cons d ds
    obtain ⟨x, x1, x2, x3⟩ := arg_rep hB ha.1 (hok 0 t v rfl rfl) h1 (by omega)
    obtain ⟨xs, y1, y0, y2, y3, y4⟩ := args_rep hB ts vs ds q ha.2 (fun j t v a b => hok (j + 1) t v (by simpa using a) (by simpa using b)) h2 (by omega)
    refine ⟨x :: xs, by simp [y1], by simp [y0], fun j x' v' a b => ?_, fun j t' x' a b => ?_, by simp only [V.bulkL]; omega⟩
    · cases j with
      | zero => simp at a b; subst a b; exact x1
      | succ j => simp at a b; exact y2 j x' v' a b
    · cases j with
      | zero => simp at a b; subst a b; exact x2
      | succ j => simp at a b; exact y3 j t' x' a b

theorem back_all (hl : laidOutB P = true) {W W' : World} (bel : Below W.heap.size W W') : ∀ (ts : List Nat) (vs : List Value) (ds : List (DataW H)) (p : List MemPlace),
    ts.all (fun t => P.readableRec t && decide (t < P.types.size)) = true → DataW.TrodAll enc P W 0 (fun _ => true) true ts vs ds p → ∃ q, DataW.TrodAll enc P W' 0 (fun b => decide (b < W.heap.size)) true ts vs ds q
  | [], vs, ds, p, _, h => by
    obtain ⟨rfl, rfl, rfl⟩ := trodAll_nil h
    exact ⟨[], trodAll_mk0⟩
  | t :: ts, vs, ds, p, ha, h => by
    obtain ⟨v, vs, d, ds, p, q, rfl, rfl, rfl, h1, h2⟩ := trodAll_cons h
    simp only [List.all_cons, Bool.and_eq_true, decide_eq_true_eq] at ha
    obtain ⟨q', hq⟩ := back_all hl bel ts vs ds q (by simpa using ha.2) h2
    have lt : ∀ x ∈ p, x.block < W.heap.size := by obtain ⟨m, hm⟩ := h1; exact DataW.trod_lt m _ _ _ hm
    exact ⟨_, trodAll_cons_mk (Below.trod hl ha.1.1 ha.1.2 h1 bel lt) hq⟩

/-- A law that says true, whatever came in: from its contract. -/
theorem law_true (hB : Bk bk bks) {n fn : Nat} {f : Func} {s : ChangeSpec} {ts : List Nat} {rt : Nat} (hl : laidOutB P = true)
    (hts : f.params.toList = ts) (hpl : ts.all (plainA P n) = true) (hrd : ts.all (fun t => P.readableRec t && decide (t < P.types.size)) = true)
    (hrs : f.resultTypes = #[rt]) (hrt : P.underlying rt = some .bool) (hvars : s.vars = [])
    (hfn : ∀ ds : List (DataW H), ds.length = ts.length → (s.fn H ds).results = [.lit (.bool true)] ∧ (s.fn H ds).args = ds ∧ (s.fn H ds).vars = [])
    (hlaw : ∀ xs : List V, xs.length = ts.length → (∀ (j t : Nat) (x : V), ts[j]? = some t → xs[j]? = some x → VA P n t x) → V.bulkL xs ≤ 1048576 → PC P fn xs (.bool true))
    (W : World) (base : Nat) (args : Array Value) (ds gs : List (DataW H)) (before : List MemPlace)
    (hval : ∀ (j : Nat) t v, f.params[j]? = some t → args[j]? = some v → Value.okWide P W .any base t v)
    (hW : DataW.Whole enc P f.params.toList s.vars false W args.toList ds gs before) (hk : bks (ds ++ gs) ≤ 1048576) :
    Calls P fn args W fun e W' => ∃ v, e = .returned v ∧ s.post enc P f false true false false W args v W' := by
  have hW' := hW
  obtain ⟨p, q, hA, hV, rfl, hfz, hnd⟩ := hW
  rw [hvars] at hV
  obtain ⟨rfl, rfl⟩ := trodVars_none hV
  rw [List.append_nil] at hk
  have hLIM : (1048576 : Nat) ≤ LIM := by decide
  rw [hts] at hA
  obtain ⟨xs, x1, x0, x2, x3, x4⟩ := args_rep hB (n := n) (r := .any) (base := base) ts args.toList ds p hpl (fun j t v a b => hval j t v (by rw [← hts] at a; simpa using a) (by simpa using b)) hA (by omega)
  have hlenD : ds.length = ts.length := by
    have key : ∀ (ts : List Nat) (vs : List Value) (ds : List (DataW H)) (p : List MemPlace), DataW.TrodAll enc P W 0 (fun _ => true) true ts vs ds p → ds.length = ts.length := by
      intro ts
      induction ts with
      | nil => intro vs ds p h; obtain ⟨rfl, rfl, rfl⟩ := trodAll_nil h; rfl
      | cons t ts ih => intro vs ds p h; obtain ⟨v, vs, d, ds, p, q, rfl, rfl, rfl, h1, h2⟩ := trodAll_cons h; simp [ih _ _ _ h2]
    exact key _ _ _ _ hA
  have hpc := hlaw xs (by omega) x3 (by omega)
  refine (hpc.2 W (fun b => b < W.heap.size) args (fun b h => h) (by simpa using x1.symm) (fun j c m a b => x2 j c m a (by simpa using b))).mono fun e W' ⟨m, S', he, hr, _, _, hsz, hheap, h3⟩ => ?_
  subst he
  have bel : Below W.heap.size W W' := ⟨h3.os, h3.tape, h3.output, hsz, hheap⟩
  cases hr
  obtain ⟨q', hq'⟩ := back_all hl bel ts args.toList ds p hrd hA
  obtain ⟨g1, g2, g3⟩ := hfn ds hlenD
  refine ⟨_, rfl, ds, [], p ++ [], [], q', [], hW', ?_, ?_, ?_, bel.frame _, fun h => by cases h⟩
  · rw [List.append_nil, g1, hrs]
    exact trodAll_mk1 (shut_bool hrt _)
  · rw [List.append_nil, g2, hts]
    exact hq'
  · rw [List.append_nil, g3, hvars]
    rfl
end
end Go.PG
