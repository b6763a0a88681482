/- The engine: frames as lists of the slots that matter; loops and joins in step with functions of lists. -/
import Derived.Test.YtfhddbnacbcppaaKPgW
set_option linter.unusedVariables false
set_option linter.unnecessarySimpa false
set_option linter.unusedSimpArgs false
namespace Go.PG

/-- The slot's value: the first entry's. -/
def aget : List (Nat × V) → Nat → V
  | [], _ => .dead
  | (i, v) :: r, j => if j = i then v else aget r j

/-- A frame of n slots, of which those named matter. -/
def SE (n : Nat) (S : List (Nat × V)) (h : Heap) : Env := ⟨(List.range n).map (aget S), h⟩

theorem se_len (n : Nat) (S : List (Nat × V)) (h : Heap) : (SE n S h).t.length = n := by simp [SE]
@[go_sem] theorem se_h (n : Nat) (S : List (Nat × V)) (h : Heap) : (SE n S h).h = h := rfl
@[go_sem] theorem se_get (n : Nat) (S : List (Nat × V)) (h : Heap) (d : Nat) (hd : d < n) : (SE n S h).t[d]? = some (aget S d) := by simp [SE, hd]
@[go_sem] theorem se_getD (n : Nat) (S : List (Nat × V)) (h : Heap) (d : Nat) (x : V) (hd : d < n) : (SE n S h).t.getD d x = aget S d := by simp [SE, hd]
@[go_sem] theorem se_ev (n : Nat) (S : List (Nat × V)) (h : Heap) (t : Nat) (ht : t < n) : (SE n S h).ev (.tmp t) = aget S t := by simp [Env.ev, SE, ht]
@[go_sem] theorem ev_const (e : Env) (v : Value) : e.ev (.const v) = (vOf v).getD .dead := rfl
@[go_sem] theorem ev_global (e : Env) (g : Nat) : e.ev (.global g) = .dead := rfl
@[go_sem] theorem ev_func (e : Env) (f : FuncId) : e.ev (.func f) = .fn (.func f) [] := rfl
@[go_sem] theorem se_upd (n : Nat) (S : List (Nat × V)) (h : Heap) (d : Nat) (v : V) (ups : List (Nat × Ob)) : (SE n S h).upd (some d) v ups = SE n ((d, v) :: S) (hsets h ups) := by
  simp only [Env.upd, SE, Env.mk.injEq, and_true]
  apply List.ext_getElem?
  intro i
  rw [List.getElem?_set]
  by_cases hd : d = i
  · subst hd
    by_cases hn : d < n <;> simp [hn, aget]
  · rw [if_neg hd]
    by_cases hn : i < n
    · simp only [List.getElem?_map, List.getElem?_range hn, Option.map_some, aget]
      rw [if_neg (fun e => hd e.symm)]
    · simp [hn]
@[go_sem] theorem se_upd0 (n : Nat) (S : List (Nat × V)) (h : Heap) (v : V) (ups : List (Nat × Ob)) : (SE n S h).upd none v ups = SE n S (hsets h ups) := rfl

/-- Less is known of each slot of a list. -/
def seLe (h' : Heap) (S : List (Nat × V)) : List (Nat × V) → Prop
  | [] => True
  | (i, c') :: r => slotLe h' (aget S i) c' ∧ seLe h' S r

theorem seLe_get {h' : Heap} {S : List (Nat × V)} : ∀ {S' : List (Nat × V)}, seLe h' S S' → ∀ i, slotLe h' (aget S i) (aget S' i)
  | [], _, i => .inl rfl
  | (j, c') :: r, hs, i => by
    simp only [aget]
    split
    · rename_i e; subst e; exact hs.1
    · exact seLe_get hs.2 i

theorem le_se {n : Nat} {S S' : List (Nat × V)} {h h' : Heap} (hs : seLe h' S S') (hh : heapKeep h h' h') : Le (SE n S h) (SE n S' h') :=
  le_env (by simp [SE]) (fun i c c' h1 h2 => by
    have hi : i < n := by have := (List.getElem?_eq_some_iff.1 h1).1; simpa [SE] using this
    rw [se_get _ _ _ _ hi] at h1 h2
    cases h1; cases h2
    exact seLe_get hs i) (heapKeep_le hh)

theorem le_pre {n : Nat} {A S : List (Nat × V)} {h : Heap} (hA : ∀ x ∈ A, aget S x.1 = .dead) : Le (SE n (A ++ S) h) (SE n S h) :=
  le_slots rfl (by simp [SE]) (fun i c c' h1 h2 => by
    have hi : i < n := by have := (List.getElem?_eq_some_iff.1 h1).1; simpa [SE] using this
    rw [se_get _ _ _ _ hi] at h1 h2
    cases h1; cases h2
    induction A with
    | nil => exact .inr rfl
    | cons a A ih =>
      by_cases e : i = a.1
      · left; rw [e]; exact hA a (by simp)
      · have := ih (fun x hx => hA x (by simp [hx]))
        show _ ∨ _ = aget ((a.1, a.2) :: (A ++ S)) i
        simp only [aget, if_neg e]
        exact this)

/-- A function's contract from its body, the frame as a list. -/
theorem pc_se {P : Program} {f : FuncId} {fn : Func} {c : Code} {vs : List V} {r : V} (hf : P.funcs[f]? = some fn) (hb : fn.body = some c) (hn : (fn.name == "runtime.NumGoroutine") = false)
    (n : Nat) (hnn : fn.ntmps = n) (hlen : vs.length ≤ n) (h : Tr P c (SE n (vs.zipIdx.map fun x => (x.2, x.1)) []) (Fin P fn r)) : PC P f vs r := by
  subst hnn
  refine pc_of hf hb hn (tr_le (e' := SE fn.ntmps (vs.zipIdx.map fun x => (x.2, x.1)) []) (le_slots rfl (by simp [SE]; omega) (fun i c c' h1 h2 => ?_)) h)
  have hi : i < fn.ntmps := by have := (List.getElem?_eq_some_iff.1 h2).1; simpa [SE] using this
  rw [se_get _ _ _ _ hi] at h2
  cases h2
  have key : ∀ (l : List V) (k i : Nat), aget ((l.zipIdx k).map fun x => (x.2, x.1)) (k + i) = (l[i]?).getD .dead := by
    intro l
    induction l with
    | nil => intro k i; simp [aget]
    | cons a l ih =>
      intro k i
      cases i with
      | zero => simp [aget]
      | succ i =>
        simp only [List.zipIdx_cons, List.map_cons, aget]
        rw [if_neg (by omega), show k + (i + 1) = k + 1 + i by omega, ih (k + 1) i]
        simp
  have := key vs 0 i
  rw [Nat.zero_add] at this
  rw [this]
  dsimp only at h1
  rw [List.getElem?_append] at h1
  split at h1
  · rename_i hlt
    right
    rw [h1]; rfl
  · rename_i hlt
    left
    simp [hlt]

theorem tr_sreg {P : Program} {id : Nat} {l : List Oper} {e : Env} {y : Code} {Q : Post} (h : ∀ K : Env → Prop, (∀ e', Tr P y e' Q → K e') → EvL P l.toArray l e K) : Tr P (.seq (.region id l.toArray false) y) e Q := by
  refine tr_seq_k fun K hK => tr_reg ?_
  exact h K hK

/-- What a piece of code leaves: the frame of a state. -/
def St {ι : Type} (F : ι → Prop) (EX : ι → Env) (e : Env) : Prop := ∃ i, F i ∧ Le e (EX i)
theorem st_mk {ι : Type} {F : ι → Prop} {EX : ι → Env} {e : Env} (i : ι) (hF : F i) (hl : Le e (EX i)) : St F EX e := ⟨i, hF, hl⟩
@[congr] theorem st_congr {ι : Type} {F : ι → Prop} {EX : ι → Env} {e e' : Env} (h : e = e') : St F EX e = St F EX e' := by rw [h]

/-- A piece of code and what is behind it: what the piece leaves, by a state. -/
theorem tr_seq_ex {P : Program} {x y : Code} {e : Env} {Q : Post} {ι : Type} (F : ι → Prop) (EX : ι → Env) (h1 : Tr P x e (Post.andThen (St F EX) Q)) (h2 : ∀ i, F i → Tr P y (EX i) Q) : Tr P (.seq x y) e Q :=
  tr_seq (h1.mono fun ex e' hq => by
    cases ex with
    | normal =>
      obtain ⟨i, hF, hle⟩ := hq
      exact tr_le hle (h2 i hF)
    | _ => exact hq)

/-! ### Functions in step -/

inductive Ctl (σ ρ : Type) where
  | nx (s : σ)
  | bk (s : σ)
  | rt (r : ρ)

def forL {α σ ρ : Type} (body : Nat → α → σ → Option (Ctl σ ρ)) : Nat → List α → σ → Option (σ ⊕ ρ)
  | _, [], s => some (.inl s)
  | k, x :: xs, s => (body k x s).bind fun c => match c with
    | .nx s' => forL body (k + 1) xs s'
    | .bk s' => some (.inl s')
    | .rt r => some (.inr r)

def forN {σ ρ : Type} (body : Nat → σ → Option (Ctl σ ρ)) : Nat → Nat → σ → Option (σ ⊕ ρ)
  | _, 0, s => some (.inl s)
  | k, m + 1, s => (body k s).bind fun c => match c with
    | .nx s' => forN body (k + 1) m s'
    | .bk s' => some (.inl s')
    | .rt r => some (.inr r)

def whL {σ ρ : Type} (body : σ → Option (Ctl σ ρ)) : Nat → σ → Option (σ ⊕ ρ)
  | 0, _ => none
  | k + 1, s => (body s).bind fun c => match c with
    | .nx s' => whL body k s'
    | .bk s' => some (.inl s')
    | .rt r => some (.inr r)

def idx {α : Type} (l : List α) (i : Int) : Option α := if 0 ≤ i then l[i.toNat]? else none

theorem idx_some {α : Type} {l : List α} {i : Int} {x : α} (h : idx l i = some x) : 0 ≤ i ∧ l[i.toNat]? = some x := by
  unfold idx at h; split at h
  · exact ⟨by assumption, h⟩
  · cases h

theorem bind_inv {α β : Type} {a : Option α} {f : α → Option β} {R : β} (h : a.bind f = some R) : ∃ x, a = some x ∧ f x = some R := Option.bind_eq_some_iff.1 h
theorem cond_t {α : Type} {c : Bool} {A B R : α} (h : c = true) (hI : cond c A B = R) : A = R := by rw [h] at hI; exact hI
theorem cond_f {α : Type} {c : Bool} {A B R : α} (h : c = false) (hI : cond c A B = R) : B = R := by rw [h] at hI; exact hI

/-- What follows a loop that may return. -/
theorem elim_l {σ ρ R : Type} {s : σ} {f : σ → Option R} {g : ρ → Option R} {x : R} (h : Sum.elim f g (.inl s) = some x) : f s = some x := h
theorem elim_r {σ ρ R : Type} {r : ρ} {f : σ → Option R} {g : ρ → Option R} {x : R} (h : Sum.elim f g (.inr r) = some x) : g r = some x := h

section loops
variable {P : Program} {b0 b1 ida idz tC tI tN t2 ty1 ty2 ty3 ty4 ty5 ty6 ty7 : Nat} {p1 p2 p3 : String} {a1 a2 a3 : Array Edge} {bodyc : Code} {opz : Op} {e : Env} {Q : Post}

theorem tr_forG {ι σ ρ : Type} {N : Nat} {Nz : Int} (hNz : N = Nz.toNat) (n : Nat) (π : ι → σ) (V : ι → List (Nat × V)) (H : ι → Heap) (i0 : ι) (step : Nat → σ → Option (Ctl σ ρ)) (L : Nat → σ → Option (σ ⊕ ρ)) {o : σ ⊕ ρ}
    (hend : ∀ k s, k = N → L k s = some (.inl s)) (hstep : ∀ k s, k < N → L k s = (step k s).bind fun c => match c with | .nx s' => L (k + 1) s' | .bk s' => some (.inl s') | .rt r => some (.inr r))
    (hL : L 0 (π i0) = some o) (hlim : N ≤ LIM) (hz : opz = .move (.tmp t2) ∨ opz = .assign (.tmp t2))
    (hne : tC ≠ tI ∧ tC ≠ tN ∧ t2 ≠ tI ∧ t2 ≠ tN ∧ tI ≠ tN) (hlt : tC < n ∧ tI < n ∧ tN < n ∧ t2 < n) (hV : ∀ i, aget (V i) tC = .dead ∧ aget (V i) tI = .dead ∧ aget (V i) tN = .dead ∧ aget (V i) t2 = .dead)
    (hle : Le e (SE n ((tI, .int .i64 (0 : Nat)) :: (tN, .int .i64 Nz) :: V i0) (H i0)))
    (hbody : ∀ (k : Nat) i ctl, k < N → (k : Int) < 4294967296 → step k (π i) = some ctl → (∀ s, ctl = .bk s → o = .inl s) → (∀ r, ctl = .rt r → o = .inr r) →
      Tr P bodyc (SE n ((tC, .bool true) :: (tI, .int .i64 k) :: (tN, .int .i64 Nz) :: V i) (H i))
        (rangePost b0 b1 (St (fun i' => ctl = .nx (π i')) (fun i' => SE n ((tI, .int .i64 k) :: (tN, .int .i64 Nz) :: V i') (H i'))) (Post.andThen (St (fun i => o = .inl (π i)) (fun i => SE n (V i) (H i))) Q))) :
    Tr P (.block b0 (.loop (.seq (.region ida #[⟨some tC, .binOp .lss ty1 (.tmp tI) (.tmp tN) ty2, ty3, p1, a1, none⟩] false)
      (.seq (.cond (.tmp tC) .skip (.exit b0)) (.seq (.block b1 bodyc)
        (.region idz #[⟨some t2, .binOp .add ty4 (.tmp tI) (.const (.int .i64 1)) ty5, ty6, p2, a2, none⟩, ⟨some tI, opz, ty7, p3, a3, none⟩] false)))))) e (Post.andThen (St (fun i => o = .inl (π i)) (fun i => SE n (V i) (H i))) Q) := by
  refine tr_rangeE (N := Nz) (fun k i => SE n ((tI, .int .i64 (k : Nat)) :: (tN, .int .i64 Nz) :: V i) (H i)) (fun k i => L k (π i) = some o) i0 (by omega) hz hne (fun k i => ?_) hL hle (fun k i hk hI => ?_) (fun k i hk hI => ?_)
  · obtain ⟨l1, l2, l3, l4⟩ := hlt
    obtain ⟨d1, d2, d3, d4, d5⟩ := hne
    refine ⟨?_, ?_, ?_, by rw [se_len]; exact l1⟩
    · rw [se_get _ _ _ _ l3]; simp [aget, Ne.symm d5]
    · rw [se_get _ _ _ _ l2]; simp [aget]
    · rw [se_get _ _ _ _ l4]; simp [aget, d3, d4, (hV i).2.2.2]
  · have hk' : k < N := by omega
    rw [hstep k (π i) hk'] at hI
    obtain ⟨ctl, hs, hI⟩ := bind_inv hI
    have hlt4 : (k : Int) < 4294967296 := by unfold LIM at hlim; omega
    have := hbody k i ctl hk' hlt4 hs (fun s hc => by subst hc; simpa using hI.symm) (fun r hc => by subst hc; simpa using hI.symm)
    rw [se_upd]
    refine this.mono ?_
    intro x e' hx
    have nxt : St (fun i' => ctl = .nx (π i')) (fun i' => SE n ((tI, .int .i64 k) :: (tN, .int .i64 Nz) :: V i') (H i')) e' →
        ∃ s', L (k + 1) (π s') = some o ∧ Le e' ⟨(SE n ((tI, .int .i64 ((k + 1 : Nat) : Int)) :: (tN, .int .i64 Nz) :: V s') (H s')).t.set tI (.int .i64 k), (SE n ((tI, .int .i64 ((k + 1 : Nat) : Int)) :: (tN, .int .i64 Nz) :: V s') (H s')).h⟩ := by
      rintro ⟨i', rfl, hle'⟩
      refine ⟨i', hI, ?_⟩
      have e1 : (⟨(SE n ((tI, .int .i64 ((k + 1 : Nat) : Int)) :: (tN, .int .i64 Nz) :: V i') (H i')).t.set tI (.int .i64 k), (SE n ((tI, .int .i64 ((k + 1 : Nat) : Int)) :: (tN, .int .i64 Nz) :: V i') (H i')).h⟩ : Env) =
          SE n ((tI, .int .i64 k) :: (tI, .int .i64 ((k + 1 : Nat) : Int)) :: (tN, .int .i64 Nz) :: V i') (H i') := se_upd n _ _ tI _ []
      rw [e1]
      refine hle'.trans (le_slots rfl (by simp [SE]) (fun j c c' h1 h2 => ?_))
      have hj : j < n := by have := (List.getElem?_eq_some_iff.1 h1).1; simpa [SE] using this
      rw [se_get _ _ _ _ hj] at h1 h2
      cases h1; cases h2
      right
      simp only [aget]
      split <;> rfl
    cases x with
    | normal => exact nxt hx
    | exit j =>
      simp only [rangePost] at hx ⊢
      by_cases hj : j = b1
      · rw [if_pos hj] at hx ⊢
        exact nxt hx
      · rw [if_neg hj] at hx ⊢
        exact hx
    | _ => exact hx
  · have hk' : k = N := by omega
    rw [hend k (π i) hk'] at hI
    cases hI
    refine ⟨i, rfl, ?_⟩
    rw [se_upd]
    refine (le_pre (A := [(tC, .bool false), (tI, .int .i64 k), (tN, .int .i64 Nz)]) ?_)
    intro x hx
    obtain ⟨v1, v2, v3, _⟩ := hV i
    rcases List.mem_cons.1 hx with rfl | hx
    · exact v1
    · rcases List.mem_cons.1 hx with rfl | hx
      · exact v2
      · rcases List.mem_cons.1 hx with rfl | hx
        · exact v3
        · cases hx

/-- A loop over a list. -/
theorem tr_forL {ι σ ρ α : Type} {xs : List α} {body : Nat → α → σ → Option (Ctl σ ρ)} {o : σ ⊕ ρ} (n : Nat) (π : ι → σ) (V : ι → List (Nat × V)) (H : ι → Heap) (i0 : ι)
    (hL : forL body 0 xs (π i0) = some o) (hlim : xs.length ≤ LIM) (hz : opz = .move (.tmp t2) ∨ opz = .assign (.tmp t2))
    (hne : tC ≠ tI ∧ tC ≠ tN ∧ t2 ≠ tI ∧ t2 ≠ tN ∧ tI ≠ tN) (hlt : tC < n ∧ tI < n ∧ tN < n ∧ t2 < n) (hV : ∀ i, aget (V i) tC = .dead ∧ aget (V i) tI = .dead ∧ aget (V i) tN = .dead ∧ aget (V i) t2 = .dead)
    (hle : Le e (SE n ((tI, .int .i64 (0 : Nat)) :: (tN, .int .i64 xs.length) :: V i0) (H i0)))
    (hbody : ∀ (k : Nat) x i ctl, xs[k]? = some x → (k : Int) < 4294967296 → body k x (π i) = some ctl → (∀ s, ctl = .bk s → o = .inl s) → (∀ r, ctl = .rt r → o = .inr r) →
      Tr P bodyc (SE n ((tC, .bool true) :: (tI, .int .i64 k) :: (tN, .int .i64 xs.length) :: V i) (H i))
        (rangePost b0 b1 (St (fun i' => ctl = .nx (π i')) (fun i' => SE n ((tI, .int .i64 k) :: (tN, .int .i64 xs.length) :: V i') (H i'))) (Post.andThen (St (fun i => o = .inl (π i)) (fun i => SE n (V i) (H i))) Q))) :
    Tr P (.block b0 (.loop (.seq (.region ida #[⟨some tC, .binOp .lss ty1 (.tmp tI) (.tmp tN) ty2, ty3, p1, a1, none⟩] false)
      (.seq (.cond (.tmp tC) .skip (.exit b0)) (.seq (.block b1 bodyc)
        (.region idz #[⟨some t2, .binOp .add ty4 (.tmp tI) (.const (.int .i64 1)) ty5, ty6, p2, a2, none⟩, ⟨some tI, opz, ty7, p3, a3, none⟩] false)))))) e (Post.andThen (St (fun i => o = .inl (π i)) (fun i => SE n (V i) (H i))) Q) := by
  refine tr_forG (Nz := (xs.length : Int)) (by simp) n π V H i0 (fun k s => (xs[k]?).bind fun x => body k x s) (fun k s => forL body k (xs.drop k) s) (fun k s hk => ?_) (fun k s hk => ?_) (by simpa using hL) hlim hz hne hlt hV hle (fun k i ctl hk h4 hs h1 h2 => ?_)
  · subst hk; simp [forL]
  · rw [List.drop_eq_getElem_cons hk]
    simp only [forL, List.getElem?_eq_getElem hk, Option.bind_some]
  · obtain ⟨x, hx, hs⟩ := bind_inv hs
    exact hbody k x i ctl hx h4 hs h1 h2

/-- A loop that counts to a number. -/
theorem tr_forN {ι σ ρ : Type} {N : Nat} {Nz : Int} (hNz : N = Nz.toNat) {body : Nat → σ → Option (Ctl σ ρ)} {o : σ ⊕ ρ} (n : Nat) (π : ι → σ) (V : ι → List (Nat × V)) (H : ι → Heap) (i0 : ι)
    (hL : forN body 0 N (π i0) = some o) (hlim : N ≤ LIM) (hz : opz = .move (.tmp t2) ∨ opz = .assign (.tmp t2))
    (hne : tC ≠ tI ∧ tC ≠ tN ∧ t2 ≠ tI ∧ t2 ≠ tN ∧ tI ≠ tN) (hlt : tC < n ∧ tI < n ∧ tN < n ∧ t2 < n) (hV : ∀ i, aget (V i) tC = .dead ∧ aget (V i) tI = .dead ∧ aget (V i) tN = .dead ∧ aget (V i) t2 = .dead)
    (hle : Le e (SE n ((tI, .int .i64 (0 : Nat)) :: (tN, .int .i64 Nz) :: V i0) (H i0)))
    (hbody : ∀ (k : Nat) i ctl, k < N → (k : Int) < 4294967296 → body k (π i) = some ctl → (∀ s, ctl = .bk s → o = .inl s) → (∀ r, ctl = .rt r → o = .inr r) →
      Tr P bodyc (SE n ((tC, .bool true) :: (tI, .int .i64 k) :: (tN, .int .i64 Nz) :: V i) (H i))
        (rangePost b0 b1 (St (fun i' => ctl = .nx (π i')) (fun i' => SE n ((tI, .int .i64 k) :: (tN, .int .i64 Nz) :: V i') (H i'))) (Post.andThen (St (fun i => o = .inl (π i)) (fun i => SE n (V i) (H i))) Q))) :
    Tr P (.block b0 (.loop (.seq (.region ida #[⟨some tC, .binOp .lss ty1 (.tmp tI) (.tmp tN) ty2, ty3, p1, a1, none⟩] false)
      (.seq (.cond (.tmp tC) .skip (.exit b0)) (.seq (.block b1 bodyc)
        (.region idz #[⟨some t2, .binOp .add ty4 (.tmp tI) (.const (.int .i64 1)) ty5, ty6, p2, a2, none⟩, ⟨some tI, opz, ty7, p3, a3, none⟩] false)))))) e (Post.andThen (St (fun i => o = .inl (π i)) (fun i => SE n (V i) (H i))) Q) := by
  refine tr_forG hNz n π V H i0 body (fun k s => forN body k (N - k) s) (fun k s hk => ?_) (fun k s hk => ?_) (by simpa using hL) hlim hz hne hlt hV hle hbody
  · subst hk; simp [forN]
  · obtain ⟨m, hm⟩ : ∃ m, N - k = m + 1 := ⟨N - k - 1, by omega⟩
    have hm' : N - (k + 1) = m := by omega
    simp only [hm, hm', forN]

end loops

/-- Any loop. -/
theorem tr_whL {P : Program} {b0 : Nat} {c : Code} {e : Env} {Q : Post} {ι σ ρ : Type} {body : σ → Option (Ctl σ ρ)} {o : σ ⊕ ρ} {k : Nat} (π : ι → σ) (E : ι → Env) (i0 : ι) (hL : whL body k (π i0) = some o) (hle : Le e (E i0))
    (hbody : ∀ i ctl, body (π i) = some ctl → (∀ s, ctl = .bk s → o = .inl s) → (∀ r, ctl = .rt r → o = .inr r) →
      Tr P c (E i) (Post.andThen (St (fun i' => ctl = .nx (π i')) E) (Post.inBlock b0 (Post.andThen (St (fun i => o = .inl (π i)) E) Q)))) :
    Tr P (.block b0 (.loop c)) e (Post.andThen (St (fun i => o = .inl (π i)) E) Q) := by
  refine tr_block (tr_loop (fun s : Nat × ι => E s.2) (fun s => whL body s.1 (π s.2) = some o) (fun s => s.1) (k, i0) hL hle ?_)
  rintro ⟨k, i⟩ hI
  dsimp only at hI ⊢
  cases k with
  | zero => cases hI
  | succ k =>
    simp only [whL] at hI
    obtain ⟨ctl, hs, hI⟩ := bind_inv hI
    refine (hbody i ctl hs (fun s hc => by subst hc; simpa using hI.symm) (fun r hc => by subst hc; simpa using hI.symm)).mono ?_
    intro x e' hx
    cases x with
    | normal =>
      obtain ⟨i', rfl, hle'⟩ := hx
      exact ⟨(k, i'), hI, Nat.lt_succ_self k, hle'⟩
    | _ => exact hx

attribute [go_sem] aget

end Go.PG
