/- The engine: loops, with the frame kept but for what they change. -/
import Derived.Test.YtfhddbnacbcppaaKPgV
set_option linter.unusedVariables false
set_option linter.unnecessarySimpa false
set_option linter.unusedSimpArgs false
namespace Go.PG

/-- Slot by slot: less is known. -/
def slotsLe (h' : Heap) : List V → List V → Prop
  | [], [] => True
  | c :: cs, c' :: cs' => slotLe h' c c' ∧ slotsLe h' cs cs'
  | _, _ => False

theorem slotsLe_len {h' : Heap} : ∀ {cs cs' : List V}, slotsLe h' cs cs' → cs'.length = cs.length
  | [], [], _ => rfl
  | c :: cs, c' :: cs', h => by simp [slotsLe_len h.2]
  | [], _ :: _, h => h.elim
  | _ :: _, [], h => h.elim

theorem slotsLe_get {h' : Heap} : ∀ {cs cs' : List V}, slotsLe h' cs cs' → ∀ (i : Nat) (c c' : V), cs[i]? = some c → cs'[i]? = some c' → slotLe h' c c'
  | [], [], _, i, c, c', h1, _ => by simp at h1
  | x :: cs, y :: cs', h, i, c, c', h1, h2 => by
    cases i with
    | zero => simp at h1 h2; subst h1 h2; exact h.1
    | succ i => exact slotsLe_get h.2 i c c' (by simpa using h1) (by simpa using h2)
  | [], _ :: _, h, _, _, _, _, _ => h.elim
  | _ :: _, [], h, _, _, _, _, _ => h.elim

theorem le_all {t t' : List V} {h h' : Heap} (hs : slotsLe h' t t') (hh : heapKeep h h' h') : Le ⟨t, h⟩ ⟨t', h'⟩ :=
  le_env (slotsLe_len hs) (fun i c c' h1 h2 => slotsLe_get hs i c c' h1 h2) (heapKeep_le hh)

theorem slotLe_dead {h' : Heap} {c : V} : slotLe h' c .dead := .inl rfl
theorem slotLe_same {h' : Heap} {c : V} (hw : c.within h' = true) : slotLe h' c c := .inr (.inl ⟨rfl, hw⟩)

theorem le_new {t : List V} {h : Heap} (n g : Nat) (p : Bool) (sz : Nat) (hn : hget h n = none) : Le ⟨t, h⟩ ⟨t, hset h n (.arr g p sz [])⟩ := by
  intro st a w hr
  have hno := hr.heap.nil_of hn
  refine ⟨st, ⟨hr.defers, hr.size, hr.tmps, ⟨fun m x hx => ?_, fun b m g' o hb => ?_, hr.heap.inj, hr.heap.shut⟩⟩, Hist.refl w st⟩
  · rw [hget_hset] at hx
    split at hx
    · rename_i e
      subst e
      cases hx
      exact ⟨by simp, by simp, by simp, .inl ⟨rfl, hno⟩⟩
    · exact hr.heap.ob m x hx
  · obtain ⟨h1, h2⟩ := hr.heap.dom b m g' o hb
    refine ⟨h1, ?_⟩
    dsimp only
    rw [hget_hset, if_neg (by rintro rfl; exact hno _ _ _ hb)]
    exact h2

/-- An empty sealed list is nil, or it is not. -/
theorem tr_nilq {P c e} {Q : Post} (i sz : Nat) (hi : e.t[i]? = some (.sl sz [])) (h1 : Tr P c ⟨e.t.set i .nil, e.h⟩ Q) (h2 : Tr P c ⟨e.t.set i (.emp sz), e.h⟩ Q) : Tr P c e Q := by
  intro st a w hr
  have hlt : i < e.t.length := (List.getElem?_eq_some_iff.1 hi).1
  have hla : i < a.tmps.size := by rw [hr.size]; exact hlt
  have hv : a.tmps[i]? = some a.tmps[i] := by simp [hla]
  have key : ∀ c', Rep w st c' a.tmps[i] → Rel st ⟨e.t.set i c', e.h⟩ a w := by
    intro c' hc'
    refine ⟨hr.defers, by simpa using hr.size, fun j d v hd hv' => ?_, hr.heap⟩
    dsimp only at hd
    rw [List.getElem?_set] at hd
    split at hd
    · rename_i e1
      subst e1
      cases hd
      rw [hv] at hv'
      cases hv'
      exact hc'
    · exact hr.tmps j d v hd hv'
  have := hr.tmps i _ _ hi hv
  cases hg : a.tmps[i] with
  | slice ad len cap =>
    rw [hg] at this
    rcases (rep_sl this).2 with ⟨hm, _⟩ | ⟨a1, cap1, hm, _⟩ | ⟨b, off, cap', cells, ty, fr, hm, _, hs, hb, _⟩
    · exact h1 st a w (key _ (by rw [hg, hm]; exact .s .nil))
    · exact h2 st a w (key _ (by rw [hg, hm]; exact .s .emp))
    · exact h2 st a w (key _ (by rw [hg, hm]; exact .s .emp))
  | _ =>
    rw [hg] at this
    rcases (rep_sl this).2 with ⟨hm, _⟩ | ⟨_, _, hm, _⟩ | ⟨b, off, cap', cells, ty, fr, hm, _⟩ <;> cases hm

def hdrop (ds : List Nat) : Heap → Heap
  | [] => []
  | (n, x) :: r => if ds.contains n = true then hdrop ds r else (n, x) :: hdrop ds r

/-- Some slots forgotten. -/
def mask : List Bool → List V → List V
  | true :: bs, _ :: cs => .dead :: mask bs cs
  | false :: bs, c :: cs => c :: mask bs cs
  | _, cs => cs

/-- The frame, but for some slots and ids that are forgotten, and some that are new. -/
def Env.over (e : Env) (ms : List Bool) (ds : List Nat) (vars : List (Nat × V)) (hp : Heap) : Env :=
  ⟨vars.foldl (fun l x => l.set x.1 x.2) (mask ms e.t), hsets (hdrop ds e.h) hp⟩

/-- A counting loop. -/
theorem tr_rangeE {P : Program} {b0 b1 ida idz tC tI tN t2 ty1 ty2 ty3 ty4 ty5 ty6 ty7 : Nat} {p1 p2 p3 : String} {a1 a2 a3 : Array Edge} {body : Code} {opz : Op} {e : Env} {Q : Post} {σ : Type} {N : Int}
    (E : Nat → σ → Env) (I : Nat → σ → Prop) (s0 : σ) (hN : N ≤ LIM) (hz : opz = .move (.tmp t2) ∨ opz = .assign (.tmp t2))
    (hne : tC ≠ tI ∧ tC ≠ tN ∧ t2 ≠ tI ∧ t2 ≠ tN ∧ tI ≠ tN)
    (hE : ∀ k s, (E k s).t[tN]? = some (.int .i64 N) ∧ (E k s).t[tI]? = some (.int .i64 k) ∧ (E k s).t[t2]? = some .dead ∧ tC < (E k s).t.length)
    (h0 : I 0 s0) (hle : Le e (E 0 s0))
    (hbody : ∀ (k : Nat) (s : σ), (k : Int) < N → I k s → Tr P body ((E k s).upd (some tC) (.bool true) [])
      (rangePost b0 b1 (fun e' => ∃ s', I (k + 1) s' ∧ Le e' ⟨(E (k + 1) s').t.set tI (.int .i64 k), (E (k + 1) s').h⟩) Q))
    (hdone : ∀ (k : Nat) (s : σ), k = N.toNat → I k s → Q .normal ((E k s).upd (some tC) (.bool false) [])) :
    Tr P (.block b0 (.loop (.seq (.region ida #[⟨some tC, .binOp .lss ty1 (.tmp tI) (.tmp tN) ty2, ty3, p1, a1, none⟩] false)
      (.seq (.cond (.tmp tC) .skip (.exit b0)) (.seq (.block b1 body)
        (.region idz #[⟨some t2, .binOp .add ty4 (.tmp tI) (.const (.int .i64 1)) ty5, ty6, p2, a2, none⟩, ⟨some tI, opz, ty7, p3, a3, none⟩] false)))))) e Q := by
  obtain ⟨d1, d2, d3, d4, d5⟩ := hne
  refine tr_block (tr_loop (fun s : Nat × σ => E s.1 s.2) (fun s => I s.1 s.2 ∧ s.1 ≤ N.toNat) (fun s => N.toNat - s.1) (0, s0) ⟨h0, Nat.zero_le _⟩ hle ?_)
  rintro ⟨k, s⟩ ⟨hI, hkN⟩
  dsimp only at hI hkN ⊢
  obtain ⟨v1, v2, _, v4⟩ := hE k s
  have w1 : (E k s).ev (.tmp tN) = .int .i64 N := by simp [Env.ev, List.getD_eq_getElem?_getD, v1]
  have w2 : (E k s).ev (.tmp tI) = .int .i64 k := by simp [Env.ev, List.getD_eq_getElem?_getD, v2]
  refine tr_seq (tr_reg ?_)
  rw [evl_binOp]
  simp only [eff, w1, w2, effBin2, effBin, ↓reduceIte, Option.map_some, after_some, CoL, evl_nil, Post.andThen]
  refine tr_seq ?_
  refine tr_cond (b := decide ((k : Int) < N)) ?_ (fun ht => ?_) (fun hf => ?_)
  · simp [Env.upd, Env.ev, List.getD_eq_getElem?_getD, v4]
  · refine tr_skip ?_
    simp only [Post.andThen]
    have hk : (k : Int) < N := of_decide_eq_true ht
    rw [ht]
    refine tr_seq (tr_block (Tr.mono (hbody k s hk hI) ?_))
    have fin : ∀ e', (∃ s', I (k + 1) s' ∧ Le e' ⟨(E (k + 1) s').t.set tI (.int .i64 k), (E (k + 1) s').h⟩) →
        Tr P (.region idz #[⟨some t2, .binOp .add ty4 (.tmp tI) (.const (.int .i64 1)) ty5, ty6, p2, a2, none⟩, ⟨some tI, opz, ty7, p3, a3, none⟩] false) e'
          (Post.andThen (fun e' => ∃ s' : Nat × σ, (I s'.1 s'.2 ∧ s'.1 ≤ N.toNat) ∧ N.toNat - s'.1 < N.toNat - k ∧ Le e' (E s'.1 s'.2)) (Post.inBlock b0 Q)) := by
      rintro e' ⟨s', hI', hle'⟩
      refine tr_le hle' (tr_reg ?_)
      obtain ⟨u1, u2, u3, u4⟩ := hE (k + 1) s'
      have hw : IntKind.i64.wrap ((k : Int) + 1) = ((k + 1 : Nat) : Int) := by
        unfold LIM at hN
        rw [wrap_small (by omega) (by omega)]; simp
      have hlI : tI < (E (k + 1) s').t.length := (List.getElem?_eq_some_iff.1 u2).1
      have hl2 : t2 < (E (k + 1) s').t.length := (List.getElem?_eq_some_iff.1 u3).1
      have x1 : Env.ev ⟨(E (k + 1) s').t.set tI (.int .i64 k), (E (k + 1) s').h⟩ (.tmp tI) = .int .i64 k := by
        simp [Env.ev, List.getD_eq_getElem?_getD, hlI]
      have hc1 : ∀ e : Env, e.ev (.const (.int .i64 1)) = .int .i64 1 := fun _ => rfl
      rw [evl_binOp]
      simp only [eff, x1, hc1, effBin2, effBin, ↓reduceIte, Option.map_some, after_some, CoL, hw]
      have hlast : ∀ (e : Env) (K : Env → Prop), EvL P #[⟨some t2, .binOp .add ty4 (.tmp tI) (.const (.int .i64 1)) ty5, ty6, p2, a2, none⟩, ⟨some tI, opz, ty7, p3, a3, none⟩] [⟨some tI, opz, ty7, p3, a3, none⟩] e K = K (e.upd (some tI) (e.ev (.tmp t2)) []) := by
        intro e K
        rcases hz with rfl | rfl
        · rw [evl_move]; rfl
        · rw [evl_assign]; rfl
      erw [hlast]
      have x2 : Env.ev (Env.upd ⟨(E (k + 1) s').t.set tI (.int .i64 k), (E (k + 1) s').h⟩ (some t2) (.int .i64 ((k + 1 : Nat) : Int)) []) (.tmp t2) = .int .i64 ((k + 1 : Nat) : Int) := by
        simp [Env.ev, Env.upd, List.getD_eq_getElem?_getD, hl2]
      rw [x2]
      simp only [Post.andThen]
      refine ⟨(k + 1, s'), ⟨hI', by omega⟩, by omega, le_slots rfl (by simp [Env.upd]) (fun i c c' h1 h2 => ?_)⟩
      simp only [Env.upd] at h1
      dsimp only at h2
      by_cases e1 : i = tI
      · subst e1
        rw [List.getElem?_set_self (by simpa using hlI)] at h1
        rw [u2] at h2
        cases h1; cases h2; exact .inr rfl
      · rw [List.getElem?_set_ne (by omega)] at h1
        by_cases e2 : i = t2
        · subst e2
          rw [u3] at h2
          cases h2; exact .inl rfl
        · rw [List.getElem?_set_ne (by omega), List.getElem?_set_ne (by omega)] at h1
          rw [h1] at h2
          cases h2
          exact .inr rfl
    intro ex e' hpost
    cases ex with
    | normal => exact fin e' hpost
    | exit j =>
      simp only [rangePost, Post.inBlock] at hpost ⊢
      by_cases hj : j = b1
      · rw [if_pos hj] at hpost ⊢
        exact fin e' hpost
      · rw [if_neg hj] at hpost ⊢
        exact hpost
    | _ => exact hpost
  · refine tr_exit ?_
    have hk : ¬ (k : Int) < N := of_decide_eq_false hf
    rw [hf]
    simp only [Post.andThen, Post.inBlock, ↓reduceIte]
    exact hdone k s (by omega) hI

/-- A counting loop: what it changes are the slots ms and the ids ds; vars and hp say what is known of some of these after k rounds. -/
theorem tr_over {P : Program} {b0 b1 ida idz tC tI tN t2 ty1 ty2 ty3 ty4 ty5 ty6 ty7 : Nat} {p1 p2 p3 : String} {a1 a2 a3 : Array Edge} {body : Code} {opz : Op} {e : Env} {Q : Post} {σ : Type} {N : Int}
    (ms : List Bool) (ds : List Nat) (vars : Nat → σ → List (Nat × V)) (hp : Nat → σ → Heap) (I : Nat → σ → Prop) (s0 : σ) (hN0 : e.t[tN]? = some (.int .i64 N)) (hN : N ≤ LIM) (hz : opz = .move (.tmp t2) ∨ opz = .assign (.tmp t2))
    (hne : tC ≠ tI ∧ tC ≠ tN ∧ t2 ≠ tI ∧ t2 ≠ tN ∧ tI ≠ tN)
    (hE : ∀ k s, (e.over ms ds (vars k s ++ [(tI, .int .i64 (k : Nat))]) (hp k s)).t[tN]? = some (.int .i64 N) ∧ (e.over ms ds (vars k s ++ [(tI, .int .i64 (k : Nat))]) (hp k s)).t[tI]? = some (.int .i64 k) ∧
      (e.over ms ds (vars k s ++ [(tI, .int .i64 (k : Nat))]) (hp k s)).t[t2]? = some .dead ∧ tC < (e.over ms ds (vars k s ++ [(tI, .int .i64 (k : Nat))]) (hp k s)).t.length)
    (h0 : I 0 s0) (hle : Le e (e.over ms ds (vars 0 s0 ++ [(tI, .int .i64 (0 : Nat))]) (hp 0 s0)))
    (hbody : ∀ (k : Nat) (s : σ), (k : Int) < N → I k s → Tr P body (e.over ms ds (vars k s ++ [(tI, .int .i64 (k : Nat)), (tC, .bool true)]) (hp k s))
      (rangePost b0 b1 (fun e' => ∃ s', I (k + 1) s' ∧ Le e' (e.over ms ds (vars (k + 1) s' ++ [(tI, .int .i64 (k : Nat))]) (hp (k + 1) s'))) Q))
    (hdone : ∀ (k : Nat) (s : σ), k = N.toNat → I k s → Q .normal (e.over ms ds (vars k s ++ [(tI, .int .i64 (k : Nat)), (tC, .bool false)]) (hp k s))) :
    Tr P (.block b0 (.loop (.seq (.region ida #[⟨some tC, .binOp .lss ty1 (.tmp tI) (.tmp tN) ty2, ty3, p1, a1, none⟩] false)
      (.seq (.cond (.tmp tC) .skip (.exit b0)) (.seq (.block b1 body)
        (.region idz #[⟨some t2, .binOp .add ty4 (.tmp tI) (.const (.int .i64 1)) ty5, ty6, p2, a2, none⟩, ⟨some tI, opz, ty7, p3, a3, none⟩] false)))))) e Q := by
  have up : ∀ (k : Nat) (s : σ) (c : V), (e.over ms ds (vars k s ++ [(tI, .int .i64 (k : Nat))]) (hp k s)).upd (some tC) c [] = e.over ms ds (vars k s ++ [(tI, .int .i64 (k : Nat)), (tC, c)]) (hp k s) := by
    intro k s c
    simp [Env.over, Env.upd, List.foldl_append, hsets]
  have set : ∀ (k : Nat) (s : σ) (c : V), (⟨(e.over ms ds (vars (k + 1) s ++ [(tI, .int .i64 ((k + 1 : Nat) : Int))]) (hp (k + 1) s)).t.set tI c, (e.over ms ds (vars (k + 1) s ++ [(tI, .int .i64 ((k + 1 : Nat) : Int))]) (hp (k + 1) s)).h⟩ : Env) =
      e.over ms ds (vars (k + 1) s ++ [(tI, c)]) (hp (k + 1) s) := by
    intro k s c
    simp [Env.over, List.foldl_append]
  refine tr_rangeE (fun k s => e.over ms ds (vars k s ++ [(tI, .int .i64 (k : Nat))]) (hp k s)) I s0 hN hz hne hE h0 hle (fun k s hk hI => ?_) (fun k s hk hI => ?_)
  · have := hbody k s hk hI
    simp only [up, set]
    exact this
  · have := hdone k s hk hI
    simp only [up]
    exact this

/-- Any loop. -/
theorem tr_while {P c e} {Q : Post} {σ : Type} (ms : List Bool) (ds : List Nat) (vars : σ → List (Nat × V)) (hp : σ → Heap) (I : σ → Prop) (μ : σ → Nat) (s0 : σ) (h0 : I s0) (hl : Le e (e.over ms ds (vars s0) (hp s0)))
    (hr : ∀ s, I s → Tr P c (e.over ms ds (vars s) (hp s)) (Post.andThen (fun e' => ∃ s', I s' ∧ μ s' < μ s ∧ Le e' (e.over ms ds (vars s') (hp s'))) Q)) : Tr P (.loop c) e Q :=
  tr_loop (fun s => e.over ms ds (vars s) (hp s)) I μ s0 h0 hl hr

attribute [go_sem] Env.over mask hdrop List.contains_cons List.contains_nil Bool.or_false Bool.false_or List.foldl_cons List.foldl_nil

end Go.PG
