/- The engine: what is owned, seen as sealed. -/
import Derived.Test.YtfhddbnacbcppaaKPgK
set_option linter.unusedVariables false
set_option linter.unnecessarySimpa false
set_option linter.unusedSimpArgs false
namespace Go.PG

/-- A value with its ids resolved: as somebody sees it who changes nothing. -/
def resV (h : Heap) : Nat → V → Option V
  | 0, v => if v.idfree = true then some v else none
  | n + 1, v =>
    if v.idfree = true then some v else
    match v with
    | .agg cs => (cs.mapM (resV h n)).map .agg
    | .tup cs => (cs.mapM (resV h n)).map .tup
    | .fn f cs => (cs.mapM (resV h n)).map (.fn f)
    | .so m g sz off len =>
      match hget h m with
      | some (.arr g' p s l) =>
        if g' = g ∧ s = sz ∧ off + len ≤ l.length then
          if p = true then some (.sl sz ((l.drop off).take len))
          else (((l.drop off).take len).mapM fun (x : V) => match x with
            | .agg cs => (cs.mapM (resV h n)).map V.agg
            | y => resV h n y).map (.sl sz)
        else none
      | _ => none
    | .ep m g sz k off =>
      match hget h m with
      | some (.arr g' p s l) =>
        if g' = g ∧ s = sz then
          match l[k]? with
          | some x => if p = true then some (.pr (x.cells.drop off)) else ((x.cells.drop off).mapM (resV h n)).map .pr
          | none => none
        else none
      | _ => none
    | .mo m g =>
      match hget h m with
      | some (.map g' ks vs) =>
        if g' = g then
          match ks.mapM (resV h n), vs.mapM (resV h n) with
          | some ks', some vs' => some (.mp ks' vs')
          | _, _ => none
        else none
      | _ => none
    | _ => none

theorem mapM_get {f : V → Option V} : ∀ {l l' : List V}, l.mapM f = some l' → l'.length = l.length ∧ ∀ (j : Nat) (c' : V), l'[j]? = some c' → ∃ c, l[j]? = some c ∧ f c = some c'
  | [], l', h => by simp at h; subst h; simp
  | x :: l, l', h => by
    simp only [List.mapM_cons, Option.bind_eq_bind, Option.bind_eq_some_iff, Option.pure_def, Option.some.injEq] at h
    obtain ⟨y, hy, ys, hys, rfl⟩ := h
    obtain ⟨h1, h2⟩ := mapM_get hys
    refine ⟨by simp [h1], fun j c' hc => ?_⟩
    cases j with
    | zero => simp at hc; subst hc; exact ⟨x, rfl, hy⟩
    | succ j => simp at hc; simpa using h2 j c' hc

def okS (st : Nat → Own) : Nat → Prop := fun b => st b ≠ .none

theorem RepS.all {w st c v} (h : RepS w (fun b => st b = .shut) c v) : RepS w (okS st) c v :=
  h.frame fun b hb => ⟨by unfold okS; rw [hb]; simp, rfl⟩

theorem resV_idfree {h : Heap} {n : Nat} {v : V} (hv : v.idfree = true) : resV h n v = some v := by
  cases n <;> simp [resV, hv]

theorem resV_cells {h : Heap} {n : Nat} {w st} (ih : ∀ (c c' : V) (v : Value), Rep w st c v → resV h n c = some c' → RepS w (okS st) c' v)
    (hone : ∀ c c' : V, resV h n c = some c' → c.cells = [c] → c'.cells = [c']) {x x' : V}
    (hx : (match x with | .agg cs => (cs.mapM (resV h n)).map V.agg | y => resV h n y) = some x') :
    x'.cells.length = x.cells.length ∧ ∀ (j : Nat) (c' : V), x'.cells[j]? = some c' → ∃ c, x.cells[j]? = some c ∧ resV h n c = some c' := by
  cases x with
  | agg cs =>
    simp only [Option.map_eq_some_iff] at hx
    obtain ⟨cs', h1, rfl⟩ := hx
    exact mapM_get h1
  | _ =>
    have hc := hone _ _ hx rfl
    simp only at hx
    refine ⟨by rw [hc]; rfl, fun j c' hj => ?_⟩
    rw [hc] at hj
    cases j with
    | zero => simp at hj; subst hj; exact ⟨_, rfl, hx⟩
    | succ j => simp at hj

theorem resV_one {h : Heap} {n : Nat} {c c' : V} (hr : resV h n c = some c') (hc : c.cells = [c]) : c'.cells = [c'] := by
  by_cases hi : c.idfree = true
  · rw [resV_idfree hi] at hr; cases hr; exact hc
  · cases n with
    | zero => simp [resV, hi] at hr
    | succ n =>
      simp only [resV, hi] at hr
      simp only [Bool.false_eq_true, if_false] at hr
      split at hr
      · -- agg: cells of an agg are its own only if it is a single one
        rename_i cs
        simp only [V.cells] at hc
        have h0 := congrArg (fun l : List V => SizeOf.sizeOf l) hc
        simp at h0
        omega
      · simp only [Option.map_eq_some_iff] at hr; obtain ⟨_, _, rfl⟩ := hr; rfl
      · simp only [Option.map_eq_some_iff] at hr; obtain ⟨_, _, rfl⟩ := hr; rfl
      · split at hr
        · split at hr
          · split at hr
            · cases hr; rfl
            · simp only [Option.map_eq_some_iff] at hr; obtain ⟨_, _, rfl⟩ := hr; rfl
          · cases hr
        · cases hr
      · split at hr
        · split at hr
          · split at hr
            · split at hr
              · cases hr; rfl
              · simp only [Option.map_eq_some_iff] at hr; obtain ⟨_, _, rfl⟩ := hr; rfl
            · cases hr
          · cases hr
        · cases hr
      · split at hr
        · split at hr
          · split at hr
            · cases hr; rfl
            · cases hr
          · cases hr
        · cases hr
      · cases hr

theorem resV_ok {w st h} (hh : HeapOk w st h) : ∀ (n : Nat) (c c' : V) (v : Value), Rep w st c v → resV h n c = some c' → RepS w (okS st) c' v := by
  intro n
  induction n with
  | zero =>
    intro c c' v hr he
    simp only [resV] at he
    split at he
    · rename_i hi; cases he; exact (hr.shut hi).all
    · cases he
  | succ n ih =>
    intro c c' v hr he
    by_cases hi : c.idfree = true
    · rw [resV_idfree hi] at he; cases he; exact (hr.shut hi).all
    · simp only [resV, hi] at he
      simp only [Bool.false_eq_true, if_false] at he
      split at he
      · rename_i cs
        simp only [Option.map_eq_some_iff] at he
        obtain ⟨cs', h1, rfl⟩ := he
        obtain ⟨g1, g2⟩ := mapM_get h1
        obtain ⟨vs, rfl, hl⟩ := rep_agg hr
        refine .agg (by rw [g1]; simp [hl.1]) (fun j v hv => ?_) (fun j c' v hc hv => ?_)
        · have hv' : vs[j]? = some v := by simpa using hv
          exact (hl.2 j _ v (List.getElem?_eq_getElem (by have := (List.getElem?_eq_some_iff.1 hv').1; rw [hl.1]; exact this)) hv').2
        · obtain ⟨c, hc1, hc2⟩ := g2 j c' hc
          exact ih c c' v (hl.2 j c v hc1 (by simpa using hv)).1 hc2
      · rename_i cs
        simp only [Option.map_eq_some_iff] at he
        obtain ⟨cs', h1, rfl⟩ := he
        obtain ⟨g1, g2⟩ := mapM_get h1
        obtain ⟨vs, rfl, hl, hrr⟩ := rep_tup hr
        refine .tup (by rw [g1]; exact hl) (fun j c' v hc hv => ?_)
        obtain ⟨c, hc1, hc2⟩ := g2 j c' hc
        exact ih c c' v (hrr j c v hc1 hv) hc2
      · rename_i f cs
        simp only [Option.map_eq_some_iff] at he
        obtain ⟨cs', h1, rfl⟩ := he
        obtain ⟨g1, g2⟩ := mapM_get h1
        cases hr with
        | s hs => exact absurd (repS_free hs) hi
        | fn hl hrr =>
          refine .fn (by rw [g1]; exact hl) (fun j c' v hc hv => ?_)
          obtain ⟨c, hc1, hc2⟩ := g2 j c' hc
          exact ih c c' v (hrr j c v hc1 hv) hc2
        | stale ht => simp [V.tok] at ht
      · rename_i m g sz off len
        split at he
        · rename_i g' p s l hg
          split at he
          · rename_i hc
            obtain ⟨rfl, rfl, hle⟩ := hc
            have hl : live h m g' = true := by simp [live, hg, Ob.gen]
            obtain ⟨hlim, hsz, hp, hob⟩ := hh.ob _ _ hg
            have hlen : ((l.drop off).take len).length = len := by simp; omega
            -- the sealed list: any list whose cells stand for the same cells
            have key : ∀ (l' : List V), l'.length = len → (∀ x ∈ l', x.cells.length = s) →
                (∀ (i j : Nat) (x' c' : V), l'[i]? = some x' → x'.cells[j]? = some c' → ∃ x c, ((l.drop off).take len)[i]? = some x ∧ x.cells[j]? = some c ∧
                  ∀ v, Rep w st c v → RepS w (okS st) c' v) → RepS w (okS st) (.sl s l') v := by
              intro l' hl' hsz' hcc
              rcases live_so hh hl hr with ⟨rfl, rfl, rfl⟩ | ⟨b, oo, ad, cap, cells, ty, rfl, hs, hb, hcap, hf, ha⟩
              · rw [List.eq_nil_of_length_eq_zero hl']; exact .slnil
              · rcases hob with ⟨rfl, hno⟩ | ⟨b', o', cells', ty', hb', hc', hR⟩
                · exact absurd hs (hno _ _ _)
                · have e := hh.inj _ _ _ _ _ _ _ hs hb'
                  subst e
                  rw [hs] at hb'
                  injection hb' with _ _ e3
                  subst e3
                  rw [hb] at hc'
                  cases hc'
                  rw [← hl']
                  refine .sl (by omega) (by omega) (by unfold okS; rw [hs]; simp) hb hsz' (fun i j x' c' hx hc => ?_) (fun i j x' c' hx hc => ?_)
                  all_goals
                    obtain ⟨x, c, hx1, hc1, hrep⟩ := hcc i j x' c' hx hc
                    have hil : i < len := by have := (List.getElem?_eq_some_iff.1 hx).1; omega
                    have e := ha (by omega)
                    subst e
                    have := hR _ j x c (window_get hx1).1 hc1
                    rw [Nat.add_mul, ← Nat.add_assoc] at this
                  · exact ⟨this.1, this.2.1⟩
                  · exact hrep _ this.2.2
            split at he
            · rename_i hpt
              cases he
              refine key _ hlen (fun x hx => hsz x (mem_window hx)) (fun i j x c hx hc => ⟨x, c, hx, hc, fun v hv => ?_⟩)
              exact (hv.shut (cells_free (hp hpt x (mem_window (List.mem_of_getElem? hx))) c (List.mem_of_getElem? hc))).all
            · simp only [Option.map_eq_some_iff] at he
              obtain ⟨l', h1, rfl⟩ := he
              obtain ⟨g1, g2⟩ := mapM_get h1
              have hcells : ∀ (i : Nat) (x' : V), l'[i]? = some x' → ∃ x, ((l.drop off).take len)[i]? = some x ∧ x'.cells.length = x.cells.length ∧ ∀ (j : Nat) (c' : V), x'.cells[j]? = some c' → ∃ c, x.cells[j]? = some c ∧ resV h n c = some c' := by
                intro i x' hx'
                obtain ⟨x, hx, hxx⟩ := g2 i x' hx'
                exact ⟨x, hx, resV_cells ih (fun c c' => resV_one) hxx⟩
              refine key l' (by rw [g1, hlen]) (fun x' hx' => ?_) (fun i j x' c' hx' hc' => ?_)
              · obtain ⟨i, hi, rfl⟩ := List.mem_iff_getElem.1 hx'
                obtain ⟨x, hx, e1, _⟩ := hcells i _ (List.getElem?_eq_getElem hi)
                rw [e1]
                exact hsz x (mem_window (List.mem_of_getElem? hx))
              · obtain ⟨x, hx, _, e2⟩ := hcells i _ hx'
                obtain ⟨c, hc1, hc2⟩ := e2 j c' hc'
                exact ⟨x, c, hx, hc1, fun v hv => ih c c' v hv hc2⟩
          · cases he
        · cases he
      · rename_i m g sz k off
        split at he
        · rename_i g' p s l hg
          split at he
          · rename_i hc
            obtain ⟨rfl, rfl⟩ := hc
            split at he
            · rename_i x hx
              have hl : live h m g' = true := by simp [live, hg, Ob.gen]
              obtain ⟨hlim, hsz, hp, hob⟩ := hh.ob _ _ hg
              obtain ⟨b, oo, rfl, hs⟩ := live_ep hh hl hr
              rcases hob with ⟨rfl, hno⟩ | ⟨b', o', cells', ty', hb', hc', hR⟩
              · simp at hx
              · have e := hh.inj _ _ _ _ _ _ _ hs hb'
                subst e
                rw [hs] at hb'
                injection hb' with _ _ e3
                subst e3
                have key : ∀ (cs' : List V), (∀ (j : Nat) (c' : V), cs'[j]? = some c' → ∃ c, x.cells[off + j]? = some c ∧ ∀ v, Rep w st c v → RepS w (okS st) c' v) →
                    RepS w (okS st) (.pr cs') (.pointer (some ⟨b, oo + k * s + off, none⟩)) := by
                  intro cs' hcc
                  refine .pr (by unfold okS; rw [hs]; simp) hc' (fun j c' hc => ?_) (fun j c' hc => ?_)
                  all_goals
                    obtain ⟨c, hc1, hrep⟩ := hcc j c' hc
                    have := hR k (off + j) x c hx hc1
                    rw [← Nat.add_assoc] at this
                  · exact ⟨this.1, this.2.1⟩
                  · exact hrep _ this.2.2
                split at he
                · rename_i hpt
                  cases he
                  refine key _ fun j c hc => ⟨c, by rwa [List.getElem?_drop] at hc, fun v hv => ?_⟩
                  exact (hv.shut (cells_free (hp hpt x (List.mem_of_getElem? hx)) c (List.mem_of_mem_drop (List.mem_of_getElem? hc)))).all
                · simp only [Option.map_eq_some_iff] at he
                  obtain ⟨cs', h1, rfl⟩ := he
                  obtain ⟨g1, g2⟩ := mapM_get h1
                  refine key _ fun j c' hc' => ?_
                  obtain ⟨c, hc1, hc2⟩ := g2 j c' hc'
                  exact ⟨c, by rwa [List.getElem?_drop] at hc1, fun v hv => ih c c' v hv hc2⟩
            · cases he
          · cases he
        · cases he
      · rename_i m g
        split at he
        · rename_i g' ks vs hg
          split at he
          · rename_i hc
            subst hc
            split at he
            · rename_i ks' vs' hk hv
              cases he
              obtain ⟨k1, k2⟩ := mapM_get hk
              obtain ⟨v1, v2⟩ := mapM_get hv
              have hl : live h m g' = true := by simp [live, hg, Ob.gen]
              obtain ⟨b, es, clock, hs, hb, e1, e2, e3, r1, r2⟩ := hh.ob _ _ hg
              have : v = .map (some b) := by
                cases hr with
                | s hs => cases hs
                | mo hs' => rw [hh.inj _ _ _ _ _ _ _ hs' hs]
                | stale ht hs' hgt _ =>
                  simp only [V.tok, Option.some.injEq, Prod.mk.injEq] at ht
                  obtain ⟨rfl, rfl⟩ := ht
                  exact absurd hgt (live_not hh hl hs')
              subst this
              refine .mp (by unfold okS; rw [hs]; simp) hb (by omega) (by omega) e3 (fun j e k' he' hk' => ?_) (fun j e x' he' hx' => ?_)
              · obtain ⟨k, h1, h2⟩ := k2 j k' hk'
                exact ih k k' _ (r1 j e k he' h1) h2
              · obtain ⟨x, h1, h2⟩ := v2 j x' hx'
                exact ih x x' _ (r2 j e x he' h1) h2
            · cases he
          · cases he
        · cases he
      · cases he

end Go.PG
