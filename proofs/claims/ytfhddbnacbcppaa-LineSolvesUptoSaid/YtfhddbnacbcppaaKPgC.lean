/- The engine: operations that only compute, read or build values. -/
import Derived.Test.YtfhddbnacbcppaaKPgB
set_option linter.unusedSimpArgs false
set_option linter.unusedVariables false
set_option linter.unnecessarySimpa false
namespace Go.PG

def RunV (P : Program) (ρ : Operand → Value) (o : Oper) (w : World) (m : Value) (w' : World) : Prop :=
  (execOp ρ o).run P w = .ok (.value m) w' ∨ ((execOp ρ o).run P w = .ok .skip w' ∧ m = undef)

def Good (P : Program) (ρ : Operand → Value) (o : Oper) (w : World) (st : Nat → Own) (h : Heap) (v : V) (ups : List (Nat × Ob)) : Prop :=
  ∃ m w' st', RunV P ρ o w m w' ∧ Rep w' st' v m ∧ HeapOk w' st' (hsets h ups) ∧ Fr w st w' st'

/-- Lists of cells. -/
def RepL (w : World) (st : Nat → Own) (cs : List V) (vs : List Value) : Prop :=
  cs.length = vs.length ∧ ∀ (j : Nat) (c : V) (v : Value), cs[j]? = some c → vs[j]? = some v → Rep w st c v ∧ v.oneCell' = true

theorem RepL.get {w st cs vs} (h : RepL w st cs vs) {j : Nat} {c : V} (hc : cs[j]? = some c) : ∃ v, vs[j]? = some v ∧ Rep w st c v ∧ v.oneCell' = true := by
  have hj : j < vs.length := by have := (List.getElem?_eq_some_iff.1 hc).1; have := h.1; omega
  exact ⟨vs[j], List.getElem?_eq_getElem hj, h.2 j c _ hc (List.getElem?_eq_getElem hj)⟩

theorem RepL.nil {w st} : RepL w st [] [] := ⟨rfl, by simp⟩

theorem RepL.append {w st a b x y} (h : RepL w st a x) (h' : RepL w st b y) : RepL w st (a ++ b) (x ++ y) := by
  refine ⟨by simp [h.1, h'.1], fun j c v hc hv => ?_⟩
  rw [List.getElem?_append] at hc hv
  rw [← h.1] at hv
  by_cases hj : j < a.length
  · rw [if_pos hj] at hc hv; exact h.2 j c v hc hv
  · rw [if_neg hj] at hc hv; exact h'.2 _ c v hc hv

theorem RepL.take {w st a x} (h : RepL w st a x) (n : Nat) : RepL w st (a.take n) (x.take n) := by
  refine ⟨by simp [h.1], fun j c v hc hv => ?_⟩
  rw [List.getElem?_take] at hc hv
  split at hc
  · rename_i hj; rw [if_pos hj] at hv; exact h.2 j c v hc hv
  · cases hc

theorem RepL.drop {w st a x} (h : RepL w st a x) (n : Nat) : RepL w st (a.drop n) (x.drop n) := by
  refine ⟨by simp [h.1], fun j c v hc hv => ?_⟩
  rw [List.getElem?_drop] at hc hv
  exact h.2 _ c v hc hv

theorem RepL.agg {w st cs vs} (h : RepL w st cs vs) : Rep w st (.agg cs) (.agg vs.toArray) := by
  refine .agg (by simp [h.1]) (fun j v hv => ?_) (fun j c v hc hv => (h.2 j c v hc (by simpa using hv)).1)
  have hv' : vs[j]? = some v := by simpa using hv
  have hj : j < cs.length := by have := (List.getElem?_eq_some_iff.1 hv').1; have := h.1; omega
  exact (h.2 j cs[j] v (List.getElem?_eq_getElem hj) hv').2

def okv : V → Bool
  | .dead => false
  | .tup _ => false
  | _ => true

theorem repS_cells {w S c v} (h : RepS w S c v) (hk : okv c = true) :
    c.cells.length = v.cells.size ∧ ∀ (j : Nat) (c' : V) (v' : Value), c.cells[j]? = some c' → v.cells.toList[j]? = some v' → RepS w S c' v' ∧ v'.oneCell' = true := by
  have one : ∀ {c : V} {v : Value}, RepS w S c v → c.cells = [c] → v.cells = #[v] → v.oneCell' = true →
      c.cells.length = v.cells.size ∧ ∀ (j : Nat) (c' : V) (v' : Value), c.cells[j]? = some c' → v.cells.toList[j]? = some v' → RepS w S c' v' ∧ v'.oneCell' = true := by
    intro c v h h1 h2 h3
    rw [h1, h2]
    refine ⟨rfl, fun j c' v' hc hv => ?_⟩
    cases j with
    | zero => simp at hc hv; subst hc; subst hv; exact ⟨h, h3⟩
    | succ j => simp at hc
  cases h with
  | agg hl h1 h => exact ⟨hl.symm, fun j c' v' hc hv => ⟨h j c' v' hc (by simpa [Value.cells] using hv), h1 j v' (by simpa [Value.cells] using hv)⟩⟩
  | tup => simp [okv] at hk
  | bool => exact one .bool rfl rfl rfl
  | int => exact one .int rfl rfl rfl
  | str h => exact one (.str h) rfl rfl rfl
  | nil => exact one .nil rfl rfl rfl
  | slnil => exact one .slnil rfl rfl rfl
  | sl a b c d e f g => exact one (.sl a b c d e f g) rfl rfl rfl
  | sle => exact one .sle rfl rfl rfl
  | emp => exact one .emp rfl rfl rfl
  | nilp => exact one .nilp rfl rfl rfl
  | pr a b c d => exact one (.pr a b c d) rfl rfl rfl
  | fn a b => exact one (.fn a b) rfl rfl rfl
  | nilfn => exact one .nilfn rfl rfl rfl
  | nilm => exact one .nilm rfl rfl rfl
  | mpnil => exact one .mpnil rfl rfl rfl
  | mp a b c d e f g => exact one (.mp a b c d e f g) rfl rfl rfl

theorem rep_cells {w st c v} (h : Rep w st c v) (hk : okv c = true) : RepL w st c.cells v.cells.toList := by
  have one : ∀ {c : V} {v : Value}, Rep w st c v → c.cells = [c] → v.cells = #[v] → v.oneCell' = true → RepL w st c.cells v.cells.toList := by
    intro c v h h1 h2 h3
    rw [h1, h2]
    refine ⟨rfl, fun j c' v' hc hv => ?_⟩
    cases j with
    | zero => simp at hc hv; subst hc; subst hv; exact ⟨h, h3⟩
    | succ j => simp at hc
  cases h with
  | s h => exact ⟨by simpa using (repS_cells h hk).1, fun j c' v' hc hv => ⟨.s ((repS_cells h hk).2 j c' v' hc hv).1, ((repS_cells h hk).2 j c' v' hc hv).2⟩⟩
  | agg hl h1 h => exact ⟨by simpa [Value.cells] using hl.symm, fun j c' v' hc hv => ⟨h j c' v' hc (by simpa [Value.cells] using hv), h1 j v' (by simpa [Value.cells] using hv)⟩⟩
  | tup => simp [okv] at hk
  | so0 => exact one .so0 rfl rfl rfl
  | so a b c d e => exact one (.so a b c d e) rfl rfl rfl
  | ep a => exact one (.ep a) rfl rfl rfl
  | mo a => exact one (.mo a) rfl rfl rfl
  | stale ht hs hg hv =>
    refine one (.stale ht hs hg hv) ?_ ?_ hv
    · cases c <;> simp [V.tok] at ht <;> rfl
    · cases v <;> simp [Value.oneCell'] at hv <;> rfl
  | fn a b => exact one (.fn a b) rfl rfl rfl
  | dead => simp [okv] at hk

theorem cells_one {v : Value} (h : v.oneCell' = true) : v.cells = #[v] := by cases v <;> simp [Value.oneCell'] at h <;> rfl

theorem vcells_one {w st c v} (h : Rep w st c v) (hv : v.oneCell' = true) : c.cells = [c] := by
  cases h with
  | s h => cases h <;> first | rfl | simp [Value.oneCell'] at hv
  | agg => simp [Value.oneCell'] at hv
  | tup => rfl
  | stale ht _ _ _ => cases c <;> simp [V.tok] at ht <;> rfl
  | _ => rfl

theorem good_pure {P ρ o w st h v m} (hr : (execOp ρ o).run P w = .ok (.value m) w) (hv : Rep w st v m) (hh : HeapOk w st h) : Good P ρ o w st h v [] :=
  ⟨m, w, st, .inl hr, hv, hh, Fr.refl w st⟩

/-- Reading a variable. -/
theorem run_loadVar_list {P t i info d z} (hT : TabOk P t i info d z) (w : World) (a : Addr) (vs : List Value) (hl : vs.length = i.size)
    (h : ∀ j v, vs[j]? = some v → w.cell? (a.add j) = some v) (h1 : i.isA = false → vs.length = 1) :
    (loadVar t a).run P w = .ok (if i.isA then .agg vs.toArray else vs.headD undef) w := by
  unfold loadVar
  rw [Sem.run_bind, hT.run_isAgg]
  cases e : i.isA with
  | true =>
    simp only [Result.andThen_ok, if_true, Sem.run_bind, hT.run_size, Sem.run_pure]
    rw [← hl, run_loadCells_list w a vs h]
    rfl
  | false =>
    have hl1 := h1 e
    obtain ⟨v, rfl⟩ : ∃ v, vs = [v] := by
      cases vs with
      | nil => simp at hl1
      | cons v r => cases r with
        | nil => exact ⟨v, rfl⟩
        | cons => simp at hl1
    have hc := h 0 v rfl
    have ha : a.add 0 = a := by simp [Addr.add]
    rw [ha] at hc
    simp [hc]

def single (a : Bool) (cs : List V) : Option V :=
  if a then some (.agg cs) else match cs with
    | [c] => some c
    | _ => none

theorem single_rep {P t i info d z} (hT : TabOk P t i info d z) {w st} (a : Addr) {cs : List V} {vs : List Value} (hr : RepL w st cs vs) (hl : cs.length = i.size)
    (h : ∀ j v, vs[j]? = some v → w.cell? (a.add j) = some v) {x : V} (hx : single i.isA cs = some x) :
    ∃ m, (loadVar t a).run P w = .ok m w ∧ Rep w st x m := by
  unfold single at hx
  cases e : i.isA with
  | true =>
    rw [e] at hx
    simp at hx
    subst hx
    exact ⟨_, run_loadVar_list hT w a vs (by rw [← hr.1]; exact hl) h (by rw [e]; simp), by rw [e]; exact hr.agg⟩
  | false =>
    rw [e] at hx
    simp only [Bool.false_eq_true, if_false] at hx
    split at hx
    · rename_i c
      cases hx
      obtain ⟨v, hv, h1, _⟩ := hr.get (j := 0) (c := x) rfl
      refine ⟨_, run_loadVar_list hT w a vs (by rw [← hr.1]; exact hl) h (fun _ => by rw [← hr.1]; rfl), ?_⟩
      rw [e]
      cases vs with
      | nil => simp at hv
      | cons y r => simp at hv; subst hv; exact h1
    · cases hx

theorem add_lit' (b o n : Nat) : Addr.add ⟨b, o, none⟩ n = ⟨b, o + n, none⟩ := Addr.add_lit b o n

theorem cell_at {w : World} {b : Nat} {cells : Array Value} {ty fr} (hb : w.heap[b]? = some (.cells cells ty fr)) {o : Nat} (ho : o < cells.size) :
    w.cell? ⟨b, o, none⟩ = some (cells.getD o undef) := by
  simp [World.cell?, hb, ho]

/-- The cells of an element, or of a part of it, in a block. -/
theorem repL_at {w st} {cs : List V} {cells : Array Value} (o : Nat) (h : ∀ (j : Nat) (c : V), cs[j]? = some c → o + j < cells.size ∧ (cells.getD (o + j) undef).oneCell' = true ∧ Rep w st c (cells.getD (o + j) undef)) :
    RepL w st cs ((List.range cs.length).map fun j => cells.getD (o + j) undef) := by
  refine ⟨by simp, fun j c v hc hv => ?_⟩
  have hj : j < cs.length := (List.getElem?_eq_some_iff.1 hc).1
  simp [hj] at hv
  have := h j c hc
  simp at this
  rw [← hv]
  exact ⟨by simpa using this.2.2, by simpa using this.2.1⟩

theorem cells_at {w : World} {b : Nat} {cells : Array Value} {ty fr} (hb : w.heap[b]? = some (.cells cells ty fr)) (o n : Nat) (h : ∀ j, j < n → o + j < cells.size) :
    ∀ (j : Nat) (v : Value), ((List.range n).map fun j => cells.getD (o + j) undef)[j]? = some v → w.cell? ((⟨b, o, none⟩ : Addr).add j) = some v := by
  intro j v hv
  have hj : j < n := by
    have := (List.getElem?_eq_some_iff.1 hv).1
    simpa using this
  simp only [List.getElem?_map, List.getElem?_range hj, Option.map_some, Option.some.injEq] at hv
  rw [add_lit', cell_at hb (h j hj), hv]

def effLoad (P : Program) (t : Nat) (a : V) (h : Heap) : Option V :=
  match tab P t with
  | none => none
  | some i =>
    match a with
    | .pr cs => if cs.length = i.size then single i.isA cs else none
    | .ep n g sz k off =>
      match hget h n with
      | some (.arr g' _ s l) =>
        if g' = g ∧ s = sz then
          match l[k]? with
          | some x => if off + i.size ≤ x.cells.length then single i.isA ((x.cells.drop off).take i.size) else none
          | none => none
        else none
      | _ => none
    | _ => none

theorem load_spec {P w st h t a mm v} (hρ : Rep w st a mm) (hh : HeapOk w st h) (he : effLoad P t a h = some v) :
    ∃ ad u, mm = .pointer (some ad) ∧ (loadVar t ad).run P w = .ok u w ∧ Rep w st v u := by
  unfold effLoad at he
  split at he
  · cases he
  · rename_i i hi
    obtain ⟨info, d, z, hT⟩ := tab_ok hi
    have fin : ∀ (ad : Addr) (m : Value), mm = .pointer (some ad) → (loadVar t ad).run P w = .ok m w → Rep w st v m → ∃ ad u, mm = .pointer (some ad) ∧ (loadVar t ad).run P w = .ok u w ∧ Rep w st v u :=
      fun ad m h1 h2 h3 => ⟨ad, m, h1, h2, h3⟩
    split at he
    · rename_i cs
      split at he
      · rename_i hl
        cases hρ with
        | s hs =>
          generalize hm : mm = m at hs
          cases hs with
          | @pr _ b off cells ty fr hS hb h1 hR =>
            have hrl : RepL w st cs ((List.range cs.length).map fun j => cells.getD (off + j) undef) := repL_at off fun j c hc => ⟨(h1 j c hc).1, (h1 j c hc).2, .s (hR j c hc)⟩
            obtain ⟨m, r1, r2⟩ := single_rep hT ⟨b, off, none⟩ hrl hl (cells_at hb off cs.length fun j hj => (h1 j cs[j] (List.getElem?_eq_getElem hj)).1) he
            exact hm ▸ fin _ m hm r1 r2
        | stale ht => simp [V.tok] at ht
      · cases he
    · rename_i n g sz k off
      split at he
      · rename_i g' p s l hg
        split at he
        · rename_i hc
          obtain ⟨rfl, rfl⟩ := hc
          split at he
          · rename_i y hy
            split at he
            · rename_i hle
              have hob := hh.ob _ _ hg
              obtain ⟨_, _, _, hob⟩ := hob
              generalize hm : mm = m at hρ
              cases hρ with
              | s hs => cases hs
              | @ep _ _ oo _ _ _ b hs =>
                rcases hob with ⟨rfl, _⟩ | ⟨b', o', cells, ty, hb', hc', hR⟩
                · simp at hy
                · have : b = b' := hh.inj _ _ _ _ _ _ _ hs hb'
                  subst this
                  rw [hs] at hb'
                  injection hb' with _ _ e3
                  subst e3
                  have hlen : ((y.cells.drop off).take i.size).length = i.size := by simp; omega
                  have hrl : RepL w st ((y.cells.drop off).take i.size) ((List.range ((y.cells.drop off).take i.size).length).map fun j => cells.getD (oo + k * s + off + j) undef) := by
                    refine repL_at _ fun j c hc => ?_
                    rw [List.getElem?_take] at hc
                    split at hc
                    · rw [List.getElem?_drop] at hc
                      have := hR k (off + j) y c hy hc
                      rw [← Nat.add_assoc] at this
                      exact this
                    · cases hc
                  obtain ⟨m, r1, r2⟩ := single_rep hT ⟨b, oo + k * s + off, none⟩ hrl hlen (cells_at hc' _ _ fun j hj => by
                    obtain ⟨c, hc⟩ : ∃ c, y.cells[off + j]? = some c := ⟨_, List.getElem?_eq_getElem (by omega)⟩
                    have := (hR k (off + j) y c hy hc).1
                    omega) he
                  exact hm ▸ fin _ m hm r1 r2
              | stale ht hs hgt _ =>
                simp only [V.tok, Option.some.injEq, Prod.mk.injEq] at ht
                obtain ⟨rfl, rfl⟩ := ht
                obtain ⟨_, y', hy', hgen⟩ := hh.dom _ _ _ _ hs
                rw [hg] at hy'
                cases hy'
                simp only [Ob.gen] at hgen
                omega
            · cases he
          · cases he
        · cases he
      · cases he
    · cases he

theorem load_good {P ρ o w st h t x a v} (ho : o.op = .load t x) (hρ : Rep w st a (ρ x)) (hh : HeapOk w st h) (he : effLoad P t a h = some v) : Good P ρ o w st h v [] := by
  obtain ⟨ad, u, h1, h2, h3⟩ := load_spec hρ hh he
  refine good_pure ?_ h3 hh
  unfold execOp
  simp only [ho, Instr.loadAt, Instr.sureAddr, h1, pure_bind, Sem.run_bind, h2, Result.andThen_ok, Sem.run_pure]

end Go.PG
