/- The engine: stores and append. -/
import Derived.Test.YtfhddbnacbcppaaKPgH
set_option linter.unusedVariables false
set_option linter.unnecessarySimpa false
set_option linter.unusedSimpArgs false
namespace Go.PG

def setV (x : V) (off : Nat) (new : List V) : V :=
  match x with
  | .agg cs => .agg (splice cs off new)
  | y => new.headD y

theorem setV_cells (x : V) (off : Nat) (new : List V) (h : off + new.length ≤ x.cells.length) (h1 : ∀ c ∈ new, c.cells = [c]) : (setV x off new).cells = splice x.cells off new := by
  have sc : ∀ y : V, y.cells = [y] → off + new.length ≤ y.cells.length → (new.headD y).cells = splice y.cells off new := by
    intro y hy hle
    rw [hy] at hle ⊢
    match new, h1 with
    | [], _ =>
      simp only [List.headD_nil, hy, splice, List.append_nil, List.length_nil, Nat.add_zero, List.take_append_drop]
    | [c], h1 =>
      have : off = 0 := by simp at hle; omega
      subst this
      simpa [splice] using h1 c (by simp)
    | c :: c' :: r, _ => simp at hle; omega
  cases x with
  | agg cs => rfl
  | _ => exact sc _ rfl h

theorem splice_get (cs new : List V) (off j : Nat) (h : off + new.length ≤ cs.length) :
    (splice cs off new)[j]? = if off ≤ j ∧ j < off + new.length then new[j - off]? else cs[j]? := by
  unfold splice
  simp only [List.getElem?_append, List.length_append, List.length_take, List.getElem?_take, List.getElem?_drop]
  have e : min off cs.length = off := by omega
  rw [e]
  by_cases h1 : j < off
  · rw [if_pos h1, if_pos (show j < off + new.length by omega), if_neg (show ¬ (off ≤ j ∧ j < off + new.length) by omega), if_pos h1]
  · by_cases h2 : j < off + new.length
    · simp [h1, h2, show off ≤ j by omega]
    · simp only [h1, h2, if_false, and_false]
      congr 1
      omega

theorem setV_free {x : V} {off : Nat} {new : List V} (hx : x.idfree = true) (hn : ∀ c ∈ new, c.idfree = true) : (setV x off new).idfree = true := by
  have sc : ∀ y : V, y.idfree = true → (new.headD y).idfree = true := by
    intro y hy
    cases new with
    | nil => exact hy
    | cons c r => exact hn c (by simp)
  cases x with
  | agg cs =>
    rw [V.idfree, V.idfreeL_iff] at hx
    show V.idfree (.agg (splice cs off new)) = true
    rw [V.idfree, V.idfreeL_iff]
    intro c hc
    simp only [splice, List.mem_append] at hc
    rcases hc with (hc | hc) | hc
    · exact hx c (List.mem_of_mem_take hc)
    · exact hn c hc
    · exact hx c (List.mem_of_mem_drop hc)
  | _ => exact sc _ hx

theorem cells_free {x : V} (h : x.idfree = true) : ∀ c ∈ x.cells, c.idfree = true := by
  cases x with
  | agg cs => rw [V.idfree, V.idfreeL_iff] at h; exact h
  | _ => intro c hc; simp [V.cells] at hc; subst hc; exact h

def effStore (P : Program) (t : Nat) (a x : V) (h : Heap) : Option (List (Nat × Ob)) :=
  match tab P t, a with
  | some i, .ep n g sz k off =>
    match hget h n with
    | some (.arr g' p s l) =>
      if g' = g ∧ s = sz ∧ x.cells.length = i.size ∧ okv x = true ∧ 0 < i.size then
        match l[k]? with
        | some y => if off + x.cells.length ≤ y.cells.length then some [(n, .arr g (p && x.idfree) sz (l.set k (setV y off x.cells)))] else none
        | none => none
      else none
    | _ => none
  | _, _ => none

/-- What a written row holds. -/
theorem wrote_get (cells : Array Value) (q : Nat) (new : List Value) (h : q + new.length ≤ cells.size) (j : Nat) :
    (cells.toList.take q ++ new ++ cells.toList.drop (q + new.length)).toArray[j]? = if q ≤ j ∧ j < q + new.length then new[j - q]? else cells[j]? := by
  simp only [List.getElem?_toArray, List.getElem?_append, List.length_append, List.length_take, List.getElem?_take, List.getElem?_drop, Array.length_toList]
  have e : min q cells.size = q := by omega
  rw [e]
  by_cases h1 : j < q
  · rw [if_pos h1, if_pos (show j < q + new.length by omega), if_neg (show ¬ (q ≤ j ∧ j < q + new.length) by omega), if_pos h1]
    simp
  · by_cases h2 : j < q + new.length
    · simp [h1, h2, show q ≤ j by omega]
    · simp only [h1, h2, if_false, and_false, Array.getElem?_toList]
      congr 1
      omega

theorem wrote_size (cells : Array Value) (q : Nat) (new : List Value) (h : q + new.length ≤ cells.size) :
    (cells.toList.take q ++ new ++ cells.toList.drop (q + new.length)).toArray.size = cells.size := by
  simp; omega

theorem getD_of {cells : Array Value} {j : Nat} {v : Value} (h : cells[j]? = some v) : j < cells.size ∧ cells.getD j undef = v := by
  refine ⟨(Array.getElem?_eq_some_iff.1 h).1, ?_⟩
  rw [Array.getD_eq_getD_getElem?, h]; rfl

theorem of_getD {cells : Array Value} {j : Nat} (h : j < cells.size) : cells[j]? = some (cells.getD j undef) := by
  simp [h]

theorem idx_lt {i k sz j off n : Nat} (hj : j < sz) (hn : off + n ≤ sz) (hne : i ≠ k) : ¬ (k * sz + off ≤ i * sz + j ∧ i * sz + j < k * sz + off + n) := by
  rcases Nat.lt_or_gt_of_ne hne with h | h
  · have := Nat.mul_le_mul_right sz (show i + 1 ≤ k from h)
    rw [Nat.add_mul] at this; omega
  · have := Nat.mul_le_mul_right sz (show k + 1 ≤ i from h)
    rw [Nat.add_mul] at this; omega

theorem store_good {P ρ o w st h t x y a b ups} (ho : o.op = .store t x y) (hx : Rep w st a (ρ x)) (hy : Rep w st b (ρ y)) (hh : HeapOk w st h)
    (he : effStore P t a b h = some ups) : Good P ρ o w st h .dead ups := by
  unfold effStore at he
  split at he
  · rename_i i n g sz k off hi
    obtain ⟨info, ds, z, hT⟩ := tab_ok hi
    split at he
    · rename_i g' p s l hg
      split at he
      · rename_i hc
        obtain ⟨rfl, rfl, hlen, hok, hpos⟩ := hc
        split at he
        · rename_i yv hyv
          split at he
          · rename_i hle
            cases he
            have hl : live h n g' = true := by simp [live, hg, Ob.gen]
            obtain ⟨bb, oo, hm, hs⟩ := live_ep hh hl hx
            obtain ⟨hlim, hsz, hp, hob⟩ := hh.ob _ _ hg
            have hkl : k < l.length := (List.getElem?_eq_some_iff.1 hyv).1
            have hyc : yv.cells.length = s := hsz yv (List.mem_of_getElem? hyv)
            have hrl := rep_cells hy hok
            rcases hob with ⟨rfl, _⟩ | ⟨b', o', cells, ty, hb', hc', hR⟩
            · simp at hyv
            · have e := hh.inj _ _ _ _ _ _ _ hs hb'
              subst e
              rw [hs] at hb'
              injection hb' with _ _ e3
              subst e3
              have hnl : (ρ y).cells.toList.length = b.cells.length := hrl.1.symm
              have hq : oo + k * s + off + (ρ y).cells.toList.length ≤ cells.size := by
                obtain ⟨c, hcc⟩ : ∃ c, yv.cells[off + b.cells.length - 1]? = some c := ⟨_, List.getElem?_eq_getElem (by omega)⟩
                have := (hR k _ yv c hyv hcc).1
                omega
              have h1 : ∀ v ∈ (ρ y).cells.toList, v.oneCell' = true := by
                intro v hv
                obtain ⟨j, hj, rfl⟩ := List.mem_iff_getElem.1 hv
                exact (hrl.2 j _ _ (List.getElem?_eq_getElem (by rw [hrl.1]; exact hj)) (List.getElem?_eq_getElem hj)).2
              have hone : ∀ c ∈ b.cells, c.cells = [c] := by
                intro c hc
                obtain ⟨j, hj, rfl⟩ := List.mem_iff_getElem.1 hc
                obtain ⟨v, _, r1, r2⟩ := hrl.get (List.getElem?_eq_getElem hj)
                exact vcells_one r1 r2
              have hset := setV_cells yv off b.cells hle hone
              have hrun := run_storeCells_at P bb (oo + k * s + off) ty (ρ y).cells.toList 0 cells w hc' (by simpa using hq) h1
              simp only [Nat.add_zero] at hrun
              have hsize := wrote_size cells (oo + k * s + off) (ρ y).cells.toList hq
              have hf := fr_write hh hs hc' _ hsize g' oo (.inl ⟨rfl, rfl⟩)
              refine ⟨undef, _, _, .inr ⟨?_, rfl⟩, .dead, heap_write_id hh hs hc' _ hsize (.arr g' (p && b.idfree) s (l.set k (setV yv off b.cells))) oo (.inl ⟨rfl, rfl⟩) ?_, hf⟩
              · unfold execOp
                simp only [ho, Instr.storeAt, Instr.sureAddr, hm, pure_bind, storeVar, Sem.run_bind, hT.run_size, Result.andThen_ok]
                rw [if_neg (by rw [← hlen]; simpa using hnl)]
                simp only [hrun, Result.andThen_ok, Sem.run_pure]
              · refine ⟨by simpa using hlim, fun x hx => ?_, fun hp' x hx => ?_, .inr ⟨bb, oo, _, ty, by simp [updO, Ob.gen], setRow_heap w bb cells _ ty (0, 0) hc', fun i' j x c hx hc => ?_⟩⟩
                · rcases List.mem_or_eq_of_mem_set hx with hx | rfl
                  · exact hsz x hx
                  · rw [hset, splice_len _ _ _ hle]; exact hyc
                · simp only [Bool.and_eq_true] at hp'
                  rcases List.mem_or_eq_of_mem_set hx with hx | rfl
                  · exact hp hp'.1 x hx
                  · exact setV_free (hp hp'.1 yv (List.mem_of_getElem? hyv)) (cells_free hp'.2)
                · rw [List.getElem?_set] at hx
                  have key : ∀ (q : Nat) (c : V) (v : Value), (cells.toList.take (oo + k * s + off) ++ (ρ y).cells.toList ++ cells.toList.drop (oo + k * s + off + (ρ y).cells.toList.length)).toArray[q]? = some v → v.oneCell' = true → Rep w st c v →
                      q < (cells.toList.take (oo + k * s + off) ++ (ρ y).cells.toList ++ cells.toList.drop (oo + k * s + off + (ρ y).cells.toList.length)).toArray.size ∧
                      ((cells.toList.take (oo + k * s + off) ++ (ρ y).cells.toList ++ cells.toList.drop (oo + k * s + off + (ρ y).cells.toList.length)).toArray.getD q undef).oneCell' = true ∧
                      Rep (w.setRow bb (cells.toList.take (oo + k * s + off) ++ (ρ y).cells.toList ++ cells.toList.drop (oo + k * s + off + (ρ y).cells.toList.length)).toArray) (updO st bb (.id n g' oo)) c
                        ((cells.toList.take (oo + k * s + off) ++ (ρ y).cells.toList ++ cells.toList.drop (oo + k * s + off + (ρ y).cells.toList.length)).toArray.getD q undef) := by
                    intro q c v hq' hv1 hv2
                    obtain ⟨d1, d2⟩ := getD_of hq'
                    rw [d2]
                    exact ⟨d1, hv1, hv2.frame hh.shut hf⟩
                  by_cases hik : k = i'
                  · subst hik
                    simp only [if_true, hkl, Option.some.injEq] at hx
                    subst hx
                    rw [hset, splice_get _ _ _ _ hle] at hc
                    by_cases hin : off ≤ j ∧ j < off + b.cells.length
                    · rw [if_pos hin] at hc
                      obtain ⟨v, hv, r1, r2⟩ := hrl.get hc
                      refine key _ c v ?_ r2 r1
                      rw [wrote_get cells _ _ hq, if_pos (by omega)]
                      rw [show oo + k * s + j - (oo + k * s + off) = j - off by omega]
                      exact hv
                    · rw [if_neg hin] at hc
                      have := hR k j yv c hyv hc
                      refine key _ c _ ?_ this.2.1 this.2.2
                      rw [wrote_get cells _ _ hq, if_neg (by omega)]
                      exact of_getD this.1
                  · rw [if_neg hik] at hx
                    have hxs := hsz x (List.mem_of_getElem? hx)
                    have hj : j < s := by have := (List.getElem?_eq_some_iff.1 hc).1; omega
                    have := hR i' j x c hx hc
                    refine key _ c _ ?_ this.2.1 this.2.2
                    have hno := idx_lt (i := i') (k := k) (sz := s) (j := j) (off := off) (n := b.cells.length) hj (by omega) (fun e => hik e.symm)
                    rw [wrote_get cells _ _ hq, if_neg (by omega)]
                    exact of_getD this.1
          · cases he
        · cases he
      · cases he
    · cases he
  · cases he

end Go.PG
