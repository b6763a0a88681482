/- The engine: append. -/
import Derived.Test.YtfhddbnacbcppaaKPgI
set_option linter.unusedVariables false
set_option linter.unnecessarySimpa false
set_option linter.unusedSimpArgs false
namespace Go.PG

/-- The elements of a slice, and whether they name no id. -/
def elems (h : Heap) (sz : Nat) : V → Option (List V × Bool)
  | .nil => some ([], true)
  | .emp _ => some ([], true)
  | .sl s l => if s = sz then some (l, true) else none
  | .so n g s off len =>
    match hget h n with
    | some (.arr g' p s' l) => if g' = g ∧ s' = s ∧ s = sz ∧ off + len ≤ l.length then some ((l.drop off).take len, p) else none
    | _ => none
  | _ => none

theorem mem_window {l : List V} {off len : Nat} {x : V} (h : x ∈ (l.drop off).take len) : x ∈ l := List.mem_of_mem_drop (List.mem_of_mem_take h)

theorem window_get {l : List V} {off len k : Nat} {y : V} (hy : ((l.drop off).take len)[k]? = some y) : l[off + k]? = some y ∧ k < len := by
  rw [List.getElem?_take] at hy
  split at hy
  · rename_i hk
    rw [List.getElem?_drop] at hy; exact ⟨hy, hk⟩
  · cases hy

/-- Cells at (o, o + 1, ..) of a block, for a list whose elements lie there. -/
theorem flat_at {w st} {sz : Nat} {l : List V} {cells : Array Value} (o : Nat) (hsz : ∀ x ∈ l, x.cells.length = sz)
    (h : ∀ (i j : Nat) (x c : V), l[i]? = some x → x.cells[j]? = some c → o + i * sz + j < cells.size ∧ (cells.getD (o + i * sz + j) undef).oneCell' = true ∧ Rep w st c (cells.getD (o + i * sz + j) undef)) :
    ∀ (q : Nat) (c : V), (l.flatMap V.cells)[q]? = some c → o + q < cells.size ∧ (cells.getD (o + q) undef).oneCell' = true ∧ Rep w st c (cells.getD (o + q) undef) := by
  intro q c hq
  have hlt : q < l.length * sz := by
    have := (List.getElem?_eq_some_iff.1 hq).1
    rwa [flat_len sz l hsz] at this
  have hpos : 0 < sz := by
    rcases Nat.eq_zero_or_pos sz with h0 | h0
    · rw [h0] at hlt; simp at hlt
    · exact h0
  have hi : q / sz < l.length := (Nat.div_lt_iff_lt_mul hpos).2 hlt
  have hx : l[q / sz]? = some l[q / sz] := List.getElem?_eq_getElem hi
  have hxs := hsz _ (List.mem_of_getElem? hx)
  have hj : q % sz < sz := Nat.mod_lt _ hpos
  obtain ⟨c', hc'⟩ : ∃ c', (l[q / sz]).cells[q % sz]? = some c' := ⟨_, List.getElem?_eq_getElem (l := (l[q / sz]'hi).cells) (i := q % sz) (by omega)⟩
  have hg := flat_get sz l hsz _ _ _ _ hx hc'
  rw [Nat.mul_comm, Nat.div_add_mod] at hg
  rw [hq] at hg
  cases hg
  have := h _ _ _ _ hx hc'
  rw [Nat.add_assoc, Nat.mul_comm, Nat.div_add_mod] at this
  exact this

theorem elems_rep {w st h sz a m ys p} (hh : HeapOk w st h) (hr : Rep w st a m) (he : elems h sz a = some (ys, p)) :
    ∃ ad cap vs, m = .slice ad ys.length cap ∧ ys.length ≤ LIM ∧ (∀ x ∈ ys, x.cells.length = sz) ∧ (p = true → ∀ x ∈ ys, x.idfree = true) ∧ RepL w st (ys.flatMap V.cells) vs ∧
      ((ad = none ∧ ys = []) ∨ ∃ aa, ad = some aa ∧ ∀ (j : Nat) (v : Value), vs[j]? = some v → w.cell? (aa.add j) = some v) := by
  unfold elems at he
  split at he
  · cases he
    exact ⟨none, 0, [], rep_nil hr, by simp, by simp, by simp, RepL.nil, .inl ⟨rfl, rfl⟩⟩
  · cases he
    obtain ⟨a, cap, hm⟩ := rep_emp hr
    exact ⟨_, cap, [], by simpa using hm, by simp, by simp, by simp, by simpa using RepL.nil, .inr ⟨a, rfl, by simp⟩⟩
  · rename_i s l
    split at he
    · rename_i hs
      subst hs
      cases he
      obtain ⟨hlim, hm⟩ := rep_sl hr
      rcases hm with ⟨rfl, rfl⟩ | ⟨a, cap, rfl, rfl⟩ | ⟨b, off, cap, cells, ty, fr, rfl, hcap, hs, hb, hsz, hR⟩
      · exact ⟨none, 0, [], rfl, hlim, by simp, by simp, RepL.nil, .inl ⟨rfl, rfl⟩⟩
      · exact ⟨some a, cap, [], rfl, hlim, by simp, by simp, RepL.nil, .inr ⟨a, rfl, by simp⟩⟩
      · have hfl := flat_at (w := w) (st := st) off hsz (fun i j x c hx hc => ⟨(hR i j x c hx hc).1, (hR i j x c hx hc).2.1, .s (hR i j x c hx hc).2.2⟩)
        refine ⟨_, cap, _, rfl, hlim, hsz, fun _ x hx => ?_, repL_at off hfl, .inr ⟨⟨b, off, none⟩, rfl, fun j v hv => ?_⟩⟩
        · obtain ⟨i, hi, rfl⟩ := List.mem_iff_getElem.1 hx
          have hxi := List.getElem?_eq_getElem hi
          have key : ∀ c ∈ (ys[i]'hi).cells, c.idfree = true := by
            intro c hc
            obtain ⟨j, hj, rfl⟩ := List.mem_iff_getElem.1 hc
            exact repS_free (hR i j _ _ hxi (List.getElem?_eq_getElem hj)).2.2
          cases e : ys[i]'hi with
          | agg cs => rw [V.idfree, V.idfreeL_iff]; rw [e] at key; exact key
          | _ => rw [e] at key; exact key _ (by simp [V.cells])
        · have hj : j < (ys.flatMap V.cells).length := by
            have := (List.getElem?_eq_some_iff.1 hv).1
            simpa using this
          have := cells_at hb off (ys.flatMap V.cells).length (fun j hj => (hfl j _ (List.getElem?_eq_getElem hj)).1) j v hv
          exact this
    · cases he
  · rename_i n g s off len
    split at he
    · rename_i g' p' s' l hg
      split at he
      · rename_i hc
        obtain ⟨rfl, rfl, rfl, hle⟩ := hc
        cases he
        have hl : live h n g' = true := by simp [live, hg, Ob.gen]
        obtain ⟨hlim, hsz, hp, hob⟩ := hh.ob _ _ hg
        have hlen : ((l.drop off).take len).length = len := by simp; omega
        rcases live_so hh hl hr with ⟨rfl, rfl, rfl⟩ | ⟨b, oo, ad, cap, cells, ty, rfl, hs, hb, hcap, hf, ha⟩
        · exact ⟨none, 0, [], by simp, by simp, by simp, by simp, by simpa using RepL.nil, .inl ⟨rfl, by simp⟩⟩
        · rcases hob with ⟨rfl, hno⟩ | ⟨b', o', cells', ty', hb', hc', hR⟩
          · exact absurd hs (hno _ _ _)
          · have e := hh.inj _ _ _ _ _ _ _ hs hb'
            subst e
            rw [hs] at hb'
            injection hb' with _ _ e3
            subst e3
            rw [hb] at hc'
            cases hc'
            have hsz' : ∀ x ∈ (l.drop off).take len, x.cells.length = s' := fun x hx => hsz x (mem_window hx)
            have hfl := flat_at (w := w) (st := st) (cells := cells) (oo + off * s') hsz' (fun i j x c hx hc => by
              have := hR _ j x c (window_get hx).1 hc
              rw [Nat.add_mul, ← Nat.add_assoc] at this
              exact this)
            by_cases h0 : len = 0
            · subst h0
              exact ⟨_, cap, [], by simp, by simp, by simp, by simp, by simpa using RepL.nil, .inr ⟨⟨b, ad, none⟩, rfl, by simp⟩⟩
            · have e := ha (by omega)
              subst e
              refine ⟨_, cap, _, by rw [hlen], by omega, hsz', fun hp' x hx => hp hp' x (mem_window hx), repL_at _ hfl, .inr ⟨⟨b, _, none⟩, rfl, fun j v hv => ?_⟩⟩
              have := cells_at hb (oo + off * s') (((l.drop off).take len).flatMap V.cells).length (fun j hj => (hfl j _ (List.getElem?_eq_getElem hj)).1) j v hv
              exact this
      · cases he
    · cases he
  · cases he

def effAppend (P : Program) (t t' : Nat) (a b : V) (d : Nat) (h : Heap) : Option (V × List (Nat × Ob)) :=
  match tab P t, tab P t' with
  | some i, some i' =>
    match i.kind, i'.kind with
    | .slice e, .slice _ =>
      match tab P e with
      | none => none
      | some ei =>
        match elems h ei.size b with
        | none => none
        | some (ys, q) =>
          match a with
          | .nil =>
            match hget h d with
            | none => if ys.length ≤ LIM then some (.so d 0 ei.size 0 ys.length, [(d, .arr 0 q ei.size ys)]) else none
            | some _ => none
          | .so n g s off len =>
            match hget h n with
            | some (.arr g' p s' l) =>
              if g' = g ∧ s' = s ∧ s = ei.size ∧ off + len = l.length ∧ len + ys.length ≤ LIM then
                some (.so n (g + 1) s 0 (len + ys.length), [(n, .arr (g + 1) (p && q) s (l.drop off ++ ys))])
              else none
            | _ => none
          | _ => none
    | _, _ => none
  | _, _ => none

section
variable {P : Program} (w : World)

theorem run_append_in {t t' ty e : TypeId} {i : TI} {info : TypeInfo} {e2 : TypeId} {d : TypeDesc} {z : Value} (ht : P.underlying t = some (.slice e)) (ht' : P.underlying t' = some (.slice e2))
    (hT : TabOk P e i info d z) (base : Option Addr) (sLen sCap : Nat) (ad : Option Addr) (m c : Nat) (news : List Value) (hl : news.length = m * i.size)
    (hnews : (ad = none ∧ news = []) ∨ ∃ a, ad = some a ∧ ∀ j v, news[j]? = some v → w.cell? (a.add j) = some v) (hroom : sLen + m ≤ sCap) {w' : World}
    (hst : ∀ a, base = some a → (storeCells (a.add (sLen * i.size)) news).run P w = .ok () w') (hbn : base = none → w' = w) :
    (Builtin.append_ #[t, t'] ty #[.slice base sLen sCap, .slice ad m c]).run P w = .ok (.slice base (sLen + m) sCap) w' := by
  have hf : (Builtin.firstCells i.size m (.slice ad m c)).run P w = .ok news.toArray w := by
    rcases hnews with ⟨rfl, rfl⟩ | ⟨a, rfl, hn⟩
    · exact run_firstCells_none w _ _ _ _
    · exact run_firstCells_some w i.size m a m c news hl hn
  unfold Builtin.append_
  simp only [List.getElem?_toArray, List.getElem?_cons_zero, List.getElem?_cons_succ, Sem.run_bind, run_underlying ht, Result.andThen_ok, hT.run_size, run_underlying ht', Sem.run_pure, Builtin.lenOf, Bool.false_eq_true, if_false, Bool.not_false, if_true, hroom, hf]
  cases base with
  | none => rw [hbn rfl]; rfl
  | some a => simp [hst a rfl]

theorem run_append_new {t t' ty e : TypeId} {i : TI} {info : TypeInfo} {e2 : TypeId} {d : TypeDesc} {z : Value} (ht : P.underlying t = some (.slice e)) (ht' : P.underlying t' = some (.slice e2))
    (hT : TabOk P e i info d z) (base : Option Addr) (sLen sCap : Nat) (olds : List Value) (hlo : olds.length = sLen * i.size)
    (holds : (base = none ∧ olds = []) ∨ ∃ a, base = some a ∧ ∀ j v, olds[j]? = some v → w.cell? (a.add j) = some v)
    (ad : Option Addr) (m c : Nat) (news : List Value) (hl : news.length = m * i.size)
    (hnews : (ad = none ∧ news = []) ∨ ∃ a, ad = some a ∧ ∀ j v, news[j]? = some v → w.cell? (a.add j) = some v) (hg : sCap < sLen + m) (hlim : sLen + m ≤ LIM) :
    (Builtin.append_ #[t, t'] ty #[.slice base sLen sCap, .slice ad m c]).run P w =
      .ok (.slice (some ⟨w.heap.size, 0, none⟩) (sLen + m) (grownCap w (sLen + m) sCap e))
        (w.drew.alloc (.cells (olds.toArray ++ news.toArray ++ Builtin.zeroCells z.cells (grownCap w (sLen + m) sCap e - (sLen + m))) e)) := by
  have hf : (Builtin.firstCells i.size m (.slice ad m c)).run P w.drew = .ok news.toArray w.drew := by
    rcases hnews with ⟨rfl, rfl⟩ | ⟨a, rfl, hn⟩
    · exact run_firstCells_none w.drew _ _ _ _
    · exact run_firstCells_some w.drew i.size m a m c news hl (by simpa using hn)
  have hfo : (Builtin.firstCells i.size sLen (.slice base sLen sCap)).run P w.drew = .ok olds.toArray w.drew := by
    rcases holds with ⟨rfl, rfl⟩ | ⟨a, rfl, hn⟩
    · exact run_firstCells_none w.drew _ _ _ _
    · exact run_firstCells_some w.drew i.size sLen a sLen sCap olds hlo (by simpa using hn)
  have hn : ¬ (sLen + m ≤ sCap) := by omega
  unfold LIM at hlim
  have h63 : ¬ (9223372036854775807 < ((sLen : Int) + (m : Int))) := by omega
  have hby : info.bytes ≤ 4096 := by rw [hT.bytes]; exact hT.small
  have h48 : ¬ (281474976710656 < Builtin.nextslicecap (sLen + m) sCap * info.bytes) := by
    have := growslice_fits (need := sLen + m) (old := sCap) (bytes := info.bytes) hg (by
      have := Nat.mul_le_mul hlim hby
      omega)
    omega
  have hmx : IntKind.i64.max = 9223372036854775807 := rfl
  unfold Builtin.append_
  simp only [List.getElem?_toArray, List.getElem?_cons_zero, List.getElem?_cons_succ, Sem.run_bind, run_underlying ht, Result.andThen_ok, hT.run_size, run_underlying ht', Sem.run_pure, Builtin.lenOf, Bool.false_eq_true, if_false, Bool.not_false, if_true, hn]
  simp [hT.run_info, hmx, h63, h48, Question.forced, hf, hfo, hT.run_zero, newRow, grownCap]
  congr 2
  apply Array.ext'
  simp [List.append_assoc]
end

end Go.PG
