/- The engine: append, joined with what is owned. -/
import Derived.Test.YtfhddbnacbcppaaKPgJ
set_option linter.unusedVariables false
set_option linter.unnecessarySimpa false
set_option linter.unusedSimpArgs false
namespace Go.PG

theorem repL_flat_append {w : World} {st : Nat → Own} {l ys : List V} {vs us : List Value} (hl : RepL w st (l.flatMap V.cells) vs) (hy : RepL w st (ys.flatMap V.cells) us) : RepL w st ((l ++ ys).flatMap V.cells) (vs ++ us) := by
  rw [List.flatMap_append]
  exact hl.append hy

theorem vs_len {w st sz} {ys : List V} {vs : List Value} (hsz : ∀ x ∈ ys, x.cells.length = sz) (h : RepL w st (ys.flatMap V.cells) vs) : vs.length = ys.length * sz := by
  rw [← h.1, flat_len sz ys hsz]

theorem repL_one {w st cs vs} (h : RepL w st cs vs) : ∀ v ∈ vs, v.oneCell' = true := by
  intro v hv
  obtain ⟨j, hj, rfl⟩ := List.mem_iff_getElem.1 hv
  exact (h.2 j _ _ (List.getElem?_eq_getElem (by rw [h.1]; exact hj)) (List.getElem?_eq_getElem hj)).2

theorem append_good {P ρ o w st h t t' x y a b d v ups} (ho : o.op = .call { callee := .builtin .append, args := #[x, y], argTypes := #[t, t'] })
    (hx : Rep w st a (ρ x)) (hy : Rep w st b (ρ y)) (hh : HeapOk w st h) (he : effAppend P t t' a b d h = some (v, ups)) : Good P ρ o w st h v ups := by
  unfold effAppend at he
  split at he
  · rename_i i i' hi hi'
    obtain ⟨info, ds, z, hT⟩ := tab_ok hi
    obtain ⟨info', ds', z', hT'⟩ := tab_ok hi'
    split at he
    · rename_i e e2 hk hk'
      have hd := kind_slice (hT.kind.symm.trans hk)
      have hd' := kind_slice (hT'.kind.symm.trans hk')
      subst hd hd'
      split at he
      · cases he
      · rename_i ei hei
        obtain ⟨infoe, dse, ze, hE⟩ := tab_ok hei
        split at he
        · cases he
        · rename_i ys q hys
          obtain ⟨ady, capy, vs, hmy, hylim, hysz, hyfree, hyr, hyad⟩ := elems_rep hh hy hys
          have hvl := vs_len hysz hyr
          have hnews : (ady = none ∧ vs = []) ∨ ∃ aa, ady = some aa ∧ ∀ (j : Nat) (v : Value), vs[j]? = some v → w.cell? (aa.add j) = some v := by
            rcases hyad with ⟨r1, rfl⟩ | ⟨aa, r1, r2⟩
            · exact .inl ⟨r1, List.eq_nil_of_length_eq_zero (by simpa using hvl)⟩
            · exact .inr ⟨_, r1, r2⟩
          have run : ∀ m w', (Builtin.append_ #[t, t'] o.type #[ρ x, ρ y]).run P w = .ok m w' → (execOp ρ o).run P w = .ok (.value m) w' := by
            intro m w' hm
            unfold execOp
            simp [ho, resolve, invoke, builtin, hm]
          -- a new block for id n, at generation g', for the elements l0 ++ ys
          have newblock : ∀ (n g' : Nat) (p0 : Bool) (l0 : List V) (olds : List Value) (base : Option Addr) (sLen sCap : Nat) , ρ x = .slice base sLen sCap → sLen = l0.length → (∀ x ∈ l0, x.cells.length = ei.size) → (p0 = true → ∀ x ∈ l0, x.idfree = true) →
              RepL w st (l0.flatMap V.cells) olds → ((base = none ∧ olds = []) ∨ ∃ aa, base = some aa ∧ ∀ (j : Nat) (v : Value), olds[j]? = some v → w.cell? (aa.add j) = some v) →
              sCap < sLen + ys.length → sLen + ys.length ≤ LIM → (∀ b g o, st b = .id n g o → g < g') →
              Good P ρ o w st h (.so n g' ei.size 0 (sLen + ys.length)) [(n, .arr g' (p0 && q) ei.size (l0 ++ ys))] := by
            intro n g' p0 l0 olds base sLen sCap hmx hsl hl0 hp0 holds hbase hcap hlim hgen
            have hol := vs_len hl0 holds
            have hr := run_append_new w (t := t) (t' := t') (ty := o.type) hT.und hT'.und hE base sLen sCap olds (by rw [hol, hsl]) hbase ady ys.length capy vs hvl hnews hcap hlim
            rw [← hmx, ← hmy] at hr
            have hf0 : Fr w st w.drew st := Fr.drew w st
            have hh0 := hh.drew
            have hf := fr_move hh0 g' (.cells (olds.toArray ++ vs.toArray ++ Builtin.zeroCells ze.cells (grownCap w (sLen + ys.length) sCap e - (sLen + ys.length))) e) 0 hgen
            have hrl : RepL w st ((l0 ++ ys).flatMap V.cells) (olds ++ vs) := repL_flat_append holds hyr
            refine ⟨_, _, _, .inl (run _ _ hr), ?_, heap_move_id hh0 (.arr g' (p0 && q) ei.size (l0 ++ ys)) _ 0 hgen ?_, hf0.trans hf⟩
            · refine Rep.so (o := 0) (b := w.drew.heap.size) (ty := e) (by unfold mvO; rw [if_pos rfl]; rfl) (heap_alloc_new w.drew _) (grownCap_ge w _ _ e) ?_ (by simp)
              have hzs : ze.cells.size = ei.size := by
                have := (rep_cells (.s (vOf_sound hE.zv w (fun b => st b = .shut))) (zero_okv hE)).1
                rw [hE.len] at this
                simpa using this.symm
              have hge := grownCap_ge w (sLen + ys.length) sCap e
              simp only [Array.size_append, List.size_toArray, size_zeroCells, hzs, hol, hvl]
              rw [← hsl, ← Nat.add_mul, ← Nat.add_mul]
              refine Nat.le_of_eq ?_
              rw [Nat.zero_add]
              congr 1
              omega
            · refine ob_arr (b := w.drew.heap.size) (o := 0) (by simp; omega) (fun x hx => ?_) (fun hp x hx => ?_) (by unfold mvO; rw [if_pos rfl]; rfl) (heap_alloc_new w.drew _) ?_
              · rcases List.mem_append.1 hx with hx | hx
                · exact hl0 x hx
                · exact hysz x hx
              · simp only [Bool.and_eq_true] at hp
                rcases List.mem_append.1 hx with hx | hx
                · exact hp0 hp.1 x hx
                · exact hyfree hp.2 x hx
              · refine repL_row ((hrl.frame hh.shut (hf0.trans hf))) _ 0 (fun j hj => ?_)
                rw [Nat.zero_add]
                have : (olds.toArray ++ vs.toArray) = (olds ++ vs).toArray := by simp
                rw [Array.getElem?_append, if_pos (by simpa using hj), this]
                simp
          split at he
          · split at he
            · rename_i hd
              split at he
              · rename_i hlim
                cases he
                have hmx := rep_nil hx
                have hno := hh.nil_of hd
                by_cases h0 : ys.length = 0
                · have hys0 : ys = [] := List.eq_nil_of_length_eq_zero h0
                  subst hys0
                  have hr := run_append_in w (t := t) (t' := t') (ty := o.type) hT.und hT'.und hE none 0 0 ady 0 capy vs (by simpa using hvl) hnews (Nat.le_refl 0) (w' := w) (by intro a h; cases h) (fun _ => rfl)
                  rw [← hmx] at hr
                  simp only [List.length_nil] at hmy
                  rw [← hmy] at hr
                  refine ⟨_, w, st, .inl (run _ _ hr), by rw [hmx]; exact Rep.so0, ?_, Fr.refl w st⟩
                  refine ⟨fun n y hy => ?_, fun b n g o hs => ?_, hh.inj, hh.shut⟩
                  · simp only [hsets, hget_hset] at hy
                    split at hy
                    · rename_i hn
                      cases hy
                      subst hn
                      exact ⟨by simp, by simp, by simp, .inl ⟨rfl, hno⟩⟩
                    · exact hh.ob n y hy
                  · obtain ⟨r1, y, r2, r3⟩ := hh.dom _ _ _ _ hs
                    refine ⟨r1, y, ?_, r3⟩
                    simp only [hsets, hget_hset]
                    rw [if_neg (by rintro rfl; exact hno _ _ _ hs)]
                    exact r2
                · have := newblock d 0 true [] [] none 0 0 hmx rfl (by simp) (by simp) RepL.nil (.inl ⟨rfl, rfl⟩) (by omega) (by omega) (fun b g o hs => absurd hs (hno _ _ _))
                  simpa using this
              · exact absurd hylim (by assumption)
            · cases he
          · rename_i n g s off len
            split at he
            · rename_i g' p s' l hg
              split at he
              · rename_i hc
                obtain ⟨rfl, rfl, rfl, hwl, hlim⟩ := hc
                cases he
                have hl : live h n g' = true := by simp [live, hg, Ob.gen]
                obtain ⟨hllim, hlsz, hlp, hob⟩ := hh.ob _ _ hg
                have hdl : (l.drop off).length = len := by simp; omega
                have hdsz : ∀ x ∈ l.drop off, x.cells.length = ei.size := fun x hx => hlsz x (List.mem_of_mem_drop hx)
                have hdp : p = true → ∀ x ∈ l.drop off, x.idfree = true := fun hp x hx => hlp hp x (List.mem_of_mem_drop hx)
                have hgen : ∀ b g o, st b = .id n g o → g < g' + 1 := by
                  intro b g o hs
                  obtain ⟨_, y, hy, hgn⟩ := hh.dom _ _ _ _ hs
                  rw [hg] at hy
                  cases hy
                  simp only [Ob.gen] at hgn
                  omega
                rcases live_so hh hl hx with ⟨hmx, rfl, rfl⟩ | ⟨b', oo, ad, cap, cells, ty, hmx, hs, hb, hcap, hf, ha⟩
                · have hl0 : l = [] := List.eq_nil_of_length_eq_zero (by simpa using hwl.symm)
                  subst hl0
                  by_cases h0 : ys.length = 0
                  · have hys0 : ys = [] := List.eq_nil_of_length_eq_zero h0
                    subst hys0
                    have hr := run_append_in w (t := t) (t' := t') (ty := o.type) hT.und hT'.und hE none 0 0 ady 0 capy vs (by simpa using hvl) hnews (Nat.le_refl 0) (w' := w) (by intro a h; cases h) (fun _ => rfl)
                    rw [← hmx] at hr
                    simp only [List.length_nil] at hmy
                    rw [← hmy] at hr
                    rcases hob with ⟨_, hno⟩ | ⟨b1, o1, c1, ty1, hb1, hc1, _⟩
                    · refine ⟨_, w, st, .inl (run _ _ hr), by rw [hmx]; exact Rep.so0, ?_, Fr.refl w st⟩
                      refine ⟨fun m y hy => ?_, fun b m g o hs => ?_, hh.inj, hh.shut⟩
                      · simp only [hsets, hget_hset] at hy
                        split at hy
                        · rename_i hn
                          cases hy
                          subst hn
                          exact ⟨by simp, by simp, by simp, .inl ⟨rfl, hno⟩⟩
                        · exact hh.ob m y hy
                      · obtain ⟨r1, y, r2, r3⟩ := hh.dom _ _ _ _ hs
                        refine ⟨r1, y, ?_, r3⟩
                        simp only [hsets, hget_hset]
                        rw [if_neg (by rintro rfl; exact hno _ _ _ hs)]
                        exact r2
                    · have hself := setRow_self w b1 c1 ty1 (0, 0) hc1
                      have hw := heap_write_id hh hb1 hc1 c1 rfl (.arr (g' + 1) (p && q) ei.size ([] ++ [])) o1 (.inr (by simp [Ob.gen])) ⟨by simp, by simp, by simp, .inr ⟨b1, o1, c1, ty1, by simp [updO, Ob.gen], by rw [hself]; exact hc1, by simp⟩⟩
                      have hfr := fr_write hh hb1 hc1 c1 rfl (g' + 1) o1 (.inr (by omega))
                      rw [hself] at hw hfr
                      exact ⟨_, w, _, .inl (run _ _ hr), by rw [hmx]; exact Rep.so0, hw, hfr⟩
                  · exact newblock n (g' + 1) p [] [] none 0 0 hmx rfl (by simp) (by simp) RepL.nil (.inl ⟨rfl, rfl⟩) (by omega) (by omega) hgen
                · rcases hob with ⟨rfl, hno⟩ | ⟨b1, o1, c1, ty1, hb1, hc1, hR⟩
                  · exact absurd hs (hno _ _ _)
                  · have e1 := hh.inj _ _ _ _ _ _ _ hs hb1
                    subst e1
                    rw [hs] at hb1
                    injection hb1 with _ _ e3
                    subst e3
                    rw [hb] at hc1
                    cases hc1
                    have hfl := flat_at (w := w) (st := st) (cells := cells) (oo + off * ei.size) hdsz (fun i j x c hx hc => by
                      rw [List.getElem?_drop] at hx
                      have := hR _ j x c hx hc
                      rw [Nat.add_mul, ← Nat.add_assoc] at this
                      exact this)
                    have hflen : ((l.drop off).flatMap V.cells).length = len * ei.size := by rw [flat_len _ _ hdsz, hdl]
                    have holds := repL_at (w := w) (st := st) (cells := cells) (oo + off * ei.size) hfl
                    have hcellsat := cells_at hb (oo + off * ei.size) ((l.drop off).flatMap V.cells).length (fun j hj => (hfl j _ (List.getElem?_eq_getElem hj)).1)
                    by_cases hroom : len + ys.length ≤ cap
                    · -- in place
                      have hq : oo + off * ei.size + len * ei.size + vs.length ≤ cells.size := by
                        rw [hvl]
                        have := Nat.mul_le_mul_right ei.size hroom
                        rw [Nat.add_mul] at this hf
                        omega
                      have hsize := wrote_size cells _ vs hq
                      have hfr := fr_write hh hs hb _ hsize (g' + 1) (oo + off * ei.size) (.inr (by omega))
                      have hstr : ∀ a, some (⟨b', ad, none⟩ : Addr) = some a → (storeCells (a.add (len * ei.size)) vs).run P w = .ok () (w.setRow b' (cells.toList.take (oo + off * ei.size + len * ei.size) ++ vs ++ cells.toList.drop (oo + off * ei.size + len * ei.size + vs.length)).toArray) := by
                        intro a ha'
                        cases ha'
                        by_cases hc0 : cap = 0
                        · have hy0 : ys = [] := List.eq_nil_of_length_eq_zero (by omega)
                          subst hy0
                          have : vs = [] := List.eq_nil_of_length_eq_zero (by simpa using hvl)
                          subst this
                          simp only [storeCells, List.append_nil, List.length_nil, Nat.add_zero, List.take_append_drop, Array.toArray_toList, Sem.run_pure]
                          rw [setRow_self w b' cells ty (0, 0) hb]
                        · rw [ha hc0, add_lit']
                          have := run_storeCells_at P b' (oo + off * ei.size + len * ei.size) ty vs 0 cells w hb (by simpa using hq) (repL_one hyr)
                          simpa using this
                      have hr := run_append_in w (t := t) (t' := t') (ty := o.type) hT.und hT'.und hE (some ⟨b', ad, none⟩) len cap ady ys.length capy vs hvl hnews hroom hstr (by intro h; cases h)
                      rw [← hmx, ← hmy] at hr
                      refine ⟨_, _, _, .inl (run _ _ hr), ?_, heap_write_id hh hs hb _ hsize (.arr (g' + 1) (p && q) ei.size (l.drop off ++ ys)) (oo + off * ei.size) (.inr (by simp [Ob.gen])) ?_, hfr⟩
                      · refine Rep.so (o := oo + off * ei.size) (b := b') (ty := ty) (by simp [updO, Ob.gen]) (setRow_heap w b' cells _ ty (0, 0) hb) hroom ?_ (fun hc0 => by rw [ha hc0]; simp)
                        rw [hsize, Nat.zero_add]
                        rw [Nat.add_mul] at hf
                        omega
                      · refine ob_arr (b := b') (o := oo + off * ei.size) (by simp; omega) (fun x hx => ?_) (fun hp x hx => ?_) (by simp [updO, Ob.gen]) (setRow_heap w b' cells _ ty (0, 0) hb) ?_
                        · rcases List.mem_append.1 hx with hx | hx
                          · exact hdsz x hx
                          · exact hysz x hx
                        · simp only [Bool.and_eq_true] at hp
                          rcases List.mem_append.1 hx with hx | hx
                          · exact hdp hp.1 x hx
                          · exact hyfree hp.2 x hx
                        · have hrl := (repL_flat_append holds hyr).frame hh.shut hfr
                          refine repL_row hrl _ _ (fun j hj => ?_)
                          rw [wrote_get cells _ vs hq, List.getElem?_append]
                          simp only [List.length_append, List.length_map, List.length_range, hflen] at hj ⊢
                          by_cases hj1 : j < len * ei.size
                          · rw [if_neg (by omega), if_pos hj1]
                            have hlt := (hfl j _ (List.getElem?_eq_getElem (by omega))).1
                            simp [hj1, hlt]
                          · rw [if_pos (by omega), if_neg hj1]
                            congr 1
                            omega
                    · -- grown
                      have hbase : ((some (⟨b', ad, none⟩ : Addr) = none) ∧ ((List.range ((l.drop off).flatMap V.cells).length).map fun j => cells.getD (oo + off * ei.size + j) undef) = []) ∨
                          ∃ aa, some (⟨b', ad, none⟩ : Addr) = some aa ∧ ∀ (j : Nat) (v : Value), ((List.range ((l.drop off).flatMap V.cells).length).map fun j => cells.getD (oo + off * ei.size + j) undef)[j]? = some v → w.cell? (aa.add j) = some v := by
                        refine .inr ⟨_, rfl, fun j v hv => ?_⟩
                        by_cases hc0 : cap = 0
                        · have : len = 0 := by omega
                          rw [hflen, this] at hv
                          simp at hv
                        · rw [ha hc0]
                          exact hcellsat j v hv
                      exact newblock n (g' + 1) p (l.drop off) _ _ len cap hmx hdl.symm hdsz hdp holds hbase (by omega) hlim hgen
              · cases he
            · cases he
          · cases he
    · cases he
  · cases he

end Go.PG
