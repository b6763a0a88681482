/- Plain laws: Refutes; the law LineChecks. -/
import Derived.Test.YtfhddbnacbcppaaKPa
import Derived.Test.YtfhddbnacbcppaaKLb
set_option linter.unusedVariables false
set_option linter.unnecessarySimpa false
set_option linter.unusedSimpArgs false
namespace Go.Proofs.Ytfhddbnacbcppaa
open Go.PG

theorem getD_set (s : List Int) (k v : Nat) (x : Int) (h : k < s.length) : (s.set k x).getD v 0 = if v = k then x else s.getD v 0 := by
  simp only [List.getD, List.getElem?_set]
  by_cases e : k = v
  · subst e; simp [h]
  · have e' : ¬ v = k := fun q => e q.symm
    simp [e, e']

theorem getD_rep (m v : Nat) : (List.replicate m (0 : Int)).getD v 0 = 0 := by
  simp only [List.getD, List.getElem?_replicate]
  split <;> rfl

theorem refutes_row (b : List Int) (k : Nat) (y : Int) (hy : b[k]? = some y) (cs s : List Int) (h : cs.length < s.length) :
    ∃ s', forL (line_Refutes_b2 b k) 0 cs s = some (.inl s' : List Int ⊕ Ctl (List Int) Bool) ∧ s'.length = s.length ∧
      ∀ v, s'.getD v 0 = if v < cs.length then IntKind.i64.wrap (s.getD v 0 + IntKind.i64.wrap (y * cs.getD v 0)) else s.getD v 0 := by
  exact forL_nx (body := line_Refutes_b2 b k) (fun k2 s2 => s2.length = s.length ∧ ∀ v, s2.getD v 0 = if v < k2 then IntKind.i64.wrap (s.getD v 0 + IntKind.i64.wrap (y * cs.getD v 0)) else s.getD v 0) cs s ⟨rfl, fun v => by simp⟩
    (fun k2 c s2 hc ⟨h1, h2⟩ => by
      have hk : k2 < cs.length := (List.getElem?_eq_some_iff.1 hc).1
      have hg := getD_of hc
      unfold line_Refutes_b2
      rw [get_of (l := s2) (k := k2) (by omega), hy]
      refine ⟨_, rfl, by simp [h1], fun v => ?_⟩
      rw [getD_set _ _ _ _ (by omega)]
      by_cases e : v = k2
      · subst e
        rw [if_pos rfl, if_pos (by omega), h2 v, if_neg (by omega), hg]
      · rw [if_neg e, h2 v]
        by_cases e2 : v < k2
        · rw [if_pos e2, if_pos (by omega)]
        · rw [if_neg e2, if_neg (by omega)])

theorem refutes_bad {n : Int} {b : List Int} {k : Nat} {y : Int} (hy : b[k]? = some y) (r : line_Row) (s : List Int) (hbad : ¬ (0 ≤ y ∧ y ≤ 1125899906842624)) : line_Refutes_b0 n b k r s = some (.rt false) := by
  unfold line_Refutes_b0
  rw [hy]
  simp only [Option.bind_some]
  by_cases h : y < 0
  · simp [h]
  · have : y > 1125899906842624 := by omega
    simp [h, this]

theorem refutes_good {n : Int} {b : List Int} {k : Nat} {y : Int} (hy : b[k]? = some y) (r : line_Row) (s : List Int) (hn : 0 ≤ n) (hr : (r.f_Coef.length : Int) = n) (hs : s.length = n.toNat + 1)
    (hok : 0 ≤ y ∧ y ≤ 1125899906842624) : ∃ s', line_Refutes_b0 n b k r s = some (.nx s') ∧ s'.length = n.toNat + 1 ∧
      (∀ v, v < n.toNat → s'.getD v 0 = IntKind.i64.wrap (s.getD v 0 + IntKind.i64.wrap (y * r.f_Coef.getD v 0))) ∧ s'.getD n.toNat 0 = IntKind.i64.wrap (s.getD n.toNat 0 + IntKind.i64.wrap (y * r.f_Most)) := by
  obtain ⟨s', e, h1, h2⟩ := refutes_row b k y hy r.f_Coef s (by omega)
  unfold line_Refutes_b0
  rw [hy]
  simp only [Option.bind_some]
  rw [show decide (y < 0) = false by simp; omega, show decide (y > 1125899906842624) = false by simp; omega]
  simp only [cond_false, Option.bind_some]
  rw [e]
  simp only [Option.bind_some, Sum.elim_inl]
  unfold idx
  rw [if_pos hn, get_of (l := s') (k := n.toNat) (by omega)]
  refine ⟨_, rfl, by simp [h1, hs], fun v hv => ?_, ?_⟩
  · rw [getD_set _ _ _ _ (by omega), if_neg (by omega), h2 v, if_pos (by omega)]
  · rw [getD_set _ _ _ _ (by omega), if_pos rfl, h2, if_neg (by omega)]

theorem refutes_spec (l : List line_Row) (n : Int) (b : List Int) : ∃ r, line_Refutes l n b = some r ∧ (r = true ↔ line_Check l n = some 0 ∧ disproved l n b) := by
  obtain ⟨c, hc, hc0⟩ := check_spec l n
  unfold line_Refutes
  by_cases h : c ≠ 0 ∨ b.length ≠ l.length
  · rw [len_true l n b c hc h]
    refine ⟨false, rfl, by simp, fun ⟨h1, h2⟩ => ?_⟩
    rw [hc] at h1; cases h1
    rcases h with h | h
    · exact absurd rfl h
    · exact absurd h2.1 h
  · have h0 : c = 0 := Decidable.byContradiction fun e => h (.inl e)
    have h1 : b.length = l.length := Decidable.byContradiction fun e => h (.inr e)
    subst h0
    rw [len_false l n b hc h1]
    obtain ⟨c1, c2, c3, c4⟩ := hc0 rfl
    have hn1 : IntKind.i64.wrap (n + 1) = n + 1 := wrap64 (by omega) (by omega)
    simp only [Option.bind_some, cond_false]
    rw [hn1, chk_of (show 0 ≤ n + 1 ∧ n + 1 ≤ (LIM : Int) by unfold LIM; omega)]
    simp only [Option.bind_some]
    have hrep : (List.replicate (n + 1).toNat (0 : Int)).length = n.toNat + 1 := by simp; omega
    by_cases hall : ∀ y ∈ b, 0 ≤ y ∧ y ≤ 1125899906842624
    · obtain ⟨s, e, i1, i2, i3⟩ := forL_nx (body := line_Refutes_b0 n b) (fun k s => s.length = n.toNat + 1 ∧ (∀ v, v < n.toNat → s.getD v 0 = col l b v k) ∧ s.getD n.toNat 0 = mst l b k) l (List.replicate (n + 1).toNat (0 : Int))
        ⟨hrep, fun v hv => by rw [getD_rep]; rfl, by rw [getD_rep]; rfl⟩ (fun k r s hr ⟨i1, i2, i3⟩ => by
          have hk : k < l.length := (List.getElem?_eq_some_iff.1 hr).1
          have hok := c4 r (List.mem_of_getElem? hr)
          have hy := get_of (l := b) (k := k) (by omega)
          obtain ⟨s', e, j1, j2, j3⟩ := refutes_good hy r s (by omega) hok.1 i1 (hall _ (List.mem_of_getElem? hy))
          have hrd := lgetD_of (d := default) hr
          refine ⟨s', e, j1, fun v hv => ?_, ?_⟩
          · have bd := col_bnd c4 hall c3 v hk
            rw [hrd] at bd
            rw [j2 v hv, i2 v hv, Int.mul_comm, wrap64 (x := r.f_Coef.getD v 0 * b.getD k 0) (by omega) (by omega), wrap64 (by omega) (by omega)]
            simp only [col, sm]
            rw [hrd]
          · have bd := mst_bnd c4 hall c3 hk
            rw [hrd] at bd
            rw [j3, i3, Int.mul_comm, wrap64 (x := r.f_Most * b.getD k 0) (by omega) (by omega), wrap64 (by omega) (by omega)]
            simp only [mst, sm]
            rw [hrd])
      rw [e]
      simp only [Option.bind_some, Sum.elim_inl]
      rw [chk_of (show 0 ≤ n ∧ n.toNat ≤ s.length by omega)]
      simp only [Option.bind_some]
      rcases forL_all (body := line_Refutes_b4) (fun _ _ => True) (fun _ x => x = 0) false (s.take n.toNat) () trivial (fun k x u hx _ => by
        unfold line_Refutes_b4
        by_cases hz : x = 0
        · exact .inl ⟨hz, (), by rw [show (x != 0) = false by simp [hz]]; rfl, trivial⟩
        · exact .inr ⟨hz, by rw [show (x != 0) = true by simp [hz]]; rfl⟩) with ⟨g, u, e2, _⟩ | ⟨⟨v, x, hv, hna⟩, e2⟩
      · rw [e2]
        simp only [Option.bind_some, Sum.elim_inl]
        unfold idx
        rw [if_pos (by omega), get_of (l := s) (k := n.toNat) (by omega), i3]
        refine ⟨_, rfl, fun h => ⟨hc, h1, hall, fun v hv => ?_, by simpa using h⟩, fun ⟨_, _, _, _, h⟩ => by simpa using h⟩
        rw [← i2 v hv]
        exact g v _ (by rw [List.getElem?_take_of_lt hv, get_of (l := s) (k := v) (by omega)])
      · rw [e2]
        have hvn : v < n.toNat := by have := (List.getElem?_eq_some_iff.1 hv).1; simp at this; omega
        rw [List.getElem?_take_of_lt hvn] at hv
        have := getD_of hv
        rw [i2 v hvn] at this
        refine ⟨false, rfl, by simp, fun ⟨_, hs⟩ => absurd (this.symm.trans (hs.2.2.1 v hvn)) hna⟩
    · rcases forL_inv (body := line_Refutes_b0 n b) (fun k s => s.length = n.toNat + 1 ∧ ∀ j y, j < k → b[j]? = some y → 0 ≤ y ∧ y ≤ 1125899906842624) (fun _ => False) (fun r => r = false) l 0 (List.replicate (n + 1).toNat (0 : Int)) ⟨hrep, fun j y h => by omega⟩
        (fun k r s hr ⟨i1, i2⟩ => by
          rw [Nat.zero_add] at i2 ⊢
          have hk : k < l.length := (List.getElem?_eq_some_iff.1 hr).1
          have hok := c4 r (List.mem_of_getElem? hr)
          have hy := get_of (l := b) (k := k) (by omega)
          by_cases hg : 0 ≤ b.getD k 0 ∧ b.getD k 0 ≤ 1125899906842624
          · obtain ⟨s', e, j1, _, _⟩ := refutes_good hy r s (by omega) hok.1 i1 hg
            refine .inl ⟨s', e, j1, fun j y hj hy' => ?_⟩
            by_cases hjk : j = k
            · subst hjk
              rw [hy] at hy'; cases hy'; exact hg
            · exact i2 j y (by omega) hy'
          · exact .inr (.inr ⟨false, refutes_bad hy r s hg, rfl⟩)) with ⟨s', e, ⟨_, h2⟩ | h2⟩ | ⟨r, e, rfl⟩
      · exfalso
        apply hall
        intro y hy
        obtain ⟨i, hi, rfl⟩ := List.mem_iff_getElem.1 hy
        exact h2 i _ (by omega) (List.getElem?_eq_getElem hi)
      · exact h2.elim
      · rw [e]
        exact ⟨false, rfl, by simp, fun ⟨_, hs⟩ => absurd hs.2.1 hall⟩

set_option maxRecDepth 100000 in
theorem lined_true : mootlaw3_lined 20 = some true := by decide +kernel

theorem lineChecks_plain (l : List line_Row) (n : Int) (p : line_Point) (b : List Int) : mootlaw3_LineChecks 20 l n p b = some true := by
  obtain ⟨c, hc, _⟩ := check_spec l n
  obtain ⟨x1, h1, e1⟩ := holds_spec l n p
  obtain ⟨x2, h2, e2⟩ := solves_spec l n p
  obtain ⟨x3, h3, e3⟩ := refutes_spec l n b
  obtain ⟨x4, h4, e4⟩ := disproves_spec l n b
  have e5 : x1 = x2 := by
    cases x1 <;> cases x2 <;> simp_all
  have e6 : x3 = x4 := by
    cases x3 <;> cases x4 <;> simp_all
  subst e5 e6
  unfold mootlaw3_LineChecks
  rw [lined_true, fault_eq, hc, h1, h2, h3, h4]
  simp
end Go.Proofs.Ytfhddbnacbcppaa
