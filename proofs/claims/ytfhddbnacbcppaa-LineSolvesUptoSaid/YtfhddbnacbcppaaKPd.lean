/- Plain laws: adding rows, and leaving out a variable. -/
import Derived.Test.YtfhddbnacbcppaaKPc
set_option linter.unusedVariables false
set_option linter.unnecessarySimpa false
set_option linter.unusedSimpArgs false
namespace Go.Proofs.Ytfhddbnacbcppaa
open Go.PG

theorem sm_lin {f g h : Nat → Int} {p q : Int} {n : Nat} (e : ∀ k, k < n → f k = p * g k + q * h k) : sm f n = p * sm g n + q * sm h n := by
  induction n with
  | zero => simp [sm]
  | succ n ih =>
    simp only [sm]
    rw [ih (fun k hk => e k (by omega)), e n (by omega), Int.mul_add, Int.mul_add]
    omega

theorem getD_snoc (s : List Int) (x : Int) (v : Nat) : (s ++ [x]).getD v 0 = if v < s.length then s.getD v 0 else if v = s.length then x else 0 := by
  simp only [List.getD, List.getElem?_append]
  by_cases h : v < s.length
  · simp [h]
  · by_cases h2 : v = s.length
    · subst h2; simp
    · have : v - s.length ≠ 0 := by omega
      simp [h, h2]
      cases hv : v - s.length with
      | zero => omega
      | succ m => simp

def cf (x : line_row) (v : Nat) : Int := x.f_Row.f_Coef.getD v 0

/-- A row that follows from the given ones: their sum, weighed by what it bears. -/
structure rowG (l : List line_Row) (N : Nat) (C M Y : Int) (x : line_row) : Prop where
  len : x.f_Row.f_Coef.length = N
  blen : x.f_by.length = l.length
  lin : ∀ v, v < N → cf x v = col l x.f_by v l.length
  most : x.f_Row.f_Most = mst l x.f_by l.length
  cb : ∀ v, -C ≤ cf x v ∧ cf x v ≤ C
  mb : -M ≤ x.f_Row.f_Most ∧ x.f_Row.f_Most ≤ M
  yb : ∀ k, 0 ≤ x.f_by.getD k 0 ∧ x.f_by.getD k 0 ≤ Y

theorem two_bnd {p q a b C B : Int} (hp : 0 ≤ p ∧ p ≤ C) (hq : 0 ≤ q ∧ q ≤ C) (ha : -B ≤ a ∧ a ≤ B) (hb : -B ≤ b ∧ b ≤ B) (hBig : 2 * C * B ≤ 4611686018427387904) :
    (-(2 * C * B) ≤ p * a + q * b ∧ p * a + q * b ≤ 2 * C * B) ∧ IntKind.i64.wrap (IntKind.i64.wrap (p * a) + IntKind.i64.wrap (q * b)) = p * a + q * b := by
  have h1 := mul_bnd (show -C ≤ p by omega) hp.2 ha.1 ha.2
  have h2 := mul_bnd (show -C ≤ q by omega) hq.2 hb.1 hb.2
  have e : 2 * C * B = 2 * (C * B) := Int.mul_assoc ..
  refine ⟨⟨by omega, by omega⟩, ?_⟩
  rw [wrap64 (x := p * a) (by omega) (by omega), wrap64 (x := q * b) (by omega) (by omega), wrap64 (by omega) (by omega)]

theorem add_spec {l : List line_Row} {N : Nat} {C M Y : Int} {x y : line_row} {p q : Int} (hx : rowG l N C M Y x) (hy : rowG l N C M Y y) (hp : 0 ≤ p ∧ p ≤ C) (hq : 0 ≤ q ∧ q ≤ C)
    (hN : N ≤ 3) (hl : l.length ≤ 8) (hC : 2 * C * C ≤ 4611686018427387904) (hM : 2 * C * M ≤ 4611686018427387904) (hY : 2 * C * Y ≤ 4611686018427387904) (hY0 : 0 ≤ Y) :
    ∃ r, line_add x p y q = some r ∧ rowG l N (2 * C * C) (2 * C * M) (2 * C * Y) r ∧ (∀ v, cf r v = p * cf x v + q * cf y v) ∧ r.f_Row.f_Most = p * x.f_Row.f_Most + q * y.f_Row.f_Most := by
  unfold line_add
  rw [hx.len, hx.blen, chk_of (show ((N : Nat) : Int) ≤ (LIM : Int) by unfold LIM; omega)]
  simp only [Option.bind_some]
  obtain ⟨s1, e1, i1, i2⟩ := forN_nx (body := line_add_b0 x p y q) (fun k s => s.length = k ∧ ∀ v, v < k → s.getD v 0 = p * cf x v + q * cf y v) N [] ⟨rfl, fun v h => by omega⟩ (fun k s hk ⟨i1, i2⟩ => by
    unfold line_add_b0
    rw [get_of (l := x.f_Row.f_Coef) (k := k) (by rw [hx.len]; omega), get_of (l := y.f_Row.f_Coef) (k := k) (by rw [hy.len]; omega)]
    simp only [Option.bind_some]
    rw [chk_of (show s.length + 1 ≤ LIM by unfold LIM; omega)]
    simp only [Option.bind_some]
    refine ⟨_, rfl, by simp [i1], fun v hv => ?_⟩
    rw [getD_snoc, i1]
    by_cases h : v < k
    · rw [if_pos h, i2 v h]
    · have : v = k := by omega
      subst this
      rw [if_neg h, if_pos rfl]
      exact (two_bnd hp hq (hx.cb v) (hy.cb v) hC).2)
  rw [e1]
  simp only [Option.bind_some, Sum.elim_inl]
  rw [chk_of (show ((l.length : Nat) : Int) ≤ (LIM : Int) by unfold LIM; omega)]
  simp only [Option.bind_some]
  have yb : ∀ {z : line_row}, rowG l N C M Y z → ∀ k, -Y ≤ z.f_by.getD k 0 ∧ z.f_by.getD k 0 ≤ Y := fun h k => by have := h.yb k; omega
  obtain ⟨s2, e2, j1, j2⟩ := forN_nx (body := line_add_b2 x p y q) (fun k s => s.length = k ∧ ∀ v, v < k → s.getD v 0 = p * x.f_by.getD v 0 + q * y.f_by.getD v 0) l.length [] ⟨rfl, fun v h => by omega⟩ (fun k s hk ⟨i1, i2⟩ => by
    unfold line_add_b2
    rw [get_of (l := x.f_by) (k := k) (by rw [hx.blen]; omega), get_of (l := y.f_by) (k := k) (by rw [hy.blen]; omega)]
    simp only [Option.bind_some]
    rw [chk_of (show s.length + 1 ≤ LIM by unfold LIM; omega)]
    simp only [Option.bind_some]
    refine ⟨_, rfl, by simp [i1], fun v hv => ?_⟩
    rw [getD_snoc, i1]
    by_cases h : v < k
    · rw [if_pos h, i2 v h]
    · have : v = k := by omega
      subst this
      rw [if_neg h, if_pos rfl]
      exact (two_bnd hp hq (yb hx v) (yb hy v) hY).2)
  rw [e2]
  simp only [Option.bind_some, Sum.elim_inl]
  have ovr : ∀ {s : List Int} {k : Nat}, s.length ≤ k → s.getD k 0 = 0 := fun h => by simp [List.getD, List.getElem?_eq_none h]
  have hcf : ∀ v, s1.getD v 0 = p * cf x v + q * cf y v := by
    intro v
    by_cases h : v < N
    · exact i2 v h
    · rw [ovr (by omega)]
      unfold cf
      rw [ovr (by rw [hx.len]; omega), ovr (by rw [hy.len]; omega)]
      simp
  have hby : ∀ v, s2.getD v 0 = p * x.f_by.getD v 0 + q * y.f_by.getD v 0 := by
    intro v
    by_cases h : v < l.length
    · exact j2 v h
    · rw [ovr (by omega), ovr (by rw [hx.blen]; omega), ovr (by rw [hy.blen]; omega)]
      simp
  have hm := two_bnd hp hq hx.mb hy.mb hM
  rw [hm.2]
  refine ⟨_, rfl, ⟨i1, j1, fun v hv => ?_, ?_, fun v => ?_, hm.1, fun k => ?_⟩, hcf, rfl⟩
  · show s1.getD v 0 = col l s2 v l.length
    rw [hcf, hx.lin v hv, hy.lin v hv]
    unfold col
    rw [← sm_lin (fun k _ => ?_)]
    rw [hby k, Int.mul_add]
    simp only [Int.mul_left_comm]
  · show p * x.f_Row.f_Most + q * y.f_Row.f_Most = mst l s2 l.length
    rw [hx.most, hy.most]
    unfold mst
    rw [← sm_lin (fun k _ => ?_)]
    rw [hby k, Int.mul_add]
    simp only [Int.mul_left_comm]
  · show _ ≤ s1.getD v 0 ∧ s1.getD v 0 ≤ _
    rw [hcf]
    exact (two_bnd hp hq (hx.cb v) (hy.cb v) hC).1
  · show 0 ≤ s2.getD k 0 ∧ s2.getD k 0 ≤ _
    rw [hby]
    have a1 := Int.mul_nonneg hp.1 (hx.yb k).1
    have a2 := Int.mul_nonneg hq.1 (hy.yb k).1
    have := (two_bnd hp hq (yb hx k) (yb hy k) hY).1
    omega

/-- r is u and w with the j-th variable cancelled. -/
def comb (j : Nat) (u w r : line_row) : Prop :=
  (∀ v, cf r v = -(cf w j) * cf u v + cf u j * cf w v) ∧ r.f_Row.f_Most = -(cf w j) * u.f_Row.f_Most + cf u j * w.f_Row.f_Most

theorem rowG.up {l : List line_Row} {N : Nat} {C M Y C' M' Y' : Int} {x : line_row} (h : rowG l N C M Y x) (hC : C ≤ C') (hM : M ≤ M') (hY : Y ≤ Y') : rowG l N C' M' Y' x :=
  ⟨h.len, h.blen, h.lin, h.most, fun v => by have := h.cb v; omega, by have := h.mb; omega, fun k => by have := h.yb k; omega⟩

theorem dbl {C B : Int} (hC : 1 ≤ C) (hB : 0 ≤ B) : B ≤ 2 * C * B := by
  have := Int.mul_le_mul_of_nonneg_right (show 1 ≤ 2 * C by omega) hB
  omega

theorem without_spec {l : List line_Row} {N : Nat} {C M Y : Int} {R : List line_row} {j : Nat} (hR : ∀ r ∈ R, rowG l N C M Y r) (hz : ∀ r ∈ R, ∀ v, j < v → v < N → cf r v = 0) (hj : j < N)
    (hlen : R.length ≤ 4096) (hN : N ≤ 3) (hl : l.length ≤ 8) (hC1 : 1 ≤ C) (hM0 : 0 ≤ M) (hC : 2 * C * C ≤ 4611686018427387904) (hM : 2 * C * M ≤ 4611686018427387904) (hY : 2 * C * Y ≤ 4611686018427387904) (hY0 : 0 ≤ Y) :
    ∃ R', line_without R j = some R' ∧ (∀ r ∈ R', rowG l N (2 * C * C) (2 * C * M) (2 * C * Y) r) ∧ (∀ r ∈ R', ∀ v, j ≤ v → v < N → cf r v = 0) ∧
      (∀ r ∈ R, cf r j = 0 → r ∈ R') ∧ (∀ u ∈ R, 0 < cf u j → ∀ w ∈ R, cf w j < 0 → ∃ r ∈ R', comb j u w r) ∧ R'.length ≤ R.length * R.length := by
  have hidx : ∀ r ∈ R, idx r.f_Row.f_Coef (j : Int) = some (cf r j) := fun r hr => by
    unfold idx
    rw [if_pos (by omega), show ((j : Int)).toNat = j by omega]
    exact get_of (by rw [(hR r hr).len]; omega)
  let good (r : line_row) : Prop := rowG l N (2 * C * C) (2 * C * M) (2 * C * Y) r ∧ ∀ v, j ≤ v → v < N → cf r v = 0
  have hmul : ∀ k : Nat, k ≤ R.length → k * R.length ≤ 4096 * 4096 := fun k hk => Nat.mul_le_mul (by omega) hlen
  unfold line_without
  obtain ⟨R', e, i1, i2, i3, i4⟩ := forL_nx (body := line_without_b0 R (j : Int)) (fun k s => (∀ r ∈ s, good r) ∧ (∀ i r, i < k → R[i]? = some r → cf r j = 0 → r ∈ s) ∧
      (∀ i u, i < k → R[i]? = some u → 0 < cf u j → ∀ w ∈ R, cf w j < 0 → ∃ r ∈ s, comb j u w r) ∧ s.length ≤ k * R.length) R [] ⟨by simp, fun i r h => by omega, fun i u h => by omega, by simp⟩ (fun k x s hx ⟨i1, i2, i3, i4⟩ => by
    have hk : k < R.length := (List.getElem?_eq_some_iff.1 hx).1
    have hxm := List.mem_of_getElem? hx
    have hgx := hR x hxm
    have hkm := hmul k (by omega)
    have hk1 : (k + 1) * R.length = k * R.length + R.length := Nat.succ_mul _ _
    unfold line_without_b0
    rw [hidx x hxm]
    simp only [Option.bind_some]
    by_cases h0 : cf x j = 0
    · rw [show (cf x j == 0) = true by simp [h0]]
      simp only [cond_true]
      rw [chk_of (show s.length + 1 ≤ LIM by unfold LIM; omega)]
      simp only [Option.bind_some]
      refine ⟨_, rfl, fun r hr => ?_, fun i r hi hr hz0 => ?_, fun i u hi hu hpos w hw hneg => ?_, by simp; omega⟩
      · rcases List.mem_append.1 hr with hr | hr
        · exact i1 r hr
        · simp at hr; subst hr
          refine ⟨hgx.up (dbl hC1 (by omega)) (dbl hC1 hM0) (dbl hC1 hY0), fun v h1 h2 => ?_⟩
          by_cases e : v = j
          · subst e; exact h0
          · exact hz r hxm v (by omega) h2
      · by_cases e : i < k
        · exact List.mem_append.2 (.inl (i2 i r e hr hz0))
        · have : i = k := by omega
          subst this
          rw [hx] at hr; cases hr
          simp
      · by_cases e : i < k
        · obtain ⟨r, hr, hc⟩ := i3 i u e hu hpos w hw hneg
          exact ⟨r, List.mem_append.2 (.inl hr), hc⟩
        · have : i = k := by omega
          subst this
          rw [hx] at hu; cases hu
          omega
    · rw [show (cf x j == 0) = false by simp [h0]]
      simp only [cond_false]
      by_cases hp : cf x j > 0
      · rw [show decide (cf x j > 0) = true by simp [hp]]
        simp only [cond_true]
        obtain ⟨s', e, j1, j2, j3, j4⟩ := forL_nx (ρ := Ctl (List line_row) (List line_row)) (body := line_without_b3 (j : Int) x (cf x j)) (fun k2 s2 => (∀ r ∈ s2, good r) ∧ (∀ r ∈ s, r ∈ s2) ∧
          (∀ i w, i < k2 → R[i]? = some w → cf w j < 0 → ∃ r ∈ s2, comb j x w r) ∧ s2.length ≤ s.length + k2) R s ⟨i1, fun r h => h, fun i w h => by omega, by omega⟩ (fun k2 y s2 hy ⟨j1, j2, j3, j4⟩ => by
          have hk2 : k2 < R.length := (List.getElem?_eq_some_iff.1 hy).1
          have hym := List.mem_of_getElem? hy
          have hgy := hR y hym
          unfold line_without_b3
          rw [hidx y hym]
          simp only [Option.bind_some]
          by_cases hn : cf y j < 0
          · rw [show decide (cf y j < 0) = true by simp [hn]]
            simp only [cond_true]
            have by' := hgy.cb j
            have bx' := hgx.cb j
            have hCC : C ≤ 2 * C * C := dbl hC1 (by omega)
            rw [wrap64 (x := 0 - cf y j) (by omega) (by omega)]
            obtain ⟨r, er, g1, g2, g3⟩ := add_spec hgx hgy (p := 0 - cf y j) (q := cf x j) (by omega) (by omega) hN hl hC hM hY hY0
            rw [er]
            simp only [Option.bind_some]
            rw [chk_of (show s2.length + 1 ≤ LIM by unfold LIM; omega)]
            simp only [Option.bind_some]
            have hcomb : comb j x y r := ⟨fun v => by rw [g2 v, Int.zero_sub], by rw [g3, Int.zero_sub]⟩
            refine ⟨_, rfl, fun z hz' => ?_, fun z hz' => List.mem_append.2 (.inl (j2 z hz')), fun i w hi hw hneg => ?_, by simp; omega⟩
            · rcases List.mem_append.1 hz' with hz' | hz'
              · exact j1 z hz'
              · simp at hz'; subst hz'
                refine ⟨g1, fun v h1 h2 => ?_⟩
                rw [hcomb.1 v]
                by_cases e : v = j
                · subst e
                  rw [Int.neg_mul, Int.mul_comm (cf y v)]; omega
                · rw [hz x hxm v (by omega) h2, hz y hym v (by omega) h2]; simp
            · by_cases e : i < k2
              · obtain ⟨r', hr', hc⟩ := j3 i w e hw hneg
                exact ⟨r', List.mem_append.2 (.inl hr'), hc⟩
              · have : i = k2 := by omega
                subst this
                rw [hy] at hw; cases hw
                exact ⟨r, by simp, hcomb⟩
          · rw [show decide (cf y j < 0) = false by simp [hn]]
            simp only [cond_false]
            refine ⟨_, rfl, j1, j2, fun i w hi hw hneg => ?_, by omega⟩
            by_cases e : i < k2
            · exact j3 i w e hw hneg
            · have : i = k2 := by omega
              subst this
              rw [hy] at hw; cases hw
              exact absurd hneg hn)
        rw [e]
        refine ⟨s', rfl, j1, fun i r hi hr hz0 => ?_, fun i u hi hu hpos w hw hneg => ?_, by omega⟩
        · by_cases e : i < k
          · exact j2 r (i2 i r e hr hz0)
          · have : i = k := by omega
            subst this
            rw [hx] at hr; cases hr
            exact absurd hz0 h0
        · by_cases e : i < k
          · obtain ⟨r, hr, hc⟩ := i3 i u e hu hpos w hw hneg
            exact ⟨r, j2 r hr, hc⟩
          · have : i = k := by omega
            subst this
            rw [hx] at hu; cases hu
            obtain ⟨i', hi', rfl⟩ := List.mem_iff_getElem.1 hw
            exact j3 i' _ hi' (List.getElem?_eq_getElem hi') hneg
      · rw [show decide (cf x j > 0) = false by simp; omega]
        simp only [cond_false]
        refine ⟨s, rfl, i1, fun i r hi hr hz0 => ?_, fun i u hi hu hpos w hw hneg => ?_, by omega⟩
        · by_cases e : i < k
          · exact i2 i r e hr hz0
          · have : i = k := by omega
            subst this
            rw [hx] at hr; cases hr
            exact absurd hz0 h0
        · by_cases e : i < k
          · exact i3 i u e hu hpos w hw hneg
          · have : i = k := by omega
            subst this
            rw [hx] at hu; cases hu
            exact absurd hpos hp)
  rw [e]
  refine ⟨R', rfl, fun r hr => (i1 r hr).1, fun r hr => (i1 r hr).2, fun r hr h0 => ?_, fun u hu hpos => ?_, i4⟩
  · obtain ⟨i, hi, rfl⟩ := List.mem_iff_getElem.1 hr
    exact i2 i _ hi (List.getElem?_eq_getElem hi) h0
  · obtain ⟨i, hi, rfl⟩ := List.mem_iff_getElem.1 hu
    exact i3 i _ hi (List.getElem?_eq_getElem hi) hpos
end Go.Proofs.Ytfhddbnacbcppaa
