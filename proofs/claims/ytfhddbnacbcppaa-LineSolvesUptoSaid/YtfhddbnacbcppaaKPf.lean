/- Plain laws: Solve, and the law LineSolves. -/
import Derived.Test.YtfhddbnacbcppaaKPe
set_option linter.unusedVariables false
set_option linter.unnecessarySimpa false
set_option linter.unusedSimpArgs false
namespace Go.Proofs.Ytfhddbnacbcppaa
open Go.PG

set_option maxRecDepth 100000 in
theorem lined_big : mootlaw3_lined 9223372036854775808 = some true := by decide +kernel

/- Bounds behind t variables left out: of coefficients, limits, weights; the number of rows. -/
def Cb : Nat → Int
  | 0 => 9
  | t + 1 => 2 * Cb t * Cb t
def Mb : Nat → Int
  | 0 => 99
  | t + 1 => 2 * Cb t * Mb t
def Yb : Nat → Int
  | 0 => 1
  | t + 1 => 2 * Cb t * Yb t
def Lb : Nat → Nat
  | 0 => 8
  | t + 1 => Lb t * Lb t
/-- Bounds of the point's denominator and numerators. -/
def Db (N : Nat) : Nat → Int
  | 0 => 1
  | k + 1 => Cb (N - (k + 1)) * Db N k
def Xb (N : Nat) : Nat → Int
  | 0 => 0
  | k + 1 => Mb (N - (k + 1)) * Db N k + k * (Cb (N - (k + 1)) * Xb N k)

theorem nums : ∀ N, N < 4 → ∀ k, k < N → (∀ v, v < k + 1 → Eb (Cb (N - (k + 1))) (Mb (N - (k + 1))) (Db N k) (Xb N k) v ≤ 4611686018427387904 ∧ (Db N k) ^ v * Cb (N - (k + 1)) ≤ 4611686018427387904) ∧
    Mb (N - (k + 1)) * Db N k + k * (Cb (N - (k + 1)) * Xb N k) < 4294967296 ∧ Cb (N - (k + 1)) * Db N k < 4294967296 ∧ Lb (N - (k + 1)) ≤ 4096 ∧ Xb N k * Cb (N - (k + 1)) ≤ Xb N (k + 1) ∧ 0 ≤ Xb N k := by decide +kernel
theorem nums2 : ∀ t, t < 4 → 1 ≤ Cb t ∧ 0 ≤ Mb t ∧ 0 ≤ Yb t ∧ Yb t ≤ 1125899906842624 ∧ (t < 3 → 2 * Cb t * Cb t ≤ 4611686018427387904 ∧ 2 * Cb t * Mb t ≤ 4611686018427387904 ∧ 2 * Cb t * Yb t ≤ 4611686018427387904 ∧ Lb t ≤ 4096) := by decide +kernel
theorem nums3 : ∀ N, N < 4 → 0 < N → Db N N < 4294967296 ∧ Xb N N < 4294967296 := by decide +kernel

theorem sm_unit (f g : Nat → Int) (k m : Nat) (h1 : g k = 1) (h0 : ∀ i, i ≠ k → g i = 0) : sm (fun i => f i * g i) m = if k < m then f k else 0 := by
  induction m with
  | zero => rfl
  | succ m ih =>
    simp only [sm]
    rw [ih]
    by_cases e : k = m
    · subst e
      rw [if_neg (by omega), if_pos (by omega), h1]; omega
    · rw [h0 m (fun h => e h.symm)]
      by_cases h : k < m
      · rw [if_pos h, if_pos (by omega)]; omega
      · rw [if_neg h, if_neg (by omega)]; omega

/-- The rows at the start. -/
theorem start_spec {l : List line_Row} {n : Int} {N : Nat} (hn : n = N) (hl : ∀ r ∈ l, rowOk n r) (h8 : l.length ≤ 8) :
    ∃ R, forL (ρ := line_Point × List Int × Bool × Int) (line_Solve_b0 l) 0 l [] = some (.inl R) ∧ R.length = l.length ∧ (∀ r ∈ R, rowG l N 9 99 1 r) ∧
      ∀ r0 ∈ l, ∃ r ∈ R, r.f_Row = r0 := by
  obtain ⟨R, e, i1, i2, i3⟩ := forL_nx (ρ := line_Point × List Int × Bool × Int) (body := line_Solve_b0 l) (fun k s => s.length = k ∧ (∀ r ∈ s, rowG l N 9 99 1 r) ∧ ∀ i r0, i < k → l[i]? = some r0 → ∃ r ∈ s, r.f_Row = r0) l []
    ⟨rfl, by simp, fun i r h => by omega⟩ (fun k x s hx ⟨i1, i2, i3⟩ => by
      have hk : k < l.length := (List.getElem?_eq_some_iff.1 hx).1
      have hok := hl x (List.mem_of_getElem? hx)
      unfold line_Solve_b0
      rw [chk_of (show 0 ≤ (l.length : Int) ∧ (l.length : Int) ≤ (LIM : Int) by unfold LIM; omega)]
      simp only [Option.bind_some]
      rw [get_of (l := List.replicate l.length (0 : Int)) (k := k) (by simp; omega)]
      simp only [Option.bind_some, slices_Clone_int]
      rw [chk_of (show s.length + 1 ≤ LIM by unfold LIM; omega)]
      simp only [Option.bind_some]
      have hget : ∀ v, ((List.replicate l.length (0 : Int)).set k 1).getD v 0 = if v = k then 1 else 0 := fun v => by
        have := List.length_replicate (n := l.length) (a := (0 : Int))
        simp only [List.getD, List.getElem?_set, List.getElem?_replicate]
        by_cases e : k = v
        · subst e; simp [hk]
        · have e' : ¬ v = k := fun h => e h.symm
          simp only [e, e', if_false]
          split <;> rfl
      have hrd := lgetD_of (d := default) hx
      refine ⟨_, rfl, by simp [i1], fun r hr => ?_, fun i r0 hi hr0 => ?_⟩
      · rcases List.mem_append.1 hr with hr | hr
        · exact i2 r hr
        · simp at hr; subst hr
          refine ⟨by have := hok.1; show x.f_Coef.length = N; omega, by simp, fun v hv => ?_, ?_, fun v => ?_, ⟨hok.2.2.1, hok.2.2.2⟩, fun i => ?_⟩
          · show x.f_Coef.getD v 0 = col l ((List.replicate l.length (0 : Int)).set k 1) v l.length
            unfold col
            rw [sm_unit _ (fun i => ((List.replicate l.length (0 : Int)).set k 1).getD i 0) k l.length (by show List.getD _ k 0 = 1; rw [hget]; simp) (fun i hi => by show List.getD _ i 0 = 0; rw [hget]; simp [hi]), if_pos hk, hrd]
          · show x.f_Most = mst l ((List.replicate l.length (0 : Int)).set k 1) l.length
            unfold mst
            rw [sm_unit _ (fun i => ((List.replicate l.length (0 : Int)).set k 1).getD i 0) k l.length (by show List.getD _ k 0 = 1; rw [hget]; simp) (fun i hi => by show List.getD _ i 0 = 0; rw [hget]; simp [hi]), if_pos hk, hrd]
          · exact getD_bnd (by decide) (by decide) hok.2.1 v
          · show 0 ≤ ((List.replicate l.length (0 : Int)).set k 1).getD i 0 ∧ ((List.replicate l.length (0 : Int)).set k 1).getD i 0 ≤ 1
            rw [hget]
            split <;> omega
      · by_cases e : i < k
        · obtain ⟨r, hr, h⟩ := i3 i r0 e hr0
          exact ⟨r, List.mem_append.2 (.inl hr), h⟩
        · have : i = k := by omega
          subst this
          rw [hx] at hr0; cases hr0
          exact ⟨_, List.mem_append.2 (.inr (by simp; rfl)), rfl⟩)
  refine ⟨R, e, i1, i2, fun r0 hr0 => ?_⟩
  obtain ⟨i, hi, rfl⟩ := List.mem_iff_getElem.1 hr0
  exact i3 i _ hi (List.getElem?_eq_getElem hi)

/-- The rows of i variables. -/
def lev (l : List line_Row) (N i : Nat) (R : List line_row) : Prop :=
  R.length ≤ Lb (N - i) ∧ ∀ r ∈ R, rowG l N (Cb (N - i)) (Mb (N - i)) (Yb (N - i)) r ∧ ∀ v, i ≤ v → v < N → cf r v = 0

/-- R' is R without the i-th variable. -/
def stepR (i : Nat) (R' R : List line_row) : Prop :=
  (∀ r ∈ R, cf r i = 0 → r ∈ R') ∧ ∀ u ∈ R, 0 < cf u i → ∀ w ∈ R, cf w i < 0 → ∃ r ∈ R', comb i u w r

/-- All levels from i on are there. -/
structure levs (l : List line_Row) (N i : Nat) (R0 : List line_row) (S : List (List line_row)) : Prop where
  len : S.length = N + 1
  top : S[N]? = some R0
  all : ∀ j, i ≤ j → j ≤ N → lev l N j (S.getD j [])
  step : ∀ j, i ≤ j → j < N → stepR j (S.getD j []) (S.getD (j + 1) [])

theorem sgetD_set (S : List (List line_row)) (k v : Nat) (x : List line_row) (h : k < S.length) : (S.set k x).getD v [] = if v = k then x else S.getD v [] := by
  simp only [List.getD, List.getElem?_set]
  by_cases e : k = v
  · subst e; simp [h]
  · have e' : ¬ v = k := fun q => e q.symm
    simp [e, e']

theorem levels_spec {l : List line_Row} {N fu : Nat} {R0 : List line_row} (h8 : l.length ≤ 8) (hN : N ≤ 3) (hN1 : 1 ≤ N) : ∀ (i k : Nat) (S : List (List line_row)), i < k → i ≤ N → levs l N i R0 S →
    ∃ S', whL (ρ := line_Point × List Int × Bool × Int) line_Solve_b2 k (((i : Int) - 1), S) = some (.inl (-1, S')) ∧ levs l N 0 R0 S'
  | 0, k, S, hk, _, h => by
    obtain ⟨k, rfl⟩ : ∃ k', k = k' + 1 := ⟨k - 1, by omega⟩
    exact ⟨S, whL_bk rfl, h⟩
  | i + 1, k, S, hk, hi, h => by
    obtain ⟨k, rfl⟩ : ∃ k', k = k' + 1 := ⟨k - 1, by omega⟩
    have hlev := h.all (i + 1) (by omega) hi
    have hget : S[i + 1]? = some (S.getD (i + 1) []) := by
      have := h.len
      rw [List.getD, List.getElem?_eq_getElem (by omega)]; rfl
    obtain ⟨t, ht⟩ : ∃ t, N - (i + 1) = t := ⟨_, rfl⟩
    have ht1 : N - i = t + 1 := by omega
    obtain ⟨n1, n2, n3, _, n4⟩ := nums2 t (by omega)
    obtain ⟨n5, n6, n7, n8⟩ := n4 (by omega)
    unfold lev at hlev
    rw [ht] at hlev
    obtain ⟨R', e, g1, g2, g3, g4, g5⟩ := without_spec (l := l) (N := N) (C := Cb t) (M := Mb t) (Y := Yb t) (R := S.getD (i + 1) []) (j := i) (fun r hr => (hlev.2 r hr).1) (fun r hr v h1 h2 => (hlev.2 r hr).2 v (by omega) h2) (by omega)
      (by omega) hN h8 n1 n2 n5 n6 n7 n3
    have hbody : line_Solve_b2 ((((i + 1 : Nat) : Int) - 1), S) = some (.nx (((i : Int) - 1), S.set i R') : Ctl (Int × List (List line_row)) (line_Point × List Int × Bool × Int)) := by
      unfold line_Solve_b2
      have e1 : ((i + 1 : Nat) : Int) - 1 = i := by omega
      rw [e1]
      simp only
      rw [show decide ((i : Int) ≥ 0) = true from decide_eq_true (by omega)]
      simp only [cond_true]
      rw [wrap64 (x := (i : Int) + 1) (by omega) (by omega), wrap64 (x := (i : Int) - 1) (by omega) (by omega)]
      unfold idx
      rw [if_pos (by omega), if_pos (by omega), show ((i : Int) + 1).toNat = i + 1 by omega, hget]
      simp only [Option.bind_some]
      rw [e]
      simp only [Option.bind_some]
      rw [show ((i : Int)).toNat = i by omega, List.getElem?_eq_getElem (show i < S.length by have := h.len; omega)]
      rfl
    rw [whL_nx hbody]
    have hsz := h.len
    refine levels_spec (fu := fu) h8 hN hN1 i k (S.set i R') (by omega) (by omega) ⟨by simp [h.len], ?_, fun j h1 h2 => ?_, fun j h1 h2 => ?_⟩
    · rw [List.getElem?_set_ne (by omega)]; exact h.top
    · rw [sgetD_set _ _ _ _ (by omega)]
      by_cases e : j = i
      · subst e
        rw [if_pos rfl]
        unfold lev
        rw [ht1]
        refine ⟨Nat.le_trans g5 (Nat.mul_le_mul hlev.1 hlev.1), fun r hr => ⟨g1 r hr, fun v h1 h2 => g2 r hr v h1 h2⟩⟩
      · rw [if_neg e]
        exact h.all j (by omega) h2
    · rw [sgetD_set _ _ _ _ (by omega), sgetD_set _ _ _ _ (by omega)]
      by_cases e : j = i
      · subst e
        rw [if_pos rfl, if_neg (by omega)]
        exact ⟨g3, g4⟩
      · rw [if_neg e, if_neg (by omega)]
        exact h.step j (by omega) h2

/-- The point so far, and that all rows of k variables hold there. -/
def ptOk (N k : Nat) (S : List (List line_row)) (p : List line_frac) : Prop :=
  p.length = k ∧ ∃ D X, ptG (Db N k) (Xb N k) D X p ∧ ∀ r ∈ S.getD k [], 0 ≤ rest D X k r

theorem point_spec {l : List line_Row} {N fu : Nat} {R0 : List line_row} {S : List (List line_row)} {j0 : Int} (hN : N ≤ 3) (hS : levs l N 0 R0 S) (h0 : ∀ r ∈ S.getD 0 [], 0 ≤ r.f_Row.f_Most) (hf : 4611686018427387904 < fu) :
    ∃ p, forN (ρ := line_Point × List Int × Bool × Int) (line_Solve_b6 fu (j0, S)) 0 N [] = some (.inl p) ∧ ptOk N N S p := by
  refine forN_nx (ρ := line_Point × List Int × Bool × Int) (body := line_Solve_b6 fu (j0, S)) (fun k p => ptOk N k S p) N [] ⟨rfl, 1, fun _ => 0, ⟨by decide, by show (1 : Int) ≤ 1; omega, fun v hv => by simp at hv, fun v f hv => by simp at hv⟩, fun r hr => ?_⟩ (fun k p hk hp => ?_)
  · have := h0 r hr
    simp [rest, sm]; omega
  · obtain ⟨hlen, D, X, hG, hrows⟩ := hp
    subst hlen
    obtain ⟨a1, a2, a3, a4, a5, a6⟩ := nums N (by omega) p.length hk
    obtain ⟨b1, b2, b3, _, _⟩ := nums2 (N - (p.length + 1)) (by omega)
    obtain ⟨q1, q2⟩ := hS.all (p.length + 1) (by omega) (by omega)
    obtain ⟨s1, s2⟩ := hS.step p.length (by omega) hk
    have hget : S[p.length + 1]? = some (S.getD (p.length + 1) []) := by
      have := hS.len
      rw [List.getD, List.getElem?_eq_getElem (by omega)]; rfl
    obtain ⟨f, c, z, e, hfok, c0, c1, hz, heq, hall⟩ := choose_spec (fu := fu) (R := S.getD (p.length + 1) []) hG (fun r hr => (q2 r hr).1) hk b1 b2 a6 (fun v hv => (a1 v (by omega)).1) (fun v hv => (a1 v (by omega)).2) a2 a3 hf (by omega)
      (fun r hr h => hrows r (s1 r hr h)) (fun u hu hpos w hw hneg => by
        obtain ⟨r, hr, hc1, hc2⟩ := s2 u hu hpos w hw hneg
        have := hrows r hr
        unfold rest at this ⊢
        rw [hc2, sm_lin (g := fun v => cf u v * X v) (h := fun v => cf w v * X v) (p := -(cf w p.length)) (q := cf u p.length) (fun v _ => by rw [hc1 v, Int.add_mul, Int.mul_assoc, Int.mul_assoc])] at this
        rw [Int.add_mul] at this
        rw [Int.mul_sub, Int.mul_sub]
        have f1 := Int.mul_assoc (-(cf w p.length)) u.f_Row.f_Most D
        have f2 := Int.mul_assoc (cf u p.length) w.f_Row.f_Most D
        omega)
    refine ⟨p ++ [f], ?_, by simp, D * c, fun v => if v = p.length then z else X v * c, ⟨Int.mul_pos hG.d0 c0, ?_, fun v hv => ?_, fun v g hg => ?_⟩, fun r hr => ?_⟩
    · unfold line_Solve_b6
      rw [wrap64 (x := (p.length : Int) + 1) (by omega) (by omega)]
      unfold idx
      rw [if_pos (by omega), show ((p.length : Int) + 1).toNat = p.length + 1 by omega, hget]
      simp only [Option.bind_some]
      rw [e]
      simp only [Option.bind_some]
      rw [chk_of (show p.length + 1 ≤ LIM by unfold LIM; omega)]
      rfl
    · show D * c ≤ Cb (N - (p.length + 1)) * Db N p.length
      rw [Int.mul_comm]
      exact Int.mul_le_mul c1 hG.dB (by have := hG.d0; omega) (by omega)
    · by_cases e : v = p.length
      · simp only [e, if_true]
        exact hz
      · simp only [e, if_false]
        have hx := hG.xB v (by simp at hv; omega)
        have := mul_bnd hx.1 hx.2 (show -(Cb (N - (p.length + 1))) ≤ c by omega) c1
        omega
    · rw [List.getElem?_append] at hg
      by_cases e : v < p.length
      · rw [if_pos e] at hg
        obtain ⟨g1, g2⟩ := hG.fr v g hg
        have e' : ¬ v = p.length := by omega
        simp only [e', if_false]
        refine ⟨g1, ?_⟩
        rw [← Int.mul_assoc, g2]; simp only [Int.mul_comm, Int.mul_left_comm]
      · rw [if_neg e] at hg
        have e' : v = p.length := by have := (List.getElem?_eq_some_iff.1 hg).1; simp at this; omega
        subst e'
        simp at hg
        subst hg
        simp only [if_true]
        exact ⟨hfok, heq⟩
    · have := hall r hr
      unfold rest at this ⊢
      simp only [sm, if_true]
      rw [sm_lin (g := fun v => cf r v * X v) (h := fun _ => 0) (p := c) (q := 0) (fun v hv => by
        have e' : ¬ v = p.length := by omega
        simp only [e', if_false]
        rw [Int.zero_mul, Int.add_zero, ← Int.mul_assoc, Int.mul_comm])]
      rw [Int.mul_sub] at this
      have f1 : r.f_Row.f_Most * (D * c) = c * (r.f_Row.f_Most * D) := by simp only [Int.mul_comm, Int.mul_left_comm]
      omega

theorem lcm_step {s d g s' d' D a b : Int} (hg : 0 < g) (e1 : s = g * s') (e2 : d = g * d') (hc : Int.gcd s' d' = 1) (h1 : D = s * a) (h2 : D = d * b) : s' * d ∣ D := by
  have h3 : s' * a = d' * b := by
    have : g * (s' * a) = g * (d' * b) := by rw [← Int.mul_assoc, ← Int.mul_assoc, ← e1, ← e2, ← h1, ← h2]
    exact Int.eq_of_mul_eq_mul_left (by omega) this
  obtain ⟨c, hcc⟩ := dvd_cop (k := d') (n := s') (m := a) ⟨b, h3⟩ hc
  refine ⟨c, ?_⟩
  rw [h1, e1, hcc, e2]
  simp only [Int.mul_comm, Int.mul_left_comm]

/-- The common denominator. -/
theorem den_spec {p : List line_frac} {fu : Nat} {DB XB D : Int} {X : Nat → Int} (hp : ptG DB XB D X p) (hDB : DB < 4294967296) (hf : 4611686018427387904 < fu) :
    ∃ s, forL (ρ := line_Point × List Int × Bool × Int) (line_Solve_b8 fu) 0 p 1 = some (.inl s) ∧ 0 < s ∧ s ∣ D ∧ ∀ f ∈ p, f.f_d ∣ s := by
  have hD0 := hp.d0
  have hdB := hp.dB
  obtain ⟨s, e, i1, i2, i3⟩ := forL_nx (ρ := line_Point × List Int × Bool × Int) (body := line_Solve_b8 fu) (fun k s => 0 < s ∧ s ∣ D ∧ ∀ i f, i < k → p[i]? = some f → f.f_d ∣ s) p 1 ⟨by decide, ⟨D, by omega⟩, fun i f h => by omega⟩ (fun k f s hf' ⟨i1, i2, i3⟩ => by
    obtain ⟨⟨d0, d1⟩, _⟩ := hp.small hf'
    obtain ⟨g1, g2⟩ := hp.fr k f hf'
    obtain ⟨b, b0, hb, _⟩ := fr_bnd hD0 g1 g2
    have hs1 := Int.le_of_dvd hD0 i2
    obtain ⟨a, ha⟩ := i2
    unfold line_Solve_b8
    rw [common_spec (by omega) (by omega) (by omega)]
    simp only [Option.bind_some]
    have hgp : 0 < Int.gcd s f.f_d := Int.gcd_pos_of_ne_zero_right s (by omega)
    rw [chk_of (show ¬ ((Int.gcd s f.f_d : Nat) : Int) = 0 by omega)]
    simp only [Option.bind_some]
    obtain ⟨s', hs'⟩ := Int.gcd_dvd_left s f.f_d
    obtain ⟨d', hd'⟩ := Int.gcd_dvd_right s f.f_d
    have q1 : s / ((Int.gcd s f.f_d : Nat) : Int) = s' := by
      conv => lhs; lhs; rw [hs']
      exact Int.mul_ediv_cancel_left _ (by omega)
    have q2 : f.f_d / ((Int.gcd s f.f_d : Nat) : Int) = d' := by
      conv => lhs; lhs; rw [hd']
      exact Int.mul_ediv_cancel_left _ (by omega)
    have hcop := Int.gcd_ediv_gcd_ediv_gcd (i := s) (j := f.f_d) hgp
    rw [q1, q2] at hcop
    have e1 : s.tdiv ((Int.gcd s f.f_d : Nat) : Int) = s' := by rw [tdiv_of_dvd ⟨s', hs'⟩, q1]
    rw [e1]
    have hdvd := lcm_step (g := ((Int.gcd s f.f_d : Nat) : Int)) (by omega) hs' hd' hcop ha hb
    have hs'b := le_mul_pos (a := s') (e := ((Int.gcd s f.f_d : Nat) : Int)) (B := s) (by omega) (by rw [Int.mul_comm, ← hs']; omega)
    have hs'0 : 0 < s' := by
      rcases Int.lt_or_le 0 s' with h | h
      · exact h
      · have := Int.mul_nonpos_of_nonneg_of_nonpos (show (0 : Int) ≤ ((Int.gcd s f.f_d : Nat) : Int) by omega) h
        omega
    have hpos := Int.mul_pos hs'0 d0
    have hle := Int.le_of_dvd hD0 hdvd
    rw [wrap64 (x := s') (by omega) (by omega), wrap64 (by omega) (by omega)]
    refine ⟨_, rfl, hpos, hdvd, fun i g hi hg => ?_⟩
    by_cases e : i < k
    · obtain ⟨x, hx⟩ := i3 i g e hg
      have hsd : s ∣ s' * f.f_d := ⟨d', by
        have h1 : s * d' = ((Int.gcd s f.f_d : Nat) : Int) * s' * d' := by rw [← hs']
        have h2 : s' * f.f_d = s' * (((Int.gcd s f.f_d : Nat) : Int) * d') := by rw [← hd']
        rw [h1, h2]; simp only [Int.mul_comm, Int.mul_left_comm]⟩
      exact Int.dvd_trans ⟨x, hx⟩ hsd
    · have : i = k := by omega
      subst this
      rw [hf'] at hg; cases hg
      exact ⟨s', Int.mul_comm ..⟩)
  rw [e]
  refine ⟨s, rfl, i1, i2, fun f hf => ?_⟩
  obtain ⟨i, hi, rfl⟩ := List.mem_iff_getElem.1 hf
  exact i3 i _ hi (List.getElem?_eq_getElem hi)

/-- The numerators. -/
theorem num_spec {p : List line_frac} {DB XB D s e : Int} {X : Nat → Int} (hp : ptG DB XB D X p) (hXB : XB < 4294967296) (hDB : DB < 4294967296) (hs : 0 < s) (hD : D = s * e) (hd : ∀ f ∈ p, f.f_d ∣ s) (h3 : p.length ≤ 3) :
    ∃ x, forL (ρ := line_Point × List Int × Bool × Int) (line_Solve_b10 s) 0 p [] = some (.inl x) ∧ x.length = p.length ∧ ∀ k, k < p.length → x.getD k 0 * e = X k := by
  have hD0 := hp.d0
  have hdB := hp.dB
  have he0 : 0 < e := by
    rcases Int.lt_or_le 0 e with h | h
    · exact h
    · have := Int.mul_nonpos_of_nonneg_of_nonpos (show 0 ≤ s by omega) h
      omega
  obtain ⟨x, ee, i1, i2⟩ := forL_nx (ρ := line_Point × List Int × Bool × Int) (body := line_Solve_b10 s) (fun k x => x.length = k ∧ ∀ i, i < k → x.getD i 0 * e = X i) p [] ⟨rfl, fun i h => by omega⟩ (fun k f x hf ⟨i1, i2⟩ => by
    have hk : k < p.length := (List.getElem?_eq_some_iff.1 hf).1
    obtain ⟨⟨d0, d1⟩, _⟩ := hp.small hf
    obtain ⟨g1, g2⟩ := hp.fr k f hf
    have hx := hp.xB k hk
    obtain ⟨q, hq⟩ := hd f (List.mem_of_getElem? hf)
    have e1 : s.tdiv f.f_d = q := by
      rw [tdiv_of_dvd ⟨q, hq⟩]
      conv => lhs; lhs; rw [hq]
      exact Int.mul_ediv_cancel_left _ (by omega)
    have hnq : f.f_n * q * e = X k := by
      have : f.f_d * (f.f_n * q * e) = f.f_d * X k := by
        rw [Int.mul_comm f.f_d (X k), ← g2, hD, hq]; simp only [Int.mul_comm, Int.mul_left_comm]
      exact Int.eq_of_mul_eq_mul_left (by omega) this
    have b1 := le_mul_pos he0 (B := XB) (a := f.f_n * q) (by rw [hnq]; exact hx)
    have hsD : s ≤ D := Int.le_of_dvd hD0 ⟨e, hD⟩
    have b2 := le_mul_pos (a := q) (e := f.f_d) (B := s) d0 (by rw [Int.mul_comm, ← hq]; omega)
    unfold line_Solve_b10
    rw [chk_of (show ¬ f.f_d = 0 by omega)]
    simp only [Option.bind_some]
    rw [chk_of (show x.length + 1 ≤ LIM by unfold LIM; omega)]
    simp only [Option.bind_some]
    rw [e1, wrap64 (x := q) (by omega) (by omega), wrap64 (x := f.f_n * q) (by omega) (by omega)]
    refine ⟨_, rfl, by simp [i1], fun i hi => ?_⟩
    rw [getD_snoc, i1]
    by_cases h : i < k
    · rw [if_pos h, i2 i h]
    · have : i = k := by omega
      subst this
      rw [if_neg h, if_pos rfl, hnq])
  exact ⟨x, ee, i1, i2⟩

theorem mem_getD {l : List Int} {x : Int} (h : x ∈ l) : ∃ k, k < l.length ∧ l.getD k 0 = x := by
  obtain ⟨i, hi, rfl⟩ := List.mem_iff_getElem.1 h
  exact ⟨i, hi, by simp [List.getD, hi]⟩

/-- What Solve comes to. -/
theorem solve_spec {l : List line_Row} {n : Int} {fu : Nat} (hf : 4611686018427387904 < fu) (hc : line_Check l n = some 0) :
    (∃ b, line_Solve fu l n = some (⟨[], 0⟩, b, false, 0) ∧ disproved l n b) ∨ ∃ p, line_Solve fu l n = some (p, [], true, 0) ∧ solved l n p := by
  obtain ⟨c, hc', hc0⟩ := check_spec l n
  rw [hc] at hc'; cases hc'
  obtain ⟨c1, c2, c3, c4⟩ := hc0 rfl
  obtain ⟨N, hN⟩ : ∃ N : Nat, n = N := ⟨n.toNat, by omega⟩
  subst hN
  obtain ⟨R0, e0, a1, a2, a3⟩ := start_spec (N := N) rfl c4 c3
  unfold line_Solve
  rw [hc]
  simp only [Option.bind_some, bne_self_eq_false, cond_false]
  rw [e0]
  simp only [Option.bind_some, Sum.elim_inl]
  rw [wrap64 (x := (N : Int) + 1) (by omega) (by omega), wrap64 (x := (N : Int) - 1) (by omega) (by omega)]
  rw [chk_of (show 0 ≤ (N : Int) + 1 ∧ (N : Int) + 1 ≤ (LIM : Int) by unfold LIM; omega)]
  simp only [Option.bind_some]
  have hN1 : ((N : Int) + 1).toNat = N + 1 := by omega
  have hN2 : ((N : Int)).toNat = N := by omega
  rw [hN1]
  have hix : idx (List.replicate (N + 1) ([] : List line_row)) (N : Int) = some [] := by
    unfold idx
    rw [if_pos (by omega), hN2, List.getElem?_replicate, if_pos (by omega)]
  rw [hix]
  simp only [Option.bind_some]
  have hl0 : levs l N N R0 ((List.replicate (N + 1) ([] : List line_row)).set N R0) := by
    refine ⟨by simp, by rw [List.getElem?_set_self (by simp)], fun j h1 h2 => ?_, fun j h1 h2 => by omega⟩
    have : j = N := by omega
    subst this
    rw [sgetD_set _ _ _ _ (by simp), if_pos rfl]
    unfold lev
    rw [Nat.sub_self]
    exact ⟨by show R0.length ≤ 8; omega, fun r hr => ⟨a2 r hr, fun v h1 h2 => by omega⟩⟩
  obtain ⟨S, e1, hS⟩ := levels_spec (fu := fu) (R0 := R0) c3 (by omega) (by omega) N fu _ (by omega) (Nat.le_refl _) hl0
  rw [hN2, e1]
  simp only [Option.bind_some, Sum.elim_inl]
  have hS0 : idx S 0 = some (S.getD 0 []) := by
    unfold idx
    have := hS.len
    rw [if_pos (by decide), show (0 : Int).toNat = 0 from rfl, List.getD, List.getElem?_eq_getElem (by omega)]; rfl
  rw [hS0]
  simp only [Option.bind_some]
  obtain ⟨q1, q2⟩ := hS.all 0 (by omega) (by omega)
  obtain ⟨m1, m2, m3, m4, _⟩ := nums2 (N - 0) (by omega)
  rcases forL_inv (body := line_Solve_b4) (fun k _ => ∀ i r, i < k → (S.getD 0 [])[i]? = some r → 0 ≤ r.f_Row.f_Most) (fun _ => False) (fun q => ∃ r ∈ S.getD 0 [], r.f_Row.f_Most < 0 ∧ q = (⟨[], 0⟩, r.f_by, false, 0)) (S.getD 0 []) 0 () (fun i r h => by omega)
    (fun k r s hr hI => by
      rw [Nat.zero_add] at hI ⊢
      unfold line_Solve_b4
      by_cases hneg : r.f_Row.f_Most < 0
      · rw [show decide (r.f_Row.f_Most < 0) = true by simp [hneg]]
        exact .inr (.inr ⟨_, rfl, r, List.mem_of_getElem? hr, hneg, rfl⟩)
      · rw [show decide (r.f_Row.f_Most < 0) = false by simp; omega]
        refine .inl ⟨(), rfl, fun i r' hi hr' => ?_⟩
        by_cases e : i < k
        · exact hI i r' e hr'
        · have : i = k := by omega
          subst this
          rw [hr] at hr'; cases hr'; omega) with ⟨s', e2, h | h⟩ | ⟨q, e2, r, hr, hneg, rfl⟩
  · rw [e2]
    simp only [Option.bind_some, Sum.elim_inl]
    rw [chk_of (show (N : Int) ≤ (LIM : Int) by unfold LIM; omega)]
    simp only [Option.bind_some]
    obtain ⟨p, e3, hlen, D, X, hG, hrows⟩ := point_spec (fu := fu) (j0 := -1) (by omega) hS (fun r hr => by
      obtain ⟨i, hi, rfl⟩ := List.mem_iff_getElem.1 hr
      exact h i _ (by omega) (List.getElem?_eq_getElem hi)) hf
    rw [e3]
    simp only [Option.bind_some, Sum.elim_inl]
    obtain ⟨u1, u2⟩ := nums3 N (by omega) (by omega)
    obtain ⟨s, e4, s0, ⟨e, hse⟩, sd⟩ := den_spec (fu := fu) hG u1 hf
    rw [e4]
    simp only [Option.bind_some, Sum.elim_inl]
    obtain ⟨x, e5, x1, x2⟩ := num_spec hG u2 u1 s0 hse sd (by omega)
    rw [e5]
    simp only [Option.bind_some, Sum.elim_inl]
    have hD0 := hG.d0
    have hdB := hG.dB
    have he0 : 0 < e := by
      rcases Int.lt_or_le 0 e with h | h
      · exact h
      · have := Int.mul_nonpos_of_nonneg_of_nonpos (show 0 ≤ s by omega) h
        omega
    have hsD : s ≤ D := Int.le_of_dvd hD0 ⟨e, hse⟩
    refine .inr ⟨_, rfl, by show (x.length : Int) = N; omega, by show 1 ≤ s; omega, by show s ≤ _; omega, fun a ha => ?_, fun r0 hr0 => ?_⟩
    · have ha' : a ∈ x := ha
      obtain ⟨k, hk, rfl⟩ := mem_getD ha'
      have hxb := hG.xB k (by omega)
      have := le_mul_pos he0 (B := Xb N N) (a := x.getD k 0) (by rw [x2 k (by omega)]; exact hxb)
      omega
    · obtain ⟨r, hr, rfl⟩ := a3 r0 hr0
      have hSN : S.getD N [] = R0 := by rw [List.getD, hS.top]; rfl
      rw [hSN] at hrows
      have h1 := hrows r hr
      unfold rest at h1
      rw [hN2]
      show lhs r.f_Row.f_Coef x N ≤ r.f_Row.f_Most * s
      have h2 : sm (fun v => cf r v * X v) N = e * lhs r.f_Row.f_Coef x N := by
        have := sm_lin (f := fun v => cf r v * X v) (g := fun v => r.f_Row.f_Coef.getD v 0 * x.getD v 0) (h := fun _ => 0) (p := e) (q := 0) (n := N) (fun v hv => by
          rw [← x2 v (by omega), Int.zero_mul, Int.add_zero]
          unfold cf
          generalize r.f_Row.f_Coef.getD v 0 = a
          generalize x.getD v 0 = b
          grind)
        rw [this]
        unfold lhs
        omega
      rw [h2, hse] at h1
      have h3 : e * lhs r.f_Row.f_Coef x N ≤ e * (r.f_Row.f_Most * s) := by
        have : r.f_Row.f_Most * (s * e) = e * (r.f_Row.f_Most * s) := by simp only [Int.mul_comm, Int.mul_left_comm]
        omega
      exact Int.le_of_mul_le_mul_left h3 he0
  · exact h.elim
  · rw [e2]
    obtain ⟨g1, g2⟩ := q2 r hr
    refine .inl ⟨r.f_by, rfl, g1.blen, fun y hy => ?_, fun v hv => ?_, by rw [← g1.most]; exact hneg⟩
    · obtain ⟨k, _, rfl⟩ := mem_getD hy
      have := g1.yb k
      omega
    · rw [hN2] at hv
      rw [← g1.lin v hv]
      exact g2 v (by omega) hv

theorem lineSolves_plain (l : List line_Row) (n : Int) : mootlaw3_LineSolves 9223372036854775808 l n = some true := by
  obtain ⟨c, hc, _⟩ := check_spec l n
  unfold mootlaw3_LineSolves
  rw [lined_big, fault_eq, hc]
  by_cases h : c = 0
  · subst h
    rcases solve_spec (fu := 9223372036854775808) (by decide) hc with ⟨b, e, hb⟩ | ⟨p, e, hp⟩
    · obtain ⟨r, hr, hr'⟩ := disproves_spec l n b
      have : r = true := hr'.2 ⟨hc, hb⟩
      subst this
      rw [e]
      by_cases hb0 : (b.length : Int) = 0
      · simp [hb0, hr]
      · simp [hb0, hr]
    · obtain ⟨r, hr, hr'⟩ := solves_spec l n p
      have : r = true := hr'.2 ⟨hc, hp⟩
      subst this
      rw [e]
      simp [hr]
  · have e : line_Solve 9223372036854775808 l n = some (⟨[], 0⟩, [], false, c) := by
      unfold line_Solve
      rw [hc]
      simp only [Option.bind_some]
      rw [show (c != 0) = true by simp [h]]
      rfl
    rw [e]
    have hne : (c != 0) = true := by simp [h]
    simp [hne]
end Go.Proofs.Ytfhddbnacbcppaa
