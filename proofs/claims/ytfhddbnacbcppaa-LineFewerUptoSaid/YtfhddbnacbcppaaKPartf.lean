import Derived.Test.YtfhddbnacbcppaaKParte
import Derived.Test.YtfhddbnacbcppaaProg
import Derived.KernelRfl
set_option linter.unusedSimpArgs false
set_option linter.unusedVariables false
set_option linter.unnecessarySimpa false
set_option linter.unusedSectionVars false

/- Plain laws: Solve, and the law LineSolves. -/
set_option linter.unusedSimpArgs false
namespace Go.Proofs.Ytfhddbnacbcppaa.Old
open Go.PG

set_option maxRecDepth 100000 in
theorem lined_big : mootlaw3_lined 9223372036854775808 = some true := by decide +kernel

/- Bounds behind t variables left out: of coefficients, limits, weights; the number of rows. -/
def Cb : Nat → Int
  | 0 => 9
  | t + 1 => 2 * Cb t * Cb t
def Mb : Nat → Int
  | 0 => 99
  | t + 1 => 2 * Cb t * Mb t
def Yb : Nat → Int
  | 0 => 1
  | t + 1 => 2 * Cb t * Yb t
def Lb : Nat → Nat
  | 0 => 8
  | t + 1 => Lb t * Lb t
/-- Bounds of the point's denominator and numerators. -/
def Db (N : Nat) : Nat → Int
  | 0 => 1
  | k + 1 => Cb (N - (k + 1)) * Db N k
def Xb (N : Nat) : Nat → Int
  | 0 => 0
  | k + 1 => Mb (N - (k + 1)) * Db N k + k * (Cb (N - (k + 1)) * Xb N k)

theorem nums : ∀ N, N < 4 → ∀ k, k < N → (∀ v, v < k + 1 → Eb (Cb (N - (k + 1))) (Mb (N - (k + 1))) (Db N k) (Xb N k) v ≤ 4611686018427387904 ∧ (Db N k) ^ v * Cb (N - (k + 1)) ≤ 4611686018427387904) ∧
    Mb (N - (k + 1)) * Db N k + k * (Cb (N - (k + 1)) * Xb N k) < 4294967296 ∧ Cb (N - (k + 1)) * Db N k < 4294967296 ∧ Lb (N - (k + 1)) ≤ 4096 ∧ Xb N k * Cb (N - (k + 1)) ≤ Xb N (k + 1) ∧ 0 ≤ Xb N k := by decide +kernel
theorem nums2 : ∀ t, t < 4 → 1 ≤ Cb t ∧ 0 ≤ Mb t ∧ 0 ≤ Yb t ∧ Yb t ≤ 1125899906842624 ∧ (t < 3 → 2 * Cb t * Cb t ≤ 4611686018427387904 ∧ 2 * Cb t * Mb t ≤ 4611686018427387904 ∧ 2 * Cb t * Yb t ≤ 4611686018427387904 ∧ Lb t ≤ 4096) := by decide +kernel
theorem nums3 : ∀ N, N < 4 → 0 < N → Db N N < 4294967296 ∧ Xb N N < 4294967296 := by decide +kernel

theorem sm_unit (f g : Nat → Int) (k m : Nat) (h1 : g k = 1) (h0 : ∀ i, i ≠ k → g i = 0) : sm (fun i => f i * g i) m = if k < m then f k else 0 := by
  induction m with
  | zero => rfl
  | succ m ih =>
    simp only [sm]
    rw [ih]
    by_cases e : k = m
    · subst e
      rw [if_neg (by omega), if_pos (by omega), h1]; omega
    · rw [h0 m (fun h => e h.symm)]
      by_cases h : k < m
      · rw [if_pos h, if_pos (by omega)]; omega
      · rw [if_neg h, if_neg (by omega)]; omega

/-- The rows at the start. -/
theorem start_spec {l : List line_Row} {n : Int} {N : Nat} (hn : n = N) (hl : ∀ r ∈ l, rowOk n r) (h8 : l.length ≤ 8) :
    ∃ R, forL (ρ := line_Point × List Int × Bool × Int) (line_Solve_b0 l) 0 l [] = some (.inl R) ∧ R.length = l.length ∧ (∀ r ∈ R, rowG l N 9 99 1 r) ∧
      ∀ r0 ∈ l, ∃ r ∈ R, r.1 = r0 := by
  obtain ⟨R, e, i1, i2, i3⟩ := forL_nx (ρ := line_Point × List Int × Bool × Int) (body := line_Solve_b0 l) (fun k s => s.length = k ∧ (∀ r ∈ s, rowG l N 9 99 1 r) ∧ ∀ i r0, i < k → l[i]? = some r0 → ∃ r ∈ s, r.1 = r0) l []
    ⟨rfl, by simp, fun i r h => by omega⟩ (fun k x s hx ⟨i1, i2, i3⟩ => by
      have hk : k < l.length := (List.getElem?_eq_some_iff.1 hx).1
      have hok := hl x (List.mem_of_getElem? hx)
      unfold line_Solve_b0
      rw [chk_of (show 0 ≤ (l.length : Int) ∧ (l.length : Int) ≤ (LIM : Int) by unfold LIM; omega)]
      simp only [Option.bind_some]
      rw [get_of (l := List.replicate l.length (0 : Int)) (k := k) (by simp; omega)]
      simp only [Option.bind_some, slices_Clone_int]
      rw [chk_of (show s.length + 1 ≤ LIM by unfold LIM; omega)]
      simp only [Option.bind_some]
      have hget : ∀ v, ((List.replicate l.length (0 : Int)).set k 1).getD v 0 = if v = k then 1 else 0 := fun v => by
        have := List.length_replicate (n := l.length) (a := (0 : Int))
        simp only [List.getD, List.getElem?_set, List.getElem?_replicate]
        by_cases e : k = v
        · subst e; simp [hk]
        · have e' : ¬ v = k := fun h => e h.symm
          simp only [e, e', if_false]
          split <;> rfl
      have hrd := lgetD_of (d := default) hx
      refine ⟨_, rfl, by simp [i1], fun r hr => ?_, fun i r0 hi hr0 => ?_⟩
      · rcases List.mem_append.1 hr with hr | hr
        · exact i2 r hr
        · simp at hr; subst hr
          refine ⟨by have := hok.1; show x.1.length = N; omega, by simp, fun v hv => ?_, ?_, fun v => ?_, ⟨hok.2.2.1, hok.2.2.2⟩, fun i => ?_⟩
          · show x.1.getD v 0 = col l ((List.replicate l.length (0 : Int)).set k 1) v l.length
            unfold col
            rw [sm_unit _ (fun i => ((List.replicate l.length (0 : Int)).set k 1).getD i 0) k l.length (by show List.getD _ k 0 = 1; rw [hget]; simp) (fun i hi => by show List.getD _ i 0 = 0; rw [hget]; simp [hi]), if_pos hk, hrd]
          · show x.2 = mst l ((List.replicate l.length (0 : Int)).set k 1) l.length
            unfold mst
            rw [sm_unit _ (fun i => ((List.replicate l.length (0 : Int)).set k 1).getD i 0) k l.length (by show List.getD _ k 0 = 1; rw [hget]; simp) (fun i hi => by show List.getD _ i 0 = 0; rw [hget]; simp [hi]), if_pos hk, hrd]
          · exact getD_bnd (by decide) (by decide) hok.2.1 v
          · show 0 ≤ ((List.replicate l.length (0 : Int)).set k 1).getD i 0 ∧ ((List.replicate l.length (0 : Int)).set k 1).getD i 0 ≤ 1
            rw [hget]
            split <;> omega
      · by_cases e : i < k
        · obtain ⟨r, hr, h⟩ := i3 i r0 e hr0
          exact ⟨r, List.mem_append.2 (.inl hr), h⟩
        · have : i = k := by omega
          subst this
          rw [hx] at hr0; cases hr0
          exact ⟨_, List.mem_append.2 (.inr (by simp; rfl)), rfl⟩)
  refine ⟨R, e, i1, i2, fun r0 hr0 => ?_⟩
  obtain ⟨i, hi, rfl⟩ := List.mem_iff_getElem.1 hr0
  exact i3 i _ hi (List.getElem?_eq_getElem hi)

/-- The rows of i variables. -/
def lev (l : List line_Row) (N i : Nat) (R : List line_row) : Prop :=
  R.length ≤ Lb (N - i) ∧ ∀ r ∈ R, rowG l N (Cb (N - i)) (Mb (N - i)) (Yb (N - i)) r ∧ ∀ v, i ≤ v → v < N → cf r v = 0

/-- R' is R without the i-th variable. -/
def stepR (i : Nat) (R' R : List line_row) : Prop :=
  (∀ r ∈ R, cf r i = 0 → r ∈ R') ∧ ∀ u ∈ R, 0 < cf u i → ∀ w ∈ R, cf w i < 0 → ∃ r ∈ R', comb i u w r

/-- All levels from i on are there. -/
structure levs (l : List line_Row) (N i : Nat) (R0 : List line_row) (S : List (List line_row)) : Prop where
  len : S.length = N + 1
  top : S[N]? = some R0
  all : ∀ j, i ≤ j → j ≤ N → lev l N j (S.getD j [])
  step : ∀ j, i ≤ j → j < N → stepR j (S.getD j []) (S.getD (j + 1) [])

theorem sgetD_set (S : List (List line_row)) (k v : Nat) (x : List line_row) (h : k < S.length) : (S.set k x).getD v [] = if v = k then x else S.getD v [] := by
  simp only [List.getD, List.getElem?_set]
  by_cases e : k = v
  · subst e; simp [h]
  · have e' : ¬ v = k := fun q => e q.symm
    simp [e, e']

theorem levels_spec {l : List line_Row} {N fu : Nat} {R0 : List line_row} (h8 : l.length ≤ 8) (hN : N ≤ 3) (hN1 : 1 ≤ N) : ∀ (i k : Nat) (S : List (List line_row)), i < k → i ≤ N → levs l N i R0 S →
    ∃ S', whL (ρ := line_Point × List Int × Bool × Int) line_Solve_b2 k (((i : Int) - 1), S) = some (.inl (-1, S')) ∧ levs l N 0 R0 S'
  | 0, k, S, hk, _, h => by
    obtain ⟨k, rfl⟩ : ∃ k', k = k' + 1 := ⟨k - 1, by omega⟩
    exact ⟨S, whL_bk rfl, h⟩
  | i + 1, k, S, hk, hi, h => by
    obtain ⟨k, rfl⟩ : ∃ k', k = k' + 1 := ⟨k - 1, by omega⟩
    have hlev := h.all (i + 1) (by omega) hi
    have hget : S[i + 1]? = some (S.getD (i + 1) []) := by
      have := h.len
      rw [List.getD, List.getElem?_eq_getElem (by omega)]; rfl
    obtain ⟨t, ht⟩ : ∃ t, N - (i + 1) = t := ⟨_, rfl⟩
    have ht1 : N - i = t + 1 := by omega
    obtain ⟨n1, n2, n3, _, n4⟩ := nums2 t (by omega)
    obtain ⟨n5, n6, n7, n8⟩ := n4 (by omega)
    unfold lev at hlev
    rw [ht] at hlev
    obtain ⟨R', e, g1, g2, g3, g4, g5⟩ := without_spec (l := l) (N := N) (C := Cb t) (M := Mb t) (Y := Yb t) (R := S.getD (i + 1) []) (j := i) (fun r hr => (hlev.2 r hr).1) (fun r hr v h1 h2 => (hlev.2 r hr).2 v (by omega) h2) (by omega)
      (by omega) hN h8 n1 n2 n5 n6 n7 n3
    have hbody : line_Solve_b2 ((((i + 1 : Nat) : Int) - 1), S) = some (.nx (((i : Int) - 1), S.set i R') : Ctl (Int × List (List line_row)) (line_Point × List Int × Bool × Int)) := by
      unfold line_Solve_b2
      have e1 : ((i + 1 : Nat) : Int) - 1 = i := by omega
      rw [e1]
      simp only
      rw [show decide ((i : Int) ≥ 0) = true from decide_eq_true (by omega)]
      simp only [cond_true]
      rw [wrap64 (x := (i : Int) + 1) (by omega) (by omega), wrap64 (x := (i : Int) - 1) (by omega) (by omega)]
      unfold idx
      rw [if_pos (by omega), if_pos (by omega), show ((i : Int) + 1).toNat = i + 1 by omega, hget]
      simp only [Option.bind_some]
      rw [e]
      simp only [Option.bind_some]
      rw [show ((i : Int)).toNat = i by omega, List.getElem?_eq_getElem (show i < S.length by have := h.len; omega)]
      rfl
    rw [whL_nx hbody]
    have hsz := h.len
    refine levels_spec (fu := fu) h8 hN hN1 i k (S.set i R') (by omega) (by omega) ⟨by simp [h.len], ?_, fun j h1 h2 => ?_, fun j h1 h2 => ?_⟩
    · rw [List.getElem?_set_ne (by omega)]; exact h.top
    · rw [sgetD_set _ _ _ _ (by omega)]
      by_cases e : j = i
      · subst e
        rw [if_pos rfl]
        unfold lev
        rw [ht1]
        refine ⟨Nat.le_trans g5 (Nat.mul_le_mul hlev.1 hlev.1), fun r hr => ⟨g1 r hr, fun v h1 h2 => g2 r hr v h1 h2⟩⟩
      · rw [if_neg e]
        exact h.all j (by omega) h2
    · rw [sgetD_set _ _ _ _ (by omega), sgetD_set _ _ _ _ (by omega)]
      by_cases e : j = i
      · subst e
        rw [if_pos rfl, if_neg (by omega)]
        exact ⟨g3, g4⟩
      · rw [if_neg e, if_neg (by omega)]
        exact h.step j (by omega) h2

/-- The point so far, and that all rows of k variables hold there. -/
def ptOk (N k : Nat) (S : List (List line_row)) (p : List line_frac) : Prop :=
  p.length = k ∧ ∃ D X, ptG (Db N k) (Xb N k) D X p ∧ ∀ r ∈ S.getD k [], 0 ≤ rest D X k r

theorem point_spec {l : List line_Row} {N fu : Nat} {R0 : List line_row} {S : List (List line_row)} {j0 : Int} (hN : N ≤ 3) (hS : levs l N 0 R0 S) (h0 : ∀ r ∈ S.getD 0 [], 0 ≤ r.1.2) (hf : 4611686018427387904 < fu) :
    ∃ p, forN (ρ := line_Point × List Int × Bool × Int) (line_Solve_b6 fu (j0, S)) 0 N [] = some (.inl p) ∧ ptOk N N S p := by
  refine forN_nx (ρ := line_Point × List Int × Bool × Int) (body := line_Solve_b6 fu (j0, S)) (fun k p => ptOk N k S p) N [] ⟨rfl, 1, fun _ => 0, ⟨by decide, by show (1 : Int) ≤ 1; omega, fun v hv => by simp at hv, fun v f hv => by simp at hv⟩, fun r hr => ?_⟩ (fun k p hk hp => ?_)
  · have := h0 r hr
    simp [rest, sm]; omega
  · obtain ⟨hlen, D, X, hG, hrows⟩ := hp
    subst hlen
    obtain ⟨a1, a2, a3, a4, a5, a6⟩ := nums N (by omega) p.length hk
    obtain ⟨b1, b2, b3, _, _⟩ := nums2 (N - (p.length + 1)) (by omega)
    obtain ⟨q1, q2⟩ := hS.all (p.length + 1) (by omega) (by omega)
    obtain ⟨s1, s2⟩ := hS.step p.length (by omega) hk
    have hget : S[p.length + 1]? = some (S.getD (p.length + 1) []) := by
      have := hS.len
      rw [List.getD, List.getElem?_eq_getElem (by omega)]; rfl
    obtain ⟨f, c, z, e, hfok, c0, c1, hz, heq, hall⟩ := choose_spec (fu := fu) (R := S.getD (p.length + 1) []) hG (fun r hr => (q2 r hr).1) hk b1 b2 a6 (fun v hv => (a1 v (by omega)).1) (fun v hv => (a1 v (by omega)).2) a2 a3 hf (by omega)
      (fun r hr h => hrows r (s1 r hr h)) (fun u hu hpos w hw hneg => by
        obtain ⟨r, hr, hc1, hc2⟩ := s2 u hu hpos w hw hneg
        have := hrows r hr
        unfold rest at this ⊢
        rw [hc2, sm_lin (g := fun v => cf u v * X v) (h := fun v => cf w v * X v) (p := -(cf w p.length)) (q := cf u p.length) (fun v _ => by rw [hc1 v, Int.add_mul, Int.mul_assoc, Int.mul_assoc])] at this
        rw [Int.add_mul] at this
        rw [Int.mul_sub, Int.mul_sub]
        have f1 := Int.mul_assoc (-(cf w p.length)) u.1.2 D
        have f2 := Int.mul_assoc (cf u p.length) w.1.2 D
        omega)
    refine ⟨p ++ [f], ?_, by simp, D * c, fun v => if v = p.length then z else X v * c, ⟨Int.mul_pos hG.d0 c0, ?_, fun v hv => ?_, fun v g hg => ?_⟩, fun r hr => ?_⟩
    · unfold line_Solve_b6
      rw [wrap64 (x := (p.length : Int) + 1) (by omega) (by omega)]
      unfold idx
      rw [if_pos (by omega), show ((p.length : Int) + 1).toNat = p.length + 1 by omega, hget]
      simp only [Option.bind_some]
      rw [e]
      simp only [Option.bind_some]
      rw [chk_of (show p.length + 1 ≤ LIM by unfold LIM; omega)]
      rfl
    · show D * c ≤ Cb (N - (p.length + 1)) * Db N p.length
      rw [Int.mul_comm]
      exact Int.mul_le_mul c1 hG.dB (by have := hG.d0; omega) (by omega)
    · by_cases e : v = p.length
      · simp only [e, if_true]
        exact hz
      · simp only [e, if_false]
        have hx := hG.xB v (by simp at hv; omega)
        have := mul_bnd hx.1 hx.2 (show -(Cb (N - (p.length + 1))) ≤ c by omega) c1
        omega
    · rw [List.getElem?_append] at hg
      by_cases e : v < p.length
      · rw [if_pos e] at hg
        obtain ⟨g1, g2⟩ := hG.fr v g hg
        have e' : ¬ v = p.length := by omega
        simp only [e', if_false]
        refine ⟨g1, ?_⟩
        rw [← Int.mul_assoc, g2]; simp only [Int.mul_comm, Int.mul_left_comm]
      · rw [if_neg e] at hg
        have e' : v = p.length := by have := (List.getElem?_eq_some_iff.1 hg).1; simp at this; omega
        subst e'
        simp at hg
        subst hg
        simp only [if_true]
        exact ⟨hfok, heq⟩
    · have := hall r hr
      unfold rest at this ⊢
      simp only [sm, if_true]
      rw [sm_lin (g := fun v => cf r v * X v) (h := fun _ => 0) (p := c) (q := 0) (fun v hv => by
        have e' : ¬ v = p.length := by omega
        simp only [e', if_false]
        rw [Int.zero_mul, Int.add_zero, ← Int.mul_assoc, Int.mul_comm])]
      rw [Int.mul_sub] at this
      have f1 : r.1.2 * (D * c) = c * (r.1.2 * D) := by simp only [Int.mul_comm, Int.mul_left_comm]
      omega

theorem lcm_step {s d g s' d' D a b : Int} (hg : 0 < g) (e1 : s = g * s') (e2 : d = g * d') (hc : Int.gcd s' d' = 1) (h1 : D = s * a) (h2 : D = d * b) : s' * d ∣ D := by
  have h3 : s' * a = d' * b := by
    have : g * (s' * a) = g * (d' * b) := by rw [← Int.mul_assoc, ← Int.mul_assoc, ← e1, ← e2, ← h1, ← h2]
    exact Int.eq_of_mul_eq_mul_left (by omega) this
  obtain ⟨c, hcc⟩ := dvd_cop (k := d') (n := s') (m := a) ⟨b, h3⟩ hc
  refine ⟨c, ?_⟩
  rw [h1, e1, hcc, e2]
  simp only [Int.mul_comm, Int.mul_left_comm]

/-- The common denominator. -/
theorem den_spec {p : List line_frac} {fu : Nat} {DB XB D : Int} {X : Nat → Int} (hp : ptG DB XB D X p) (hDB : DB < 4294967296) (hf : 4611686018427387904 < fu) :
    ∃ s, forL (ρ := line_Point × List Int × Bool × Int) (line_Solve_b8 fu) 0 p 1 = some (.inl s) ∧ 0 < s ∧ s ∣ D ∧ ∀ f ∈ p, f.2 ∣ s := by
  have hD0 := hp.d0
  have hdB := hp.dB
  obtain ⟨s, e, i1, i2, i3⟩ := forL_nx (ρ := line_Point × List Int × Bool × Int) (body := line_Solve_b8 fu) (fun k s => 0 < s ∧ s ∣ D ∧ ∀ i f, i < k → p[i]? = some f → f.2 ∣ s) p 1 ⟨by decide, ⟨D, by omega⟩, fun i f h => by omega⟩ (fun k f s hf' ⟨i1, i2, i3⟩ => by
    obtain ⟨⟨d0, d1⟩, _⟩ := hp.small hf'
    obtain ⟨g1, g2⟩ := hp.fr k f hf'
    obtain ⟨b, b0, hb, _⟩ := fr_bnd hD0 g1 g2
    have hs1 := Int.le_of_dvd hD0 i2
    obtain ⟨a, ha⟩ := i2
    unfold line_Solve_b8
    rw [common_spec (by omega) (by omega) (by omega)]
    simp only [Option.bind_some]
    have hgp : 0 < Int.gcd s f.2 := Int.gcd_pos_of_ne_zero_right s (by omega)
    rw [chk_of (show ¬ ((Int.gcd s f.2 : Nat) : Int) = 0 by omega)]
    simp only [Option.bind_some]
    obtain ⟨s', hs'⟩ := Int.gcd_dvd_left s f.2
    obtain ⟨d', hd'⟩ := Int.gcd_dvd_right s f.2
    have q1 : s / ((Int.gcd s f.2 : Nat) : Int) = s' := by
      conv => lhs; lhs; rw [hs']
      exact Int.mul_ediv_cancel_left _ (by omega)
    have q2 : f.2 / ((Int.gcd s f.2 : Nat) : Int) = d' := by
      conv => lhs; lhs; rw [hd']
      exact Int.mul_ediv_cancel_left _ (by omega)
    have hcop := Int.gcd_ediv_gcd_ediv_gcd (i := s) (j := f.2) hgp
    rw [q1, q2] at hcop
    have e1 : s.tdiv ((Int.gcd s f.2 : Nat) : Int) = s' := by rw [tdiv_of_dvd ⟨s', hs'⟩, q1]
    rw [e1]
    have hdvd := lcm_step (g := ((Int.gcd s f.2 : Nat) : Int)) (by omega) hs' hd' hcop ha hb
    have hs'b := le_mul_pos (a := s') (e := ((Int.gcd s f.2 : Nat) : Int)) (B := s) (by omega) (by rw [Int.mul_comm, ← hs']; omega)
    have hs'0 : 0 < s' := by
      rcases Int.lt_or_le 0 s' with h | h
      · exact h
      · have := Int.mul_nonpos_of_nonneg_of_nonpos (show (0 : Int) ≤ ((Int.gcd s f.2 : Nat) : Int) by omega) h
        omega
    have hpos := Int.mul_pos hs'0 d0
    have hle := Int.le_of_dvd hD0 hdvd
    rw [wrap64 (x := s') (by omega) (by omega), wrap64 (by omega) (by omega)]
    refine ⟨_, rfl, hpos, hdvd, fun i g hi hg => ?_⟩
    by_cases e : i < k
    · obtain ⟨x, hx⟩ := i3 i g e hg
      have hsd : s ∣ s' * f.2 := ⟨d', by
        have h1 : s * d' = ((Int.gcd s f.2 : Nat) : Int) * s' * d' := by rw [← hs']
        have h2 : s' * f.2 = s' * (((Int.gcd s f.2 : Nat) : Int) * d') := by rw [← hd']
        rw [h1, h2]; simp only [Int.mul_comm, Int.mul_left_comm]⟩
      exact Int.dvd_trans ⟨x, hx⟩ hsd
    · have : i = k := by omega
      subst this
      rw [hf'] at hg; cases hg
      exact ⟨s', Int.mul_comm ..⟩)
  rw [e]
  refine ⟨s, rfl, i1, i2, fun f hf => ?_⟩
  obtain ⟨i, hi, rfl⟩ := List.mem_iff_getElem.1 hf
  exact i3 i _ hi (List.getElem?_eq_getElem hi)

/-- The numerators. -/
theorem num_spec {p : List line_frac} {DB XB D s e : Int} {X : Nat → Int} (hp : ptG DB XB D X p) (hXB : XB < 4294967296) (hDB : DB < 4294967296) (hs : 0 < s) (hD : D = s * e) (hd : ∀ f ∈ p, f.2 ∣ s) (h3 : p.length ≤ 3) :
    ∃ x, forL (ρ := line_Point × List Int × Bool × Int) (line_Solve_b10 s) 0 p [] = some (.inl x) ∧ x.length = p.length ∧ ∀ k, k < p.length → x.getD k 0 * e = X k := by
  have hD0 := hp.d0
  have hdB := hp.dB
  have he0 : 0 < e := by
    rcases Int.lt_or_le 0 e with h | h
    · exact h
    · have := Int.mul_nonpos_of_nonneg_of_nonpos (show 0 ≤ s by omega) h
      omega
  obtain ⟨x, ee, i1, i2⟩ := forL_nx (ρ := line_Point × List Int × Bool × Int) (body := line_Solve_b10 s) (fun k x => x.length = k ∧ ∀ i, i < k → x.getD i 0 * e = X i) p [] ⟨rfl, fun i h => by omega⟩ (fun k f x hf ⟨i1, i2⟩ => by
    have hk : k < p.length := (List.getElem?_eq_some_iff.1 hf).1
    obtain ⟨⟨d0, d1⟩, _⟩ := hp.small hf
    obtain ⟨g1, g2⟩ := hp.fr k f hf
    have hx := hp.xB k hk
    obtain ⟨q, hq⟩ := hd f (List.mem_of_getElem? hf)
    have e1 : s.tdiv f.2 = q := by
      rw [tdiv_of_dvd ⟨q, hq⟩]
      conv => lhs; lhs; rw [hq]
      exact Int.mul_ediv_cancel_left _ (by omega)
    have hnq : f.1 * q * e = X k := by
      have : f.2 * (f.1 * q * e) = f.2 * X k := by
        rw [Int.mul_comm f.2 (X k), ← g2, hD, hq]; simp only [Int.mul_comm, Int.mul_left_comm]
      exact Int.eq_of_mul_eq_mul_left (by omega) this
    have b1 := le_mul_pos he0 (B := XB) (a := f.1 * q) (by rw [hnq]; exact hx)
    have hsD : s ≤ D := Int.le_of_dvd hD0 ⟨e, hD⟩
    have b2 := le_mul_pos (a := q) (e := f.2) (B := s) d0 (by rw [Int.mul_comm, ← hq]; omega)
    unfold line_Solve_b10
    rw [chk_of (show ¬ f.2 = 0 by omega)]
    simp only [Option.bind_some]
    rw [chk_of (show x.length + 1 ≤ LIM by unfold LIM; omega)]
    simp only [Option.bind_some]
    rw [e1, wrap64 (x := q) (by omega) (by omega), wrap64 (x := f.1 * q) (by omega) (by omega)]
    refine ⟨_, rfl, by simp [i1], fun i hi => ?_⟩
    rw [getD_snoc, i1]
    by_cases h : i < k
    · rw [if_pos h, i2 i h]
    · have : i = k := by omega
      subst this
      rw [if_neg h, if_pos rfl, hnq])
  exact ⟨x, ee, i1, i2⟩

theorem mem_getD {l : List Int} {x : Int} (h : x ∈ l) : ∃ k, k < l.length ∧ l.getD k 0 = x := by
  obtain ⟨i, hi, rfl⟩ := List.mem_iff_getElem.1 h
  exact ⟨i, hi, by simp [List.getD, hi]⟩

/-- What Solve comes to. -/
theorem solve_spec {l : List line_Row} {n : Int} {fu : Nat} (hf : 4611686018427387904 < fu) (hc : line_Check l n = some 0) :
    (∃ b, line_Solve fu l n = some (⟨[], 0⟩, b, false, 0) ∧ disproved l n b) ∨ ∃ p, line_Solve fu l n = some (p, [], true, 0) ∧ solved l n p := by
  obtain ⟨c, hc', hc0⟩ := check_spec l n
  rw [hc] at hc'; cases hc'
  obtain ⟨c1, c2, c3, c4⟩ := hc0 rfl
  obtain ⟨N, hN⟩ : ∃ N : Nat, n = N := ⟨n.toNat, by omega⟩
  subst hN
  obtain ⟨R0, e0, a1, a2, a3⟩ := start_spec (N := N) rfl c4 c3
  unfold line_Solve
  rw [hc]
  simp only [Option.bind_some, bne_self_eq_false, cond_false]
  rw [e0]
  simp only [Option.bind_some, Sum.elim_inl]
  rw [wrap64 (x := (N : Int) + 1) (by omega) (by omega), wrap64 (x := (N : Int) - 1) (by omega) (by omega)]
  rw [chk_of (show 0 ≤ (N : Int) + 1 ∧ (N : Int) + 1 ≤ (LIM : Int) by unfold LIM; omega)]
  simp only [Option.bind_some]
  have hN1 : ((N : Int) + 1).toNat = N + 1 := by omega
  have hN2 : ((N : Int)).toNat = N := by omega
  rw [hN1]
  have hix : idx (List.replicate (N + 1) ([] : List line_row)) (N : Int) = some [] := by
    unfold idx
    rw [if_pos (by omega), hN2, List.getElem?_replicate, if_pos (by omega)]
  rw [hix]
  simp only [Option.bind_some]
  have hl0 : levs l N N R0 ((List.replicate (N + 1) ([] : List line_row)).set N R0) := by
    refine ⟨by simp, by rw [List.getElem?_set_self (by simp)], fun j h1 h2 => ?_, fun j h1 h2 => by omega⟩
    have : j = N := by omega
    subst this
    rw [sgetD_set _ _ _ _ (by simp), if_pos rfl]
    unfold lev
    rw [Nat.sub_self]
    exact ⟨by show R0.length ≤ 8; omega, fun r hr => ⟨a2 r hr, fun v h1 h2 => by omega⟩⟩
  obtain ⟨S, e1, hS⟩ := levels_spec (fu := fu) (R0 := R0) c3 (by omega) (by omega) N fu _ (by omega) (Nat.le_refl _) hl0
  rw [hN2, e1]
  simp only [Option.bind_some, Sum.elim_inl]
  have hS0 : idx S 0 = some (S.getD 0 []) := by
    unfold idx
    have := hS.len
    rw [if_pos (by decide), show (0 : Int).toNat = 0 from rfl, List.getD, List.getElem?_eq_getElem (by omega)]; rfl
  rw [hS0]
  simp only [Option.bind_some]
  obtain ⟨q1, q2⟩ := hS.all 0 (by omega) (by omega)
  obtain ⟨m1, m2, m3, m4, _⟩ := nums2 (N - 0) (by omega)
  rcases forL_inv (body := line_Solve_b4) (fun k _ => ∀ i r, i < k → (S.getD 0 [])[i]? = some r → 0 ≤ r.1.2) (fun _ => False) (fun q => ∃ r ∈ S.getD 0 [], r.1.2 < 0 ∧ q = (⟨[], 0⟩, r.2, false, 0)) (S.getD 0 []) 0 () (fun i r h => by omega)
    (fun k r s hr hI => by
      rw [Nat.zero_add] at hI ⊢
      unfold line_Solve_b4
      by_cases hneg : r.1.2 < 0
      · rw [show decide (r.1.2 < 0) = true by simp [hneg]]
        exact .inr (.inr ⟨_, rfl, r, List.mem_of_getElem? hr, hneg, rfl⟩)
      · rw [show decide (r.1.2 < 0) = false by simp; omega]
        refine .inl ⟨(), rfl, fun i r' hi hr' => ?_⟩
        by_cases e : i < k
        · exact hI i r' e hr'
        · have : i = k := by omega
          subst this
          rw [hr] at hr'; cases hr'; omega) with ⟨s', e2, h | h⟩ | ⟨q, e2, r, hr, hneg, rfl⟩
  · rw [e2]
    simp only [Option.bind_some, Sum.elim_inl]
    rw [chk_of (show (N : Int) ≤ (LIM : Int) by unfold LIM; omega)]
    simp only [Option.bind_some]
    obtain ⟨p, e3, hlen, D, X, hG, hrows⟩ := point_spec (fu := fu) (j0 := -1) (by omega) hS (fun r hr => by
      obtain ⟨i, hi, rfl⟩ := List.mem_iff_getElem.1 hr
      exact h i _ (by omega) (List.getElem?_eq_getElem hi)) hf
    rw [e3]
    simp only [Option.bind_some, Sum.elim_inl]
    obtain ⟨u1, u2⟩ := nums3 N (by omega) (by omega)
    obtain ⟨s, e4, s0, ⟨e, hse⟩, sd⟩ := den_spec (fu := fu) hG u1 hf
    rw [e4]
    simp only [Option.bind_some, Sum.elim_inl]
    obtain ⟨x, e5, x1, x2⟩ := num_spec hG u2 u1 s0 hse sd (by omega)
    rw [e5]
    simp only [Option.bind_some, Sum.elim_inl]
    have hD0 := hG.d0
    have hdB := hG.dB
    have he0 : 0 < e := by
      rcases Int.lt_or_le 0 e with h | h
      · exact h
      · have := Int.mul_nonpos_of_nonneg_of_nonpos (show 0 ≤ s by omega) h
        omega
    have hsD : s ≤ D := Int.le_of_dvd hD0 ⟨e, hse⟩
    refine .inr ⟨_, rfl, by show (x.length : Int) = N; omega, by show 1 ≤ s; omega, by show s ≤ _; omega, fun a ha => ?_, fun r0 hr0 => ?_⟩
    · have ha' : a ∈ x := ha
      obtain ⟨k, hk, rfl⟩ := mem_getD ha'
      have hxb := hG.xB k (by omega)
      have := le_mul_pos he0 (B := Xb N N) (a := x.getD k 0) (by rw [x2 k (by omega)]; exact hxb)
      omega
    · obtain ⟨r, hr, rfl⟩ := a3 r0 hr0
      have hSN : S.getD N [] = R0 := by rw [List.getD, hS.top]; rfl
      rw [hSN] at hrows
      have h1 := hrows r hr
      unfold rest at h1
      rw [hN2]
      show lhs r.1.1 x N ≤ r.1.2 * s
      have h2 : sm (fun v => cf r v * X v) N = e * lhs r.1.1 x N := by
        have := sm_lin (f := fun v => cf r v * X v) (g := fun v => r.1.1.getD v 0 * x.getD v 0) (h := fun _ => 0) (p := e) (q := 0) (n := N) (fun v hv => by
          rw [← x2 v (by omega), Int.zero_mul, Int.add_zero]
          unfold cf
          generalize r.1.1.getD v 0 = a
          generalize x.getD v 0 = b
          grind)
        rw [this]
        unfold lhs
        omega
      rw [h2, hse] at h1
      have h3 : e * lhs r.1.1 x N ≤ e * (r.1.2 * s) := by
        have : r.1.2 * (s * e) = e * (r.1.2 * s) := by simp only [Int.mul_comm, Int.mul_left_comm]
        omega
      exact Int.le_of_mul_le_mul_left h3 he0
  · exact h.elim
  · rw [e2]
    obtain ⟨g1, g2⟩ := q2 r hr
    refine .inl ⟨r.2, rfl, g1.blen, fun y hy => ?_, fun v hv => ?_, by rw [← g1.most]; exact hneg⟩
    · obtain ⟨k, _, rfl⟩ := mem_getD hy
      have := g1.yb k
      omega
    · rw [hN2] at hv
      rw [← g1.lin v hv]
      exact g2 v (by omega) hv

theorem lineSolves_plain (l : List line_Row) (n : Int) : mootlaw3_LineSolves 9223372036854775808 l n = some true := by
  obtain ⟨c, hc, _⟩ := check_spec l n
  unfold mootlaw3_LineSolves
  rw [lined_big, fault_eq, hc]
  by_cases h : c = 0
  · subst h
    rcases solve_spec (fu := 9223372036854775808) (by decide) hc with ⟨b, e, hb⟩ | ⟨p, e, hp⟩
    · obtain ⟨r, hr, hr'⟩ := disproves_spec l n b
      have : r = true := hr'.2 ⟨hc, hb⟩
      subst this
      rw [e]
      by_cases hb0 : (b.length : Int) = 0
      · simp [hb0, hr]
      · simp [hb0, hr]
    · obtain ⟨r, hr, hr'⟩ := solves_spec l n p
      have : r = true := hr'.2 ⟨hc, hp⟩
      subst this
      rw [e]
      simp [hr]
  · have e : line_Solve 9223372036854775808 l n = some (⟨[], 0⟩, [], false, c) := by
      unfold line_Solve
      rw [hc]
      simp only [Option.bind_some]
      rw [show (c != 0) = true by simp [h]]
      rfl
    rw [e]
    have hne : (c != 0) = true := by simp [h]
    simp [hne]
end Go.Proofs.Ytfhddbnacbcppaa.Old

/- The interpreter: functions that change what they are given, from their bodies. -/
set_option linter.unusedSimpArgs false
set_option linter.unusedVariables false
set_option linter.unusedSectionVars false
namespace Go.PG.PH

def inE (js : List Sh) (jh : List (Nat × OSh)) (l : List Dv) : TE := ⟨(inA js l).1.zipIdx.map fun x => (x.2, 0, x.1), inO' js jh l, [], 1⟩

/-- From n on, k numbers. -/
def upFrom : Nat → Nat → List Nat
  | _, 0 => []
  | n, k + 1 => n :: upFrom (n + 1) k

/-- Results stand behind the slots. -/
def putR : Nat → List TV → TE → TE
  | _, [], E => E
  | n, v :: vs, E => putR (n + 1) vs (E.put (some n) v)

def outJ (ts : List Nat) (rs : List Sh) (rh : List (Nat × OSh)) : J := ⟨[], [], ts.zip rs, rh⟩

/-- A result that is the first part of an object's list: what is behind it is forgotten. -/
def truncT {R : Type} (E : TE) (t : Nat) (k : TE → Option R) : Option R := match sget E.s t with
  | .so m g s 0 len => match oget E.h m with
    | some (.lst g' ty l) => match Nat.beq g' g, Nat.beq ty.size s with
      | true, true => (chk (len ≤ List.length l)).bind fun _ => k ((E.onew m (.lst g' ty (List.take len l))).put (some t) (.sof m g s))
      | _, _ => k E
    | _ => k E
  | _ => k E
def truncS {R : Type} : List (Nat × Sh) → TE → (TE → Option R) → Option R
  | [], E, k => k E
  | (t, .wn _ _) :: r, E, k => truncT E t fun E' => truncS r E' k
  | (_, .ag _) :: r, E, k => truncS r E k
  | (_, .dt _) :: r, E, k => truncS r E k
  | (_, .pt _ _ _) :: r, E, k => truncS r E k
  | (_, .nl) :: r, E, k => truncS r E k
  | (_, .fn _ _) :: r, E, k => truncS r E k
  | (_, .np) :: r, E, k => truncS r E k
  | (_, .nf) :: r, E, k => truncS r E k
  | (_, .ws _ _) :: r, E, k => truncS r E k

theorem truncT_ok {R : Type} {E : TE} {t n : Nat} {k : TE → Option R} {r : R} (h : truncT E t k = some r) : ∃ E', k E' = some r ∧ Ext E E' ∧ ∀ γ, Le (E.env n γ) (E'.env n γ) := by
  unfold truncT at h
  split at h
  · rename_i m g s len hs
    split at h
    · rename_i g' ty l ho
      split at h
      · rename_i hg hz
        obtain ⟨_, h1, h2⟩ := bind_some' h
        have hlen := chk_some h1
        refine ⟨_, h2, (ext_onew _ _ _).trans (ext_put _ _ _), fun γ => ?_⟩
        have hm : olen (E.onew m (.lst g' ty (List.take len l))).h m = len := by
          unfold TE.onew TE.oput
          simp only [olen_oset, if_true, TOb.len, List.length_take]
          omega
        have hle : Le (E.env n γ) ((E.onew m (.lst g' ty (List.take len l))).env n γ) := by
          rw [env_onew]
          refine le_up (fun i _ => .inr (VUp.refl _)) (fun q o' hq => ?_) (fun q o hq => ?_)
          · rw [hget_hset] at hq
            by_cases e : q = m
            · rw [if_pos e] at hq
              cases hq
              subst e
              refine .inl ⟨(TOb.lst g' ty l).ob (olen E.h) γ q, by rw [hget_heap, ho]; rfl, rfl, fun w st nn hob => ?_⟩
              obtain ⟨a1, a2, a3, a4⟩ := hob
              simp only [List.length_map] at a1
              have hsub : ∀ (i : Nat) (x : V), (List.map ty.enc (List.take len l))[i]? = some x → (List.map ty.enc l)[i]? = some x := by
                intro i x hx
                rw [List.map_take, List.getElem?_take] at hx
                split at hx
                · exact hx
                · cases hx
              refine ⟨by simp only [List.length_map, List.length_take]; omega, fun x hx => ?_, fun hp x hx => ?_, ?_⟩
              · obtain ⟨i, hi⟩ := List.getElem?_of_mem hx
                exact a2 x (List.mem_of_getElem? (hsub i x hi))
              · obtain ⟨i, hi⟩ := List.getElem?_of_mem hx
                exact a3 hp x (List.mem_of_getElem? (hsub i x hi))
              · rcases a4 with ⟨e1, e2⟩ | ⟨b, o, cells, tyy, hb, hc, hr⟩
                · left
                  refine ⟨?_, e2⟩
                  have : l = [] := by simpa using e1
                  rw [this]; simp
                · exact .inr ⟨b, o, cells, tyy, hb, hc, fun i j x c hx hc' => hr i j x c (hsub i x hx) hc'⟩
            · rw [if_neg e] at hq
              exact .inl ⟨o', hq, ObUp.refl _⟩
          · rw [hget_hset]
            by_cases e : q = m
            · rw [if_pos e]; simp
            · rw [if_neg e, hq]; simp
        refine hle.trans ?_
        rw [env_put]
        refine le_slots rfl (by cases n <;> simp [Env.upd]) fun i c c' hc hc' => .inr ?_
        simp only [Env.upd] at hc'
        rw [List.getElem?_set] at hc'
        split at hc'
        · rename_i hti
          subst hti
          split at hc'
          · rename_i hlt
            cases hc'
            have hlt' : t < n := by simpa [TE.env, SE] using hlt
            rw [env_t hlt'] at hc
            cases hc
            have hst : sget (E.onew m (.lst g' ty (List.take len l))).s t = .so m g s 0 len := by
              unfold TE.onew TE.oput TE.told
              simp only [sget_told, hs, TV.told]
            rw [hst]
            simp only [TV.v, hm]
          · cases hc'
        · rw [hc] at hc'; cases hc'; rfl
      · exact ⟨E, h, Ext.refl E, fun γ => Le.refl _⟩
    · exact ⟨E, h, Ext.refl E, fun γ => Le.refl _⟩
  · exact ⟨E, h, Ext.refl E, fun γ => Le.refl _⟩

theorem truncS_ok {R : Type} {n : Nat} {r : R} : ∀ {l : List (Nat × Sh)} {E : TE} {k : TE → Option R}, truncS l E k = some r → ∃ E', k E' = some r ∧ Ext E E' ∧ ∀ γ, Le (E.env n γ) (E'.env n γ)
  | [], E, k, h => ⟨E, h, Ext.refl E, fun γ => Le.refl _⟩
  | (t, .wn _ _) :: l, E, k, h => by
    simp only [truncS] at h
    obtain ⟨E1, h1, h2, h3⟩ := truncT_ok (n := n) h
    obtain ⟨E2, k1, k2, k3⟩ := truncS_ok h1
    exact ⟨E2, k1, h2.trans k2, fun γ => (h3 γ).trans (k3 γ)⟩
  | (_, .ag _) :: l, _, _, h => truncS_ok (l := l) h
  | (_, .dt _) :: l, _, _, h => truncS_ok (l := l) h
  | (_, .pt _ _ _) :: l, _, _, h => truncS_ok (l := l) h
  | (_, .nl) :: l, _, _, h => truncS_ok (l := l) h
  | (_, .fn _ _) :: l, _, _, h => truncS_ok (l := l) h
  | (_, .np) :: l, _, _, h => truncS_ok (l := l) h
  | (_, .nf) :: l, _, _, h => truncS_ok (l := l) h
  | (_, .ws _ _) :: l, _, _, h => truncS_ok (l := l) h

def finO1 (ts : List Nat) (rs : List Sh) (rh : List (Nat × OSh)) (E0 E : TE) : Option (Ds (Sh.tysL rs ++ tysO rh)) :=
    match (outJ ts rs rh).pk E0 E with
    | some d' => match ((outJ ts rs rh).un E0 d').closed with
      | true => asm _ (dis _ d')
      | false => none
    | _ => none
def finO2 (n : Nat) (rs : List Sh) (rh : List (Nat × OSh)) (E0 E : TE) (vs : List TV) : Option (Ds (Sh.tysL rs ++ tysO rh)) :=
  truncS ((upFrom n rs.length).zip rs) (orE E (sealSh rs [] vs E)) (finO1 (upFrom n rs.length) rs rh E0)
def finO (P : Program) (n : Nat) (res : List ResultVar) (rs : List Sh) (rh : List (Nat × OSh)) (E0 E : TE) : Option (Ds (Sh.tysL rs ++ tysO rh)) :=
  match tres P n E res with
  | some vs => match Nat.beq vs.length rs.length with
    | true => finO2 n rs rh E0 (putR n vs E) vs
    | false => none
  | none => none
noncomputable def exFo {P : Program} (cs : Cs P) (fu : Nat) (fn : Func) (js : List Sh) (jh : List (Nat × OSh)) (rs : List Sh) (rh : List (Nat × OSh)) (h : HT) (d : Ds (Sh.tysL js ++ tysO jh)) : Option (Ds (Sh.tysL rs ++ tysO rh)) :=
  match fn.body with
    | none => none
    | some c => ex P cs fu fn.ntmps c h (inE js jh (dis _ d)) ⟨finO P fn.ntmps fn.results.toList rs rh (inE js jh (dis _ d)), fun _ _ => none, finO P fn.ntmps fn.results.toList rs rh (inE js jh (dis _ d))⟩

mutual
theorem inI_ref {ids : List Nat} {G : Nat → Nat} {m : Nat} : ∀ (s : Sh) (l : List Dv), s.inI ids = true → (s.un G l).1.ref m = true → m ∈ ids
  | .dt t, l, _, h => by simp [Sh.un, TV.ref] at h
  | .wn n sz, l, hs, h => by simp only [Sh.un, TV.ref] at h; have := beqs h; subst this; exact mem_iff.1 hs
  | .pt n sz off, l, hs, h => by simp only [Sh.un, TV.ref] at h; have := beqs h; subst this; exact mem_iff.1 hs
  | .nl, l, _, h => by simp [Sh.un, TV.ref] at h
  | .ag cs, l, hs, h => inIL_ref cs l hs h
  | .fn _ cs, l, hs, h => inIL_ref cs l hs h
  | .np, l, _, h => by simp [Sh.un, TV.ref] at h
  | .nf, l, _, h => by simp [Sh.un, TV.ref] at h
  | .ws n sz, l, hs, h => by simp only [Sh.un, TV.ref] at h; have := beqs h; subst this; exact mem_iff.1 hs
theorem inIL_ref {ids : List Nat} {G : Nat → Nat} {m : Nat} : ∀ (cs : List Sh) (l : List Dv), Sh.inIL ids cs = true → TV.refL m (Sh.unL G cs l).1 = true → m ∈ ids
  | [], l, _, h => by simp [Sh.unL, TV.refL] at h
  | c :: cs, l, hs, h => by
    simp only [Sh.inIL] at hs
    split at hs
    · rename_i h1
      simp only [Sh.unL, TV.refL] at h
      split at h
      · rename_i h2; exact inI_ref c l h1 h2
      · exact inIL_ref cs _ hs h
    · cases hs
end

theorem obs_congr {ids : List Nat} {G H H' γ γ' : Nat → Nat} {c : Nat} (hh : ∀ n ∈ ids, H' n = H n ∧ γ' n = γ n) : ∀ (js : List (Nat × OSh)) (l : List Dv), (∀ n ∈ idsO js, n ∈ ids) → inIO ids js = true →
    obs H' γ' (unO G c js l) = obs H γ (unO G c js l)
  | [], l, _, _ => rfl
  | x :: r, l, h1, h2 => by
    simp only [inIO] at h2
    split at h2
    · rename_i h3
      have h4 := (hh x.1 (h1 x.1 (by simp [idsO]))).2
      have h5 := obs_congr (c := c) (G := G) hh r (x.2.un G x.1 l).2 (fun n hn => h1 n (by simp only [idsO, List.map_cons, List.mem_cons]; exact .inr hn)) h2
      simp only [unO, obs, List.map_cons]
      rw [show List.map (fun x => (x.fst, TOb.ob H' γ' x.fst x.snd.snd)) (unO G c r (x.2.un G x.1 l).2) = _ from h5]
      congr 1
      congr 1
      obtain ⟨n, s⟩ := x
      cases s with
      | ls t => simp only [OSh.un, TOb.ob, h4]
      | el p sz cs =>
        simp only [OSh.un, TOb.ob, h4]
        rw [congr_vL _ fun m hm => hh m (inIL_ref cs l h3 hm)]
    · cases h2

theorem unO_gen {G : Nat → Nat} {c : Nat} : ∀ (jh : List (Nat × OSh)) (l : List Dv) (n : Nat) (x : TOb), oget (unO G c jh l) n = some x → x.gen = G n
  | [], l, n, x, h => by simp [unO, oget] at h
  | y :: r, l, n, x, h => by
    simp only [unO, oget] at h
    split at h
    · rename_i e
      have := beqs e; subst this
      cases h
      obtain ⟨m, s⟩ := y
      cases s <;> rfl
    · exact unO_gen r _ n x h

theorem tgen_in (js : List Sh) (jh : List (Nat × OSh)) (l : List Dv) : tgen (inE js jh l).h = z0 := by
  funext n
  unfold tgen
  cases e : oget (inE js jh l).h n with
  | none => rfl
  | some x => exact unO_gen jh _ n x e

/-- Slots told anew, out of their values. -/
theorem unS_zip (G : Nat → Nat) (c : Nat) : ∀ (ts : List Nat) (rs : List Sh) (l : List Dv), ts.length = rs.length → unS G c (ts.zip rs) l = (List.zipWith (fun t v => (t, c, v)) ts (Sh.unL G rs l).1, (Sh.unL G rs l).2)
  | [], [], l, _ => rfl
  | t :: ts, r :: rs, l, h => by
    simp only [List.zip_cons_cons, unS, Sh.unL, List.zipWith_cons_cons]
    rw [unS_zip G c ts rs _ (by simpa using h)]
  | [], _ :: _, _, h => by simp at h
  | _ :: _, [], _, h => by simp at h

theorem unL_len (G : Nat → Nat) : ∀ (rs : List Sh) (l : List Dv), (Sh.unL G rs l).1.length = rs.length
  | [], l => rfl
  | r :: rs, l => by simp only [Sh.unL, List.length_cons, unL_len G rs]

theorem sget_zip (c : Nat) (rest : List (Nat × Nat × TV)) : ∀ (ts : List Nat) (vs : List TV), nodup ts = true → ts.length = vs.length → ts.map (sget (List.zipWith (fun t v => (t, c, v)) ts vs ++ rest)) = vs
  | [], [], _, _ => rfl
  | t :: ts, v :: vs, h, hl => by
    simp only [nodup] at h
    split at h
    · cases h
    · rename_i hm
      simp only [List.zipWith_cons_cons, List.cons_append, List.map_cons, sget, Nat.beq_refl]
      congr 1
      have := sget_zip c rest ts vs h (by simpa using hl)
      conv => rhs; rw [← this]
      refine List.map_congr_left fun i hi => ?_
      have : Nat.beq i t = false := beq_false.2 fun e => by
        subst e
        rw [mem_iff.2 hi] at hm
        cases hm
      simp only [this]
  | [], _ :: _, _, h => by simp at h
  | _ :: _, [], _, h => by simp at h

theorem upFrom_len : ∀ (n k : Nat), (upFrom n k).length = k
  | _, 0 => rfl
  | n, k + 1 => by simp only [upFrom, List.length_cons, upFrom_len]
theorem upFrom_ge : ∀ {n k i : Nat}, i ∈ upFrom n k → n ≤ i
  | _, 0, i, h => by cases h
  | n, k + 1, i, h => by
    rcases List.mem_cons.1 h with rfl | h
    · exact Nat.le_refl _
    · have := upFrom_ge h; omega
theorem upFrom_nodup : ∀ (n k : Nat), nodup (upFrom n k) = true
  | _, 0 => rfl
  | n, k + 1 => by
    simp only [upFrom, nodup]
    cases e : mem n (upFrom (n + 1) k) with
    | false => exact upFrom_nodup (n + 1) k
    | true => have := upFrom_ge (mem_iff.1 e); omega
theorem upFrom_get : ∀ (n k i : Nat), i < k → (upFrom n k)[i]? = some (n + i)
  | n, 0, i, h => by omega
  | n, k + 1, 0, h => rfl
  | n, k + 1, i + 1, h => by
    simp only [upFrom, List.getElem?_cons_succ]
    rw [upFrom_get (n + 1) k i (by omega)]
    congr 1; omega

theorem putR_sget : ∀ (n : Nat) (vs : List TV) (E : TE) (i : Nat), sget (putR n vs E).s i = if n ≤ i ∧ i < n + vs.length then (vs[i - n]?).getD .dead else sget E.s i
  | n, [], E, i => by
    rw [if_neg (by simp)]; rfl
  | n, v :: vs, E, i => by
    simp only [putR]
    rw [putR_sget (n + 1) vs _ i]
    simp only [List.length_cons]
    by_cases h : n + 1 ≤ i ∧ i < n + 1 + vs.length
    · rw [if_pos h, if_pos ⟨by omega, by omega⟩, show i - n = (i - (n + 1)) + 1 by omega, List.getElem?_cons_succ]
    · rw [if_neg h]
      by_cases hn : i = n
      · subst hn
        rw [if_pos ⟨Nat.le_refl _, by omega⟩]
        simp only [TE.put, sget, Nat.beq_refl, Nat.sub_self, List.getElem?_cons_zero, Option.getD_some]
      · rw [if_neg (by omega)]
        simp only [TE.put, sget, beq_false.2 hn]
theorem putR_h : ∀ (n : Nat) (vs : List TV) (E : TE), (putR n vs E).h = E.h
  | _, [], E => rfl
  | n, v :: vs, E => by simp only [putR]; exact putR_h (n + 1) vs _
theorem putR_ext : ∀ (n : Nat) (vs : List TV) (E : TE), Ext E (putR n vs E)
  | _, [], E => Ext.refl E
  | n, v :: vs, E => (ext_put E _ _).trans (putR_ext (n + 1) vs _)

theorem putR_env (n : Nat) (vs : List TV) (E : TE) (γ : Nat → Nat) : (putR n vs E).env (n + vs.length) γ = ⟨(E.env n γ).t ++ TV.vL (olen E.h) γ vs, (E.env n γ).h⟩ := by
  have hl : ((putR n vs E).env (n + vs.length) γ).t = (E.env n γ).t ++ TV.vL (olen E.h) γ vs := by
    refine List.ext_getElem? fun i => ?_
    by_cases hi : i < n + vs.length
    · rw [env_t hi, putR_sget, putR_h]
      rw [List.getElem?_append]
      simp only [TE.env, se_len]
      by_cases hn : i < n
      · rw [if_pos hn, if_neg (by omega)]
        have := env_t (E := E) (γ := γ) hn
        exact this.symm
      · rw [if_neg hn, if_pos ⟨by omega, hi⟩, vL_get]
        have : i - n < vs.length := by omega
        rw [List.getElem?_eq_getElem this]; rfl
    · rw [List.getElem?_eq_none (by simp only [TE.env, se_len]; omega), List.getElem?_eq_none (by simp only [List.length_append, TE.env, se_len, vL_map, List.length_map]; omega)]
  have hh : ((putR n vs E).env (n + vs.length) γ).h = (E.env n γ).h := by
    show (putR n vs E).heap γ = E.heap γ
    unfold TE.heap
    rw [putR_h]
  rw [← hl, ← hh]

theorem tres_v {P : Program} {n : Nat} {E : TE} {γ : Nat → Nat} : ∀ (res : List ResultVar) (vs : List TV), tres P n E res = some vs → res.mapM (resO P (E.env n γ)) = some (TV.vL (olen E.h) γ vs)
  | [], vs, h => by simp only [tres] at h; cases h; rfl
  | .tmp t :: r, vs, h => by
    simp only [tres] at h
    split at h
    · rename_i l hl
      cases h
      rw [List.mapM_cons, tres_v r l hl]
      simp only [resO, TV.vL]
      rw [te_get]
      rfl
    · cases h
  | .cell t ty :: r, vs, h => by
    simp only [tres] at h
    split at h
    · rename_i v l hv hl
      cases h
      rw [List.mapM_cons, tres_v r l hl]
      simp only [resO, TV.vL]
      rw [te_get, env_h, tload_v hv]
      rfl
    · cases h

theorem oneR_eq (l : List V) : oneR l = oneV l := by
  match l with
  | [] => rfl
  | [v] => rfl
  | _ :: _ :: _ => rfl

/-- Which ids may come in. -/
def hiAll (ne : List Nat) : List Nat → Bool
  | [] => true
  | n :: r => match Nat.ble 1000 n with
    | true => hiAll ne r
    | false => false
def fxAll (ne : List Nat) : List Nat → Bool
  | [] => true
  | n :: r => match mem n ne, Nat.ble 2000 n with
    | false, false => false
    | _, _ => fxAll ne r

theorem fxAll_ok {ne : List Nat} : ∀ {l : List Nat}, fxAll ne l = true → ∀ n ∈ l, n ∉ ne → 2000 ≤ n
  | [], _, n, h, _ => by cases h
  | a :: r, h, n, hn, hne => by
    simp only [fxAll] at h
    split at h
    · cases h
    · rename_i h1
      rcases List.mem_cons.1 hn with rfl | hn
      · cases e : mem n ne with
        | true => exact absurd (mem_iff.1 e) hne
        | false =>
          cases e2 : Nat.ble 2000 n with
          | true => exact Nat.le_of_ble_eq_true e2
          | false => exact absurd e2 (h1 e)
      · exact fxAll_ok h n hn hne

theorem hiAll_hiH {ne : List Nat} {H γ G : Nat → Nat} {c : Nat} : ∀ (jh : List (Nat × OSh)) (l : List Dv), hiAll ne (idsO jh) = true → hiH (obs H γ (unO G c jh l))
  | [], l, _ => trivial
  | x :: r, l, h => by
    simp only [idsO, List.map_cons, hiAll] at h
    split at h
    · rename_i h1
      exact ⟨Nat.le_of_ble_eq_true h1, hiAll_hiH r _ h⟩
    · cases h

def foOk (fn : Func) (js : List Sh) (jh : List (Nat × OSh)) (rh : List (Nat × OSh)) (ne : List Nat) : Bool :=
  !(fn.name == "runtime.NumGoroutine") && Nat.ble js.length fn.ntmps && hiAll ne (idsO jh) && fxAll ne (idsO rh)

theorem unO_len {G G' : Nat → Nat} {c c' : Nat} {n : Nat} : ∀ (rh : List (Nat × OSh)) (l : List Dv), olen (unO G c rh l) n = olen (unO G' c' rh l) n
  | [], l => rfl
  | x :: r, l => by
    have hs : ∀ n, (if n ∈ ([] : List Nat) then z0 n else G n + G' n) = G' n + G n := fun n => by simp [Nat.add_comm]
    have h1 := (osh_sg (H := z0) (γ' := z0) hs x.1 x.2 l).1
    have h2 := unO_len (G := G) (G' := G') (c := c) (c' := c') (n := n) r (x.2.un G' x.1 l).2
    have h3 : (x.2.un G x.1 l).1.len = (x.2.un G' x.1 l).1.len := by
      obtain ⟨m, s⟩ := x
      cases s with
      | ls t => rfl
      | el p sz cs => simp only [OSh.un, TOb.len, unL_len]
    unfold olen at h2 ⊢
    simp only [unO, oget]
    rw [h1]
    cases Nat.beq n x.1 with
    | true => exact h3
    | false => exact h2

theorem unL_rest (G G' : Nat → Nat) (rs : List Sh) (l : List Dv) : (Sh.unL G rs l).2 = (Sh.unL G' rs l).2 := by
  have hs : ∀ n, (if n ∈ ([] : List Nat) then z0 n else G n + G' n) = G' n + G n := fun n => by simp [Nat.add_comm]
  exact (shL_sg (H := z0) (γ' := z0) hs rs l).1

theorem sget_zipIdx : ∀ (l : List TV) (k i : Nat), sget ((l.zipIdx k).map fun x => (x.2, 0, x.1)) (k + i) = (l[i]?).getD .dead := by
  intro l
  induction l with
  | nil => intro k i; rfl
  | cons a l ih =>
    intro k i
    simp only [List.zipIdx_cons, List.map_cons, sget]
    cases i with
    | zero => simp [Nat.beq_refl]
    | succ i =>
      rw [beq_false.2 (by omega), show k + (i + 1) = k + 1 + i by omega]
      simp only
      rw [ih]; simp

theorem inE_env {n : Nat} {γ : Nat → Nat} {js : List Sh} {jh : List (Nat × OSh)} {l : List Dv} (hl : js.length ≤ n) :
    Le ⟨TV.vL (olen (inE js jh l).h) γ (inA js l).1 ++ List.replicate (n - (TV.vL (olen (inE js jh l).h) γ (inA js l).1).length) .dead, (inE js jh l).heap γ⟩ ((inE js jh l).env n γ) := by
  have hlen : (inA js l).1.length = js.length := unL_len _ _ _
  refine le_slots rfl (by simp [TE.env, SE, vL_map]; omega) fun i c c' h1 h2 => ?_
  have hi : i < n := by have := (List.getElem?_eq_some_iff.1 h2).1; simpa [TE.env, SE] using this
  rw [env_t hi] at h2
  cases h2
  right
  have := sget_zipIdx (inA js l).1 0 i
  rw [Nat.zero_add] at this
  show (sget (inE js jh l).s i).v _ γ = c
  rw [show (inE js jh l).s = (inA js l).1.zipIdx.map fun x => (x.2, 0, x.1) from rfl, this]
  dsimp only at h1
  rw [List.getElem?_append] at h1
  split at h1
  · rw [vL_get] at h1
    simp only [Option.map_eq_some_iff] at h1
    obtain ⟨v, hv, rfl⟩ := h1
    rw [hv]; rfl
  · rename_i hlt
    have := List.mem_replicate.1 (List.mem_of_getElem? h1)
    rw [this.2]
    rw [vL_map, List.length_map] at hlt
    rw [List.getElem?_eq_none (by omega)]; rfl

theorem finO_ok {P : Program} {n : Nat} {res : List ResultVar} {js : List Sh} {jh : List (Nat × OSh)} {rs : List Sh} {rh : List (Nat × OSh)} {ne : List Nat} {l : List Dv} {E' : TE} {r : Ds (Sh.tysL rs ++ tysO rh)} {γ γ' H' : Nat → Nat} {e : Env}
    (w6 : Sh.inIL (idsO rh) rs = true) (w7 : inIO (idsO rh) rh = true) (n4 : fxAll ne (idsO rh) = true) (hH' : ∀ n ∈ idsO rh, H' n = olen (outO rs rh ne (dis _ r)) n)
    (hfin : finO P n res rs rh (inE js jh l) E' = some r) (hext : Ext (inE js jh l) E') (hle0 : Le e (E'.env n γ')) (hf : Fx γ γ') :
    ∃ e0 vs e1, Le e e0 ∧ res.mapM (resO P e0) = some vs ∧ Le ⟨e0.t ++ vs, e0.h⟩ e1 ∧ ∃ γ2, oneR (e1.t.drop e0.t.length) = (oneV (TV.vL H' γ (outA rs ne (dis _ r)).1)).sg ne γ2 ∧ e1.h = Heap.sg ne γ2 (obs H' γ (outO rs rh ne (dis _ r))) := by
  unfold finO at hfin
  split at hfin
  · rename_i vs hvs
    split at hfin
    · rename_i hvl
      have hvl := beqs hvl
      refine ⟨E'.env n γ', TV.vL (olen E'.h) γ' vs, ?_⟩
      have hex1 : Ext (inE js jh l) (putR n vs E') := hext.trans (putR_ext n vs E')
      have hpe := putR_env n vs E' γ'
      have hstart : Le ⟨(E'.env n γ').t ++ TV.vL (olen E'.h) γ' vs, (E'.env n γ').h⟩ ((putR n vs E').env (n + vs.length) γ') := by rw [hpe]; exact Le.refl _
      have hres := tres_v (γ := γ') res vs hvs
      have hlen0 : (E'.env n γ').t.length = n := by simp [TE.env, SE]
      generalize putR n vs E' = E1 at *
      unfold finO2 at hfin
      obtain ⟨b1, b2, _⟩ : Gst (n + vs.length) E1 (orE E1 (sealSh rs [] vs E1)) := orE_ok fun E2 h => sealSh_ok h
      generalize orE E1 (sealSh rs [] vs E1) = E3 at *
      obtain ⟨E'', hfin, hex2, hle2⟩ := truncS_ok (n := n + vs.length) hfin
      replace hstart := (hstart.trans (b1 γ')).trans (hle2 γ')
      have hext := (hex1.trans b2).trans hex2
      obtain ⟨ts, hts⟩ : ∃ ts, ts = upFrom n rs.length := ⟨_, rfl⟩
      rw [← hts] at hfin
      have hlen : ts.length = rs.length := by rw [hts, upFrom_len]
      have q2 : nodup ts = true := by rw [hts]; exact upFrom_nodup _ _
      unfold finO1 at hfin
      split at hfin
      · rename_i d' hp
        split at hfin
        · rename_i hcl
          have hd := dis_asm _ _ _ hfin
          obtain ⟨γ2, f2, hle⟩ := pk_le (n := n + vs.length) hp hext hcl γ'
          have hF : Fx γ γ2 := hf.trans f2
          obtain ⟨X, hX⟩ : ∃ X, X = (outJ ts rs rh).un (inE js jh l) d' := ⟨_, rfl⟩
          rw [← hX] at hle hcl
          have hXs : X.s = List.zipWith (fun t v => (t, (inE js jh l).c, v)) ts (Sh.unL z0 rs (dis _ r)).1 ++ [] := by
            rw [hX, un_s, tgen_in]
            show (unS z0 _ (ts.zip rs) _).1 ++ _ = _
            rw [unS_zip _ _ _ _ _ hlen, hd]; rfl
          have hXh : X.h = unO z0 (inE js jh l).c rh (Sh.unL z0 rs (dis _ r)).2 := by
            rw [hX, un_h, tgen_in]
            show unO z0 _ rh (unS z0 _ (ts.zip rs) _).2 ++ [] = _
            rw [unS_zip _ _ _ _ _ hlen, hd, List.append_nil]
          let γ3 : Nat → Nat := fun m => if m ∈ ne then γ2 m else γ m
          have hs : ∀ m, (if m ∈ ne then γ2 m else γ m + G1 ne m) = γ3 m + z0 m := by
            intro m
            show _ = (if m ∈ ne then γ2 m else γ m) + 0
            by_cases hm : m ∈ ne
            · simp only [if_pos hm, Nat.add_zero]
            · simp only [if_neg hm]
              have : mem m ne = false := by
                cases e : mem m ne with
                | false => rfl
                | true => exact absurd (mem_iff.1 e) hm
              unfold G1
              rw [this]
          have hok : ∀ m ∈ idsO rh, olen X.h m = H' m ∧ γ2 m = γ3 m := by
            intro m hm
            refine ⟨?_, ?_⟩
            · rw [hH' m hm, hXh]
              unfold outO outA
              rw [unL_rest (G1 ne) z0]
              exact unO_len _ _
            · show _ = if m ∈ ne then γ2 m else γ m
              by_cases hne : m ∈ ne
              · rw [if_pos hne]
              · rw [if_neg hne]; exact hF m (fxAll_ok n4 m hm hne)
          refine ⟨X.env (n + vs.length) γ2, hle0, hres, hstart.trans hle, γ2, ?_, ?_⟩
          · rw [oneR_eq, oneV_sg, hlen0]
            congr 1
            have hd2 : (X.env (n + vs.length) γ2).t.drop n = TV.vL (olen X.h) γ2 (ts.map (sget X.s)) := by
              refine List.ext_getElem? fun i => ?_
              rw [List.getElem?_drop, vL_get, List.getElem?_map]
              by_cases hi : i < rs.length
              · rw [env_t (by omega), hts, upFrom_get n rs.length i hi]; rfl
              · rw [List.getElem?_eq_none (by simp [TE.env, SE]; omega), List.getElem?_eq_none (by rw [hlen]; omega)]; rfl
            rw [hd2, hXs, sget_zip _ _ ts _ q2 (by rw [unL_len]; exact hlen)]
            have := (shL_sg (H := H') hs rs (dis _ r)).2
            unfold outA
            rw [← this]
            exact congr_vL _ fun m hm => hok m (inIL_ref rs _ w6 hm)
          · show X.heap γ2 = _
            unfold TE.heap
            have h1 := unO_sg (c := (inE js jh l).c) (c0 := 0) (H := H') hs rh (Sh.unL z0 rs (dis _ r)).2
            unfold outO outA
            rw [unL_rest (G1 ne) z0]
            rw [show obs H' γ (unO (G1 ne) 0 rh (Sh.unL z0 rs (dis _ r)).2) = List.map (fun x => (x.1, x.2.2.ob H' γ x.1)) (unO (G1 ne) 0 rh (Sh.unL z0 rs (dis _ r)).2) from rfl, ← h1]
            have h2 := obs_congr (G := z0) (c := (inE js jh l).c) (H := H') (H' := olen X.h) (γ := γ3) (γ' := γ2) hok rh (Sh.unL z0 rs (dis _ r)).2 (fun _ h => h) w7
            rw [← hXh] at h2 ⊢
            exact h2

        · cases hfin
      · cases hfin
    · cases hfin
  · cases hfin

theorem exFo_ok {P : Program} {cs : Cs P} {fu : Nat} {f : FuncId} {fn : Func} {js : List Sh} {jh : List (Nat × OSh)} {rs : List Sh} {rh : List (Nat × OSh)} {ne : List Nat} {h : HT} {d : Ds (Sh.tysL js ++ tysO jh)} {r : Ds (Sh.tysL rs ++ tysO rh)}
    (hm : P.follows .mixedOrders = true) (hf : P.funcs[f]? = some fn) (hn : foOk fn js jh rh ne = true) (hw : owWf js jh rs rh ne = true)
    (hx : exFo cs fu fn js jh rs rh h d = some r) (γ H H' : Nat → Nat) (hH : ∀ n ∈ idsO jh, H n = olen (inO' js jh (dis _ d)) n) (hH' : ∀ n ∈ idsO rh, H' n = olen (outO rs rh ne (dis _ r)) n) :
    PCO P f (TV.vL H γ (inA js (dis _ d)).1) (obs H γ (inO' js jh (dis _ d))) (oneV (TV.vL H' γ (outA rs ne (dis _ r)).1)) (obs H' γ (outO rs rh ne (dis _ r))) ne := by
  obtain ⟨w1, w2, w3, w4, w5, w6, w7, w8⟩ := owWf_ok hw
  unfold foOk at hn
  simp only [Bool.and_eq_true, Bool.not_eq_true'] at hn
  obtain ⟨⟨⟨n1, n2⟩, n3⟩, n4⟩ := hn
  unfold exFo at hx
  split at hx
  · cases hx
  · rename_i c hb
    refine pco_of hf hb n1 (hiAll_hiH jh _ n3) ?_
    have hvs : TV.vL H γ (inA js (dis _ d)).1 = TV.vL (olen (inE js jh (dis _ d)).h) γ (inA js (dis _ d)).1 :=
      congr_vL _ fun m hm => ⟨hH m (inIL_ref js _ w4 hm), rfl⟩
    have hhs : obs H γ (inO' js jh (dis _ d)) = (inE js jh (dis _ d)).heap γ :=
      obs_congr (fun m hm => ⟨hH m hm, rfl⟩) jh _ (fun _ h => h) w5
    rw [hvs, hhs]
    refine tr_le (inE_env (Nat.le_of_ble_eq_true n2)) ?_
    refine (ex_ok hm _ c (Nat.lt_succ_self _) h _ _ γ hx (fun m hm => by cases hm)).mono ?_
    intro x e hq
    cases x with
    | normal => obtain ⟨γ', E', h1, h2, h3, h4, h5⟩ := hq; exact finO_ok w6 w7 n4 hH' h4 h2 h3 h5
    | ret => obtain ⟨γ', E', h1, h2, h3, h4, h5⟩ := hq; exact finO_ok w6 w7 n4 hH' h4 h2 h3 h5
    | exit i => obtain ⟨γ', E', h1, h2, h3, h4, _⟩ := hq; cases h4
    | _ => exact hq

/-- A function's contract. -/
noncomputable def Ow.mk' {P : Program} (hm : P.follows .mixedOrders = true) (cs : Cs P) (fu : Nat) (f : FuncId) (fn : Func) (js : List Sh) (jh : List (Nat × OSh)) (rs : List Sh) (rh : List (Nat × OSh)) (ne : List Nat) (h : HT)
    (hf : P.funcs[f]? = some fn) (hn : foOk fn js jh rh ne = true) (hw : owWf js jh rs rh ne = true)
    (F : Ds (Sh.tysL js ++ tysO jh) → Option (Ds (Sh.tysL rs ++ tysO rh))) (hF : F = exFo cs fu fn js jh rs rh h) : Ow P :=
  ⟨f, js, jh, rs, rh, ne, hw, F, fun d r hd γ H H' h1 h2 => exFo_ok hm hf hn hw (by rw [← hF]; exact hd) γ H H' h1 h2⟩

end Go.PG.PH

/- The interpreter's functions for mootkeep3.LineOrders and mootkeep3.LineFewer, with their contracts. -/
set_option maxRecDepth 100000
set_option linter.unusedVariables false
namespace Go.Proofs.Ytfhddbnacbcppaa
open Go.PG Go.PG.PH
theorem mixA : Try.prog.follows .mixedOrders = true := by kernel_rfl
-- moothall/mootmake.Below
def h_13 : HT := .n
noncomputable def mootmake_Below (p0 : Int) (p1 : Int) : Option (Int) :=
  (chk (p1 ≠ (0 : Int))).bind fun x => bif decide (p0.tmod p1 < (0 : Int)) then some (IntKind.i64.wrap (p0.tmod p1 + p1)) else some (p0.tmod p1)
noncomputable def c_13 : Ct Try.prog := .mk' mixA ⟨[], []⟩ 0 13 Try.f13 [.d (.int .i64), .d (.int .i64)] (.one (.int .i64)) h_13 Try.func13 (by kernel_rfl) (fun d => mootmake_Below d.1 d.2) (by kernel_rfl)

-- (*moothall/mootmake.Stream).Next
def h_32 : HT := (.s .n (.s (.j ⟨[0, 1], [2000], [(15, .dt .bool)], []⟩ .n .n) .n))
noncomputable def __mootmake_Stream__Next (p1 : Int) (p0_0 : List Int) : Option (Int × List Int) :=
  join
    (fun d =>
      bif d then some ((0 : Int), p0_0)
      else
        (idx p0_0 (0 : Int)).bind fun y =>
          (chk ((0 : Int) ≤ (1 : Int) ∧ (1 : Int) ≤ (↑p0_0.length : Int))).bind fun x => (mootmake_Below y p1).bind fun r => some (r, List.drop (Int.toNat (1 : Int)) p0_0))
    fun K => bif decide (p1 < (1 : Int)) then K true else K ((↑p0_0.length : Int) == (0 : Int))
noncomputable def o_32 : Ow Try.prog := .mk' mixA ⟨[c_13], []⟩ 0 32 Try.f32 [.pt 2000 1 0, .dt (.int .i64)] [(2000, .el true 1 [(.ag [.dt (.list (.int .i64))])])] [.dt (.int .i64)] [(2000, .el true 1 [(.ag [.dt (.list (.int .i64))])])] [] h_32 Try.func32 (by kernel_rfl) (by kernel_rfl) (fun d => __mootmake_Stream__Next d.1 d.2) (by kernel_rfl)

-- moothall/mootkeep3.rows
def h_14 : HT := (.s .n (.s .n (.s .n (.s (.s .n (.l ⟨[0, 5, 12, 13], [], [(6, .wn 34 2)], [(34, .ls (.pair (.list (.int .i64)) (.int .i64))), (10, .el true 1 [(.ag [.dt (.list (.int .i64))])])]⟩ (.s .n (.s (.s .n (.l ⟨[0, 5, 6, 7, 12, 13, 19, 20], [34], [], [(7, .el true 2 [(.ag [.wn 28 1, .dt (.int .i64)])]), (28, .ls (.int .i64)), (10, .el true 1 [(.ag [.dt (.list (.int .i64))])])]⟩ .n)) (.g [.sl 28 (.int .i64)]))))) .n))))
noncomputable def mootkeep3_rows (p0 : Int) (p1 : List Int) : Option (List (List Int × Int)) :=
  (join
        (fun d =>
          bif d then some ((0 : Int), p1)
          else
            (idx p1 (0 : Int)).bind fun y =>
              (chk ((0 : Int) ≤ (1 : Int) ∧ (1 : Int) ≤ (↑p1.length : Int))).bind fun x => (mootmake_Below y (9 : Int)).bind fun r => some (r, List.drop (Int.toNat (1 : Int)) p1))
        fun K => K ((↑p1.length : Int) == (0 : Int))).bind
    fun r =>
    (chk (r.fst ≤ (↑LIM : Int))).bind fun x =>
      cntK
        (fun k d next =>
          (join
                (fun d_1 =>
                  bif d_1 then some ((0 : Int), d.snd)
                  else
                    (idx d.snd (0 : Int)).bind fun y =>
                      (chk ((0 : Int) ≤ (1 : Int) ∧ (1 : Int) ≤ (↑d.snd.length : Int))).bind fun x =>
                        (mootmake_Below y (61 : Int)).bind fun r => some (r, List.drop (Int.toNat (1 : Int)) d.snd))
                fun K => K ((↑d.snd.length : Int) == (0 : Int))).bind
            fun r =>
            (chk (p0 ≤ (↑LIM : Int))).bind fun x =>
              cntK
                (fun k d next =>
                  (join
                        (fun d_1 =>
                          bif d_1 then some ((0 : Int), d.snd.snd)
                          else
                            (idx d.snd.snd (0 : Int)).bind fun y =>
                              (chk ((0 : Int) ≤ (1 : Int) ∧ (1 : Int) ≤ (↑d.snd.snd.length : Int))).bind fun x =>
                                (mootmake_Below y (11 : Int)).bind fun r => some (r, List.drop (Int.toNat (1 : Int)) d.snd.snd))
                        fun K => K ((↑d.snd.snd.length : Int) == (0 : Int))).bind
                    fun r => (chk (d.snd.fst.length + (1 : Nat) ≤ LIM)).bind fun x => next (d.fst, d.snd.fst ++ [IntKind.i64.wrap (r.fst - (5 : Int))], r.snd))
                (0 : Nat) p0.toNat (IntKind.i64.wrap (r.fst - (30 : Int)), [], r.snd) fun d_1 =>
                (chk (d.fst.length + (1 : Nat) ≤ LIM)).bind fun x => next (d.fst ++ [(d_1.snd.fst, d_1.fst)], d_1.snd.snd))
        (0 : Nat) r.fst.toNat ([], r.snd) fun d => some d.fst
noncomputable def c_14 : Ct Try.prog := .mk' mixA ⟨[], [o_32]⟩ 0 14 Try.f14 [.d (.int .i64), .d (.list (.int .i64))] (.one (.list (.pair (.list (.int .i64)) (.int .i64)))) h_14 Try.func14 (by kernel_rfl) (fun d => mootkeep3_rows d.1 d.2) (by kernel_rfl)

-- moothall/line.Check
def h_29 : HT := (.s .n (.s (.j ⟨[0, 1], [], [(19, .dt .bool)], []⟩ .n .n) (.s (.s .n (.l ⟨[1, 20, 21, 22], [], [], []⟩ (.s .n (.s .n (.s (.s .n (.l ⟨[1, 6, 20, 21, 22, 32, 33, 34], [6], [], []⟩ (.s .n (.j ⟨[1, 6, 20, 21, 22, 32, 33, 34], [6], [(43, .dt .bool)], []⟩ .n .n)))) (.j ⟨[1, 20, 21, 22], [], [(52, .dt .bool)], []⟩ .n .n)))))) .n)))
noncomputable def line_Check (p0 : List (List Int × Int)) (p1 : Int) : Option (Int) :=
  join
    (fun d =>
      bif d then some (2 : Int)
      else
        forK
          (fun k x d next =>
            bif (↑x.fst.length : Int) != p1 then some (3 : Int)
            else
              forK (fun k x d next => join (fun d => bif d then some (1 : Int) else next ()) fun K => bif decide (x < (-9 : Int)) then K true else K (decide (x > (9 : Int))))
                (0 : Nat) x.fst () fun d =>
                join (fun d => bif d then some (1 : Int) else next ()) fun K => bif decide (x.snd < (-99 : Int)) then K true else K (decide (x.snd > (99 : Int))))
          (0 : Nat) p0 () fun d => some (0 : Int))
    fun K => bif decide (p1 < (1 : Int)) then K true else bif decide (p1 > (3 : Int)) then K true else K (decide ((↑p0.length : Int) > (8 : Int)))
noncomputable def c_29 : Ct Try.prog := .mk' mixA ⟨[], []⟩ 0 29 Try.f29 [.d (.list (.pair (.list (.int .i64)) (.int .i64))), .d (.int .i64)] (.one (.int .i64)) h_29 Try.func29 (by kernel_rfl) (fun d => line_Check d.1 d.2) (by kernel_rfl)

-- slices.Clone[[]int,int]
def h_18 : HT := (.s .n (.s (.j ⟨[], [], [(0, .dt (.list (.int .i64))), (4, .dt .bool)], []⟩ (.q 0) .n) .n))
noncomputable def slices_Clone___int_int_ (p0 : List Int) : Option (List Int) :=
  join (fun d => bif d.snd then some [] else (chk ((0 : Nat) + d.fst.length ≤ LIM)).bind fun x => some d.fst) fun K =>
    lcase p0 (K ([], true)) (K ([], false)) fun x xs => K (x :: xs, false)
noncomputable def c_18 : Ct Try.prog := .mk' mixA ⟨[], []⟩ 0 18 Try.f18 [.d (.list (.int .i64))] (.one (.list (.int .i64))) h_18 Try.func18 (by kernel_rfl) (fun d => slices_Clone___int_int_ d) (by kernel_rfl)

-- moothall/line.add
def h_49 : HT := (.s .n (.s .n (.s (.s .n (.l ⟨[1, 3, 4, 6, 8, 9, 27, 28, 29], [4, 6, 8], [], [(9, .el true 3 [(.ag [.wn 53 1, .dt (.int .i64), .nl])]), (53, .ls (.int .i64))]⟩ .n)) (.s (.s .n (.l ⟨[1, 3, 4, 6, 8, 9, 58, 59, 60], [4, 6, 8, 53], [], [(9, .el false 3 [(.ag [.wn 53 1, .dt (.int .i64), .wn 81 1])]), (81, .ls (.int .i64))]⟩ .n)) .n))))
noncomputable def line_add (p0 : (List Int × Int) × List Int) (p1 : Int) (p2 : (List Int × Int) × List Int) (p3 : Int) : Option ((List Int × Int) × List Int) :=
  forK
    (fun k x d next =>
      (idx p0.fst.fst (↑k : Int)).bind fun y =>
        (idx p2.fst.fst (↑k : Int)).bind fun y_1 =>
          (chk (d.snd.length + (1 : Nat) ≤ LIM)).bind fun x => next (d.fst, d.snd ++ [IntKind.i64.wrap (IntKind.i64.wrap (p1 * y) + IntKind.i64.wrap (p3 * y_1))]))
    (0 : Nat) p0.fst.fst (IntKind.i64.wrap (IntKind.i64.wrap (p1 * p0.fst.snd) + IntKind.i64.wrap (p3 * p2.fst.snd)), []) fun d =>
    forK
      (fun k x d next =>
        (idx p0.snd (↑k : Int)).bind fun y =>
          (idx p2.snd (↑k : Int)).bind fun y_1 =>
            (chk (d.snd.length + (1 : Nat) ≤ LIM)).bind fun x => next (d.fst, d.snd ++ [IntKind.i64.wrap (IntKind.i64.wrap (p1 * y) + IntKind.i64.wrap (p3 * y_1))]))
      (0 : Nat) p0.snd (d.fst, []) fun d_1 => some ((d.snd, d_1.fst), d_1.snd)
noncomputable def c_49 : Ct Try.prog := .mk' mixA ⟨[], []⟩ 0 49 Try.f49 [.d (.pair (.pair (.list (.int .i64)) (.int .i64)) (.list (.int .i64))), .d (.int .i64), .d (.pair (.pair (.list (.int .i64)) (.int .i64)) (.list (.int .i64))), .d (.int .i64)] (.one (.pair (.pair (.list (.int .i64)) (.int .i64)) (.list (.int .i64)))) h_49 Try.func49 (by kernel_rfl) (fun d => line_add d.1 d.2.1 d.2.2.1 d.2.2.2) (by kernel_rfl)

-- moothall/line.without
def h_35 : HT := (.s .n (.s .n (.s (.s .n (.l ⟨[0, 1, 11, 12, 13], [], [(5, .wn 29 3)], [(29, .ls (.pair (.pair (.list (.int .i64)) (.int .i64)) (.list (.int .i64))))]⟩ (.s .n (.s .n (.s .n (.c .n (.s .n (.c (.s .n (.l ⟨[0, 1, 7, 8, 11, 12, 13, 33, 34, 35], [7], [(5, .wn 29 3)], [(29, .ls (.pair (.pair (.list (.int .i64)) (.int .i64)) (.list (.int .i64))))]⟩ .n)) .n)))))))) .n)))
noncomputable def line_without (p0 : List ((List Int × Int) × List Int)) (p1 : Int) : Option (List ((List Int × Int) × List Int)) :=
  forK
    (fun k x d next =>
      (idx x.fst.fst p1).bind fun y =>
        bif y == (0 : Int) then (chk (d.length + (1 : Nat) ≤ LIM)).bind fun x_1 => next (d ++ [((x.fst.fst, x.fst.snd), x.snd)])
        else
          bif decide (y > (0 : Int)) then
            forK
              (fun k x_1 d next =>
                (idx x_1.fst.fst p1).bind fun y_1 =>
                  bif decide (y_1 < (0 : Int)) then
                    (idx x_1.fst.fst p1).bind fun y_2 =>
                      (line_add ((x.fst.fst, x.fst.snd), x.snd) (IntKind.i64.wrap ((0 : Int) - y_2)) ((x_1.fst.fst, x_1.fst.snd), x_1.snd) y).bind fun r =>
                        (chk (d.length + (1 : Nat) ≤ LIM)).bind fun x => next (d ++ [r])
                  else next d)
              (0 : Nat) p0 d fun d => next d
          else next d)
    (0 : Nat) p0 [] fun d => some d
noncomputable def c_35 : Ct Try.prog := .mk' mixA ⟨[c_49], []⟩ 0 35 Try.f35 [.d (.list (.pair (.pair (.list (.int .i64)) (.int .i64)) (.list (.int .i64)))), .d (.int .i64)] (.one (.list (.pair (.pair (.list (.int .i64)) (.int .i64)) (.list (.int .i64))))) h_35 Try.func35 (by kernel_rfl) (fun d => line_without d.1 d.2) (by kernel_rfl)

-- moothall/line.common
def h_37 : HT := (.s .n (.s (.w ⟨[], [], [(0, .dt (.int .i64)), (1, .dt (.int .i64))], []⟩ .n) .n))
noncomputable def line_common (fu : Nat) (p0 : Int) (p1 : Int) : Option (Int) :=
  whK (fun self d => bif d.snd != (0 : Int) then (chk (d.snd ≠ (0 : Int))).bind fun x => self (d.snd, d.fst.tmod d.snd) else some d.fst) fu (p0, p1)
noncomputable def c_37 (fu : Nat) : Ct Try.prog := .mk' mixA ⟨[], []⟩ fu 37 Try.f37 [.d (.int .i64), .d (.int .i64)] (.one (.int .i64)) h_37 Try.func37 (by kernel_rfl) (fun d => line_common fu d.1 d.2) (by kernel_rfl)

-- moothall/line.lowest
def h_50 : HT := (.s .n (.j ⟨[4], [4], [(0, .dt (.int .i64)), (1, .dt (.int .i64))], []⟩ .n .n))
noncomputable def line_lowest (fu : Nat) (p0 : Int) (p1 : Int) : Option (Int × Int) :=
  join
    (fun d =>
      (line_common fu (if IntKind.i64.wrap ((0 : Int) - d.fst) > d.fst then IntKind.i64.wrap ((0 : Int) - d.fst) else d.fst) d.snd).bind fun r =>
        (chk (r ≠ (0 : Int))).bind fun x => (chk (r ≠ (0 : Int))).bind fun x => some (IntKind.i64.wrap (d.fst.tdiv r), IntKind.i64.wrap (d.snd.tdiv r)))
    fun K => bif decide (p1 < (0 : Int)) then K (IntKind.i64.wrap ((0 : Int) - p0), IntKind.i64.wrap ((0 : Int) - p1)) else K (p0, p1)
noncomputable def c_50 (fu : Nat) : Ct Try.prog := .mk' mixA ⟨[c_37 fu], []⟩ fu 50 Try.f50 [.d (.int .i64), .d (.int .i64)] (.one (.pair (.int .i64) (.int .i64))) h_50 Try.func50 (by kernel_rfl) (fun d => line_lowest fu d.1 d.2) (by kernel_rfl)

-- math/bits.Mul64
def h_68 : HT := .n
noncomputable def math_bits_Mul64 (p0 : Int) (p1 : Int) : Option (Int × Int) :=
  some
    (IntKind.u64.wrap
        (IntKind.u64.wrap
            (IntKind.u64.wrap (p0.fdiv ((2 : Int) ^ min (Int.toNat (32 : Int)) IntKind.u64.bits) * p1.fdiv ((2 : Int) ^ min (Int.toNat (32 : Int)) IntKind.u64.bits)) +
              (IntKind.u64.wrap
                    (IntKind.u64.wrap
                        (p0.fdiv ((2 : Int) ^ min (Int.toNat (32 : Int)) IntKind.u64.bits) *
                          IntKind.u64.wrap (↑(BitVec.ofInt IntKind.u64.bits p1 &&& BitVec.ofInt IntKind.u64.bits (4294967295 : Int)).toNat : Int)) +
                      (IntKind.u64.wrap
                            (IntKind.u64.wrap (↑(BitVec.ofInt IntKind.u64.bits p0 &&& BitVec.ofInt IntKind.u64.bits (4294967295 : Int)).toNat : Int) *
                              IntKind.u64.wrap (↑(BitVec.ofInt IntKind.u64.bits p1 &&& BitVec.ofInt IntKind.u64.bits (4294967295 : Int)).toNat : Int))).fdiv
                        ((2 : Int) ^ min (Int.toNat (32 : Int)) IntKind.u64.bits))).fdiv
                ((2 : Int) ^ min (Int.toNat (32 : Int)) IntKind.u64.bits)) +
          (IntKind.u64.wrap
                (IntKind.u64.wrap
                    (↑(BitVec.ofInt IntKind.u64.bits
                              (IntKind.u64.wrap
                                (IntKind.u64.wrap
                                    (p0.fdiv ((2 : Int) ^ min (Int.toNat (32 : Int)) IntKind.u64.bits) *
                                      IntKind.u64.wrap (↑(BitVec.ofInt IntKind.u64.bits p1 &&& BitVec.ofInt IntKind.u64.bits (4294967295 : Int)).toNat : Int)) +
                                  (IntKind.u64.wrap
                                        (IntKind.u64.wrap (↑(BitVec.ofInt IntKind.u64.bits p0 &&& BitVec.ofInt IntKind.u64.bits (4294967295 : Int)).toNat : Int) *
                                          IntKind.u64.wrap (↑(BitVec.ofInt IntKind.u64.bits p1 &&& BitVec.ofInt IntKind.u64.bits (4294967295 : Int)).toNat : Int))).fdiv
                                    ((2 : Int) ^ min (Int.toNat (32 : Int)) IntKind.u64.bits))) &&&
                            BitVec.ofInt IntKind.u64.bits (4294967295 : Int)).toNat :
                      Int) +
                  IntKind.u64.wrap
                    (IntKind.u64.wrap (↑(BitVec.ofInt IntKind.u64.bits p0 &&& BitVec.ofInt IntKind.u64.bits (4294967295 : Int)).toNat : Int) *
                      p1.fdiv ((2 : Int) ^ min (Int.toNat (32 : Int)) IntKind.u64.bits)))).fdiv
            ((2 : Int) ^ min (Int.toNat (32 : Int)) IntKind.u64.bits)),
      IntKind.u64.wrap (p0 * p1))
noncomputable def c_68 : Ct Try.prog := .mk' mixA ⟨[], []⟩ 0 68 Try.f68 [.d (.int .u64), .d (.int .u64)] (.many [(.int .u64), (.int .u64)]) h_68 Try.func68 (by kernel_rfl) (fun d => math_bits_Mul64 d.1 d.2) (by kernel_rfl)

-- moothall/line.cross
def h_67 : HT := .n
noncomputable def line_cross (p0 : Int) (p1 : Int) : Option (Bool × Int × Int) :=
  (math_bits_Mul64 (IntKind.u64.wrap (if IntKind.i64.wrap ((0 : Int) - p0) > p0 then IntKind.i64.wrap ((0 : Int) - p0) else p0))
        (IntKind.u64.wrap (if IntKind.i64.wrap ((0 : Int) - p1) > p1 then IntKind.i64.wrap ((0 : Int) - p1) else p1))).bind
    fun r =>
    bif !decide (p0 < (0 : Int)) == decide (p1 < (0 : Int)) then
      some (IntKind.u64.wrap (↑(BitVec.ofInt IntKind.u64.bits r.fst ||| BitVec.ofInt IntKind.u64.bits r.snd).toNat : Int) != (0 : Int), r.fst, r.snd)
    else some (false, r.fst, r.snd)
noncomputable def c_67 : Ct Try.prog := .mk' mixA ⟨[c_68], []⟩ 0 67 Try.f67 [.d (.int .i64), .d (.int .i64)] (.one (.pair .bool (.pair (.int .u64) (.int .u64)))) h_67 Try.func67 (by kernel_rfl) (fun d => line_cross d.1 d.2) (by kernel_rfl)

-- moothall/line.less
def h_62 : HT := (.s .n (.s .n (.s .n (.j ⟨[5, 6], [5, 6], [(7, .dt .bool)], []⟩ .n (.j ⟨[5, 7], [5], [(8, .dt .bool)], []⟩ .n (.j ⟨[], [], [(4, .dt .bool)], []⟩ .n .n))))))
noncomputable def line_less (p0 : Int × Int) (p1 : Int × Int) : Option (Bool) :=
  (line_cross p0.fst p1.snd).bind fun r =>
    (line_cross p1.fst p0.snd).bind fun r_1 =>
      bif !r.fst == r_1.fst then some r.fst
      else
        join
          (fun d =>
            join (fun d_1 => join (fun d => some d) fun K => bif r.fst then bif d then K true else bif !r.fst then K d_1 else K false else bif !r.fst then K d_1 else K false)
              fun K => bif decide (r.snd.fst < r_1.snd.fst) then K true else bif r.snd.fst == r_1.snd.fst then K (decide (r.snd.snd < r_1.snd.snd)) else K false)
          fun K => bif decide (r.snd.fst > r_1.snd.fst) then K true else bif r.snd.fst == r_1.snd.fst then K (decide (r.snd.snd > r_1.snd.snd)) else K false
noncomputable def c_62 : Ct Try.prog := .mk' mixA ⟨[c_67], []⟩ 0 62 Try.f62 [.d (.pair (.int .i64) (.int .i64)), .d (.pair (.int .i64) (.int .i64))] (.one .bool) h_62 Try.func62 (by kernel_rfl) (fun d => line_less d.1 d.2) (by kernel_rfl)

-- moothall/line.order
def h_52 : HT := .n
noncomputable def line_order (p0 : Int × Int) (p1 : Int × Int) : Option (Int) :=
  (line_less (p0.fst, p0.snd) (p1.fst, p1.snd)).bind fun r =>
    bif r then some (-1 : Int) else (line_less (p1.fst, p1.snd) (p0.fst, p0.snd)).bind fun r => bif r then some (1 : Int) else some (0 : Int)
noncomputable def c_52 : Ct Try.prog := .mk' mixA ⟨[c_62], []⟩ 0 52 Try.f52 [.d (.pair (.int .i64) (.int .i64)), .d (.pair (.int .i64) (.int .i64))] (.one (.int .i64)) h_52 Try.func52 (by kernel_rfl) (fun d => line_order d.1 d.2) (by kernel_rfl)

-- slices.MaxFunc[[]moothall/line.frac,moothall/line.frac]
def h_51_52 : HT := (.s .n (.s .n (.s .n (.s (.s .n (.w ⟨[0, 1, 4, 5], [4], [(6, .dt (.int .i64))], [(5, .el true 2 [(.ag [.dt (.int .i64), .dt (.int .i64)])])]⟩ (.s .n (.j ⟨[0, 1, 4, 5, 6], [4], [], [(5, .el true 2 [(.ag [.dt (.int .i64), .dt (.int .i64)])])]⟩ .n .n)))) .n))))
noncomputable def slices_MaxFunc___line_frac_line_frac__52 (fu : Nat) (p0 : List (Int × Int)) : Option (Int × Int) :=
  bif decide ((↑p0.length : Int) < (1 : Int)) then none
  else
    (idx p0 (0 : Int)).bind fun y =>
      whK
        (fun self d =>
          bif decide (d.fst < (↑p0.length : Int)) then
            join (fun d_1 => self (IntKind.i64.wrap (d.fst + (1 : Int)), d_1.fst, d_1.snd)) fun K =>
              (idx p0 d.fst).bind fun y =>
                (line_order (y.fst, y.snd) (d.snd.fst, d.snd.snd)).bind fun r =>
                  bif decide (r > (0 : Int)) then (idx p0 d.fst).bind fun y => K (y.fst, y.snd) else K (d.snd.fst, d.snd.snd)
          else some (d.snd.fst, d.snd.snd))
        fu ((1 : Int), y.fst, y.snd)
noncomputable def c_51_52 (fu : Nat) : Ct Try.prog := .mk' mixA ⟨[c_52], []⟩ fu 51 Try.f51 [.d (.list (.pair (.int .i64) (.int .i64))), .f 52 []] (.one (.pair (.int .i64) (.int .i64))) h_51_52 Try.func51 (by kernel_rfl) (fun d => slices_MaxFunc___line_frac_line_frac__52 fu d) (by kernel_rfl)

-- slices.MinFunc[[]moothall/line.frac,moothall/line.frac]
def h_53_52 : HT := (.s .n (.s .n (.s .n (.s (.s .n (.w ⟨[0, 1, 4, 5], [4], [(6, .dt (.int .i64))], [(5, .el true 2 [(.ag [.dt (.int .i64), .dt (.int .i64)])])]⟩ (.s .n (.j ⟨[0, 1, 4, 5, 6], [4], [], [(5, .el true 2 [(.ag [.dt (.int .i64), .dt (.int .i64)])])]⟩ .n .n)))) .n))))
noncomputable def slices_MinFunc___line_frac_line_frac__52 (fu : Nat) (p0 : List (Int × Int)) : Option (Int × Int) :=
  bif decide ((↑p0.length : Int) < (1 : Int)) then none
  else
    (idx p0 (0 : Int)).bind fun y =>
      whK
        (fun self d =>
          bif decide (d.fst < (↑p0.length : Int)) then
            join (fun d_1 => self (IntKind.i64.wrap (d.fst + (1 : Int)), d_1.fst, d_1.snd)) fun K =>
              (idx p0 d.fst).bind fun y =>
                (line_order (y.fst, y.snd) (d.snd.fst, d.snd.snd)).bind fun r =>
                  bif decide (r < (0 : Int)) then (idx p0 d.fst).bind fun y => K (y.fst, y.snd) else K (d.snd.fst, d.snd.snd)
          else some (d.snd.fst, d.snd.snd))
        fu ((1 : Int), y.fst, y.snd)
noncomputable def c_53_52 (fu : Nat) : Ct Try.prog := .mk' mixA ⟨[c_52], []⟩ fu 53 Try.f53 [.d (.list (.pair (.int .i64) (.int .i64))), .f 52 []] (.one (.pair (.int .i64) (.int .i64))) h_53_52 Try.func53 (by kernel_rfl) (fun d => slices_MinFunc___line_frac_line_frac__52 fu d) (by kernel_rfl)

-- moothall/line.choose
def h_36 : HT := (.s .n (.s .n (.s (.s .n (.l ⟨[1, 2, 6, 16, 17, 18], [6], [(7, .wn 89 2), (8, .wn 85 2)], [(85, .ls (.pair (.int .i64) (.int .i64))), (89, .ls (.pair (.int .i64) (.int .i64)))]⟩ (.s .n (.s .n (.s .n (.s (.s .n (.l ⟨[1, 2, 6, 7, 8, 10, 16, 17, 18, 32, 33, 34], [85, 6, 89, 10], [(11, .dt (.int .i64)), (12, .dt (.int .i64))], []⟩ .n)) .n)))))) .n)))
noncomputable def line_choose (fu : Nat) (p0 : List ((List Int × Int) × List Int)) (p1 : Int) (p2 : List (Int × Int)) : Option (Int × Int) :=
  forK
    (fun k x d next =>
      (idx x.fst.fst p1).bind fun y =>
        bif y == (0 : Int) then next (d.fst, d.snd)
        else
          forK
            (fun k x_1 d next =>
              (idx x.fst.fst (↑k : Int)).bind fun y =>
                next (IntKind.i64.wrap (IntKind.i64.wrap (d.fst * x_1.snd) - IntKind.i64.wrap (IntKind.i64.wrap (y * x_1.fst) * d.snd)), IntKind.i64.wrap (d.snd * x_1.snd)))
            (0 : Nat) p2 (x.fst.snd, (1 : Int)) fun d_1 =>
            (line_lowest fu d_1.fst d_1.snd).bind fun r =>
              (idx x.fst.fst p1).bind fun y =>
                (line_lowest fu r.fst (IntKind.i64.wrap (r.snd * y))).bind fun r =>
                  (idx x.fst.fst p1).bind fun y =>
                    bif decide (y > (0 : Int)) then (chk (d.fst.length + (1 : Nat) ≤ LIM)).bind fun x => next (d.fst ++ [(r.fst, r.snd)], d.snd)
                    else (chk (d.snd.length + (1 : Nat) ≤ LIM)).bind fun x => next (d.fst, d.snd ++ [(r.fst, r.snd)]))
    (0 : Nat) p0 ([], []) fun d =>
    bif decide ((↑d.snd.length : Int) > (0 : Int)) then (slices_MaxFunc___line_frac_line_frac__52 fu d.snd).bind fun r => some (r.fst, r.snd)
    else bif decide ((↑d.fst.length : Int) > (0 : Int)) then (slices_MinFunc___line_frac_line_frac__52 fu d.fst).bind fun r => some (r.fst, r.snd) else some ((0 : Int), (1 : Int))
noncomputable def c_36 (fu : Nat) : Ct Try.prog := .mk' mixA ⟨[c_50 fu, c_51_52 fu, c_53_52 fu, c_52], []⟩ fu 36 Try.f36 [.d (.list (.pair (.pair (.list (.int .i64)) (.int .i64)) (.list (.int .i64)))), .d (.int .i64), .d (.list (.pair (.int .i64) (.int .i64)))] (.one (.pair (.int .i64) (.int .i64))) h_36 Try.func36 (by kernel_rfl) (fun d => line_choose fu d.1 d.2.1 d.2.2) (by kernel_rfl)

-- moothall/line.Solve
def h_8 : HT := (.s .n (.s .n (.s .n (.s (.s .n (.l ⟨[0, 1, 4, 32, 33, 34], [4], [(9, .wn 55 3)], [(55, .ls (.pair (.pair (.list (.int .i64)) (.int .i64)) (.list (.int .i64))))]⟩ (.s .n (.s .n (.s .n (.g [.sl 41 (.int .i64)])))))) (.s .n (.s .n (.s (.s .n (.w ⟨[1, 4, 13], [4], [(14, .dt (.int .i64))], [(59, .ls (.list (.pair (.pair (.list (.int .i64)) (.int .i64)) (.list (.int .i64)))))]⟩ .n)) (.s (.s .n (.l ⟨[1, 4, 13, 82, 83, 84], [4, 59], [], []⟩ .n)) (.s .n (.s (.s .n (.l ⟨[4, 13, 96, 97], [4, 59], [(17, .wn 110 2)], [(110, .ls (.pair (.int .i64) (.int .i64)))]⟩ .n)) (.s .n (.s (.s .n (.l ⟨[4, 17, 112, 113, 114], [4, 110], [(19, .dt (.int .i64))], []⟩ .n)) (.s .n (.s (.s .n (.l ⟨[4, 19, 22, 130, 131, 132], [4, 110], [], [(22, .el true 2 [(.ag [.wn 146 1, .dt (.int .i64)])]), (146, .ls (.int .i64))]⟩ .n)) .n))))))))))))))
noncomputable def line_Solve (fu : Nat) (p0 : List (List Int × Int)) (p1 : Int) : Option ((List Int × Int) × List Int × Bool × Int) :=
  (line_Check p0 p1).bind fun r =>
    bif r != (0 : Int) then some (([], (0 : Int)), [], false, r)
    else
      forK
        (fun k x d next =>
          (chk ((0 : Int) ≤ (↑p0.length : Int) ∧ (↑p0.length : Int) ≤ (↑p0.length : Int) ∧ (↑p0.length : Int) ≤ (↑LIM : Int))).bind fun x_1 =>
            (chk ((0 : Int) ≤ (↑k : Int) ∧ (↑k : Int) < (↑(List.replicate (↑p0.length : Int).toNat (0 : Int)).length : Int))).bind fun x_2 =>
              (chk ((↑k : Int).toNat < (List.replicate (↑p0.length : Int).toNat (0 : Int)).length)).bind fun x_3 =>
                (slices_Clone___int_int_ x.fst).bind fun r =>
                  (chk (d.length + (1 : Nat) ≤ LIM)).bind fun x_4 => next (d ++ [((r, x.snd), (List.replicate (↑p0.length : Int).toNat (0 : Int)).set (↑k : Int).toNat (1 : Int))]))
        (0 : Nat) p0 [] fun d =>
        (chk
              ((0 : Int) ≤ IntKind.i64.wrap (p1 + (1 : Int)) ∧
                IntKind.i64.wrap (p1 + (1 : Int)) ≤ IntKind.i64.wrap (p1 + (1 : Int)) ∧ IntKind.i64.wrap (p1 + (1 : Int)) ≤ (↑LIM : Int))).bind
          fun x =>
          (chk ((0 : Int) ≤ p1 ∧ p1 < (↑(List.replicate (IntKind.i64.wrap (p1 + (1 : Int))).toNat (@List.nil ((List Int × Int) × List Int))).length : Int))).bind fun x =>
            (chk (p1.toNat < (List.replicate (IntKind.i64.wrap (p1 + (1 : Int))).toNat (@List.nil ((List Int × Int) × List Int))).length)).bind fun x =>
              whK
                (fun self d =>
                  bif decide (d.fst ≥ (0 : Int)) then
                    (chk ((0 : Int) ≤ IntKind.i64.wrap (d.fst + (1 : Int)) ∧ IntKind.i64.wrap (d.fst + (1 : Int)) < (↑d.snd.length : Int))).bind fun x =>
                      d.snd[(IntKind.i64.wrap (d.fst + (1 : Int))).toNat]?.bind fun x =>
                        (line_without x d.fst).bind fun r =>
                          (chk ((0 : Int) ≤ d.fst ∧ d.fst < (↑d.snd.length : Int))).bind fun x =>
                            (chk (d.fst.toNat < d.snd.length)).bind fun x => self (IntKind.i64.wrap (d.fst - (1 : Int)), d.snd.set d.fst.toNat r)
                  else
                    (chk ((0 : Int) ≤ (0 : Int) ∧ (0 : Int) < (↑d.snd.length : Int))).bind fun x =>
                      d.snd[(0 : Nat)]?.bind fun x =>
                        forK (fun k x d next => bif decide (x.fst.snd < (0 : Int)) then some (([], (0 : Int)), x.snd, false, (0 : Int)) else next ()) (0 : Nat) x () fun d_1 =>
                          (chk (p1 ≤ (↑LIM : Int))).bind fun x =>
                            cntK
                              (fun k d_2 next =>
                                (chk ((0 : Int) ≤ IntKind.i64.wrap ((↑k : Int) + (1 : Int)) ∧ IntKind.i64.wrap ((↑k : Int) + (1 : Int)) < (↑d.snd.length : Int))).bind fun x =>
                                  d.snd[(IntKind.i64.wrap ((↑k : Int) + (1 : Int))).toNat]?.bind fun x =>
                                    (line_choose fu x (↑k : Int) d_2).bind fun r => (chk (d_2.length + (1 : Nat) ≤ LIM)).bind fun x => next (d_2 ++ [r]))
                              (0 : Nat) p1.toNat [] fun d =>
                              (chk ((↑d.length : Int) ≤ (↑LIM : Int))).bind fun x =>
                                cntK
                                  (fun k d_2 next =>
                                    (chk ((0 : Int) ≤ (↑k : Int) ∧ (↑k : Int) < (↑d.length : Int))).bind fun x =>
                                      d[(↑k : Int).toNat]?.bind fun x =>
                                        (line_common fu d_2 x.snd).bind fun r =>
                                          (chk (r ≠ (0 : Int))).bind fun x_1 => next (IntKind.i64.wrap (IntKind.i64.wrap (d_2.tdiv r) * x.snd)))
                                  (0 : Nat) (↑d.length : Int).toNat (1 : Int) fun d_2 =>
                                  (chk ((↑d.length : Int) ≤ (↑LIM : Int))).bind fun x =>
                                    cntK
                                      (fun k d_3 next =>
                                        (chk ((0 : Int) ≤ (↑k : Int) ∧ (↑k : Int) < (↑d.length : Int))).bind fun x =>
                                          d[(↑k : Int).toNat]?.bind fun x =>
                                            (chk (x.snd ≠ (0 : Int))).bind fun x_1 =>
                                              (chk (d_3.snd.length + (1 : Nat) ≤ LIM)).bind fun x_2 =>
                                                next (d_3.fst, d_3.snd ++ [IntKind.i64.wrap (x.fst * IntKind.i64.wrap (d_2.tdiv x.snd))]))
                                      (0 : Nat) (↑d.length : Int).toNat (d_2, []) fun d => some ((d.snd, d.fst), [], true, (0 : Int)))
                fu (IntKind.i64.wrap (p1 - (1 : Int)), (List.replicate (IntKind.i64.wrap (p1 + (1 : Int))).toNat (@List.nil ((List Int × Int) × List Int))).set p1.toNat d)
noncomputable def c_8 (fu : Nat) : Ct Try.prog := .mk' mixA ⟨[c_29, c_18, c_35, c_36 fu, c_37 fu], []⟩ fu 8 Try.f8 [.d (.list (.pair (.list (.int .i64)) (.int .i64))), .d (.int .i64)] (.many [(.pair (.list (.int .i64)) (.int .i64)), (.list (.int .i64)), .bool, (.int .i64)]) h_8 Try.func8 (by kernel_rfl) (fun d => line_Solve fu d.1 d.2) (by kernel_rfl)

-- slices.Clone[[]moothall/line.Row,moothall/line.Row]
def h_15w0 : HT := (.s .n (.s (.j ⟨[], [], [(0, .dt (.list (.pair (.list (.int .i64)) (.int .i64)))), (4, .dt .bool)], []⟩ (.q 0) .n) .n))
noncomputable def slices_Clone___line_Row_line_Row__w0 (p0 : List (List Int × Int)) : Option (List (List Int × Int)) :=
  join (fun d => bif d.snd then some [] else (chk ((0 : Nat) + d.fst.length ≤ LIM)).bind fun x => some d.fst) fun K =>
    lcase p0 (K ([], true)) (K ([], false)) fun x xs => K (x :: xs, false)
noncomputable def o_15w0 : Ow Try.prog := .mk' mixA ⟨[], []⟩ 0 15 Try.f15 [.dt (.list (.pair (.list (.int .i64)) (.int .i64)))] [] [.wn 5 2] [(5, .ls (.pair (.list (.int .i64)) (.int .i64)))] [5] h_15w0 Try.func15 (by kernel_rfl) (by kernel_rfl) (fun d => slices_Clone___line_Row_line_Row__w0 d) (by kernel_rfl)

-- slices.Reverse[[]moothall/line.Row,moothall/line.Row]
def h_16 : HT := (.s .n (.w ⟨[0], [], [(2, .dt (.int .i64)), (3, .dt (.int .i64))], [(2000, .ls (.pair (.list (.int .i64)) (.int .i64)))]⟩ .n))
noncomputable def slices_Reverse___line_Row_line_Row_ (fu : Nat) (p0 : List (List Int × Int)) : Option (List (List Int × Int)) :=
  whK
    (fun self d =>
      bif decide (d.fst < d.snd.fst) then
        (chk ((0 : Int) ≤ d.snd.fst ∧ d.snd.fst < (↑d.snd.snd.length : Int))).bind fun x =>
          d.snd.snd[d.snd.fst.toNat]?.bind fun x =>
            (chk ((0 : Int) ≤ d.fst ∧ d.fst < (↑d.snd.snd.length : Int))).bind fun x_1 =>
              d.snd.snd[d.fst.toNat]?.bind fun x_2 =>
                (chk ((0 : Int) ≤ d.fst ∧ d.fst < (↑d.snd.snd.length : Int))).bind fun x_3 =>
                  (chk (d.fst.toNat < d.snd.snd.length)).bind fun x_4 =>
                    (chk ((0 : Int) ≤ d.snd.fst ∧ d.snd.fst < (↑(d.snd.snd.set d.fst.toNat x).length : Int))).bind fun x_5 =>
                      (chk (d.snd.fst.toNat < (d.snd.snd.set d.fst.toNat x).length)).bind fun x_6 =>
                        self (IntKind.i64.wrap (d.fst + (1 : Int)), IntKind.i64.wrap (d.snd.fst - (1 : Int)), (d.snd.snd.set d.fst.toNat x).set d.snd.fst.toNat x_2)
      else some d.snd.snd)
    fu ((0 : Int), IntKind.i64.wrap ((↑p0.length : Int) - (1 : Int)), p0)
noncomputable def o_16 (fu : Nat) : Ow Try.prog := .mk' mixA ⟨[], []⟩ fu 16 Try.f16 [.wn 2000 2] [(2000, .ls (.pair (.list (.int .i64)) (.int .i64)))] [] [(2000, .ls (.pair (.list (.int .i64)) (.int .i64)))] [] h_16 Try.func16 (by kernel_rfl) (by kernel_rfl) (fun d => slices_Reverse___line_Row_line_Row_ fu d) (by kernel_rfl)

-- moothall/line.Solve
def h_8l0 : HT := (.s .n (.s .n (.s .n (.s (.s .n (.l ⟨[0, 1, 4, 32, 33, 34], [2000, 4], [(9, .wn 55 3)], [(55, .ls (.pair (.pair (.list (.int .i64)) (.int .i64)) (.list (.int .i64))))]⟩ (.s .n (.s .n (.s .n (.g [.sl 41 (.int .i64)])))))) (.s .n (.s .n (.s (.s .n (.w ⟨[1, 4, 13], [2000, 4], [(14, .dt (.int .i64))], [(59, .ls (.list (.pair (.pair (.list (.int .i64)) (.int .i64)) (.list (.int .i64)))))]⟩ .n)) (.s (.s .n (.l ⟨[1, 4, 13, 82, 83, 84], [2000, 4, 59], [], []⟩ .n)) (.s .n (.s (.s .n (.l ⟨[4, 13, 96, 97], [2000, 4, 59], [(17, .wn 110 2)], [(110, .ls (.pair (.int .i64) (.int .i64)))]⟩ .n)) (.s .n (.s (.s .n (.l ⟨[4, 17, 112, 113, 114], [2000, 4, 110], [(19, .dt (.int .i64))], []⟩ .n)) (.s .n (.s (.s .n (.l ⟨[4, 19, 22, 130, 131, 132], [2000, 4, 110], [], [(22, .el true 2 [(.ag [.wn 146 1, .dt (.int .i64)])]), (146, .ls (.int .i64))]⟩ .n)) .n))))))))))))))
noncomputable def line_Solve_l0 (fu : Nat) (p1 : Int) (p0 : List (List Int × Int)) : Option ((List Int × Int) × List Int × Bool × Int × List (List Int × Int)) :=
  (line_Check p0 p1).bind fun r =>
    bif r != (0 : Int) then some (([], (0 : Int)), [], false, r, p0)
    else
      (chk ((↑p0.length : Int) ≤ (↑LIM : Int))).bind fun x =>
        cntK
          (fun k d next =>
            (chk ((0 : Int) ≤ (↑k : Int) ∧ (↑k : Int) < (↑p0.length : Int))).bind fun x =>
              p0[(↑k : Int).toNat]?.bind fun x =>
                (chk ((0 : Int) ≤ (↑p0.length : Int) ∧ (↑p0.length : Int) ≤ (↑p0.length : Int) ∧ (↑p0.length : Int) ≤ (↑LIM : Int))).bind fun x_1 =>
                  (chk ((0 : Int) ≤ (↑k : Int) ∧ (↑k : Int) < (↑(List.replicate (↑p0.length : Int).toNat (0 : Int)).length : Int))).bind fun x_2 =>
                    (chk ((↑k : Int).toNat < (List.replicate (↑p0.length : Int).toNat (0 : Int)).length)).bind fun x_3 =>
                      (slices_Clone___int_int_ x.fst).bind fun r =>
                        (chk (d.length + (1 : Nat) ≤ LIM)).bind fun x_4 =>
                          next (d ++ [((r, x.snd), (List.replicate (↑p0.length : Int).toNat (0 : Int)).set (↑k : Int).toNat (1 : Int))]))
          (0 : Nat) (↑p0.length : Int).toNat [] fun d =>
          (chk
                ((0 : Int) ≤ IntKind.i64.wrap (p1 + (1 : Int)) ∧
                  IntKind.i64.wrap (p1 + (1 : Int)) ≤ IntKind.i64.wrap (p1 + (1 : Int)) ∧ IntKind.i64.wrap (p1 + (1 : Int)) ≤ (↑LIM : Int))).bind
            fun x =>
            (chk ((0 : Int) ≤ p1 ∧ p1 < (↑(List.replicate (IntKind.i64.wrap (p1 + (1 : Int))).toNat (@List.nil ((List Int × Int) × List Int))).length : Int))).bind fun x =>
              (chk (p1.toNat < (List.replicate (IntKind.i64.wrap (p1 + (1 : Int))).toNat (@List.nil ((List Int × Int) × List Int))).length)).bind fun x =>
                whK
                  (fun self d =>
                    bif decide (d.fst ≥ (0 : Int)) then
                      (chk ((0 : Int) ≤ IntKind.i64.wrap (d.fst + (1 : Int)) ∧ IntKind.i64.wrap (d.fst + (1 : Int)) < (↑d.snd.length : Int))).bind fun x =>
                        d.snd[(IntKind.i64.wrap (d.fst + (1 : Int))).toNat]?.bind fun x =>
                          (line_without x d.fst).bind fun r =>
                            (chk ((0 : Int) ≤ d.fst ∧ d.fst < (↑d.snd.length : Int))).bind fun x =>
                              (chk (d.fst.toNat < d.snd.length)).bind fun x => self (IntKind.i64.wrap (d.fst - (1 : Int)), d.snd.set d.fst.toNat r)
                    else
                      (chk ((0 : Int) ≤ (0 : Int) ∧ (0 : Int) < (↑d.snd.length : Int))).bind fun x =>
                        d.snd[(0 : Nat)]?.bind fun x =>
                          forK (fun k x d next => bif decide (x.fst.snd < (0 : Int)) then some (([], (0 : Int)), x.snd, false, (0 : Int), p0) else next ()) (0 : Nat) x () fun d_1 =>
                            (chk (p1 ≤ (↑LIM : Int))).bind fun x =>
                              cntK
                                (fun k d_2 next =>
                                  (chk ((0 : Int) ≤ IntKind.i64.wrap ((↑k : Int) + (1 : Int)) ∧ IntKind.i64.wrap ((↑k : Int) + (1 : Int)) < (↑d.snd.length : Int))).bind fun x =>
                                    d.snd[(IntKind.i64.wrap ((↑k : Int) + (1 : Int))).toNat]?.bind fun x =>
                                      (line_choose fu x (↑k : Int) d_2).bind fun r => (chk (d_2.length + (1 : Nat) ≤ LIM)).bind fun x => next (d_2 ++ [r]))
                                (0 : Nat) p1.toNat [] fun d =>
                                (chk ((↑d.length : Int) ≤ (↑LIM : Int))).bind fun x =>
                                  cntK
                                    (fun k d_2 next =>
                                      (chk ((0 : Int) ≤ (↑k : Int) ∧ (↑k : Int) < (↑d.length : Int))).bind fun x =>
                                        d[(↑k : Int).toNat]?.bind fun x =>
                                          (line_common fu d_2 x.snd).bind fun r =>
                                            (chk (r ≠ (0 : Int))).bind fun x_1 => next (IntKind.i64.wrap (IntKind.i64.wrap (d_2.tdiv r) * x.snd)))
                                    (0 : Nat) (↑d.length : Int).toNat (1 : Int) fun d_2 =>
                                    (chk ((↑d.length : Int) ≤ (↑LIM : Int))).bind fun x =>
                                      cntK
                                        (fun k d_3 next =>
                                          (chk ((0 : Int) ≤ (↑k : Int) ∧ (↑k : Int) < (↑d.length : Int))).bind fun x =>
                                            d[(↑k : Int).toNat]?.bind fun x =>
                                              (chk (x.snd ≠ (0 : Int))).bind fun x_1 =>
                                                (chk (d_3.snd.length + (1 : Nat) ≤ LIM)).bind fun x_2 =>
                                                  next (d_3.fst, d_3.snd ++ [IntKind.i64.wrap (x.fst * IntKind.i64.wrap (d_2.tdiv x.snd))]))
                                        (0 : Nat) (↑d.length : Int).toNat (d_2, []) fun d => some ((d.snd, d.fst), [], true, (0 : Int), p0))
                  fu (IntKind.i64.wrap (p1 - (1 : Int)), (List.replicate (IntKind.i64.wrap (p1 + (1 : Int))).toNat (@List.nil ((List Int × Int) × List Int))).set p1.toNat d)
noncomputable def o_8l0 (fu : Nat) : Ow Try.prog := .mk' mixA ⟨[c_29, c_18, c_35, c_36 fu, c_37 fu], []⟩ fu 8 Try.f8 [.wn 2000 2, .dt (.int .i64)] [(2000, .ls (.pair (.list (.int .i64)) (.int .i64)))] [.dt (.pair (.list (.int .i64)) (.int .i64)), .dt (.list (.int .i64)), .dt .bool, .dt (.int .i64)] [(2000, .ls (.pair (.list (.int .i64)) (.int .i64)))] [] h_8l0 Try.func8 (by kernel_rfl) (by kernel_rfl) (fun d => line_Solve_l0 fu d.1 d.2) (by kernel_rfl)

-- moothall/mootkeep3.lined
def h_17 : HT := (.s .n (.s .n (.j ⟨[], [], [(0, .dt .bool)], []⟩ .n .n)))
noncomputable def mootkeep3_lined (fu : Nat) : Option (Bool) :=
  (line_Solve fu [([(0 : Int)], (-1 : Int))] (1 : Int)).bind fun r =>
    join (fun d => some d) fun K =>
      bif r.snd.snd.snd == (0 : Int) then
        bif !r.snd.snd.fst then bif (↑r.snd.fst.length : Int) == (1 : Int) then (idx r.snd.fst (0 : Int)).bind fun y => K (decide (y > (0 : Int))) else K false else K false
      else K false
noncomputable def c_17 (fu : Nat) : Ct Try.prog := .mk' mixA ⟨[c_8 fu], []⟩ fu 17 Try.f17 [] (.one .bool) h_17 Try.func17 (by kernel_rfl) (fun d => mootkeep3_lined fu) (by kernel_rfl)

-- moothall/mootkeep3.LineOrders
def h_4 : HT := (.s .n (.s .n (.s .n (.s .n (.s .n (.s .n (.s .n (.s (.j ⟨[1, 5, 6, 9], [], [(61, .dt .bool)], []⟩ .n .n) (.s (.j ⟨[1, 5, 6, 9], [], [(69, .dt .bool)], []⟩ .n .n) .n)))))))))
noncomputable def mootkeep3_LineOrders (fu : Nat) (p0 : List Int) (p1 : Int) : Option (Bool) :=
  (mootmake_Below p1 (3 : Int)).bind fun r =>
    (mootkeep3_rows (IntKind.i64.wrap ((1 : Int) + r)) p0).bind fun r_1 =>
      (line_Solve fu r_1 (IntKind.i64.wrap ((1 : Int) + r))).bind fun r_2 =>
        (slices_Clone___line_Row_line_Row__w0 r_1).bind fun r_3 =>
          (slices_Reverse___line_Row_line_Row_ fu r_3).bind fun r_4 =>
            (chk (r_4.length = r_3.length)).bind fun x =>
              (line_Solve_l0 fu (IntKind.i64.wrap ((1 : Int) + r)) r_4).bind fun r_5 =>
                (chk (r_5.snd.snd.snd.snd.length = r_4.length)).bind fun x =>
                  join
                    (fun d =>
                      bif d then some false
                      else
                        join
                          (fun d =>
                            bif d then
                              (idx r_1 (0 : Int)).bind fun y =>
                                (slices_Clone___int_int_ y.fst).bind fun r_6 =>
                                  (idx r_1 (0 : Int)).bind fun y =>
                                    (mootmake_Below p1 (9 : Int)).bind fun r_7 =>
                                      (slices_Clone___line_Row_line_Row__w0 r_1).bind fun r_8 =>
                                        (chk (r_8.length + (1 : Nat) ≤ LIM)).bind fun x =>
                                          (line_Solve_l0 fu (IntKind.i64.wrap ((1 : Int) + r)) (r_8 ++ [(r_6, IntKind.i64.wrap (y.snd + r_7))])).bind fun r =>
                                            (chk (r.snd.snd.snd.snd.length = (r_8 ++ [(r_6, IntKind.i64.wrap (y.snd + r_7))]).length)).bind fun x =>
                                              bif r.snd.snd.snd.fst == (0 : Int) then some (r.snd.snd.fst == r_2.snd.snd.fst) else some false
                            else some true)
                          fun K => bif decide ((↑r_1.length : Int) > (0 : Int)) then K (decide ((↑r_1.length : Int) < (8 : Int))) else K false)
                    fun K =>
                    (mootkeep3_lined fu).bind fun r =>
                      bif !r then K true
                      else bif r_2.snd.snd.snd != (0 : Int) then K true else bif r_5.snd.snd.snd.fst != (0 : Int) then K true else K !r_2.snd.snd.fst == r_5.snd.snd.fst
noncomputable def c_4 (fu : Nat) : Ct Try.prog := .mk' mixA ⟨[c_13, c_14, c_8 fu, c_17 fu, c_18], [o_15w0, o_16 fu, o_8l0 fu]⟩ fu 4 Try.f4 [.d (.list (.int .i64)), .d (.int .i64)] (.one .bool) h_4 Try.func4 (by kernel_rfl) (fun d => mootkeep3_LineOrders fu d.1 d.2) (by kernel_rfl)

-- moothall/mootkeep3.rows
def h_14w0 : HT := (.s .n (.s .n (.s .n (.s (.s .n (.l ⟨[0, 5, 12, 13], [], [(6, .wn 34 2)], [(34, .ls (.pair (.list (.int .i64)) (.int .i64))), (10, .el true 1 [(.ag [.dt (.list (.int .i64))])])]⟩ (.s .n (.s (.s .n (.l ⟨[0, 5, 6, 7, 12, 13, 19, 20], [34], [], [(7, .el true 2 [(.ag [.wn 28 1, .dt (.int .i64)])]), (28, .ls (.int .i64)), (10, .el true 1 [(.ag [.dt (.list (.int .i64))])])]⟩ .n)) (.g [.sl 28 (.int .i64)]))))) .n))))
noncomputable def mootkeep3_rows_w0 (p0 : Int) (p1 : List Int) : Option (List (List Int × Int)) :=
  (join
        (fun d =>
          bif d then some ((0 : Int), p1)
          else
            (idx p1 (0 : Int)).bind fun y =>
              (chk ((0 : Int) ≤ (1 : Int) ∧ (1 : Int) ≤ (↑p1.length : Int))).bind fun x => (mootmake_Below y (9 : Int)).bind fun r => some (r, List.drop (Int.toNat (1 : Int)) p1))
        fun K => K ((↑p1.length : Int) == (0 : Int))).bind
    fun r =>
    (chk (r.fst ≤ (↑LIM : Int))).bind fun x =>
      cntK
        (fun k d next =>
          (join
                (fun d_1 =>
                  bif d_1 then some ((0 : Int), d.snd)
                  else
                    (idx d.snd (0 : Int)).bind fun y =>
                      (chk ((0 : Int) ≤ (1 : Int) ∧ (1 : Int) ≤ (↑d.snd.length : Int))).bind fun x =>
                        (mootmake_Below y (61 : Int)).bind fun r => some (r, List.drop (Int.toNat (1 : Int)) d.snd))
                fun K => K ((↑d.snd.length : Int) == (0 : Int))).bind
            fun r =>
            (chk (p0 ≤ (↑LIM : Int))).bind fun x =>
              cntK
                (fun k d next =>
                  (join
                        (fun d_1 =>
                          bif d_1 then some ((0 : Int), d.snd.snd)
                          else
                            (idx d.snd.snd (0 : Int)).bind fun y =>
                              (chk ((0 : Int) ≤ (1 : Int) ∧ (1 : Int) ≤ (↑d.snd.snd.length : Int))).bind fun x =>
                                (mootmake_Below y (11 : Int)).bind fun r => some (r, List.drop (Int.toNat (1 : Int)) d.snd.snd))
                        fun K => K ((↑d.snd.snd.length : Int) == (0 : Int))).bind
                    fun r => (chk (d.snd.fst.length + (1 : Nat) ≤ LIM)).bind fun x => next (d.fst, d.snd.fst ++ [IntKind.i64.wrap (r.fst - (5 : Int))], r.snd))
                (0 : Nat) p0.toNat (IntKind.i64.wrap (r.fst - (30 : Int)), [], r.snd) fun d_1 =>
                (chk (d.fst.length + (1 : Nat) ≤ LIM)).bind fun x => next (d.fst ++ [(d_1.snd.fst, d_1.fst)], d_1.snd.snd))
        (0 : Nat) r.fst.toNat ([], r.snd) fun d => some d.fst
noncomputable def o_14w0 : Ow Try.prog := .mk' mixA ⟨[], [o_32]⟩ 0 14 Try.f14 [.dt (.int .i64), .dt (.list (.int .i64))] [] [.wn 34 2] [(34, .ls (.pair (.list (.int .i64)) (.int .i64)))] [34] h_14w0 Try.func14 (by kernel_rfl) (by kernel_rfl) (fun d => mootkeep3_rows_w0 d.1 d.2) (by kernel_rfl)

-- moothall/line.Holds
def h_30 : HT := (.s .n (.s (.j ⟨[0, 5], [5], [(34, .dt .bool)], []⟩ .n .n) (.s (.s .n (.l ⟨[0, 5, 36, 37, 38], [5], [], []⟩ (.s .n (.j ⟨[0, 5, 36, 37, 38], [5], [(47, .dt .bool)], []⟩ .n .n)))) (.s (.s .n (.l ⟨[5, 49, 50, 51], [5], [], []⟩ (.s .n (.s .n (.s (.s .n (.l ⟨[5, 10, 49, 50, 51, 56, 57, 58], [5, 10], [(11, .dt (.int .i64))], []⟩ .n)) .n))))) .n))))
noncomputable def line_Holds (p0 : List (List Int × Int)) (p1 : Int) (p2 : List Int × Int) : Option (Bool) :=
  join
    (fun d =>
      bif d then some false
      else
        forK
          (fun k x d next =>
            join (fun d => bif d then some false else next ()) fun K => bif decide (x < (-36028797018963968 : Int)) then K true else K (decide (x > (36028797018963968 : Int))))
          (0 : Nat) p2.fst () fun d =>
          forK
            (fun k x d next =>
              forK (fun k x d next => (idx p2.fst (↑k : Int)).bind fun y => next (IntKind.i64.wrap (d + IntKind.i64.wrap (x * y)))) (0 : Nat) x.fst (0 : Int) fun d =>
                bif decide (d > IntKind.i64.wrap (x.snd * p2.snd)) then some false else next ())
            (0 : Nat) p0 () fun d => some true)
    fun K =>
    (line_Check p0 p1).bind fun r =>
      bif r != (0 : Int) then K true
      else bif (↑p2.fst.length : Int) != p1 then K true else bif decide (p2.snd < (1 : Int)) then K true else K (decide (p2.snd > (1125899906842624 : Int)))
noncomputable def c_30 : Ct Try.prog := .mk' mixA ⟨[c_29], []⟩ 0 30 Try.f30 [.d (.list (.pair (.list (.int .i64)) (.int .i64))), .d (.int .i64), .d (.pair (.list (.int .i64)) (.int .i64))] (.one .bool) h_30 Try.func30 (by kernel_rfl) (fun d => line_Holds d.1 d.2.1 d.2.2) (by kernel_rfl)

-- moothall/mootkeep3.LineFewer$1
def h_34 : HT := .n
noncomputable def mootkeep3_LineFewer_1 (p0 : List Int × Int) (c0_0 : Int) (c1_0 : List Int) (c1_1 : Int) : Option (Bool × Int × List Int × Int) :=
  (line_Holds [(p0.fst, p0.snd)] c0_0 (c1_0, c1_1)).bind fun r => some (!r, c0_0, c1_0, c1_1)
noncomputable def o_34 : Ow Try.prog := .mk' mixA ⟨[c_30], []⟩ 0 34 Try.f34 [.dt (.pair (.list (.int .i64)) (.int .i64)), .pt 2001 1 0, .pt 2002 2 0] [(2001, .el true 1 [.dt (.int .i64)]), (2002, .el true 2 [(.ag [.dt (.list (.int .i64)), .dt (.int .i64)])])] [.dt .bool] [(2001, .el true 1 [.dt (.int .i64)]), (2002, .el true 2 [(.ag [.dt (.list (.int .i64)), .dt (.int .i64)])])] [] h_34 Try.func34 (by kernel_rfl) (by kernel_rfl) (fun d => mootkeep3_LineFewer_1 d.1 d.2.1 d.2.2.1 d.2.2.2) (by kernel_rfl)

-- slices.IndexFunc[[]moothall/line.Row,moothall/line.Row]
def h_48_34l0 : HT := (.s .n (.s (.s .n (.l ⟨[0, 1, 7, 8], [2000], [], [(2050, .el true 1 [.dt (.int .i64)]), (2051, .el true 2 [(.ag [.dt (.list (.int .i64)), .dt (.int .i64)])])]⟩ .n)) .n))
noncomputable def slices_IndexFunc___line_Row_line_Row__34_l0 (p0 : List (List Int × Int)) (q1_0_0 : Int) (q1_1_0 : List Int) (q1_1_1 : Int) : Option (Int × List (List Int × Int) × Int × List Int × Int) :=
  (chk ((↑p0.length : Int) ≤ (↑LIM : Int))).bind fun x =>
    cntK
      (fun k d next =>
        (chk ((0 : Int) ≤ (↑k : Int) ∧ (↑k : Int) < (↑p0.length : Int))).bind fun x =>
          p0[(↑k : Int).toNat]?.bind fun x =>
            (mootkeep3_LineFewer_1 x d.fst d.snd.fst d.snd.snd).bind fun r =>
              bif r.fst then some ((↑k : Int), p0, r.snd.fst, r.snd.snd.fst, r.snd.snd.snd) else next (r.snd.fst, r.snd.snd.fst, r.snd.snd.snd))
      (0 : Nat) (↑p0.length : Int).toNat (q1_0_0, q1_1_0, q1_1_1) fun d => some ((-1 : Int), p0, d.fst, d.snd.fst, d.snd.snd)
noncomputable def o_48_34l0 : Ow Try.prog := .mk' mixA ⟨[], [o_34]⟩ 0 48 Try.f48 [.wn 2000 2, .fn 34 [.pt 2050 1 0, .pt 2051 2 0]] [(2000, .ls (.pair (.list (.int .i64)) (.int .i64))), (2050, .el true 1 [.dt (.int .i64)]), (2051, .el true 2 [(.ag [.dt (.list (.int .i64)), .dt (.int .i64)])])] [.dt (.int .i64)] [(2000, .ls (.pair (.list (.int .i64)) (.int .i64))), (2050, .el true 1 [.dt (.int .i64)]), (2051, .el true 2 [(.ag [.dt (.list (.int .i64)), .dt (.int .i64)])])] [] h_48_34l0 Try.func48 (by kernel_rfl) (by kernel_rfl) (fun d => slices_IndexFunc___line_Row_line_Row__34_l0 d.1 d.2.1 d.2.2.1 d.2.2.2) (by kernel_rfl)

-- slices.DeleteFunc[[]moothall/line.Row,moothall/line.Row]
def h_33_34w0 : HT := (.s .n (.s .n (.s .n (.s (.s .n (.w ⟨[0, 1], [], [(5, .dt (.int .i64)), (6, .dt (.int .i64))], [(2050, .el true 1 [.dt (.int .i64)]), (2051, .el true 2 [(.ag [.dt (.list (.int .i64)), .dt (.int .i64)])]), (1000, .ls (.pair (.list (.int .i64)) (.int .i64)))]⟩ (.s .n (.j ⟨[0, 1, 6], [], [(5, .dt (.int .i64))], [(2050, .el true 1 [.dt (.int .i64)]), (2051, .el true 2 [(.ag [.dt (.list (.int .i64)), .dt (.int .i64)])]), (1000, .ls (.pair (.list (.int .i64)) (.int .i64)))]⟩ .n .n)))) .n))))
noncomputable def slices_DeleteFunc___line_Row_line_Row__34_w0 (fu : Nat) (p0 : List (List Int × Int)) (q1_0_0 : Int) (q1_1_0 : List Int) (q1_1_1 : Int) : Option (List (List Int × Int) × Int × List Int × Int) :=
  (slices_IndexFunc___line_Row_line_Row__34_l0 p0 q1_0_0 q1_1_0 q1_1_1).bind fun r =>
    (chk (r.snd.fst.length = p0.length)).bind fun x =>
      bif r.fst == (-1 : Int) then some (r.snd.fst, r.snd.snd.fst, r.snd.snd.snd.fst, r.snd.snd.snd.snd)
      else
        whK
          (fun self d =>
            bif decide (d.snd.fst < (↑d.snd.snd.snd.snd.snd.length : Int)) then
              join (fun d_1 => self (d_1.fst, IntKind.i64.wrap (d.snd.fst + (1 : Int)), d_1.snd.fst, d_1.snd.snd.fst, d_1.snd.snd.snd.fst, d_1.snd.snd.snd.snd)) fun K =>
                (chk ((0 : Int) ≤ d.snd.fst ∧ d.snd.fst < (↑d.snd.snd.snd.snd.snd.length : Int))).bind fun x =>
                  d.snd.snd.snd.snd.snd[d.snd.fst.toNat]?.bind fun x =>
                    (mootkeep3_LineFewer_1 (x.fst, x.snd) d.snd.snd.fst d.snd.snd.snd.fst d.snd.snd.snd.snd.fst).bind fun r =>
                      bif !r.fst then
                        (chk ((0 : Int) ≤ d.fst ∧ d.fst < (↑d.snd.snd.snd.snd.snd.length : Int))).bind fun x_1 =>
                          (chk (d.fst.toNat < d.snd.snd.snd.snd.snd.length)).bind fun x_2 =>
                            K (IntKind.i64.wrap (d.fst + (1 : Int)), r.snd.fst, r.snd.snd.fst, r.snd.snd.snd, d.snd.snd.snd.snd.snd.set d.fst.toNat (x.fst, x.snd))
                      else K (d.fst, r.snd.fst, r.snd.snd.fst, r.snd.snd.snd, d.snd.snd.snd.snd.snd)
            else
              (chk ((0 : Int) ≤ d.fst ∧ d.fst ≤ (↑d.snd.snd.snd.snd.snd.length : Int))).bind fun x =>
                (chk (d.fst.toNat + (d.snd.snd.snd.snd.snd.length - d.fst.toNat) ≤ d.snd.snd.snd.snd.snd.length)).bind fun x =>
                  (chk
                        ((0 : Int) ≤ d.fst ∧
                          d.fst ≤
                            (↑(List.take d.fst.toNat d.snd.snd.snd.snd.snd ++
                                    (List.replicate (d.snd.snd.snd.snd.snd.length - d.fst.toNat) (@List.nil Int, (0 : Int)) ++
                                      List.drop (d.fst.toNat + (List.replicate (d.snd.snd.snd.snd.snd.length - d.fst.toNat) (@List.nil Int, (0 : Int))).length)
                                        d.snd.snd.snd.snd.snd)).length :
                              Int))).bind
                    fun x =>
                    (chk
                          (d.fst.toNat - (0 : Nat) ≤
                            (List.take d.fst.toNat d.snd.snd.snd.snd.snd ++
                                (List.replicate (d.snd.snd.snd.snd.snd.length - d.fst.toNat) (@List.nil Int, (0 : Int)) ++
                                  List.drop (d.fst.toNat + (List.replicate (d.snd.snd.snd.snd.snd.length - d.fst.toNat) (@List.nil Int, (0 : Int))).length)
                                    d.snd.snd.snd.snd.snd)).length)).bind
                      fun x =>
                      some
                        (List.take (d.fst.toNat - (0 : Nat))
                            (List.take d.fst.toNat d.snd.snd.snd.snd.snd ++
                              (List.replicate (d.snd.snd.snd.snd.snd.length - d.fst.toNat) (@List.nil Int, (0 : Int)) ++
                                List.drop (d.fst.toNat + (List.replicate (d.snd.snd.snd.snd.snd.length - d.fst.toNat) (@List.nil Int, (0 : Int))).length) d.snd.snd.snd.snd.snd)),
                          d.snd.snd.fst, d.snd.snd.snd.fst, d.snd.snd.snd.snd.fst))
          fu (r.fst, IntKind.i64.wrap (r.fst + (1 : Int)), r.snd.snd.fst, r.snd.snd.snd.fst, r.snd.snd.snd.snd, r.snd.fst)
noncomputable def o_33_34w0 (fu : Nat) : Ow Try.prog := .mk' mixA ⟨[], [o_48_34l0, o_34]⟩ fu 33 Try.f33 [.wn 1000 2, .fn 34 [.pt 2050 1 0, .pt 2051 2 0]] [(1000, .ls (.pair (.list (.int .i64)) (.int .i64))), (2050, .el true 1 [.dt (.int .i64)]), (2051, .el true 2 [(.ag [.dt (.list (.int .i64)), .dt (.int .i64)])])] [.wn 1000 2] [(1000, .ls (.pair (.list (.int .i64)) (.int .i64))), (2050, .el true 1 [.dt (.int .i64)]), (2051, .el true 2 [(.ag [.dt (.list (.int .i64)), .dt (.int .i64)])])] [1000] h_33_34w0 Try.func33 (by kernel_rfl) (by kernel_rfl) (fun d => slices_DeleteFunc___line_Row_line_Row__34_w0 fu d.1 d.2.1 d.2.2.1 d.2.2.2) (by kernel_rfl)

-- moothall/mootkeep3.LineFewer
def h_7 : HT := (.s .n (.s .n (.s .n (.s .n (.s (.j ⟨[1, 7, 8, 9, 11], [21, 7, 9], [(35, .dt .bool)], []⟩ .n .n) (.s (.s .n (.l ⟨[1, 7, 8, 9, 11, 37, 38], [21, 7, 9], [], []⟩ (.s .n (.j ⟨[1, 7, 8, 9, 11, 37, 38], [21, 7, 9], [(50, .dt .bool)], []⟩ .n .n)))) (.s .n (.s .n (.s (.s .n (.l ⟨[7, 8, 14, 15, 56, 57], [21, 7], [], [(54, .el true 1 [(.ag [.dt (.list (.int .i64))])]), (15, .el true 2 [(.ag [.wn 65 1, .dt (.int .i64)])]), (65, .ls (.int .i64))]⟩ .n)) .n)))))))))
noncomputable def mootkeep3_LineFewer (fu : Nat) (p0 : List Int) (p1 : List Int) (p2 : Int) : Option (Bool) :=
  (mootmake_Below p2 (3 : Int)).bind fun r =>
    (mootkeep3_rows_w0 (IntKind.i64.wrap ((1 : Int) + r)) p0).bind fun r_1 =>
      (line_Solve_l0 fu (IntKind.i64.wrap ((1 : Int) + r)) r_1).bind fun r_2 =>
        (chk (r_2.snd.snd.snd.snd.length = r_1.length)).bind fun x =>
          join
            (fun d =>
              bif d then some false
              else
                (chk ((↑r_2.snd.snd.snd.snd.length : Int) ≤ (↑LIM : Int))).bind fun x =>
                  cntK
                    (fun k d next =>
                      join (fun d => bif d then some false else next ()) fun K =>
                        bif r_2.snd.snd.fst then
                          (chk ((0 : Int) ≤ (↑k : Int) ∧ (↑k : Int) ≤ (↑r_2.snd.snd.snd.snd.length : Int))).bind fun x =>
                            (chk (decide ((0 : Nat) + ((↑k : Int).toNat - (0 : Nat)) ≤ r_2.snd.snd.snd.snd.length) = true)).bind fun x =>
                              (line_Holds (List.take ((↑k : Int).toNat - (0 : Nat)) (List.drop (0 : Nat) r_2.snd.snd.snd.snd)) (IntKind.i64.wrap ((1 : Int) + r))
                                    (r_2.fst.fst, r_2.fst.snd)).bind
                                fun r => K !r
                        else K false)
                    (0 : Nat) (↑r_2.snd.snd.snd.snd.length : Int).toNat () fun d =>
                    (chk (IntKind.i64.wrap ((1 : Int) + r) ≤ (↑LIM : Int))).bind fun x =>
                      cntK
                        (fun k d next =>
                          (join
                                (fun d_1 =>
                                  bif d_1 then some ((0 : Int), d.fst)
                                  else
                                    (idx d.fst (0 : Int)).bind fun y =>
                                      (chk ((0 : Int) ≤ (1 : Int) ∧ (1 : Int) ≤ (↑d.fst.length : Int))).bind fun x =>
                                        (mootmake_Below y (7 : Int)).bind fun r => some (r, List.drop (Int.toNat (1 : Int)) d.fst))
                                fun K => K ((↑d.fst.length : Int) == (0 : Int))).bind
                            fun r => (chk (d.snd.snd.length + (1 : Nat) ≤ LIM)).bind fun x => next (r.snd, d.snd.fst, d.snd.snd ++ [IntKind.i64.wrap (r.fst - (3 : Int))]))
                        (0 : Nat) (IntKind.i64.wrap ((1 : Int) + r)).toNat (p1, (1 : Int), []) fun d =>
                        (slices_DeleteFunc___line_Row_line_Row__34_w0 fu r_2.snd.snd.snd.snd (IntKind.i64.wrap ((1 : Int) + r)) d.snd.snd d.snd.fst).bind fun r =>
                          (line_Solve_l0 fu r.snd.fst r.fst).bind fun r_3 =>
                            (chk (r_3.snd.snd.snd.snd.length = r.fst.length)).bind fun x =>
                              bif r_3.snd.snd.snd.fst == (0 : Int) then
                                bif r_3.snd.snd.fst then (line_Holds r_3.snd.snd.snd.snd r.snd.fst (r.snd.snd.fst, r.snd.snd.snd)).bind fun r => some r else some false
                              else some false)
            fun K => (mootkeep3_lined fu).bind fun r => bif !r then K true else K (r_2.snd.snd.snd.fst != (0 : Int))
noncomputable def c_7 (fu : Nat) : Ct Try.prog := .mk' mixA ⟨[c_13, c_17 fu, c_30], [o_14w0, o_8l0 fu, o_32, o_33_34w0 fu, o_34]⟩ fu 7 Try.f7 [.d (.list (.int .i64)), .d (.list (.int .i64)), .d (.int .i64)] (.one .bool) h_7 Try.func7 (by kernel_rfl) (fun d => mootkeep3_LineFewer fu d.1 d.2.1 d.2.2) (by kernel_rfl)

end Go.Proofs.Ytfhddbnacbcppaa

/- What line.Solve comes to, out of the loops that say how they end. -/
set_option linter.unusedVariables false
set_option linter.unusedSimpArgs false
namespace Go.Proofs.Ytfhddbnacbcppaa
open Go.PG Go.PG.PH

theorem check_sim {l : List (List Int × Int)} {n c : Int} (h : Old.line_Check l n = some c) : line_Check l n = some c := by
  unfold Old.line_Check at h
  unfold line_Check
  have main : (forL (Old.line_Check_b0 n) 0 l ()).bind (Sum.elim (fun (u2 : Unit) => some 0) some) = some c → forK
          (fun k (x : List Int × Int) (d : Unit) next =>
            bif (↑x.fst.length : Int) != n then some (3 : Int)
            else
              forK (fun k x d next => join (fun d => bif d then some (1 : Int) else next ()) fun K => bif decide (x < (-9 : Int)) then K true else K (decide (x > (9 : Int))))
                (0 : Nat) x.fst () fun d =>
                join (fun d => bif d then some (1 : Int) else next ()) fun K => bif decide (x.snd < (-99 : Int)) then K true else K (decide (x.snd > (99 : Int))))
          (0 : Nat) l () (fun d => some (0 : Int)) = some c := by
    intro h
    obtain ⟨e, he, h⟩ := Option.bind_eq_some_iff.1 h
    refine Eq.trans (forK_sim (B := Old.line_Check_b0 n) id some l 0 () e ?_ he) ?_
    rotate_left
    · cases e with
      | inl s => exact h
      | inr r => exact h
    · intro k x s c next hk hb
      unfold Old.line_Check_b0 at hb
      cases hc : ((↑x.fst.length : Int) != n) with
      | true => rw [hc] at hb; cases hb; rfl
      | false =>
        rw [hc] at hb
        simp only [cond_false] at hb ⊢
        obtain ⟨e, he, hb⟩ := Option.bind_eq_some_iff.1 hb
        refine Eq.trans (forK_sim (B := Old.line_Check_b2) (S := Unit) id (fun c => c.out id next (fun _ => some 0) some) x.fst 0 () e ?_ he) ?_
        rotate_left
        · cases e with
          | inl s =>
            simp only [Sum.elim_inl, outS, join] at hb ⊢
            cases h1 : decide (x.snd < (-99 : Int)) <;> cases h2 : decide (x.snd > (99 : Int)) <;> simp only [h1, h2, cond_true, cond_false] at hb ⊢ <;> (cases hb; rfl)
          | inr r => simp only [Sum.elim_inr] at hb; cases hb; rfl
        · intro k x s c next2 hk hb
          unfold Old.line_Check_b2 at hb
          simp only [join]
          cases h1 : decide (x < (-9 : Int)) <;> cases h2 : decide (x > (9 : Int)) <;> simp only [h1, h2, cond_true, cond_false] at hb ⊢ <;> (cases hb; rfl)
  simp only [join]
  cases h1 : decide (n < 1) with
  | true => simp only [h1, cond_true] at h ⊢; exact h
  | false =>
    cases h2 : decide (n > 3) with
    | true => simp only [h1, h2, cond_true, cond_false] at h ⊢; exact h
    | false =>
      cases h3 : decide ((↑l.length : Int) > 8) with
      | true => simp only [h1, h2, h3, cond_true, cond_false] at h ⊢; exact h
      | false => simp only [h1, h2, h3, cond_true, cond_false] at h ⊢; exact main h

theorem clone_int (l : List Int) (h : l.length ≤ LIM) : slices_Clone___int_int_ l = some l := by
  unfold slices_Clone___int_int_ join
  cases l with
  | nil => simp only [lcase]; rw [show (chk ((0 : Nat) + ([] : List Int).length ≤ LIM)) = some () from chk_eq (by simp)]; exact both_same _
  | cons x xs =>
    simp only [lcase]
    rw [chk_eq (by rw [Nat.zero_add]; exact h)]; rfl

theorem add_sim {x y : (List Int × Int) × List Int} {p q : Int} {r : (List Int × Int) × List Int} (h : Old.line_add x p y q = some r) : line_add x p y q = some r := by
  unfold Old.line_add at h
  unfold line_add
  obtain ⟨_, _, h⟩ := Option.bind_eq_some_iff.1 h
  obtain ⟨e, he, h⟩ := Option.bind_eq_some_iff.1 h
  refine Eq.trans (forN_sim (B := Old.line_add_b0 x p y q) (fun s : List Int => (IntKind.i64.wrap (IntKind.i64.wrap (p * x.fst.snd) + IntKind.i64.wrap (q * y.fst.snd)), s)) some x.fst.fst 0 [] e ?_ he) ?_
  rotate_left
  · cases e with
    | inr r' => simp only [Sum.elim_inr] at h; cases h; rfl
    | inl s =>
      simp only [Sum.elim_inl, outS] at h ⊢
      obtain ⟨_, _, h⟩ := Option.bind_eq_some_iff.1 h
      obtain ⟨e2, he2, h⟩ := Option.bind_eq_some_iff.1 h
      refine Eq.trans (forN_sim (B := Old.line_add_b2 x p y q) (fun t : List Int => (IntKind.i64.wrap (IntKind.i64.wrap (p * x.fst.snd) + IntKind.i64.wrap (q * y.fst.snd)), t)) some x.snd 0 [] e2 ?_ he2) ?_
      rotate_left
      · cases e2 with
        | inl t => simp only [Sum.elim_inl, outS] at h ⊢; exact h
        | inr r' => simp only [Sum.elim_inr] at h; cases h; rfl
      · intro k z s c next _ hb
        unfold Old.line_add_b2 at hb
        rw [Nat.zero_add] at hb
        obtain ⟨a, ha, hb⟩ := Option.bind_eq_some_iff.1 hb
        obtain ⟨b, hb2, hb⟩ := Option.bind_eq_some_iff.1 hb
        obtain ⟨u, hu, hb⟩ := Option.bind_eq_some_iff.1 hb
        simp only [Nat.zero_add, idx_nat, ha, hb2, Option.bind_some]
        have hu' := chk_some hu
        rw [chk_eq hu']
        cases hb; rfl
  · intro k z s c next _ hb
    unfold Old.line_add_b0 at hb
    rw [Nat.zero_add] at hb
    obtain ⟨a, ha, hb⟩ := Option.bind_eq_some_iff.1 hb
    obtain ⟨b, hb2, hb⟩ := Option.bind_eq_some_iff.1 hb
    obtain ⟨u, hu, hb⟩ := Option.bind_eq_some_iff.1 hb
    simp only [Nat.zero_add, idx_nat, ha, hb2, Option.bind_some]
    have hu' := chk_some hu
    rw [chk_eq hu']
    cases hb; rfl

theorem without_sim {R : List ((List Int × Int) × List Int)} {j : Int} {r : List ((List Int × Int) × List Int)} (h : Old.line_without R j = some r) : line_without R j = some r := by
  unfold Old.line_without at h
  unfold line_without
  obtain ⟨e, he, h⟩ := Option.bind_eq_some_iff.1 h
  refine Eq.trans (forK_sim (B := Old.line_without_b0 R j) id some R 0 [] e ?_ he) ?_
  rotate_left
  · cases e with
    | inl s => exact h
    | inr r' => exact h
  · intro k x s c next _ hb
    unfold Old.line_without_b0 at hb
    obtain ⟨a, ha, hb⟩ := Option.bind_eq_some_iff.1 hb
    simp only [ha, Option.bind_some]
    cases h1 : (a == 0) with
    | true =>
      simp only [h1, cond_true] at hb ⊢
      obtain ⟨u, hu, hb⟩ := Option.bind_eq_some_iff.1 hb
      have hu' := chk_some hu
      rw [show chk ((id s).length + (1 : Nat) ≤ LIM) = some () from chk_eq hu']
      cases hb; rfl
    | false =>
      simp only [h1, cond_false] at hb ⊢
      cases h2 : decide (a > 0) with
      | false => simp only [h2, cond_false] at hb ⊢; cases hb; rfl
      | true =>
        simp only [h2, cond_true] at hb ⊢
        obtain ⟨e, he, hb⟩ := Option.bind_eq_some_iff.1 hb
        refine Eq.trans (forK_sim (B := Old.line_without_b3 j x a) id (fun c => c.out id next (fun d => some d) some) R 0 (id s) e ?_ he) ?_
        rotate_left
        · cases e with
          | inl s' => simp only [Sum.elim_inl, outS] at hb ⊢; cases hb; rfl
          | inr c' => simp only [Sum.elim_inr] at hb; cases hb; rfl
        · intro k x2 s2 c2 next2 _ hb
          unfold Old.line_without_b3 at hb
          obtain ⟨b, hb1, hb⟩ := Option.bind_eq_some_iff.1 hb
          simp only [hb1, Option.bind_some]
          cases h3 : decide (b < 0) with
          | false => simp only [h3, cond_false] at hb ⊢; cases hb; rfl
          | true =>
            simp only [h3, cond_true] at hb ⊢
            obtain ⟨r1, hr, hb⟩ := Option.bind_eq_some_iff.1 hb
            obtain ⟨u, hu, hb⟩ := Option.bind_eq_some_iff.1 hb
            have := add_sim hr
            rw [show line_add ((x.fst.fst, x.fst.snd), x.snd) (IntKind.i64.wrap ((0 : Int) - b)) ((x2.fst.fst, x2.fst.snd), x2.snd) a = some r1 from this]
            have hu' := chk_some hu
            simp only [Option.bind_some]
            rw [show chk ((id s2).length + (1 : Nat) ≤ LIM) = some () from chk_eq hu']
            cases hb; rfl

theorem common_sim {fu : Nat} {a b r : Int} (h : Old.line_common fu a b = some r) : line_common fu a b = some r := by
  unfold Old.line_common at h
  unfold line_common
  obtain ⟨e, he, h⟩ := Option.bind_eq_some_iff.1 h
  refine Eq.trans (whK_sim (B := Old.line_common_b0) id (fun s => some s.1) some fu (a, b) e ?_ he) ?_
  rotate_left
  · cases e with
    | inl s => exact h
    | inr r' => exact h
  · intro s c self hb
    unfold Old.line_common_b0 at hb
    cases h1 : (s.2 != 0) with
    | true =>
      simp only [h1, cond_true, id] at hb ⊢
      obtain ⟨u, hu, hb⟩ := Option.bind_eq_some_iff.1 hb
      have hu' := chk_some hu
      rw [chk_eq hu']
      cases hb; rfl
    | false => simp only [h1, cond_false, id] at hb ⊢; cases hb; rfl

theorem lowest_sim {fu : Nat} {a b : Int} {r : Int × Int} (h : Old.line_lowest fu a b = some r) : line_lowest fu a b = some r := by
  unfold Old.line_lowest at h
  unfold line_lowest join
  have main : ∀ u1 : Int × Int, ((Old.line_common fu (if (IntKind.i64.wrap (0 - u1.1)) > u1.1 then (IntKind.i64.wrap (0 - u1.1)) else u1.1) u1.2).bind fun r1 =>
      (chk (¬ r1 = 0)).bind fun _ => (chk (¬ r1 = 0)).bind fun _ => some (Prod.mk (IntKind.i64.wrap (u1.1.tdiv r1)) (IntKind.i64.wrap (u1.2.tdiv r1)))) = some r →
      ((line_common fu (if IntKind.i64.wrap ((0 : Int) - u1.fst) > u1.fst then IntKind.i64.wrap ((0 : Int) - u1.fst) else u1.fst) u1.snd).bind fun r =>
        (chk (r ≠ (0 : Int))).bind fun x => (chk (r ≠ (0 : Int))).bind fun x => some (IntKind.i64.wrap (u1.fst.tdiv r), IntKind.i64.wrap (u1.snd.tdiv r))) = some r := by
    intro u1 h
    obtain ⟨r1, h1, h⟩ := Option.bind_eq_some_iff.1 h
    rw [common_sim h1]
    exact h
  obtain ⟨u1, hu1, h⟩ := Option.bind_eq_some_iff.1 h
  cases h1 : decide (b < 0) with
  | true =>
    simp only [h1, cond_true, Option.some.injEq] at hu1 ⊢
    have := main u1 h
    rw [← hu1] at this
    exact this
  | false =>
    simp only [h1, cond_false, Option.some.injEq] at hu1 ⊢
    have := main u1 h
    rw [← hu1] at this
    exact this

theorem mul64_eq (a b : Int) : math_bits_Mul64 a b = Old.math_bits_Mul64 a b := by
  kernel_rfl

theorem cross_sim {a b : Int} {r : Bool × Int × Int} (h : Old.line_cross a b = some r) : line_cross a b = some r := by
  unfold Old.line_cross at h
  unfold line_cross
  obtain ⟨m, hm, h⟩ := Option.bind_eq_some_iff.1 h
  rw [mul64_eq, hm]
  simp only [Option.bind_some]
  cases h1 : (!decide (a < 0) == decide (b < 0)) with
  | true => simp only [h1, cond_true] at h ⊢; exact h
  | false => simp only [h1, cond_false] at h ⊢; exact h

theorem less_sim {a b : Int × Int} {r : Bool} (h : Old.line_less a b = some r) : line_less a b = some r := by
  unfold Old.line_less at h
  unfold line_less join
  obtain ⟨m, hm, h⟩ := Option.bind_eq_some_iff.1 h
  obtain ⟨m2, hm2, h⟩ := Option.bind_eq_some_iff.1 h
  rw [cross_sim hm]
  simp only [Option.bind_some]
  rw [cross_sim hm2]
  simp only [Option.bind_some]
  cases h1 : (!m.1 == m2.1) with
  | true => simp only [h1, cond_true] at h ⊢; exact h
  | false =>
    simp only [h1, cond_false] at h ⊢
    rw [← h]
    cases m.1 <;> cases decide (m.2.1 > m2.2.1) <;> cases (m.2.1 == m2.2.1) <;> cases decide (m.2.1 < m2.2.1) <;> cases decide (m.2.2 > m2.2.2) <;> cases decide (m.2.2 < m2.2.2) <;> rfl

theorem order_sim {a b : Int × Int} {r : Int} (h : Old.line_order a b = some r) : line_order a b = some r := by
  unfold Old.line_order at h
  unfold line_order
  obtain ⟨m, hm, h⟩ := Option.bind_eq_some_iff.1 h
  rw [show line_less (a.fst, a.snd) (b.fst, b.snd) = some m from less_sim hm]
  simp only [Option.bind_some]
  cases m with
  | true => exact h
  | false =>
    simp only [cond_false] at h ⊢
    obtain ⟨m2, hm2, h⟩ := Option.bind_eq_some_iff.1 h
    rw [show line_less (b.fst, b.snd) (a.fst, a.snd) = some m2 from less_sim hm2]
    exact h

theorem max_sim {fu : Nat} {l : List (Int × Int)} {r : Int × Int} (h : Old.slices_MaxFunc_line_frac fu l (fun a b => Old.line_order a b) = some r) : slices_MaxFunc___line_frac_line_frac__52 fu l = some r := by
  unfold Old.slices_MaxFunc_line_frac at h
  unfold slices_MaxFunc___line_frac_line_frac__52
  cases h1 : decide ((↑l.length : Int) < 1) with
  | true => simp only [h1, cond_true] at h; cases h
  | false =>
    simp only [h1, cond_false] at h ⊢
    obtain ⟨x, hx, h⟩ := Option.bind_eq_some_iff.1 h
    rw [hx]
    simp only [Option.bind_some]
    obtain ⟨e, he, h⟩ := Option.bind_eq_some_iff.1 h
    refine Eq.trans (whK_sim (B := Old.slices_MaxFunc_line_frac_b0 l fun a b => Old.line_order a b) id (fun s => some (s.2.1, s.2.2)) some fu (1, x.1, x.2) e ?_ he) ?_
    rotate_left
    · cases e with
      | inl s => exact h
      | inr r' => exact h
    · intro s c self hb
      unfold Old.slices_MaxFunc_line_frac_b0 at hb
      unfold join
      cases h2 : decide (s.1 < (↑l.length : Int)) with
      | false => simp only [h2, cond_false, id] at hb ⊢; cases hb; rfl
      | true =>
        simp only [h2, cond_true, id] at hb ⊢
        obtain ⟨y, hy, hb⟩ := Option.bind_eq_some_iff.1 hb
        obtain ⟨o, ho, hb⟩ := Option.bind_eq_some_iff.1 hb
        rw [hy]
        simp only [Option.bind_some]
        rw [show line_order (y.fst, y.snd) (s.2.1, s.2.2) = some o from order_sim ho]
        simp only [Option.bind_some]
        cases h3 : decide (o > 0) with
        | true => simp only [h3, cond_true] at hb ⊢; cases hb; rfl
        | false => simp only [h3, cond_false] at hb ⊢; cases hb; rfl

theorem min_sim {fu : Nat} {l : List (Int × Int)} {r : Int × Int} (h : Old.slices_MinFunc_line_frac fu l (fun a b => Old.line_order a b) = some r) : slices_MinFunc___line_frac_line_frac__52 fu l = some r := by
  unfold Old.slices_MinFunc_line_frac at h
  unfold slices_MinFunc___line_frac_line_frac__52
  cases h1 : decide ((↑l.length : Int) < 1) with
  | true => simp only [h1, cond_true] at h; cases h
  | false =>
    simp only [h1, cond_false] at h ⊢
    obtain ⟨x, hx, h⟩ := Option.bind_eq_some_iff.1 h
    rw [hx]
    simp only [Option.bind_some]
    obtain ⟨e, he, h⟩ := Option.bind_eq_some_iff.1 h
    refine Eq.trans (whK_sim (B := Old.slices_MinFunc_line_frac_b0 l fun a b => Old.line_order a b) id (fun s => some (s.2.1, s.2.2)) some fu (1, x.1, x.2) e ?_ he) ?_
    rotate_left
    · cases e with
      | inl s => exact h
      | inr r' => exact h
    · intro s c self hb
      unfold Old.slices_MinFunc_line_frac_b0 at hb
      unfold join
      cases h2 : decide (s.1 < (↑l.length : Int)) with
      | false => simp only [h2, cond_false, id] at hb ⊢; cases hb; rfl
      | true =>
        simp only [h2, cond_true, id] at hb ⊢
        obtain ⟨y, hy, hb⟩ := Option.bind_eq_some_iff.1 hb
        obtain ⟨o, ho, hb⟩ := Option.bind_eq_some_iff.1 hb
        rw [hy]
        simp only [Option.bind_some]
        rw [show line_order (y.fst, y.snd) (s.2.1, s.2.2) = some o from order_sim ho]
        simp only [Option.bind_some]
        cases h3 : decide (o < 0) with
        | true => simp only [h3, cond_true] at hb ⊢; cases hb; rfl
        | false => simp only [h3, cond_false] at hb ⊢; cases hb; rfl

theorem choose_sim {fu : Nat} {R : List ((List Int × Int) × List Int)} {k : Int} {p : List (Int × Int)} {r : Int × Int} (h : Old.line_choose fu R k p = some r) : line_choose fu R k p = some r := by
  unfold Old.line_choose at h
  unfold line_choose
  obtain ⟨e, he, h⟩ := Option.bind_eq_some_iff.1 h
  refine Eq.trans (forK_sim (B := Old.line_choose_b0 fu k p) id some R 0 ([], []) e ?_ he) ?_
  rotate_left
  · cases e with
    | inr r' => exact h
    | inl s =>
      simp only [Sum.elim_inl, outS, id] at h ⊢
      cases h1 : decide ((↑s.2.length : Int) > 0) with
      | true =>
        simp only [h1, cond_true] at h ⊢
        obtain ⟨m, hm, h⟩ := Option.bind_eq_some_iff.1 h
        rw [max_sim hm]
        exact h
      | false =>
        simp only [h1, cond_false] at h ⊢
        cases h2 : decide ((↑s.1.length : Int) > 0) with
        | true =>
          simp only [h2, cond_true] at h ⊢
          obtain ⟨m, hm, h⟩ := Option.bind_eq_some_iff.1 h
          rw [min_sim hm]
          exact h
        | false => simp only [h2, cond_false] at h ⊢; exact h
  · intro i x s c next _ hb
    unfold Old.line_choose_b0 at hb
    obtain ⟨a, ha, hb⟩ := Option.bind_eq_some_iff.1 hb
    simp only [ha, Option.bind_some]
    cases h1 : (a == 0) with
    | true => simp only [h1, cond_true] at hb ⊢; cases hb; rfl
    | false =>
      simp only [h1, cond_false] at hb ⊢
      obtain ⟨e, he, hb⟩ := Option.bind_eq_some_iff.1 hb
      refine Eq.trans (forK_sim (B := Old.line_choose_b2 x) (S := Int × Int) id (fun c => c.out id next (fun d => bif decide ((↑d.snd.length : Int) > (0 : Int)) then (slices_MaxFunc___line_frac_line_frac__52 fu d.snd).bind fun r => some (r.fst, r.snd) else bif decide ((↑d.fst.length : Int) > (0 : Int)) then (slices_MinFunc___line_frac_line_frac__52 fu d.fst).bind fun r => some (r.fst, r.snd) else some ((0 : Int), (1 : Int))) some) p 0 (x.fst.snd, 1) e ?_ he) ?_
      rotate_left
      · cases e with
        | inr c' => simp only [Sum.elim_inr] at hb; cases hb; rfl
        | inl u =>
          simp only [Sum.elim_inl, outS, id] at hb ⊢
          obtain ⟨r1, hr1, hb⟩ := Option.bind_eq_some_iff.1 hb
          obtain ⟨r2, hr2, hb⟩ := Option.bind_eq_some_iff.1 hb
          rw [lowest_sim hr1]
          simp only [Option.bind_some]
          rw [lowest_sim hr2]
          simp only [Option.bind_some]
          cases h2 : decide (a > 0) with
          | true =>
            simp only [h2, cond_true] at hb ⊢
            obtain ⟨v, hv, hb⟩ := Option.bind_eq_some_iff.1 hb
            have hv' := chk_some hv
            rw [chk_eq hv']
            cases hb; rfl
          | false =>
            simp only [h2, cond_false] at hb ⊢
            obtain ⟨v, hv, hb⟩ := Option.bind_eq_some_iff.1 hb
            have hv' := chk_some hv
            rw [chk_eq hv']
            cases hb; rfl
      · intro i x2 s2 c2 next2 _ hb
        unfold Old.line_choose_b2 at hb
        rw [Nat.zero_add] at hb
        obtain ⟨b, hb1, hb⟩ := Option.bind_eq_some_iff.1 hb
        simp only [Nat.zero_add, idx_nat, hb1, Option.bind_some, id]
        cases hb; rfl
end Go.Proofs.Ytfhddbnacbcppaa

/- What line.Solve comes to, as it is and with its rows lent. -/
set_option linter.unusedVariables false
set_option linter.unusedSimpArgs false
namespace Go.Proofs.Ytfhddbnacbcppaa
open Go.PG Go.PG.PH

abbrev Res := (List Int × Int) × List Int × Bool × Int

noncomputable def tailK {R : Type} (out : Res → R) (fu : Nat) (p1 : Int) (d : Int × List (List ((List Int × Int) × List Int))) : Option R :=
                    (chk ((0 : Int) ≤ (0 : Int) ∧ (0 : Int) < (↑d.snd.length : Int))).bind fun x =>
                      d.snd[(0 : Nat)]?.bind fun x =>
                        forK (fun k x d next => bif decide (x.fst.snd < (0 : Int)) then some (out (([], (0 : Int)), x.snd, false, (0 : Int))) else next ()) (0 : Nat) x () fun d_1 =>
                          (chk (p1 ≤ (↑LIM : Int))).bind fun x =>
                            cntK
                              (fun k d_2 next =>
                                (chk ((0 : Int) ≤ IntKind.i64.wrap ((↑k : Int) + (1 : Int)) ∧ IntKind.i64.wrap ((↑k : Int) + (1 : Int)) < (↑d.snd.length : Int))).bind fun x =>
                                  d.snd[(IntKind.i64.wrap ((↑k : Int) + (1 : Int))).toNat]?.bind fun x =>
                                    (line_choose fu x (↑k : Int) d_2).bind fun r => (chk (d_2.length + (1 : Nat) ≤ LIM)).bind fun x => next (d_2 ++ [r]))
                              (0 : Nat) p1.toNat [] fun d =>
                              (chk ((↑d.length : Int) ≤ (↑LIM : Int))).bind fun x =>
                                cntK
                                  (fun k d_2 next =>
                                    (chk ((0 : Int) ≤ (↑k : Int) ∧ (↑k : Int) < (↑d.length : Int))).bind fun x =>
                                      d[(↑k : Int).toNat]?.bind fun x =>
                                        (line_common fu d_2 x.snd).bind fun r =>
                                          (chk (r ≠ (0 : Int))).bind fun x_1 => next (IntKind.i64.wrap (IntKind.i64.wrap (d_2.tdiv r) * x.snd)))
                                  (0 : Nat) (↑d.length : Int).toNat (1 : Int) fun d_2 =>
                                  (chk ((↑d.length : Int) ≤ (↑LIM : Int))).bind fun x =>
                                    cntK
                                      (fun k d_3 next =>
                                        (chk ((0 : Int) ≤ (↑k : Int) ∧ (↑k : Int) < (↑d.length : Int))).bind fun x =>
                                          d[(↑k : Int).toNat]?.bind fun x =>
                                            (chk (x.snd ≠ (0 : Int))).bind fun x_1 =>
                                              (chk (d_3.snd.length + (1 : Nat) ≤ LIM)).bind fun x_2 =>
                                                next (d_3.fst, d_3.snd ++ [IntKind.i64.wrap (x.fst * IntKind.i64.wrap (d_2.tdiv x.snd))]))
                                      (0 : Nat) (↑d.length : Int).toNat (d_2, []) fun d => some (out ((d.snd, d.fst), [], true, (0 : Int)))

noncomputable def tailG {R : Type} (out : Res → R) (fu : Nat) (p1 : Int) (d : List ((List Int × Int) × List Int)) : Option R :=
        (chk
              ((0 : Int) ≤ IntKind.i64.wrap (p1 + (1 : Int)) ∧
                IntKind.i64.wrap (p1 + (1 : Int)) ≤ IntKind.i64.wrap (p1 + (1 : Int)) ∧ IntKind.i64.wrap (p1 + (1 : Int)) ≤ (↑LIM : Int))).bind
          fun x =>
          (chk ((0 : Int) ≤ p1 ∧ p1 < (↑(List.replicate (IntKind.i64.wrap (p1 + (1 : Int))).toNat (@List.nil ((List Int × Int) × List Int))).length : Int))).bind fun x =>
            (chk (p1.toNat < (List.replicate (IntKind.i64.wrap (p1 + (1 : Int))).toNat (@List.nil ((List Int × Int) × List Int))).length)).bind fun x =>
              whK
                (fun self d =>
                  bif decide (d.fst ≥ (0 : Int)) then
                    (chk ((0 : Int) ≤ IntKind.i64.wrap (d.fst + (1 : Int)) ∧ IntKind.i64.wrap (d.fst + (1 : Int)) < (↑d.snd.length : Int))).bind fun x =>
                      d.snd[(IntKind.i64.wrap (d.fst + (1 : Int))).toNat]?.bind fun x =>
                        (line_without x d.fst).bind fun r =>
                          (chk ((0 : Int) ≤ d.fst ∧ d.fst < (↑d.snd.length : Int))).bind fun x =>
                            (chk (d.fst.toNat < d.snd.length)).bind fun x => self (IntKind.i64.wrap (d.fst - (1 : Int)), d.snd.set d.fst.toNat r)
                  else
                    tailK out fu p1 d)
                fu (IntKind.i64.wrap (p1 - (1 : Int)), (List.replicate (IntKind.i64.wrap (p1 + (1 : Int))).toNat (@List.nil ((List Int × Int) × List Int))).set p1.toNat d)

/-- The same, of the loops that say how they end. -/
def tailO (fu : Nat) (p1 : Int) (u1 : List Old.line_row) : Option Res :=
      (chk (0 ≤ (IntKind.i64.wrap (p1 + 1)) ∧ (IntKind.i64.wrap (p1 + 1)) ≤ (LIM : Int))).bind fun _ =>
      (idx (List.replicate ((IntKind.i64.wrap (p1 + 1)).toNat) (([] : (List Old.line_row)) : (List Old.line_row))) p1).bind fun x3 =>
      (whL Old.line_Solve_b2 fu ((IntKind.i64.wrap (p1 - 1)), ((List.replicate ((IntKind.i64.wrap (p1 + 1)).toNat) (([] : (List Old.line_row)) : (List Old.line_row))).set p1.toNat u1))).bind (Sum.elim (fun (u2 : (Int × (List (List Old.line_row)))) =>
        (idx u2.2 0).bind fun x6 =>
        (forL Old.line_Solve_b4 0 x6 ()).bind (Sum.elim (fun (u3 : Unit) =>
          (chk (p1 ≤ (LIM : Int))).bind fun _ =>
          (forN (Old.line_Solve_b6 fu u2) 0 p1.toNat ([] : (List Old.line_frac))).bind (Sum.elim (fun (u4 : (List Old.line_frac)) =>
            (forL (Old.line_Solve_b8 fu) 0 u4 1).bind (Sum.elim (fun (u5 : Int) =>
              (forL (Old.line_Solve_b10 u5) 0 u4 ([] : (List Int))).bind (Sum.elim (fun (u6 : (List Int)) =>
                some ((Prod.mk u6 u5), ([] : (List Int)), true, 0)) some)) some)) some)) some)) some)

theorem forN_len {σ : Type} {B : Nat → List σ → Option (Ctl (List σ) Res)} (h : ∀ k s c, B k s = some c → ∃ x, c = .nx (s ++ [x])) : ∀ (m k : Nat) (s : List σ) (e : List σ ⊕ Res), forN B k m s = some e → ∃ t, e = .inl t ∧ t.length = s.length + m
  | 0, k, s, e, he => by simp only [forN] at he; cases he; exact ⟨s, rfl, rfl⟩
  | m + 1, k, s, e, he => by
    simp only [forN, Option.bind_eq_some_iff] at he
    obtain ⟨c, hc, he⟩ := he
    obtain ⟨x, rfl⟩ := h k s c hc
    obtain ⟨t, e1, e2⟩ := forN_len h m (k + 1) _ e he
    exact ⟨t, e1, by rw [e2]; simp; omega⟩

theorem tail_sim {R : Type} (out : Res → R) {fu : Nat} {p1 : Int} {u1 : List Old.line_row} {r : Res} (h : tailO fu p1 u1 = some r) : tailG out fu p1 u1 = some (out r) := by
  unfold tailO at h
  unfold tailG
  obtain ⟨_, hc, h⟩ := Option.bind_eq_some_iff.1 h
  have hc' := chk_some hc
  rw [chk_eq ⟨hc'.1, Int.le_refl _, hc'.2⟩]
  simp only [Option.bind_some]
  obtain ⟨x3, hx3, h⟩ := Option.bind_eq_some_iff.1 h
  obtain ⟨i1, i2, i3⟩ := idx_at hx3
  rw [chk_eq (show (0 : Int) ≤ p1 ∧ p1 < _ from ⟨i1, by omega⟩)]
  simp only [Option.bind_some]
  rw [chk_eq i2]
  simp only [Option.bind_some]
  obtain ⟨e, he, h⟩ := Option.bind_eq_some_iff.1 h
  refine Eq.trans (whK_sim (B := Old.line_Solve_b2) id (tailK out fu p1) (fun r => some (out r)) fu _ e ?_ he) ?_
  · intro s c self hb
    unfold Old.line_Solve_b2 at hb
    cases h1 : decide (s.1 ≥ 0) with
    | true =>
      simp only [h1, cond_true, id] at hb ⊢
      obtain ⟨x4, hx4, hb⟩ := Option.bind_eq_some_iff.1 hb
      obtain ⟨r3, hr3, hb⟩ := Option.bind_eq_some_iff.1 hb
      obtain ⟨x5, hx5, hb⟩ := Option.bind_eq_some_iff.1 hb
      obtain ⟨a1, a2, a3⟩ := idx_at hx4
      obtain ⟨b1, b2, b3⟩ := idx_at hx5
      rw [chk_eq (show (0 : Int) ≤ IntKind.i64.wrap (s.1 + 1) ∧ IntKind.i64.wrap (s.1 + 1) < _ from ⟨a1, by omega⟩)]
      simp only [Option.bind_some, a3]
      rw [without_sim hr3]
      simp only [Option.bind_some]
      rw [chk_eq (show (0 : Int) ≤ s.1 ∧ s.1 < _ from ⟨b1, by omega⟩)]
      simp only [Option.bind_some]
      rw [chk_eq b2]
      cases hb; rfl
    | false =>
      simp only [h1, cond_false, id] at hb ⊢
      cases hb
      rfl
  · cases e with
    | inr r' => simp only [Sum.elim_inr] at h; cases h; rfl
    | inl u2 =>
      simp only [Sum.elim_inl, outS, id] at h ⊢
      unfold tailK
      obtain ⟨x6, hx6, h⟩ := Option.bind_eq_some_iff.1 h
      obtain ⟨a1, a2, a3⟩ := idx_at hx6
      rw [chk_eq (show (0 : Int) ≤ 0 ∧ (0 : Int) < _ from ⟨by omega, by simp at a2; omega⟩)]
      simp only [Option.bind_some]
      rw [show u2.2[(0 : Nat)]? = some x6 from a3]
      simp only [Option.bind_some]
      obtain ⟨e, he, h⟩ := Option.bind_eq_some_iff.1 h
      refine Eq.trans (forK_sim (B := Old.line_Solve_b4) (S := Unit) id (fun r => some (out r)) x6 0 () e ?_ he) ?_
      · intro k x s c next _ hb
        unfold Old.line_Solve_b4 at hb
        cases h1 : decide (x.1.2 < 0) with
        | true => simp only [h1, cond_true] at hb ⊢; cases hb; rfl
        | false => simp only [h1, cond_false] at hb ⊢; cases hb; rfl
      · cases e with
        | inr r' => simp only [Sum.elim_inr] at h; cases h; rfl
        | inl u3 =>
          simp only [Sum.elim_inl, outS, id] at h ⊢
          obtain ⟨_, hl, h⟩ := Option.bind_eq_some_iff.1 h
          have hl' := chk_some hl
          rw [chk_eq hl']
          simp only [Option.bind_some]
          obtain ⟨e, he, h⟩ := Option.bind_eq_some_iff.1 h
          have hlen := forN_len (B := Old.line_Solve_b6 fu u2) (fun k s c hb => by
            unfold Old.line_Solve_b6 at hb
            obtain ⟨x8, _, hb⟩ := Option.bind_eq_some_iff.1 hb
            obtain ⟨r4, _, hb⟩ := Option.bind_eq_some_iff.1 hb
            obtain ⟨u, _, hb⟩ := Option.bind_eq_some_iff.1 hb
            cases hb
            exact ⟨r4, rfl⟩) _ _ _ _ he
          obtain ⟨u4, rfl, h4⟩ := hlen
          refine Eq.trans (cntK_sim (B := Old.line_Solve_b6 fu u2) id (fun r => some (out r)) p1.toNat p1.toNat 0 [] _ (Nat.zero_add _) ?_ he) ?_
          · intro k s c next _ hb
            unfold Old.line_Solve_b6 at hb
            obtain ⟨x8, hx8, hb⟩ := Option.bind_eq_some_iff.1 hb
            obtain ⟨r4, hr4, hb⟩ := Option.bind_eq_some_iff.1 hb
            obtain ⟨u, hu, hb⟩ := Option.bind_eq_some_iff.1 hb
            obtain ⟨a1, a2, a3⟩ := idx_at hx8
            rw [chk_eq (show (0 : Int) ≤ IntKind.i64.wrap ((k : Int) + 1) ∧ IntKind.i64.wrap ((k : Int) + 1) < _ from ⟨a1, by omega⟩)]
            simp only [Option.bind_some, a3, id]
            rw [choose_sim hr4]
            simp only [Option.bind_some]
            have hu' := chk_some hu
            rw [chk_eq hu']
            cases hb; rfl
          · simp only [Sum.elim_inl, outS, id] at h ⊢
            have h4' : (↑u4.length : Int) ≤ (↑LIM : Int) := by rw [h4]; simp only [List.length_nil]; omega
            rw [chk_eq h4']
            simp only [Option.bind_some, Int.toNat_natCast]
            obtain ⟨e, he, h⟩ := Option.bind_eq_some_iff.1 h
            refine Eq.trans (cntL_sim (B := Old.line_Solve_b8 fu) (S := Int) id (fun r => some (out r)) u4 u4.length 0 1 e (Nat.zero_add _) ?_ he) ?_
            · intro k x s c next hk hb
              unfold Old.line_Solve_b8 at hb
              obtain ⟨r5, hr5, hb⟩ := Option.bind_eq_some_iff.1 hb
              obtain ⟨u, hu, hb⟩ := Option.bind_eq_some_iff.1 hb
              have hkl := (List.getElem?_eq_some_iff.1 hk).1
              rw [chk_eq (show (0 : Int) ≤ (k : Int) ∧ (k : Int) < _ from ⟨by omega, by omega⟩)]
              simp only [Option.bind_some, hk, id]
              rw [common_sim hr5]
              simp only [Option.bind_some]
              have hu' := chk_some hu
              rw [chk_eq hu']
              cases hb; rfl
            · cases e with
              | inr r' => simp only [Sum.elim_inr] at h; cases h; rfl
              | inl u5 =>
                simp only [Sum.elim_inl, outS, id] at h ⊢
                obtain ⟨e, he, h⟩ := Option.bind_eq_some_iff.1 h
                refine Eq.trans (cntL_sim (B := Old.line_Solve_b10 u5) (fun t : List Int => (u5, t)) (fun r => some (out r)) u4 u4.length 0 [] e (Nat.zero_add _) ?_ he) ?_
                · intro k x s c next hk hb
                  unfold Old.line_Solve_b10 at hb
                  obtain ⟨u, hu, hb⟩ := Option.bind_eq_some_iff.1 hb
                  obtain ⟨v, hv, hb⟩ := Option.bind_eq_some_iff.1 hb
                  have hkl := (List.getElem?_eq_some_iff.1 hk).1
                  rw [chk_eq (show (0 : Int) ≤ (k : Int) ∧ (k : Int) < _ from ⟨by omega, by omega⟩)]
                  simp only [Option.bind_some, hk, Int.toNat_natCast]
                  have hu' := chk_some hu
                  rw [chk_eq hu']
                  simp only [Option.bind_some]
                  have hv' := chk_some hv
                  rw [chk_eq hv']
                  cases hb; rfl
                · cases e with
                  | inr r' => simp only [Sum.elim_inr] at h; cases h; rfl
                  | inl u6 => simp only [Sum.elim_inl, outS] at h ⊢; cases h; rfl

theorem start_len {l : List (List Int × Int)} {n : Int} (hc : line_Check l n = some 0) : True := trivial

theorem solve_sim {l : List (List Int × Int)} {n : Int} {fu : Nat} {r : Res} (hl : ∀ x ∈ l, x.1.length ≤ LIM) (h : Old.line_Solve fu l n = some r) : line_Solve fu l n = some r := by
  unfold Old.line_Solve at h
  unfold line_Solve
  obtain ⟨c, hc, h⟩ := Option.bind_eq_some_iff.1 h
  rw [check_sim hc]
  simp only [Option.bind_some]
  cases h1 : (c != 0) with
  | true => simp only [h1, cond_true] at h ⊢; exact h
  | false =>
    simp only [h1, cond_false] at h ⊢
    obtain ⟨e, he, h⟩ := Option.bind_eq_some_iff.1 h
    refine Eq.trans (forK_sim (B := Old.line_Solve_b0 l) (K := fun d => tailG id fu n d) id some l 0 [] e ?_ he) ?_
    · intro k x s c next hk hb
      rw [Nat.zero_add] at hb
      unfold Old.line_Solve_b0 at hb
      obtain ⟨_, h2, hb⟩ := Option.bind_eq_some_iff.1 hb
      obtain ⟨x2, hx2, hb⟩ := Option.bind_eq_some_iff.1 hb
      obtain ⟨r2, hr2, hb⟩ := Option.bind_eq_some_iff.1 hb
      obtain ⟨u, hu, hb⟩ := Option.bind_eq_some_iff.1 hb
      have h2' := chk_some h2
      have hu' := chk_some hu
      have hk2 := (List.getElem?_eq_some_iff.1 hx2).1
      rw [List.length_replicate] at hk2
      unfold Old.slices_Clone_int at hr2
      cases hr2
      rw [chk_eq (show (0 : Int) ≤ (l.length : Int) ∧ (l.length : Int) ≤ (l.length : Int) ∧ (l.length : Int) ≤ (LIM : Int) from ⟨h2'.1, Int.le_refl _, h2'.2⟩)]
      simp only [Option.bind_some, Nat.zero_add, List.length_replicate, Int.toNat_natCast]
      rw [chk_eq (show (0 : Int) ≤ (k : Int) ∧ (k : Int) < (l.length : Int) from ⟨by omega, by omega⟩)]
      simp only [Option.bind_some]
      rw [chk_eq hk2]
      simp only [Option.bind_some]
      rw [clone_int x.1 (hl x (List.mem_of_getElem? hk))]
      simp only [Option.bind_some, id]
      rw [chk_eq hu']
      cases hb; rfl
    · cases e with
      | inr r' => simp only [Sum.elim_inr] at h; cases h; rfl
      | inl u1 =>
        simp only [Sum.elim_inl, outS] at h ⊢
        exact tail_sim id h

theorem solve_l0_sim {l : List (List Int × Int)} {n : Int} {fu : Nat} {r : Res} (hl : ∀ x ∈ l, x.1.length ≤ LIM) (h : Old.line_Solve fu l n = some r) : line_Solve_l0 fu n l = some (r.1, r.2.1, r.2.2.1, r.2.2.2, l) := by
  unfold Old.line_Solve at h
  unfold line_Solve_l0
  obtain ⟨c, hc, h⟩ := Option.bind_eq_some_iff.1 h
  rw [check_sim hc]
  simp only [Option.bind_some]
  cases h1 : (c != 0) with
  | true => simp only [h1, cond_true] at h ⊢; cases h; rfl
  | false =>
    simp only [h1, cond_false] at h ⊢
    obtain ⟨e, he, h⟩ := Option.bind_eq_some_iff.1 h
    by_cases hll : l.length ≤ LIM
    · rw [chk_eq (show (↑l.length : Int) ≤ (↑LIM : Int) by omega)]
      simp only [Option.bind_some, Int.toNat_natCast]
      refine Eq.trans (cntL_sim (B := Old.line_Solve_b0 l) (K := fun d => tailG (fun r : Res => (r.1, r.2.1, r.2.2.1, r.2.2.2, l)) fu n d) id (fun r : Res => some (r.1, r.2.1, r.2.2.1, r.2.2.2, l)) l l.length 0 [] e (Nat.zero_add _) ?_ he) ?_
      · intro k x s c next hk hb
        unfold Old.line_Solve_b0 at hb
        obtain ⟨_, h2, hb⟩ := Option.bind_eq_some_iff.1 hb
        obtain ⟨x2, hx2, hb⟩ := Option.bind_eq_some_iff.1 hb
        obtain ⟨r2, hr2, hb⟩ := Option.bind_eq_some_iff.1 hb
        obtain ⟨u, hu, hb⟩ := Option.bind_eq_some_iff.1 hb
        have h2' := chk_some h2
        have hu' := chk_some hu
        have hk2 := (List.getElem?_eq_some_iff.1 hk).1
        unfold Old.slices_Clone_int at hr2
        cases hr2
        rw [chk_eq (show (0 : Int) ≤ (k : Int) ∧ (k : Int) < (l.length : Int) from ⟨by omega, by omega⟩)]
        simp only [Option.bind_some, hk, Int.toNat_natCast]
        rw [chk_eq (show (0 : Int) ≤ (l.length : Int) ∧ (l.length : Int) ≤ (l.length : Int) ∧ (l.length : Int) ≤ (LIM : Int) from ⟨h2'.1, Int.le_refl _, h2'.2⟩)]
        simp only [Option.bind_some, List.length_replicate]
        rw [chk_eq (show (0 : Int) ≤ (k : Int) ∧ (k : Int) < (l.length : Int) from ⟨by omega, by omega⟩)]
        simp only [Option.bind_some]
        rw [chk_eq hk2]
        simp only [Option.bind_some]
        rw [clone_int x.1 (hl x (List.mem_of_getElem? hk))]
        simp only [Option.bind_some, id]
        rw [chk_eq hu']
        cases hb; rfl
      · cases e with
        | inr r' => simp only [Sum.elim_inr] at h; cases h; rfl
        | inl u1 =>
          simp only [Sum.elim_inl, outS] at h ⊢
          exact tail_sim _ h
    · exfalso
      cases l with
      | nil => simp at hll
      | cons x xs =>
        simp only [forL, Option.bind_eq_some_iff] at he
        obtain ⟨c', hc', _⟩ := he
        unfold Old.line_Solve_b0 at hc'
        obtain ⟨_, h2, _⟩ := Option.bind_eq_some_iff.1 hc'
        have := (chk_some h2).2
        omega
end Go.Proofs.Ytfhddbnacbcppaa

/- Plain facts: systems drawn from bytes, what is solved and disproved, turned lists. -/
set_option linter.unusedVariables false
set_option linter.unusedSimpArgs false
namespace Go.Proofs.Ytfhddbnacbcppaa
open Go.PG Go.PG.PH

abbrev Row := List Int × Int
def FU : Nat := 9223372036854775808

theorem lined_true3 : mootkeep3_lined 9223372036854775808 = some true := by kernel_rfl

/-! ### Solved and disproved -/

theorem sm_add (f g : Nat → Int) (n : Nat) : sm (fun k => f k + g k) n = sm f n + sm g n := by
  induction n with
  | zero => rfl
  | succ n ih => simp only [sm, ih]; omega
theorem sm_mulR (f : Nat → Int) (c : Int) (n : Nat) : sm (fun k => f k * c) n = sm f n * c := by
  induction n with
  | zero => simp [sm]
  | succ n ih => simp only [sm, ih, Int.add_mul]
theorem sm_zero (f : Nat → Int) (n : Nat) (h : ∀ k, k < n → f k = 0) : sm f n = 0 := by
  induction n with
  | zero => rfl
  | succ n ih => simp only [sm, ih fun k hk => h k (by omega), h n (by omega)]; rfl
theorem sm_swap (f : Nat → Nat → Int) (m n : Nat) : sm (fun k => sm (fun v => f k v) n) m = sm (fun v => sm (fun k => f k v) m) n := by
  induction m with
  | zero => simp only [sm]; exact (sm_zero _ n fun _ _ => rfl).symm
  | succ m ih => simp only [sm, ih]; rw [← sm_add]
theorem sm_mono {f g : Nat → Int} {n : Nat} (h : ∀ k, k < n → f k ≤ g k) : sm f n ≤ sm g n := by
  induction n with
  | zero => exact Int.le_refl _
  | succ n ih => simp only [sm]; have := ih fun k hk => h k (by omega); have := h n (by omega); omega

theorem not_both {l : List Row} {n : Int} {p : Row} {b : List Int} (hs : Old.solved l n p) (hd : Old.disproved l n b) : False := by
  obtain ⟨_, s2, _, _, s5⟩ := hs
  obtain ⟨d1, d2, d3, d4⟩ := hd
  have h1 : sm (fun k => Old.lhs (l.getD k default).1 p.1 n.toNat * b.getD k 0) l.length ≤ sm (fun k => ((l.getD k default).2 * b.getD k 0) * p.2) l.length := by
    refine sm_mono fun k hk => ?_
    have hm : l.getD k default ∈ l := by
      rw [List.getD_eq_getElem?_getD, List.getElem?_eq_getElem hk]; exact List.getElem_mem hk
    have h2 := s5 _ hm
    have hb : 0 ≤ b.getD k 0 := by
      rw [List.getD_eq_getElem?_getD, List.getElem?_eq_getElem (by rw [d1]; exact hk)]
      exact (d2 _ (List.getElem_mem _)).1
    have := Int.mul_le_mul_of_nonneg_right h2 hb
    rw [show (l.getD k default).2 * p.2 * b.getD k 0 = (l.getD k default).2 * b.getD k 0 * p.2 by rw [Int.mul_assoc, Int.mul_comm p.2, ← Int.mul_assoc]] at this
    exact this
  rw [sm_mulR] at h1
  have h3 : sm (fun k => Old.lhs (l.getD k default).1 p.1 n.toNat * b.getD k 0) l.length = 0 := by
    have : ∀ k, Old.lhs (l.getD k default).1 p.1 n.toNat * b.getD k 0 = sm (fun v => (l.getD k default).1.getD v 0 * b.getD k 0 * p.1.getD v 0) n.toNat := by
      intro k
      unfold Old.lhs
      rw [← sm_mulR]
      refine sm_congr fun v _ => ?_
      rw [Int.mul_assoc, Int.mul_comm (p.1.getD v 0), ← Int.mul_assoc]
    simp only [this]
    rw [sm_swap]
    refine sm_zero _ _ fun v hv => ?_
    rw [sm_mulR]
    have := d3 v hv
    unfold Old.col at this
    rw [this, Int.zero_mul]
  rw [h3] at h1
  unfold Old.mst at d4
  have : sm (fun k => (l.getD k default).2 * b.getD k 0) l.length * p.2 < 0 := Int.mul_neg_of_neg_of_pos d4 (by omega)
  omega

/-! ### The check -/

theorem check_zero {l : List Row} {n : Int} (h1 : 1 ≤ n) (h3 : n ≤ 3) (h8 : l.length ≤ 8) (hl : ∀ r ∈ l, Old.rowOk n r) : Old.line_Check l n = some 0 := by
  unfold Old.line_Check
  rw [show (cond (decide (n < 1)) true (cond (decide (n > 3)) true (decide ((l.length : Int) > 8)))) = false by simp; omega]
  simp only [cond_false]
  obtain ⟨s', e, _⟩ := forL_nx (body := Old.line_Check_b0 n) (fun _ _ => True) l () trivial (fun k x s hk _ => by
    obtain ⟨r1, r2, r3, r4⟩ := hl x (List.mem_of_getElem? hk)
    refine ⟨(), ?_, trivial⟩
    unfold Old.line_Check_b0
    rw [show ((x.1.length : Int) != n) = false by simp [r1]]
    simp only [cond_false]
    obtain ⟨s2, e2, _⟩ := forL_nx (body := Old.line_Check_b2) (fun _ _ => True) x.1 () trivial (fun k a s ha _ => by
      refine ⟨(), ?_, trivial⟩
      have := r2 a (List.mem_of_getElem? ha)
      unfold Old.line_Check_b2
      rw [show (cond (decide (a < -9)) true (decide (a > 9))) = false by simp; omega]
      rfl)
    rw [e2]
    simp only [Option.bind_some, Sum.elim_inl]
    rw [show (cond (decide (x.2 < -99)) true (decide (x.2 > 99))) = false by simp; omega]
    rfl)
  rw [e]; rfl

/-- What Solve comes to where the check finds nothing. -/
theorem solve_cases {l : List Row} {n : Int} (h1 : 1 ≤ n) (h3 : n ≤ 3) (h8 : l.length ≤ 8) (hl : ∀ r ∈ l, Old.rowOk n r) :
    ∃ r : Res, line_Solve FU l n = some r ∧ line_Solve_l0 FU n l = some (r.1, r.2.1, r.2.2.1, r.2.2.2, l) ∧ r.2.2.2 = 0 ∧ (r.2.2.1 = true ↔ ∃ p, Old.solved l n p) ∧ (r.2.2.1 = true → Old.solved l n r.1) := by
  have hc := check_zero h1 h3 h8 hl
  have hlim : ∀ x ∈ l, x.1.length ≤ LIM := fun x hx => by
    have := (hl x hx).1
    unfold LIM
    omega
  rcases Old.solve_spec (fu := FU) (by decide) hc with ⟨b, e, hb⟩ | ⟨p, e, hp⟩
  · refine ⟨_, solve_sim hlim e, solve_l0_sim hlim e, rfl, ⟨fun h => (by cases h), fun ⟨p, hp⟩ => (not_both hp hb).elim⟩, fun h => by cases h⟩
  · exact ⟨_, solve_sim hlim e, solve_l0_sim hlim e, rfl, ⟨fun _ => ⟨p, hp⟩, fun _ => rfl⟩, fun _ => hp⟩

/-! ### Bytes -/

theorem below_spec (x m : Int) (h0 : 0 < m) (h1 : m ≤ 1000) : ∃ v, mootmake_Below x m = some v ∧ 0 ≤ v ∧ v < m := by
  unfold mootmake_Below
  rw [chk_eq (by omega)]
  simp only [Option.bind_some]
  have hb : -m < x.tmod m ∧ x.tmod m < m := by
    have h2 := Int.tmod_lt_of_pos x h0
    have h3 : -m < x.tmod m := by
      have := Int.tmod_lt_of_pos (-x) h0
      rw [Int.neg_tmod] at this
      omega
    exact ⟨h3, h2⟩
  cases hc : decide (x.tmod m < 0) with
  | true =>
    simp only [cond_true]
    have := of_decide_eq_true hc
    rw [wrap64 (by omega) (by omega)]
    exact ⟨_, rfl, by omega, by omega⟩
  | false =>
    simp only [cond_false]
    have := of_decide_eq_false hc
    exact ⟨_, rfl, by omega, by omega⟩

/-- The next number of a stream. -/
theorem next_spec (l : List Int) (m : Int) (h0 : 0 < m) (h1 : m ≤ 1000) : ∃ v t, (join (R := Int × List Int)
      (fun d => bif d then some ((0 : Int), l) else (idx l (0 : Int)).bind fun y => (chk ((0 : Int) ≤ (1 : Int) ∧ (1 : Int) ≤ (↑l.length : Int))).bind fun x => (mootmake_Below y m).bind fun r => some (r, List.drop (Int.toNat (1 : Int)) l))
      fun K => K ((↑l.length : Int) == (0 : Int))) = some (v, t) ∧ 0 ≤ v ∧ v < m := by
  unfold join
  cases l with
  | nil => exact ⟨0, [], rfl, by omega, by omega⟩
  | cons x xs =>
    rw [show ((↑(x :: xs).length : Int) == 0) = false by simp; omega]
    simp only [cond_false]
    rw [show idx (x :: xs) 0 = some x by unfold idx; simp]
    simp only [Option.bind_some]
    rw [chk_eq (by simp; omega)]
    simp only [Option.bind_some]
    obtain ⟨v, e, h2, h3⟩ := below_spec x m h0 h1
    rw [e]
    exact ⟨v, _, rfl, h2, h3⟩

theorem cntK_inv {S R : Type} {body : Nat → S → (S → Option R) → Option R} (I : Nat → S → Prop) (n : Nat) : ∀ (m i : Nat) (s : S), i + m = n → I i s →
    (∀ k s, k < n → I k s → ∃ s', (∀ next, body k s next = next s') ∧ I (k + 1) s') → ∃ s', (∀ K, cntK body i m s K = K s') ∧ I n s'
  | 0, i, s, hn, hI, _ => ⟨s, fun _ => rfl, by rw [← hn]; exact hI⟩
  | m + 1, i, s, hn, hI, h => by
    obtain ⟨s1, e1, h1⟩ := h i s (by omega) hI
    obtain ⟨s2, e2, h2⟩ := cntK_inv (body := body) I n m (i + 1) s1 (by omega) h1 h
    exact ⟨s2, fun K => by simp only [cntK]; rw [e1]; exact e2 K, h2⟩

def rowK (n : Int) (r : Row) : Prop := (r.1.length : Int) = n ∧ (∀ a ∈ r.1, -5 ≤ a ∧ a ≤ 5) ∧ -30 ≤ r.2 ∧ r.2 ≤ 30
theorem rowK.ok {n : Int} {r : Row} (h : rowK n r) : Old.rowOk n r := ⟨h.1, fun a ha => by have := h.2.1 a ha; omega, by have := h.2.2; omega, by have := h.2.2; omega⟩

theorem rows_spec {n : Int} (h1 : 1 ≤ n) (h3 : n ≤ 3) (l : List Int) : ∃ R, mootkeep3_rows n l = some R ∧ R.length ≤ 8 ∧ ∀ r ∈ R, rowK n r := by
  unfold mootkeep3_rows
  obtain ⟨v, t, e, v0, v9⟩ := next_spec l 9 (by omega) (by omega)
  rw [e]
  simp only [Option.bind_some]
  rw [chk_eq (show v ≤ (↑LIM : Int) by unfold LIM; omega)]
  simp only [Option.bind_some]
  obtain ⟨s, es, hs⟩ := cntK_inv (R := List Row) (body := fun k (d : List Row × List Int) next =>
          (join
                (fun d_1 =>
                  bif d_1 then some ((0 : Int), d.snd)
                  else
                    (idx d.snd (0 : Int)).bind fun y =>
                      (chk ((0 : Int) ≤ (1 : Int) ∧ (1 : Int) ≤ (↑d.snd.length : Int))).bind fun x =>
                        (mootmake_Below y (61 : Int)).bind fun r => some (r, List.drop (Int.toNat (1 : Int)) d.snd))
                fun K => K ((↑d.snd.length : Int) == (0 : Int))).bind
            fun r =>
            (chk (n ≤ (↑LIM : Int))).bind fun x =>
              cntK
                (fun k d next =>
                  (join
                        (fun d_1 =>
                          bif d_1 then some ((0 : Int), d.snd.snd)
                          else
                            (idx d.snd.snd (0 : Int)).bind fun y =>
                              (chk ((0 : Int) ≤ (1 : Int) ∧ (1 : Int) ≤ (↑d.snd.snd.length : Int))).bind fun x =>
                                (mootmake_Below y (11 : Int)).bind fun r => some (r, List.drop (Int.toNat (1 : Int)) d.snd.snd))
                        fun K => K ((↑d.snd.snd.length : Int) == (0 : Int))).bind
                    fun r => (chk (d.snd.fst.length + (1 : Nat) ≤ LIM)).bind fun x => next (d.fst, d.snd.fst ++ [IntKind.i64.wrap (r.fst - (5 : Int))], r.snd))
                (0 : Nat) n.toNat (IntKind.i64.wrap (r.fst - (30 : Int)), [], r.snd) fun d_1 =>
                (chk (d.fst.length + (1 : Nat) ≤ LIM)).bind fun x => next (d.fst ++ [(d_1.snd.fst, d_1.fst)], d_1.snd.snd)) (fun k s => s.1.length = k ∧ ∀ r ∈ s.1, rowK n r) v.toNat v.toNat 0 (([], t) : List Row × List Int) (Nat.zero_add _) ⟨rfl, by simp⟩ (fun k s hk hI => by
    obtain ⟨v1, t1, e1, b0, b61⟩ := next_spec s.2 61 (by omega) (by omega)
    obtain ⟨s2, e2, g1, g2, g3⟩ := cntK_inv (R := List Row) (body := fun k (d : Int × List Int × List Int) next =>
                  (join
                        (fun d_1 =>
                          bif d_1 then some ((0 : Int), d.snd.snd)
                          else
                            (idx d.snd.snd (0 : Int)).bind fun y =>
                              (chk ((0 : Int) ≤ (1 : Int) ∧ (1 : Int) ≤ (↑d.snd.snd.length : Int))).bind fun x =>
                                (mootmake_Below y (11 : Int)).bind fun r => some (r, List.drop (Int.toNat (1 : Int)) d.snd.snd))
                        fun K => K ((↑d.snd.snd.length : Int) == (0 : Int))).bind
                    fun r => (chk (d.snd.fst.length + (1 : Nat) ≤ LIM)).bind fun x => next (d.fst, d.snd.fst ++ [IntKind.i64.wrap (r.fst - (5 : Int))], r.snd))
      (fun k s2 => s2.1 = v1 - 30 ∧ s2.2.1.length = k ∧ ∀ a ∈ s2.2.1, -5 ≤ a ∧ a ≤ 5) n.toNat n.toNat 0 ((IntKind.i64.wrap (v1 - (30 : Int)), [], t1) : Int × List Int × List Int) (Nat.zero_add _)
        ⟨wrap64 (by omega) (by omega), rfl, by simp⟩ (fun k s2 hk ⟨j1, j2, j3⟩ => by
          obtain ⟨v2, t2, e2, c0, c11⟩ := next_spec s2.2.2 11 (by omega) (by omega)
          refine ⟨(s2.1, s2.2.1 ++ [v2 - 5], t2), fun next2 => ?_, j1, by simp [j2], fun a ha => ?_⟩
          · rw [e2]
            simp only [Option.bind_some]
            rw [chk_eq (show s2.2.1.length + 1 ≤ LIM by unfold LIM; omega), wrap64 (by omega) (by omega)]
            rfl
          · rcases List.mem_append.1 ha with ha | ha
            · exact j3 a ha
            · simp at ha; omega)
    refine ⟨(s.1 ++ [(s2.2.1, s2.1)], s2.2.2), fun next => ?_, by simp [hI.1], fun r hr => ?_⟩
    · rw [e1]
      simp only [Option.bind_some]
      rw [chk_eq (show n ≤ (↑LIM : Int) by unfold LIM; omega)]
      simp only [Option.bind_some]
      rw [e2]
      rw [chk_eq (show s.1.length + 1 ≤ LIM by unfold LIM; omega)]
      rfl
    · rcases List.mem_append.1 hr with hr | hr
      · exact hI.2 r hr
      · simp at hr
        subst hr
        exact ⟨by simp only; omega, g3, by simp only; omega, by simp only; omega⟩)
  refine ⟨s.1, es _, ?_, hs.2⟩
  have := hs.1
  omega
end Go.Proofs.Ytfhddbnacbcppaa

/- LineOrders, the plain law. -/
set_option linter.unusedVariables false
set_option linter.unusedSimpArgs false
namespace Go.Proofs.Ytfhddbnacbcppaa
open Go.PG Go.PG.PH

theorem clone_rows (l : List Row) (h : l.length ≤ LIM) : slices_Clone___line_Row_line_Row__w0 l = some l := by
  unfold slices_Clone___line_Row_line_Row__w0 join
  cases l with
  | nil => simp only [lcase]; rw [show (chk ((0 : Nat) + ([] : List Row).length ≤ LIM)) = some () from chk_eq (by simp)]; exact both_same _
  | cons x xs =>
    simp only [lcase]
    rw [chk_eq (by rw [Nat.zero_add]; exact h)]; rfl

theorem swap_get (l : List Row) (i j : Nat) (x y : Row) (hi : l[i]? = some x) (hj : l[j]? = some y) (k : Nat) : ((l.set i y).set j x)[k]? = if k = j then some x else if k = i then some y else l[k]? := by
  have h1 := (List.getElem?_eq_some_iff.1 hi).1
  have h2 := (List.getElem?_eq_some_iff.1 hj).1
  rw [List.getElem?_set, List.getElem?_set]
  by_cases e1 : j = k
  · subst e1; simp [h2]
  · by_cases e2 : i = k
    · subst e2; simp [h1, e1, Ne.symm e1]
    · simp [e1, e2, Ne.symm e1, Ne.symm e2]

theorem swap_mem (l : List Row) (i j : Nat) (x y : Row) (hi : l[i]? = some x) (hj : l[j]? = some y) (r : Row) : r ∈ (l.set i y).set j x ↔ r ∈ l := by
  constructor
  · intro h
    obtain ⟨k, hk⟩ := List.getElem?_of_mem h
    rw [swap_get l i j x y hi hj] at hk
    split at hk
    · cases hk; exact List.mem_of_getElem? hi
    · split at hk
      · cases hk; exact List.mem_of_getElem? hj
      · exact List.mem_of_getElem? hk
  · intro h
    obtain ⟨k, hk⟩ := List.getElem?_of_mem h
    by_cases e1 : k = i
    · subst e1
      rw [hi] at hk; cases hk
      exact List.mem_of_getElem? (i := j) (by rw [swap_get l k j x y hi hj, if_pos rfl])
    · by_cases e2 : k = j
      · subst e2
        rw [hj] at hk; cases hk
        exact List.mem_of_getElem? (i := i) (by rw [swap_get l i k x y hi hj, if_neg (Ne.symm e1), if_pos rfl])
      · exact List.mem_of_getElem? (i := k) (by rw [swap_get l i j x y hi hj, if_neg e2, if_neg e1]; exact hk)

theorem reverse_spec (l : List Row) (h8 : l.length ≤ 8) : ∃ l', slices_Reverse___line_Row_line_Row_ FU l = some l' ∧ l'.length = l.length ∧ ∀ r, r ∈ l' ↔ r ∈ l := by
  unfold slices_Reverse___line_Row_line_Row_
  have main : ∀ (fu : Nat) (i j : Int) (m : List Row), 0 ≤ i → j < m.length → m.length ≤ 8 → j - i < fu → -1 ≤ j → i ≤ 9 → 0 < fu →
      ∃ l', whK (fun self (d : Int × Int × List Row) =>
      bif decide (d.fst < d.snd.fst) then
        (chk ((0 : Int) ≤ d.snd.fst ∧ d.snd.fst < (↑d.snd.snd.length : Int))).bind fun x =>
          d.snd.snd[d.snd.fst.toNat]?.bind fun x =>
            (chk ((0 : Int) ≤ d.fst ∧ d.fst < (↑d.snd.snd.length : Int))).bind fun x_1 =>
              d.snd.snd[d.fst.toNat]?.bind fun x_2 =>
                (chk ((0 : Int) ≤ d.fst ∧ d.fst < (↑d.snd.snd.length : Int))).bind fun x_3 =>
                  (chk (d.fst.toNat < d.snd.snd.length)).bind fun x_4 =>
                    (chk ((0 : Int) ≤ d.snd.fst ∧ d.snd.fst < (↑(d.snd.snd.set d.fst.toNat x).length : Int))).bind fun x_5 =>
                      (chk (d.snd.fst.toNat < (d.snd.snd.set d.fst.toNat x).length)).bind fun x_6 =>
                        self (IntKind.i64.wrap (d.fst + (1 : Int)), IntKind.i64.wrap (d.snd.fst - (1 : Int)), (d.snd.snd.set d.fst.toNat x).set d.snd.fst.toNat x_2)
      else some d.snd.snd) fu (i, j, m) = some l' ∧ l'.length = m.length ∧ ∀ r, r ∈ l' ↔ r ∈ m := by
    intro fu
    induction fu with
    | zero => intro i j m _ _ _ _ _ _ h; omega
    | succ fu ih =>
      intro i j m h0 hj h8 hf hj1 hi9 _
      simp only [whK]
      by_cases hij : i < j
      · rw [show decide (i < j) = true from decide_eq_true hij]
        simp only [cond_true]
        have hjl : j.toNat < m.length := by omega
        have hil : i.toNat < m.length := by omega
        rw [chk_eq (show (0 : Int) ≤ j ∧ j < (↑m.length : Int) from ⟨by omega, hj⟩)]
        simp only [Option.bind_some, List.getElem?_eq_getElem hjl]
        rw [chk_eq (show (0 : Int) ≤ i ∧ i < (↑m.length : Int) from ⟨h0, by omega⟩)]
        simp only [Option.bind_some, List.getElem?_eq_getElem hil, List.length_set]
        rw [chk_eq hil]
        simp only [Option.bind_some]
        rw [chk_eq (show (0 : Int) ≤ j ∧ j < (↑m.length : Int) from ⟨by omega, hj⟩)]
        simp only [Option.bind_some]
        rw [chk_eq hjl]
        simp only [Option.bind_some]
        rw [wrap64 (by omega) (by omega), wrap64 (by omega) (by omega)]
        obtain ⟨l', e, e2, e3⟩ := ih (i + 1) (j - 1) ((m.set i.toNat m[j.toNat]).set j.toNat m[i.toNat]) (by omega) (by simp; omega) (by simpa using h8) (by omega) (by omega) (by omega) (by omega)
        refine ⟨l', by simpa only [List.length_set] using e, by rw [e2]; simp, fun r => (e3 r).trans ?_⟩
        exact swap_mem m i.toNat j.toNat _ _ (List.getElem?_eq_getElem hil) (List.getElem?_eq_getElem hjl) r
      · rw [show decide (i < j) = false from decide_eq_false hij]
        exact ⟨m, rfl, rfl, fun _ => Iff.rfl⟩
  rw [wrap64 (by omega) (by omega)]
  exact main FU 0 ((↑l.length : Int) - 1) l (by omega) (by omega) h8 (by unfold FU; omega) (by omega) (by omega) (by decide)

theorem solved_mono {l l' : List Row} {n : Int} {p : Row} (h : ∀ r ∈ l', r ∈ l) (hs : Old.solved l n p) : Old.solved l' n p := by
  obtain ⟨a, b, c, d, e⟩ := hs
  exact ⟨a, b, c, d, fun r hr => e r (h r hr)⟩

theorem bool_of_iff {a b : Bool} {p : Prop} (ha : a = true ↔ p) (hb : b = true ↔ p) : a = b := by
  cases a <;> cases b <;> simp_all

theorem lineOrders_plain (l : List Int) (m : Int) : mootkeep3_LineOrders FU l m = some true := by
  unfold mootkeep3_LineOrders
  obtain ⟨r, e, h0, h3⟩ := below_spec m 3 (by omega) (by omega)
  rw [e]
  simp only [Option.bind_some]
  rw [wrap64 (show -9223372036854775808 ≤ (1 : Int) + r by omega) (by omega)]
  obtain ⟨R, eR, hR8, hRk⟩ := rows_spec (n := 1 + r) (by omega) (by omega) l
  rw [eR]
  simp only [Option.bind_some]
  have hok : ∀ x ∈ R, Old.rowOk (1 + r) x := fun x hx => (hRk x hx).ok
  obtain ⟨s, e1, _, z1, i1, w1⟩ := solve_cases (by omega) (by omega) hR8 hok
  rw [e1]
  simp only [Option.bind_some]
  rw [clone_rows R (by unfold LIM; omega)]
  simp only [Option.bind_some]
  obtain ⟨R', e2, l2, m2⟩ := reverse_spec R hR8
  rw [e2]
  simp only [Option.bind_some]
  rw [chk_eq l2]
  simp only [Option.bind_some]
  obtain ⟨s', _, e3, z3, i3, _⟩ := solve_cases (l := R') (n := 1 + r) (by omega) (by omega) (by omega) (fun x hx => hok x ((m2 x).1 hx))
  rw [e3]
  simp only [Option.bind_some]
  rw [chk_eq trivial]
  simp only [Option.bind_some]
  have hsame : s.2.2.1 = s'.2.2.1 := bool_of_iff i1 (i3.trans ⟨fun ⟨p, hp⟩ => ⟨p, solved_mono (fun x hx => (m2 x).2 hx) hp⟩, fun ⟨p, hp⟩ => ⟨p, solved_mono (fun x hx => (m2 x).1 hx) hp⟩⟩)
  simp only [join, show mootkeep3_lined FU = some true from lined_true3, Option.bind_some, z1, z3, hsame]
  simp only [Bool.not_true, cond_false, show ((0 : Int) != 0) = false from rfl]
  rw [show (!(s'.2.2.1) == s'.2.2.1) = false by cases s'.2.2.1 <;> rfl]
  simp only [cond_false]
  by_cases hpos : (↑R.length : Int) > 0 ∧ (↑R.length : Int) < 8
  · rw [show decide ((↑R.length : Int) > 0) = true from decide_eq_true hpos.1, show decide ((↑R.length : Int) < 8) = true from decide_eq_true hpos.2]
    simp only [cond_true]
    have hlen : 0 < R.length := by omega
    have hx : idx R 0 = some (R[0]'hlen) := by unfold idx; simp [hlen]
    have hmem : R[0]'hlen ∈ R := List.getElem_mem _
    obtain ⟨k1, k2, k3, k4⟩ := hRk _ hmem
    rw [hx]
    simp only [Option.bind_some]
    generalize R[0]'hlen = x at hx hmem k1 k2 k3 k4
    rw [clone_int x.1 (by unfold LIM; omega)]
    simp only [Option.bind_some]
    obtain ⟨v, ev, v0, v9⟩ := below_spec m 9 (by omega) (by omega)
    rw [ev]
    simp only [Option.bind_some]
    rw [chk_eq (show R.length + 1 ≤ LIM by unfold LIM; omega)]
    simp only [Option.bind_some]
    rw [wrap64 (show -9223372036854775808 ≤ x.2 + v by omega) (by omega)]
    obtain ⟨s2, _, e4, z4, i4, _⟩ := solve_cases (l := R ++ [(x.1, x.2 + v)]) (n := 1 + r) (by omega) (by omega) (by simp; omega) (fun y hy => by
      rcases List.mem_append.1 hy with hy | hy
      · exact hok y hy
      · simp at hy
        subst hy
        exact ⟨k1, fun a ha => by have := k2 a ha; omega, by simp only; omega, by simp only; omega⟩)
    rw [e4]
    simp only [Option.bind_some]
    rw [chk_eq trivial]
    simp only [Option.bind_some, z4]
    have : s2.2.2.1 = s'.2.2.1 := by
      rw [← hsame]
      refine bool_of_iff i4 (i1.trans ⟨fun ⟨p, hp⟩ => ⟨p, ?_⟩, fun ⟨p, hp⟩ => ⟨p, solved_mono (fun y hy => List.mem_append.2 (.inl hy)) hp⟩⟩)
      obtain ⟨a, b, c, d, f⟩ := hp
      refine ⟨a, b, c, d, fun y hy => ?_⟩
      rcases List.mem_append.1 hy with hy | hy
      · exact f y hy
      · simp at hy
        subst hy
        have h1 := f x hmem
        have h2 : x.2 * p.2 ≤ (x.2 + v) * p.2 := Int.mul_le_mul_of_nonneg_right (by omega) (by omega)
        exact Int.le_trans h1 h2
    rw [this]
    simp
  · by_cases hp : (↑R.length : Int) > 0
    · have : ¬ (↑R.length : Int) < 8 := fun h => hpos ⟨hp, h⟩
      rw [show decide ((↑R.length : Int) > 0) = true from decide_eq_true hp, show decide ((↑R.length : Int) < 8) = false from decide_eq_false this]
      rfl
    · rw [show decide ((↑R.length : Int) > 0) = false from decide_eq_false hp]
      rfl
end Go.Proofs.Ytfhddbnacbcppaa

/- LineFewer, the plain law. -/
set_option linter.unusedVariables false
set_option linter.unusedSimpArgs false
namespace Go.Proofs.Ytfhddbnacbcppaa
open Go.PG Go.PG.PH

theorem holds_sim {l : List Row} {n : Int} {p : Row} {b : Bool} (h : Old.line_Holds l n p = some b) : line_Holds l n p = some b := by
  unfold Old.line_Holds at h
  unfold line_Holds
  obtain ⟨u1, hu1, h⟩ := Option.bind_eq_some_iff.1 h
  obtain ⟨c, hc, hu1⟩ := Option.bind_eq_some_iff.1 hu1
  have main : (forL Old.line_Holds_b0 0 p.1 ()).bind (Sum.elim (fun (u2 : Unit) =>
      (forL (Old.line_Holds_b2 p) 0 l ()).bind (Sum.elim (fun (u4 : Unit) =>
        some true) some)) some) = some b → forK
          (fun k x (d : Unit) next =>
            join (fun d => bif d then some false else next ()) fun K => bif decide (x < (-36028797018963968 : Int)) then K true else K (decide (x > (36028797018963968 : Int))))
          (0 : Nat) p.fst () (fun d =>
          forK
            (fun k (x : Row) d next =>
              forK (fun k x d next => (idx p.fst (↑k : Int)).bind fun y => next (IntKind.i64.wrap (d + IntKind.i64.wrap (x * y)))) (0 : Nat) x.fst (0 : Int) fun d =>
                bif decide (d > IntKind.i64.wrap (x.snd * p.snd)) then some false else next ())
            (0 : Nat) l () fun d => some true) = some b := by
    intro h
    obtain ⟨e, he, h⟩ := Option.bind_eq_some_iff.1 h
    refine Eq.trans (forK_sim (B := Old.line_Holds_b0) (S := Unit) id some p.1 0 () e ?_ he) ?_
    · intro k x s c next _ hb
      unfold Old.line_Holds_b0 at hb
      simp only [join]
      cases h1 : decide (x < (-36028797018963968 : Int)) <;> cases h2 : decide (x > (36028797018963968 : Int)) <;> simp only [h1, h2, cond_true, cond_false] at hb ⊢ <;> (cases hb; rfl)
    · cases e with
      | inr r => simp only [Sum.elim_inr] at h; cases h; rfl
      | inl s =>
        simp only [Sum.elim_inl, outS, id] at h ⊢
        obtain ⟨e, he, h⟩ := Option.bind_eq_some_iff.1 h
        refine Eq.trans (forK_sim (B := Old.line_Holds_b2 p) (S := Unit) id some l 0 () e ?_ he) ?_
        · intro k x s c next _ hb
          unfold Old.line_Holds_b2 at hb
          obtain ⟨e, he, hb⟩ := Option.bind_eq_some_iff.1 hb
          refine Eq.trans (forK_sim (B := Old.line_Holds_b4 p) (S := Int) id (fun c => c.out id next (fun _ => some true) some) x.1 0 0 e ?_ he) ?_
          · intro k y s c next2 _ hb
            unfold Old.line_Holds_b4 at hb
            rw [Nat.zero_add] at hb
            obtain ⟨z, hz, hb⟩ := Option.bind_eq_some_iff.1 hb
            simp only [Nat.zero_add, idx_nat, hz, Option.bind_some, id]
            cases hb; rfl
          · cases e with
            | inr c' => simp only [Sum.elim_inr] at hb; cases hb; rfl
            | inl d =>
              simp only [Sum.elim_inl, outS, id] at hb ⊢
              cases h1 : decide (d > IntKind.i64.wrap (x.2 * p.2)) with
              | true => simp only [h1, cond_true] at hb ⊢; cases hb; rfl
              | false => simp only [h1, cond_false] at hb ⊢; cases hb; rfl
        · cases e with
          | inr r => simp only [Sum.elim_inr] at h; cases h; rfl
          | inl s => exact h
  simp only [join, check_sim hc, Option.bind_some]
  cases h1 : (c != 0) with
  | true => simp only [h1, cond_true, Option.some.injEq] at hu1 ⊢; subst hu1; simpa using h
  | false =>
    simp only [h1, cond_false] at hu1 ⊢
    cases h2 : ((↑p.1.length : Int) != n) with
    | true => simp only [h2, cond_true, Option.some.injEq] at hu1 ⊢; subst hu1; simpa using h
    | false =>
      simp only [h2, cond_false] at hu1 ⊢
      cases h3 : decide (p.2 < 1) with
      | true => simp only [h3, cond_true, Option.some.injEq] at hu1 ⊢; subst hu1; simpa using h
      | false =>
        simp only [h3, cond_false, Option.some.injEq] at hu1 ⊢
        rw [← hu1] at h
        cases h4 : decide (p.2 > 1125899906842624) with
        | true => simp only [h4, cond_true] at h ⊢; exact h
        | false => simp only [h4, cond_false] at h ⊢; exact main h

theorem holds_cases (l : List Row) (n : Int) (p : Row) : ∃ b, line_Holds l n p = some b ∧ (b = true ↔ Old.line_Check l n = some 0 ∧ Old.solved l n p) := by
  obtain ⟨b, h1, h2⟩ := Old.holds_spec l n p
  exact ⟨b, holds_sim h1, h2⟩

/-- What stays of a list. -/
theorem delete_spec (l : List Row) (n : Int) (p : Row) (h8 : l.length ≤ 8) : ∃ l', slices_DeleteFunc___line_Row_line_Row__34_w0 FU l n p.1 p.2 = some (l', n, p.1, p.2) ∧
    l'.length ≤ l.length ∧ ∀ x ∈ l', x ∈ l ∧ line_Holds [x] n p = some true := by
  have hd : ∀ x : Row, ∃ b, mootkeep3_LineFewer_1 x n p.1 p.2 = some (!b, n, p.1, p.2) ∧ line_Holds [x] n p = some b := by
    intro x
    obtain ⟨b, hb, _⟩ := holds_cases [x] n p
    refine ⟨b, ?_, hb⟩
    unfold mootkeep3_LineFewer_1
    rw [show line_Holds [(x.fst, x.snd)] n (p.1, p.2) = some b from hb]
    rfl
  -- the first one that goes
  have hi : ∃ i : Int, slices_IndexFunc___line_Row_line_Row__34_l0 l n p.1 p.2 = some (i, l, n, p.1, p.2) ∧ ((i = -1 ∧ ∀ x ∈ l, line_Holds [x] n p = some true) ∨
      (0 ≤ i ∧ i < l.length ∧ ∀ k x, k < i.toNat → l[k]? = some x → line_Holds [x] n p = some true)) := by
    unfold slices_IndexFunc___line_Row_line_Row__34_l0
    rw [chk_eq (show (↑l.length : Int) ≤ (↑LIM : Int) by unfold LIM; omega)]
    simp only [Option.bind_some, Int.toNat_natCast]
    have key : ∀ (m k : Nat), k + m = l.length → (∀ j x, j < k → l[j]? = some x → line_Holds [x] n p = some true) →
        ∃ i : Int, cntK
      (fun k (d : Int × List Int × Int) next =>
        (chk ((0 : Int) ≤ (↑k : Int) ∧ (↑k : Int) < (↑l.length : Int))).bind fun x =>
          l[k]?.bind fun x =>
            (mootkeep3_LineFewer_1 x d.fst d.snd.fst d.snd.snd).bind fun r =>
              bif r.fst then some ((↑k : Int), l, r.snd.fst, r.snd.snd.fst, r.snd.snd.snd) else next (r.snd.fst, r.snd.snd.fst, r.snd.snd.snd))
      k m (n, p.1, p.2) (fun d => some ((-1 : Int), l, d.fst, d.snd.fst, d.snd.snd)) = some (i, l, n, p.1, p.2) ∧ ((i = -1 ∧ ∀ x ∈ l, line_Holds [x] n p = some true) ∨
      (0 ≤ i ∧ i < l.length ∧ ∀ k x, k < i.toNat → l[k]? = some x → line_Holds [x] n p = some true)) := by
      intro m
      induction m with
      | zero =>
        intro k hk hall
        refine ⟨-1, rfl, .inl ⟨rfl, fun x hx => ?_⟩⟩
        obtain ⟨j, hj⟩ := List.getElem?_of_mem hx
        exact hall j x (by have := (List.getElem?_eq_some_iff.1 hj).1; omega) hj
      | succ m ih =>
        intro k hk hall
        have hkl : k < l.length := by omega
        obtain ⟨b, e1, e2⟩ := hd l[k]
        simp only [cntK]
        rw [chk_eq (show (0 : Int) ≤ (k : Int) ∧ (k : Int) < (↑l.length : Int) from ⟨by omega, by omega⟩)]
        simp only [Option.bind_some, List.getElem?_eq_getElem hkl, e1]
        cases b with
        | false => exact ⟨k, rfl, .inr ⟨by omega, by omega, fun j x hj hx => hall j x (by simpa using hj) hx⟩⟩
        | true =>
          simp only [Bool.not_true, cond_false]
          exact ih (k + 1) (by omega) fun j x hj hx => by
            rcases Nat.lt_or_ge j k with h | h
            · exact hall j x h hx
            · have : j = k := by omega
              subst this
              rw [List.getElem?_eq_getElem hkl] at hx
              cases hx; exact e2
    exact key l.length 0 (Nat.zero_add _) fun j x hj => by omega
  obtain ⟨i, hi, hcase⟩ := hi
  unfold slices_DeleteFunc___line_Row_line_Row__34_w0
  rw [hi]
  simp only [Option.bind_some]
  rw [chk_eq trivial]
  simp only [Option.bind_some]
  rcases hcase with ⟨rfl, hall⟩ | ⟨h0, hl, hall⟩
  · exact ⟨l, rfl, Nat.le_refl _, fun x hx => ⟨hx, hall x hx⟩⟩
  · rw [show (i == -1) = false by simp; omega]
    simp only [cond_false]
    rw [wrap64 (by omega) (by omega)]
    have main : ∀ (fu : Nat) (i j : Int) (m : List Row), 0 ≤ i → i ≤ j → j ≤ l.length → m.length = l.length → (l.length : Int) - j < fu →
        (∀ k x, k < i.toNat → m[k]? = some x → x ∈ l ∧ line_Holds [x] n p = some true) → (∀ k, j.toNat ≤ k → m[k]? = l[k]?) → ∃ l', whK
          (fun self (d : Int × Int × Int × List Int × Int × List Row) =>
            bif decide (d.snd.fst < (↑d.snd.snd.snd.snd.snd.length : Int)) then
              join (fun d_1 : Int × Int × List Int × Int × List Row => self (d_1.fst, IntKind.i64.wrap (d.snd.fst + (1 : Int)), d_1.snd.fst, d_1.snd.snd.fst, d_1.snd.snd.snd.fst, d_1.snd.snd.snd.snd)) fun K =>
                (chk ((0 : Int) ≤ d.snd.fst ∧ d.snd.fst < (↑d.snd.snd.snd.snd.snd.length : Int))).bind fun x =>
                  d.snd.snd.snd.snd.snd[d.snd.fst.toNat]?.bind fun x =>
                    (mootkeep3_LineFewer_1 (x.fst, x.snd) d.snd.snd.fst d.snd.snd.snd.fst d.snd.snd.snd.snd.fst).bind fun r =>
                      bif !r.fst then
                        (chk ((0 : Int) ≤ d.fst ∧ d.fst < (↑d.snd.snd.snd.snd.snd.length : Int))).bind fun x_1 =>
                          (chk (d.fst.toNat < d.snd.snd.snd.snd.snd.length)).bind fun x_2 =>
                            K (IntKind.i64.wrap (d.fst + (1 : Int)), r.snd.fst, r.snd.snd.fst, r.snd.snd.snd, d.snd.snd.snd.snd.snd.set d.fst.toNat (x.fst, x.snd))
                      else K (d.fst, r.snd.fst, r.snd.snd.fst, r.snd.snd.snd, d.snd.snd.snd.snd.snd)
            else
              (chk ((0 : Int) ≤ d.fst ∧ d.fst ≤ (↑d.snd.snd.snd.snd.snd.length : Int))).bind fun x =>
                (chk (d.fst.toNat + (d.snd.snd.snd.snd.snd.length - d.fst.toNat) ≤ d.snd.snd.snd.snd.snd.length)).bind fun x =>
                  (chk
                        ((0 : Int) ≤ d.fst ∧
                          d.fst ≤
                            (↑(List.take d.fst.toNat d.snd.snd.snd.snd.snd ++
                                    (List.replicate (d.snd.snd.snd.snd.snd.length - d.fst.toNat) (@List.nil Int, (0 : Int)) ++
                                      List.drop (d.fst.toNat + (List.replicate (d.snd.snd.snd.snd.snd.length - d.fst.toNat) (@List.nil Int, (0 : Int))).length)
                                        d.snd.snd.snd.snd.snd)).length :
                              Int))).bind
                    fun x =>
                    (chk
                          (d.fst.toNat - (0 : Nat) ≤
                            (List.take d.fst.toNat d.snd.snd.snd.snd.snd ++
                                (List.replicate (d.snd.snd.snd.snd.snd.length - d.fst.toNat) (@List.nil Int, (0 : Int)) ++
                                  List.drop (d.fst.toNat + (List.replicate (d.snd.snd.snd.snd.snd.length - d.fst.toNat) (@List.nil Int, (0 : Int))).length)
                                    d.snd.snd.snd.snd.snd)).length)).bind
                      fun x =>
                      some
                        (List.take (d.fst.toNat - (0 : Nat))
                            (List.take d.fst.toNat d.snd.snd.snd.snd.snd ++
                              (List.replicate (d.snd.snd.snd.snd.snd.length - d.fst.toNat) (@List.nil Int, (0 : Int)) ++
                                List.drop (d.fst.toNat + (List.replicate (d.snd.snd.snd.snd.snd.length - d.fst.toNat) (@List.nil Int, (0 : Int))).length) d.snd.snd.snd.snd.snd)),
                          d.snd.snd.fst, d.snd.snd.snd.fst, d.snd.snd.snd.snd.fst))
          fu (i, j, n, p.1, p.2, m) = some (l', n, p.1, p.2) ∧ l'.length ≤ l.length ∧ ∀ x ∈ l', x ∈ l ∧ line_Holds [x] n p = some true := by
      intro fu
      induction fu with
      | zero => intro i j m _ _ _ _ hf; omega
      | succ fu ih =>
        intro i j m h0 hij hj hm hf hlow hhigh
        simp only [whK]
        by_cases hjl : j < (l.length : Int)
        · rw [show decide (j < (↑m.length : Int)) = true from decide_eq_true (by rw [hm]; exact hjl)]
          simp only [cond_true, join]
          have hjm : j.toNat < m.length := by omega
          rw [chk_eq (show (0 : Int) ≤ j ∧ j < (↑m.length : Int) from ⟨by omega, by omega⟩)]
          simp only [Option.bind_some, List.getElem?_eq_getElem hjm]
          obtain ⟨b, e1, e2⟩ := hd m[j.toNat]
          rw [show mootkeep3_LineFewer_1 (m[j.toNat].fst, m[j.toNat].snd) n p.1 p.2 = some (!b, n, p.1, p.2) from e1]
          simp only [Option.bind_some, Bool.not_not]
          have hml : m[j.toNat] ∈ l := by
            have := hhigh j.toNat (Nat.le_refl _)
            rw [List.getElem?_eq_getElem hjm] at this
            exact List.mem_of_getElem? this.symm
          cases b with
          | true =>
            simp only [cond_true]
            rw [chk_eq (show (0 : Int) ≤ i ∧ i < (↑m.length : Int) from ⟨h0, by omega⟩)]
            simp only [Option.bind_some]
            rw [chk_eq (show i.toNat < m.length by omega)]
            simp only [Option.bind_some]
            rw [wrap64 (by omega) (by omega), wrap64 (by omega) (by omega)]
            refine ih (i + 1) (j + 1) (m.set i.toNat m[j.toNat]) (by omega) (by omega) (by omega) (by simpa using hm) (by omega) (fun k x hk hx => ?_) (fun k hk => ?_)
            · rw [List.getElem?_set] at hx
              split at hx
              · split at hx
                · cases hx; exact ⟨hml, e2⟩
                · cases hx
              · exact hlow k x (by omega) hx
            · rw [List.getElem?_set, if_neg (by omega)]
              exact hhigh k (by omega)
          | false =>
            simp only [cond_false]
            rw [wrap64 (by omega) (by omega)]
            exact ih i (j + 1) m h0 (by omega) (by omega) hm (by omega) hlow (fun k hk => hhigh k (by omega))
        · rw [show decide (j < (↑m.length : Int)) = false from decide_eq_false (by rw [hm]; exact hjl)]
          simp only [cond_false]
          rw [chk_eq (show (0 : Int) ≤ i ∧ i ≤ (↑m.length : Int) from ⟨h0, by omega⟩)]
          simp only [Option.bind_some]
          rw [chk_eq (show i.toNat + (m.length - i.toNat) ≤ m.length by omega)]
          simp only [Option.bind_some, List.length_append, List.length_take, List.length_replicate, List.length_drop]
          rw [chk_eq (show (0 : Int) ≤ i ∧ i ≤ _ from ⟨h0, by omega⟩)]
          simp only [Option.bind_some]
          rw [chk_eq (show i.toNat - 0 ≤ _ by omega)]
          simp only [Option.bind_some, Nat.sub_zero]
          rw [List.take_append_of_le_length (by rw [List.length_take]; omega), List.take_take, Nat.min_self]
          refine ⟨_, rfl, by rw [List.length_take]; omega, fun x hx => ?_⟩
          obtain ⟨k, hk⟩ := List.getElem?_of_mem hx
          rw [List.getElem?_take] at hk
          split at hk
          · rename_i hki; exact hlow k x hki hk
          · cases hk
    exact main FU i (i + 1) l h0 (by omega) (by omega) rfl (by unfold FU; omega) (fun k x hk hx => ⟨List.mem_of_getElem? hx, hall k x hk hx⟩) (fun _ _ => rfl)
end Go.Proofs.Ytfhddbnacbcppaa

/- LineFewer, the plain law, joined. -/
set_option linter.unusedVariables false
set_option linter.unusedSimpArgs false
namespace Go.Proofs.Ytfhddbnacbcppaa
open Go.PG Go.PG.PH

theorem cntK_all {R : Type} {body : Nat → Unit → (Unit → Option R) → Option R} (n : Nat) (h : ∀ k next, k < n → body k () next = next ()) (K : Unit → Option R) : cntK body 0 n () K = K () := by
  obtain ⟨s, e, _⟩ := cntK_inv (body := body) (fun _ _ => True) n n 0 () (Nat.zero_add _) trivial (fun k s hk _ => ⟨(), fun next => h k next hk, trivial⟩)
  exact e K

theorem lhs_small {r : Row} {x : List Int} {n : Int} (hr : rowK n r) (hn : n ≤ 3) (hx : ∀ a ∈ x, -3 ≤ a ∧ a ≤ 3) : True := trivial

theorem solved_of_holds {l : List Row} {n : Int} {p : Row} (h1 : (p.1.length : Int) = n) (h2 : p.2 = 1) (h3 : ∀ a ∈ p.1, -3 ≤ a ∧ a ≤ 3) (h : ∀ x ∈ l, line_Holds [x] n p = some true) : Old.solved l n p := by
  refine ⟨h1, by omega, by omega, fun a ha => by have := h3 a ha; omega, fun x hx => ?_⟩
  obtain ⟨b, e1, e2⟩ := holds_cases [x] n p
  rw [h x hx] at e1
  cases e1
  exact (e2.1 rfl).2.2.2.2.2 x (by simp)

theorem lineFewer_plain (l q : List Int) (m : Int) : mootkeep3_LineFewer FU l q m = some true := by
  unfold mootkeep3_LineFewer
  obtain ⟨r, e, h0, h3⟩ := below_spec m 3 (by omega) (by omega)
  rw [e]
  simp only [Option.bind_some]
  rw [wrap64 (show -9223372036854775808 ≤ (1 : Int) + r by omega) (by omega)]
  obtain ⟨R, eR, hR8, hRk⟩ := rows_spec (n := 1 + r) (by omega) (by omega) l
  rw [show mootkeep3_rows_w0 (1 + r) l = some R from eR]
  simp only [Option.bind_some]
  have hok : ∀ x ∈ R, Old.rowOk (1 + r) x := fun x hx => (hRk x hx).ok
  obtain ⟨s, _, e1, z1, i1, w1⟩ := solve_cases (by omega) (by omega) hR8 hok
  rw [e1]
  simp only [Option.bind_some]
  rw [chk_eq trivial]
  simp only [Option.bind_some, join, show mootkeep3_lined FU = some true from lined_true3, z1]
  simp only [Bool.not_true, cond_false, show ((0 : Int) != 0) = false from rfl]
  rw [chk_eq (show (↑R.length : Int) ≤ (↑LIM : Int) by unfold LIM; omega)]
  simp only [Option.bind_some, Int.toNat_natCast]
  rw [cntK_all R.length (fun k next hk => by
    cases hs : s.2.2.1 with
    | false => rfl
    | true =>
      simp only [cond_true]
      rw [chk_eq (show (0 : Int) ≤ (k : Int) ∧ (k : Int) ≤ (↑R.length : Int) from ⟨by omega, by omega⟩)]
      simp only [Option.bind_some]
      rw [chk_eq (show decide ((0 : Nat) + (k - (0 : Nat)) ≤ R.length) = true from decide_eq_true (by omega))]
      simp only [Option.bind_some, Nat.sub_zero, List.drop_zero]
      have hsub : ∀ x ∈ List.take k R, x ∈ R := fun x hx => List.mem_of_mem_take hx
      obtain ⟨b, eb, hb⟩ := holds_cases (List.take k R) (1 + r) (s.1.1, s.1.2)
      have : b = true := hb.2 ⟨check_zero (by omega) (by omega) (by rw [List.length_take]; omega) (fun x hx => hok x (hsub x hx)), solved_mono hsub (w1 hs)⟩
      subst this
      rw [eb]
      rfl)]
  rw [chk_eq (show (1 : Int) + r ≤ (↑LIM : Int) by unfold LIM; omega)]
  simp only [Option.bind_some]
  -- the point
  obtain ⟨sp, esp, p1, p2, p3⟩ := cntK_inv (R := Bool) (body := fun k (d : List Int × Int × List Int) next =>
                          (join
                                (fun d_1 =>
                                  bif d_1 then some ((0 : Int), d.fst)
                                  else
                                    (idx d.fst (0 : Int)).bind fun y =>
                                      (chk ((0 : Int) ≤ (1 : Int) ∧ (1 : Int) ≤ (↑d.fst.length : Int))).bind fun x =>
                                        (mootmake_Below y (7 : Int)).bind fun r => some (r, List.drop (Int.toNat (1 : Int)) d.fst))
                                fun K => K ((↑d.fst.length : Int) == (0 : Int))).bind
                            fun r => (chk (d.snd.snd.length + (1 : Nat) ≤ LIM)).bind fun x => next (r.snd, d.snd.fst, d.snd.snd ++ [IntKind.i64.wrap (r.fst - (3 : Int))]))
    (fun k s => s.2.1 = 1 ∧ s.2.2.length = k ∧ ∀ a ∈ s.2.2, -3 ≤ a ∧ a ≤ 3) (1 + r).toNat (1 + r).toNat 0 ((q, (1 : Int), []) : List Int × Int × List Int) (Nat.zero_add _) ⟨rfl, rfl, by simp⟩ (fun k s2 hk ⟨j1, j2, j3⟩ => by
      obtain ⟨v2, t2, e2, c0, c7⟩ := next_spec s2.1 7 (by omega) (by omega)
      refine ⟨(t2, s2.2.1, s2.2.2 ++ [v2 - 3]), fun next2 => ?_, j1, by simp [j2], fun a ha => ?_⟩
      · rw [e2]
        simp only [Option.bind_some]
        rw [chk_eq (show s2.2.2.length + 1 ≤ LIM by unfold LIM; omega), wrap64 (by omega) (by omega)]
        rfl
      · rcases List.mem_append.1 ha with ha | ha
        · exact j3 a ha
        · simp at ha; omega)
  simp only [join] at esp
  rw [esp]
  obtain ⟨l', ed, hl', hall⟩ := delete_spec R (1 + r) (sp.2.2, sp.2.1) hR8
  rw [show slices_DeleteFunc___line_Row_line_Row__34_w0 FU R (1 + r) sp.2.2 sp.2.1 = some (l', 1 + r, sp.2.2, sp.2.1) from ed]
  simp only [Option.bind_some]
  have hsol : Old.solved l' (1 + r) (sp.2.2, sp.2.1) := solved_of_holds (by simp only [p2]; omega) p1 p3 fun x hx => (hall x hx).2
  have hok' : ∀ x ∈ l', Old.rowOk (1 + r) x := fun x hx => hok x (hall x hx).1
  obtain ⟨s', _, e3, z3, i3, _⟩ := solve_cases (l := l') (n := 1 + r) (by omega) (by omega) (by omega) hok'
  rw [e3]
  simp only [Option.bind_some]
  rw [chk_eq trivial]
  simp only [Option.bind_some, z3, i3.2 ⟨_, hsol⟩]
  obtain ⟨b, eb, hb⟩ := holds_cases l' (1 + r) (sp.2.2, sp.2.1)
  have : b = true := hb.2 ⟨check_zero (by omega) (by omega) (by omega) hok', hsol⟩
  subst this
  rw [eb]
  rfl
end Go.Proofs.Ytfhddbnacbcppaa
