/- Plain laws: a value for one variable. -/
import Derived.Test.YtfhddbnacbcppaaKPd
set_option linter.unusedVariables false
set_option linter.unnecessarySimpa false
set_option linter.unusedSimpArgs false
namespace Go.Proofs.Ytfhddbnacbcppaa
open Go.PG

/-- What is left of a row's bound at a point of k variables with the denominator D. -/
def rest (D : Int) (X : Nat → Int) (k : Nat) (r : line_row) : Int := r.f_Row.f_Most * D - sm (fun v => cf r v * X v) k

/-- f is the value of the k-th variable at which row r holds just so. -/
structure cand (D : Int) (X : Nat → Int) (k : Nat) (r : line_row) (f : line_frac) : Prop where
  ok : frOk f
  b : frB f
  eq : f.f_n * (cf r k * D) = f.f_d * rest D X k r

theorem cand_cmp {D : Int} {X : Nat → Int} {k : Nat} {r w : line_row} {f m : line_frac} (hD : 0 < D) (h1 : cand D X k r f) (h2 : cand D X k w m) (hs : 0 < cf r k * cf w k) (h : frLe f m) :
    rest D X k r * cf w k ≤ rest D X k w * cf r k := by
  have hf := h1.ok.1
  have hm := h2.ok.1
  have e1 := h1.eq
  have e2 := h2.eq
  unfold frLe at h
  generalize rest D X k r = A at *
  generalize rest D X k w = B at *
  generalize cf r k = a at *
  generalize cf w k = b at *
  generalize f.f_n = n at *
  generalize f.f_d = d at *
  generalize m.f_n = n' at *
  generalize m.f_d = d' at *
  have hp : 0 < D * D * (a * b) := Int.mul_pos (Int.mul_pos hD hD) hs
  have h3 := Int.mul_le_mul_of_nonneg_right h (show 0 ≤ D * D * (a * b) by omega)
  have f1 : n * d' * (D * D * (a * b)) = (d * d' * D) * (A * b) := by
    have : n * d' * (D * D * (a * b)) = (n * (a * D)) * (d' * D * b) := by grind
    rw [this, e1]; grind
  have f2 : n' * d * (D * D * (a * b)) = (d * d' * D) * (B * a) := by
    have : n' * d * (D * D * (a * b)) = (n' * (b * D)) * (d * D * a) := by grind
    rw [this, e2]; grind
  rw [f1, f2] at h3
  exact Int.le_of_mul_le_mul_left h3 (Int.mul_pos (Int.mul_pos hf hm) hD)

def Eb (C M DB XB : Int) : Nat → Int
  | 0 => M
  | v + 1 => Eb C M DB XB v * DB + C * XB * DB ^ v

/-- The point so far. -/
structure ptG (DB XB : Int) (D : Int) (X : Nat → Int) (p : List line_frac) : Prop where
  d0 : 0 < D
  dB : D ≤ DB
  xB : ∀ v, v < p.length → -XB ≤ X v ∧ X v ≤ XB
  fr : ∀ v f, p[v]? = some f → frOk f ∧ f.f_n * D = X v * f.f_d

theorem dvd_cop {k n m : Int} (h : k ∣ n * m) (hg : Int.gcd n k = 1) : k ∣ m := by
  have := (Int.dvd_gcd_mul_iff_dvd_mul).2 h
  rw [Int.gcd_comm k n, hg] at this
  simpa using this

theorem fr_bnd {D x : Int} {f : line_frac} (hD : 0 < D) (hf : frOk f) (h : f.f_n * D = x * f.f_d) : ∃ e, 0 < e ∧ D = f.f_d * e ∧ x = f.f_n * e := by
  have hd : f.f_d ∣ D := by
    have : f.f_d ∣ f.f_n * D := ⟨x, by rw [h, Int.mul_comm]⟩
    exact dvd_cop this hf.2
  obtain ⟨e, he⟩ := hd
  have hd0 := hf.1
  have he0 : 0 < e := by
    rcases Int.lt_or_le 0 e with h | h
    · exact h
    · have := Int.mul_nonpos_of_nonneg_of_nonpos (show 0 ≤ f.f_d by omega) h
      omega
  refine ⟨e, he0, he, ?_⟩
  rw [he] at h
  have : f.f_d * (f.f_n * e) = f.f_d * x := by
    rw [Int.mul_comm _ x, ← h]; simp only [Int.mul_comm, Int.mul_left_comm]
  exact (Int.eq_of_mul_eq_mul_left (by omega) this).symm

theorem le_mul_pos {a e B : Int} (he : 0 < e) (h : -B ≤ a * e ∧ a * e ≤ B) : -B ≤ a ∧ a ≤ B := by
  rcases Int.lt_or_le a 0 with ha | ha
  · have := Int.mul_le_mul_of_nonneg_left (show 1 ≤ e by omega) (show 0 ≤ -a by omega)
    rw [Int.mul_one, Int.neg_mul] at this
    omega
  · have := Int.mul_le_mul_of_nonneg_left (show 1 ≤ e by omega) ha
    omega

theorem ptG.small {DB XB D : Int} {X : Nat → Int} {p : List line_frac} (h : ptG DB XB D X p) {v : Nat} {f : line_frac} (hf : p[v]? = some f) : (0 < f.f_d ∧ f.f_d ≤ DB) ∧ -XB ≤ f.f_n ∧ f.f_n ≤ XB := by
  obtain ⟨h1, h2⟩ := h.fr v f hf
  obtain ⟨e, e0, e1, e2⟩ := fr_bnd h.d0 h1 h2
  have hx := h.xB v (List.getElem?_eq_some_iff.1 hf).1
  have hd := h.dB
  have hd0 := h1.1
  refine ⟨⟨hd0, ?_⟩, le_mul_pos e0 (by rw [← e2]; exact hx)⟩
  have := (le_mul_pos (B := DB) e0 (a := f.f_d) (by rw [← e1]; have := h.d0; omega)).2
  exact this

theorem pow_ge_one {d : Int} (h : 1 ≤ d) (n : Nat) : 1 ≤ d ^ n := by
  induction n with
  | zero => simp
  | succ n ih =>
    rw [Int.pow_succ]
    have := Int.mul_le_mul ih h (by omega) (by omega)
    omega

/-- What is left of a row, as a fraction. -/
theorem left_spec {l : List line_Row} {N : Nat} {C M Y DB XB D : Int} {X : Nat → Int} {p : List line_frac} {r : line_row} (hp : ptG DB XB D X p) (hr : rowG l N C M Y r) (hk : p.length ≤ N)
    (hC : 0 ≤ C) (hX : 0 ≤ XB) (hE : ∀ v, v ≤ p.length → Eb C M DB XB v ≤ 4611686018427387904) (hQ : ∀ v, v ≤ p.length → DB ^ v ≤ 4611686018427387904) :
    ∃ s1 s2, forL (ρ := Ctl (List line_frac × List line_frac) line_frac) (line_choose_b2 r) 0 p (r.f_Row.f_Most, 1) = some (.inl (s1, s2)) ∧ 0 < s2 ∧ s2 ≤ DB ^ p.length ∧
      (-4611686018427387904 ≤ s1 ∧ s1 ≤ 4611686018427387904) ∧ s1 * D = s2 * rest D X p.length r := by
  have hDB : 1 ≤ DB := by have := hp.d0; have := hp.dB; omega
  obtain ⟨⟨s1, s2⟩, e, i1, i2, i3, i4⟩ := forL_nx (ρ := Ctl (List line_frac × List line_frac) line_frac) (body := line_choose_b2 r)
    (fun v s => 0 < s.2 ∧ s.2 ≤ DB ^ v ∧ (-(Eb C M DB XB v) ≤ s.1 ∧ s.1 ≤ Eb C M DB XB v) ∧ s.1 * D = s.2 * rest D X v r) p (r.f_Row.f_Most, 1)
    ⟨by show (0 : Int) < 1; omega, by show (1 : Int) ≤ DB ^ 0; simp, hr.mb, by simp [rest, sm]⟩ (fun v f s hf ⟨i1, i2, i3, i4⟩ => by
      have hv : v < p.length := (List.getElem?_eq_some_iff.1 hf).1
      obtain ⟨⟨d0, d1⟩, n1⟩ := hp.small hf
      have hfr := (hp.fr v f hf).2
      have hEv := hE (v + 1) hv
      have hQv := hQ (v + 1) hv
      simp only [Eb] at hEv
      rw [Int.pow_succ] at hQv
      have hq1 := pow_ge_one hDB v
      have hE0 : 0 ≤ Eb C M DB XB v := by omega
      have hCX : 0 ≤ C * XB := Int.mul_nonneg hC hX
      have b1 := mul_bnd i3.1 i3.2 (show -DB ≤ f.f_d by omega) d1
      have b2 := mul_bnd (hr.cb v).1 (hr.cb v).2 n1.1 n1.2
      have b3 := mul_bnd b2.1 b2.2 (show -(DB ^ v) ≤ s.2 by omega) i2
      have b4 := mul_bnd (show -(DB ^ v) ≤ s.2 by omega) i2 (show -DB ≤ f.f_d by omega) d1
      have b5 : 0 ≤ Eb C M DB XB v * DB := Int.mul_nonneg hE0 (by omega)
      have b6 : C * XB ≤ C * XB * DB ^ v := by
        have := Int.mul_le_mul_of_nonneg_left hq1 hCX
        omega
      unfold line_choose_b2
      rw [get_of (l := r.f_Row.f_Coef) (k := v) (by rw [hr.len]; omega)]
      simp only [Option.bind_some]
      rw [show r.f_Row.f_Coef.getD v 0 = cf r v from rfl]
      rw [wrap64 (x := s.1 * f.f_d) (by omega) (by omega), wrap64 (x := cf r v * f.f_n) (by omega) (by omega), wrap64 (x := cf r v * f.f_n * s.2) (by omega) (by omega), wrap64 (x := s.2 * f.f_d) (by omega) (by omega)]
      rw [wrap64 (x := s.1 * f.f_d - cf r v * f.f_n * s.2) (by omega) (by omega)]
      refine ⟨_, rfl, Int.mul_pos i1 d0, ?_, ?_, ?_⟩
      · show s.2 * f.f_d ≤ DB ^ (v + 1)
        rw [Int.pow_succ]; exact b4.2
      · show -(Eb C M DB XB v * DB + C * XB * DB ^ v) ≤ s.1 * f.f_d - cf r v * f.f_n * s.2 ∧ s.1 * f.f_d - cf r v * f.f_n * s.2 ≤ Eb C M DB XB v * DB + C * XB * DB ^ v
        omega
      · show (s.1 * f.f_d - cf r v * f.f_n * s.2) * D = s.2 * f.f_d * rest D X (v + 1) r
        have e1 : rest D X (v + 1) r = rest D X v r - cf r v * X v := by simp only [rest, sm]; omega
        rw [e1]
        generalize rest D X v r = A at *
        generalize cf r v = c at *
        generalize X v = x at *
        grind)
  refine ⟨s1, s2, e, i1, i2, ?_, i4⟩
  have := hE p.length (Nat.le_refl _)
  have h1 : -(Eb C M DB XB p.length) ≤ s1 ∧ s1 ≤ Eb C M DB XB p.length := i3
  omega

theorem rest_bnd {l : List line_Row} {N : Nat} {C M Y DB XB D : Int} {X : Nat → Int} {p : List line_frac} {r : line_row} (hp : ptG DB XB D X p) (hr : rowG l N C M Y r) :
    -(M * DB + p.length * (C * XB)) ≤ rest D X p.length r ∧ rest D X p.length r ≤ M * DB + p.length * (C * XB) := by
  have each : ∀ v, v < p.length → -(C * XB) ≤ cf r v * X v ∧ cf r v * X v ≤ C * XB := fun v hv => mul_bnd (hr.cb v).1 (hr.cb v).2 (hp.xB v hv).1 (hp.xB v hv).2
  have h1 := sm_le (f := fun v => cf r v * X v) (n := p.length) (fun v hv => (each v hv).2)
  have h2 := sm_ge (f := fun v => cf r v * X v) (n := p.length) (fun v hv => (each v hv).1)
  have h3 := mul_bnd hr.mb.1 hr.mb.2 (show -DB ≤ D by have := hp.d0; have := hp.dB; omega) hp.dB
  unfold rest
  omega

theorem dvd_bnd {a b e B : Int} (h : a = b * e) (ha : a ≠ 0) (hb : 0 < b) (hB : -B ≤ a ∧ a ≤ B) : b ≤ B := by
  rcases Int.lt_or_le e 0 with he | he
  · have := Int.mul_le_mul_of_nonneg_left (show 1 ≤ -e by omega) (show 0 ≤ b by omega)
    rw [Int.mul_neg] at this
    omega
  · have he0 : e ≠ 0 := fun h0 => by subst h0; simp at h; exact ha h
    have := Int.mul_le_mul_of_nonneg_left (show 1 ≤ e by omega) (show 0 ≤ b by omega)
    omega

theorem one_spec {l : List line_Row} {N fu : Nat} {C M Y DB XB D : Int} {X : Nat → Int} {p : List line_frac} {r : line_row} (hp : ptG DB XB D X p) (hr : rowG l N C M Y r) (hk : p.length ≤ N)
    (hC : 1 ≤ C) (hX : 0 ≤ XB) (hE : ∀ v, v ≤ p.length → Eb C M DB XB v ≤ 4611686018427387904) (hQ : ∀ v, v ≤ p.length → DB ^ v * C ≤ 4611686018427387904)
    (hB1 : M * DB + p.length * (C * XB) < 4294967296) (hB2 : C * DB < 4294967296) (hf : 4611686018427387904 < fu) (hc : cf r p.length ≠ 0) :
    ∃ s1 s2 f1 f2, forL (ρ := Ctl (List line_frac × List line_frac) line_frac) (line_choose_b2 r) 0 p (r.f_Row.f_Most, 1) = some (.inl (s1, s2)) ∧ line_lowest fu s1 s2 = some f1 ∧
      line_lowest fu f1.f_n (IntKind.i64.wrap (f1.f_d * cf r p.length)) = some f2 ∧ cand D X p.length r f2 := by
  have hDB : 1 ≤ DB := by have := hp.d0; have := hp.dB; omega
  have hQ' : ∀ v, v ≤ p.length → DB ^ v ≤ 4611686018427387904 := fun v hv => by
    have h1 := hQ v hv
    have h2 := pow_ge_one hDB v
    have := Int.mul_le_mul_of_nonneg_left hC (show 0 ≤ DB ^ v by omega)
    omega
  obtain ⟨s1, s2, e, p1, p2, p3, p4⟩ := left_spec hp hr hk (by omega) hX hE hQ'
  have hQp := hQ' p.length (Nat.le_refl _)
  obtain ⟨f1, e1, g1, g2, g3, g4, g5⟩ := lowest_pos (fu := fu) (a := s1) (b := s2) p1 p3.1 p3.2 (by omega) hf
  have hcb := hr.cb p.length
  have hg1 := g1.1
  have b1 := mul_bnd (show -(DB ^ p.length) ≤ f1.f_d by omega) (show f1.f_d ≤ DB ^ p.length by omega) hcb.1 hcb.2
  have hQ2 := hQ p.length (Nat.le_refl _)
  have hne : f1.f_d * cf r p.length ≠ 0 := Int.mul_ne_zero (by omega) hc
  obtain ⟨f2, e2, k1, k2, k3, k4, k5⟩ := lowest_spec (fu := fu) (a := f1.f_n) (b := f1.f_d * cf r p.length) hne g3 g4 (by omega) (by omega) hf
  refine ⟨s1, s2, f1, f2, e, e1, by rw [wrap64 (by omega) (by omega)]; exact e2, ?_⟩
  have hA := rest_bnd hp hr
  have heq : f2.f_n * (cf r p.length * D) = f2.f_d * rest D X p.length r := by
    generalize rest D X p.length r = A at *
    generalize cf r p.length = c at *
    have : (f1.f_d * s2) * (f2.f_n * (c * D)) = (f1.f_d * s2) * (f2.f_d * A) := by
      have q1 : (f1.f_d * s2) * (f2.f_n * (c * D)) = (f2.f_n * (f1.f_d * c)) * (s2 * D) := by grind
      have q2 : (f1.f_d * s2) * (f2.f_d * A) = (s2 * A) * (f1.f_d * f2.f_d) := by grind
      rw [q1, q2, k2, ← p4]
      have q3 : f1.f_n * f2.f_d * (s2 * D) = (f1.f_n * s2) * (f2.f_d * D) := by grind
      rw [q3, g2]; grind
    exact Int.eq_of_mul_eq_mul_left (by have := Int.mul_pos hg1 p1; omega) this
  have hk1 := k1.1
  have hcD : cf r p.length * D ≠ 0 := Int.mul_ne_zero hc (by have := hp.d0; omega)
  have hdvd : f2.f_d ∣ cf r p.length * D := dvd_cop ⟨_, heq⟩ k1.2
  obtain ⟨e', he'⟩ := hdvd
  have hb := mul_bnd hcb.1 hcb.2 (show -DB ≤ D by have := hp.d0; have := hp.dB; omega) hp.dB
  have hd2 := dvd_bnd he' hcD hk1 hb
  have hn : f2.f_n * e' = rest D X p.length r := by
    rw [he'] at heq
    have : f2.f_d * (f2.f_n * e') = f2.f_d * rest D X p.length r := by rw [← heq]; simp only [Int.mul_left_comm]
    exact Int.eq_of_mul_eq_mul_left (by omega) this
  have he0 : e' ≠ 0 := fun h0 => by rw [h0, Int.mul_zero] at he'; exact hcD he'
  have hn2 : -(M * DB + p.length * (C * XB)) ≤ f2.f_n ∧ f2.f_n ≤ M * DB + p.length * (C * XB) := by
    rcases Int.lt_or_le e' 0 with he | he
    · have h3 := le_mul_pos (a := -f2.f_n) (e := -e') (B := M * DB + p.length * (C * XB)) (by omega) (by rw [Int.neg_mul_neg, hn]; exact hA)
      omega
    · exact le_mul_pos (show 0 < e' by omega) (by rw [hn]; exact hA)
  exact ⟨k1, ⟨by omega, by omega, hk1, by omega⟩, heq⟩

/-- A value for the next variable at which all rows hold. -/
theorem choose_spec {l : List line_Row} {N fu : Nat} {C M Y DB XB D : Int} {X : Nat → Int} {p : List line_frac} {R : List line_row} (hp : ptG DB XB D X p) (hR : ∀ r ∈ R, rowG l N C M Y r) (hk : p.length < N)
    (hC : 1 ≤ C) (hM : 0 ≤ M) (hX : 0 ≤ XB) (hE : ∀ v, v ≤ p.length → Eb C M DB XB v ≤ 4611686018427387904) (hQ : ∀ v, v ≤ p.length → DB ^ v * C ≤ 4611686018427387904)
    (hB1 : M * DB + p.length * (C * XB) < 4294967296) (hB2 : C * DB < 4294967296) (hf : 4611686018427387904 < fu) (hlen : R.length ≤ 16777216)
    (h0 : ∀ r ∈ R, cf r p.length = 0 → 0 ≤ rest D X p.length r)
    (h1 : ∀ u ∈ R, 0 < cf u p.length → ∀ w ∈ R, cf w p.length < 0 → 0 ≤ -(cf w p.length) * rest D X p.length u + cf u p.length * rest D X p.length w) :
    ∃ f c z, line_choose fu R (p.length : Int) p = some f ∧ frOk f ∧ 0 < c ∧ c ≤ C ∧ (-(M * DB + p.length * (C * XB)) ≤ z ∧ z ≤ M * DB + p.length * (C * XB)) ∧ f.f_n * (D * c) = z * f.f_d ∧
      ∀ r ∈ R, cf r p.length * z ≤ c * rest D X p.length r := by
  have hidx : ∀ r ∈ R, idx r.f_Row.f_Coef (p.length : Int) = some (cf r p.length) := fun r hr => by
    unfold idx
    rw [if_pos (by omega), show ((p.length : Int)).toNat = p.length by omega]
    exact get_of (by rw [(hR r hr).len]; omega)
  unfold line_choose
  obtain ⟨⟨ups, lows⟩, e, i1, i2, i3, i4, i5, i6⟩ := forL_nx (ρ := line_frac) (body := line_choose_b0 fu (p.length : Int) p) (fun i s =>
      (∀ f ∈ s.1, ∃ r ∈ R, 0 < cf r p.length ∧ cand D X p.length r f) ∧ (∀ f ∈ s.2, ∃ r ∈ R, cf r p.length < 0 ∧ cand D X p.length r f) ∧
      (∀ j r, j < i → R[j]? = some r → 0 < cf r p.length → ∃ f ∈ s.1, cand D X p.length r f) ∧ (∀ j r, j < i → R[j]? = some r → cf r p.length < 0 → ∃ f ∈ s.2, cand D X p.length r f) ∧
      s.1.length ≤ i ∧ s.2.length ≤ i) R ([], []) ⟨by simp, by simp, fun j r h => by omega, fun j r h => by omega, by simp, by simp⟩ (fun i x s hx ⟨i1, i2, i3, i4, i5, i6⟩ => by
    have hi : i < R.length := (List.getElem?_eq_some_iff.1 hx).1
    have hxm := List.mem_of_getElem? hx
    have hgx := hR x hxm
    unfold line_choose_b0
    rw [hidx x hxm]
    simp only [Option.bind_some]
    by_cases hz : cf x p.length = 0
    · rw [show (cf x p.length == 0) = true by simp [hz]]
      simp only [cond_true]
      refine ⟨_, rfl, i1, i2, fun j r hj hr hpos => ?_, fun j r hj hr hneg => ?_, by show s.1.length ≤ i + 1; omega, by show s.2.length ≤ i + 1; omega⟩
      · by_cases e : j < i
        · exact i3 j r e hr hpos
        · have : j = i := by omega
          subst this
          rw [hx] at hr; cases hr; omega
      · by_cases e : j < i
        · exact i4 j r e hr hneg
        · have : j = i := by omega
          subst this
          rw [hx] at hr; cases hr; omega
    · rw [show (cf x p.length == 0) = false by simp [hz]]
      simp only [cond_false]
      obtain ⟨s1, s2, f1, f2, e, e1, e2, hc⟩ := one_spec hp hgx (by omega) hC hX hE hQ hB1 hB2 hf hz
      rw [e]
      simp only [Option.bind_some, Sum.elim_inl]
      rw [e1]
      simp only [Option.bind_some]
      rw [e2]
      simp only [Option.bind_some]
      by_cases hpos : cf x p.length > 0
      · rw [show decide (cf x p.length > 0) = true by simp [hpos]]
        simp only [cond_true]
        rw [chk_of (show s.1.length + 1 ≤ LIM by unfold LIM; omega)]
        simp only [Option.bind_some]
        refine ⟨_, rfl, fun f hf => ?_, i2, fun j r hj hr hpos' => ?_, fun j r hj hr hneg => ?_, by simp; omega, by show s.2.length ≤ i + 1; omega⟩
        · rcases List.mem_append.1 hf with hf | hf
          · exact i1 f hf
          · simp at hf; subst hf; exact ⟨x, hxm, hpos, hc⟩
        · by_cases e : j < i
          · obtain ⟨f, hf, hc'⟩ := i3 j r e hr hpos'
            exact ⟨f, List.mem_append.2 (.inl hf), hc'⟩
          · have : j = i := by omega
            subst this
            rw [hx] at hr; cases hr; exact ⟨f2, by simp, hc⟩
        · by_cases e : j < i
          · exact i4 j r e hr hneg
          · have : j = i := by omega
            subst this
            rw [hx] at hr; cases hr; omega
      · rw [show decide (cf x p.length > 0) = false by simp; omega]
        simp only [cond_false]
        rw [chk_of (show s.2.length + 1 ≤ LIM by unfold LIM; omega)]
        simp only [Option.bind_some]
        refine ⟨_, rfl, i1, fun f hf => ?_, fun j r hj hr hpos' => ?_, fun j r hj hr hneg => ?_, by show s.1.length ≤ i + 1; omega, by simp; omega⟩
        · rcases List.mem_append.1 hf with hf | hf
          · exact i2 f hf
          · simp at hf; subst hf; exact ⟨x, hxm, by omega, hc⟩
        · by_cases e : j < i
          · exact i3 j r e hr hpos'
          · have : j = i := by omega
            subst this
            rw [hx] at hr; cases hr; omega
        · by_cases e : j < i
          · obtain ⟨f, hf, hc'⟩ := i4 j r e hr hneg
            exact ⟨f, List.mem_append.2 (.inl hf), hc'⟩
          · have : j = i := by omega
            subst this
            rw [hx] at hr; cases hr; exact ⟨f2, by simp, hc⟩)
  rw [e]
  simp only [Option.bind_some, Sum.elim_inl]
  have i3' : ∀ r ∈ R, 0 < cf r p.length → ∃ f ∈ ups, cand D X p.length r f := fun r hr => by
    obtain ⟨j, hj, rfl⟩ := List.mem_iff_getElem.1 hr
    exact i3 j _ hj (List.getElem?_eq_getElem hj)
  have i4' : ∀ r ∈ R, cf r p.length < 0 → ∃ f ∈ lows, cand D X p.length r f := fun r hr => by
    obtain ⟨j, hj, rfl⟩ := List.mem_iff_getElem.1 hr
    exact i4 j _ hj (List.getElem?_eq_getElem hj)
  have hi5 : ups.length ≤ R.length := i5
  have hi6 : lows.length ≤ R.length := i6
  by_cases hlo : 0 < lows.length
  · rw [show decide ((lows.length : Int) > 0) = true from decide_eq_true (by omega)]
    simp only [cond_true]
    obtain ⟨m, em, hm, hmax⟩ := max_spec (fu := fu) (l := lows) (fun f hf => by obtain ⟨r, _, _, hc⟩ := i2 f hf; exact hc.b) hlo (by omega) (by omega)
    rw [em]
    obtain ⟨w, hw, hwn, hwc⟩ := i2 m hm
    have hA := rest_bnd hp (hR w hw)
    have hcw := (hR w hw).cb p.length
    refine ⟨m, -(cf w p.length), -(rest D X p.length w), rfl, hwc.ok, by omega, by omega, by omega, ?_, fun r hr => ?_⟩
    · have := hwc.eq
      rw [Int.mul_neg, Int.mul_neg, Int.neg_mul, Int.mul_comm D, this, Int.mul_comm]
    · by_cases hz : cf r p.length = 0
      · rw [hz, Int.zero_mul]
        exact Int.mul_nonneg (by omega) (h0 r hr hz)
      · by_cases hpos : 0 < cf r p.length
        · have := h1 r hr hpos w hw hwn
          rw [Int.mul_neg]; omega
        · have hn : cf r p.length < 0 := by omega
          obtain ⟨f, hf, hc⟩ := i4' r hr hn
          have := cand_cmp hp.d0 hc hwc (Int.mul_pos_of_neg_of_neg hn hwn) (hmax f hf)
          rw [Int.mul_neg, Int.neg_mul, Int.mul_comm (cf r p.length), Int.mul_comm (cf w p.length)]
          omega
  · rw [show decide ((lows.length : Int) > 0) = false from decide_eq_false (by omega)]
    simp only [cond_false]
    have hnolow : ∀ r ∈ R, ¬ cf r p.length < 0 := fun r hr hn => by
      obtain ⟨f, hf, _⟩ := i4' r hr hn
      have := List.length_pos_of_mem hf
      omega
    by_cases hup : 0 < ups.length
    · rw [show decide ((ups.length : Int) > 0) = true from decide_eq_true (by omega)]
      simp only [cond_true]
      obtain ⟨m, em, hm, hmin⟩ := min_spec (fu := fu) (l := ups) (fun f hf => by obtain ⟨r, _, _, hc⟩ := i1 f hf; exact hc.b) hup (by omega) (by omega)
      rw [em]
      obtain ⟨w, hw, hwn, hwc⟩ := i1 m hm
      have hA := rest_bnd hp (hR w hw)
      have hcw := (hR w hw).cb p.length
      refine ⟨m, cf w p.length, rest D X p.length w, rfl, hwc.ok, by omega, by omega, hA, ?_, fun r hr => ?_⟩
      · have := hwc.eq
        rw [Int.mul_comm D, this, Int.mul_comm]
      · by_cases hz : cf r p.length = 0
        · rw [hz, Int.zero_mul]
          exact Int.mul_nonneg (by omega) (h0 r hr hz)
        · have hpos : 0 < cf r p.length := by have := hnolow r hr; omega
          obtain ⟨f, hf, hc⟩ := i3' r hr hpos
          have := cand_cmp hp.d0 hwc hc (Int.mul_pos hwn hpos) (hmin f hf)
          rw [Int.mul_comm (cf r p.length), Int.mul_comm (cf w p.length)]
          omega
    · rw [show decide ((ups.length : Int) > 0) = false from decide_eq_false (by omega)]
      simp only [cond_false]
      have hA : 0 ≤ M * DB + p.length * (C * XB) := by
        have a1 := Int.mul_nonneg hM (show 0 ≤ DB by have := hp.d0; have := hp.dB; omega)
        have a2 := Int.mul_nonneg (show (0 : Int) ≤ C by omega) hX
        have a3 := Int.mul_nonneg (show (0 : Int) ≤ (p.length : Int) by omega) a2
        omega
      refine ⟨⟨0, 1⟩, 1, 0, rfl, ⟨by decide, by decide⟩, by omega, hC, by omega, by simp, fun r hr => ?_⟩
      have hz : cf r p.length = 0 := by
        have a1 := hnolow r hr
        have a2 : ¬ 0 < cf r p.length := fun hpos => by
          obtain ⟨f, hf, _⟩ := i3' r hr hpos
          have := List.length_pos_of_mem hf
          omega
        omega
      have := h0 r hr hz
      rw [hz]; omega
end Go.Proofs.Ytfhddbnacbcppaa
