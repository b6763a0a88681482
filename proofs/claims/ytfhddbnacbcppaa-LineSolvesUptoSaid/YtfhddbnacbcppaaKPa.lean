/- Plain laws: what line.Check, Holds, Solves, Refutes, Disproves come to. -/
import Derived.Test.YtfhddbnacbcppaaKPgPl
import Derived.Test.YtfhddbnacbcppaaKLa
set_option linter.unusedVariables false
set_option linter.unnecessarySimpa false
set_option linter.unusedSimpArgs false
namespace Go.Proofs.Ytfhddbnacbcppaa
open Go.PG

theorem fault_eq : mootref3_RowsFault = line_Check := by
  funext l n
  have e : mootref3_RowsFault_b0 = line_Check_b0 := rfl
  unfold mootref3_RowsFault line_Check
  rw [e]
  congr 1
  rw [show decide (n ≤ 0) = decide (n < 1) by congr 1; simp; omega, show decide (n ≥ 4) = decide (n > 3) from rfl, show decide ((l.length : Int) ≥ 9) = decide ((l.length : Int) > 8) from rfl]

/-- A row within its bounds. -/
def rowOk (n : Int) (r : line_Row) : Prop := (r.f_Coef.length : Int) = n ∧ (∀ a ∈ r.f_Coef, -9 ≤ a ∧ a ≤ 9) ∧ -99 ≤ r.f_Most ∧ r.f_Most ≤ 99

theorem check_spec (l : List line_Row) (n : Int) : ∃ c, line_Check l n = some c ∧ (c = 0 → 1 ≤ n ∧ n ≤ 3 ∧ l.length ≤ 8 ∧ ∀ r ∈ l, rowOk n r) := by
  unfold line_Check
  by_cases hc : n < 1 ∨ n > 3 ∨ (l.length : Int) > 8
  · have : (cond (decide (n < 1)) true (cond (decide (n > 3)) true (decide ((l.length : Int) > 8)))) = true := by
      rcases hc with h | h | h <;> simp [h]
    rw [this]
    exact ⟨2, rfl, fun h => by cases h⟩
  · have h1 : ¬ n < 1 := fun h => hc (.inl h)
    have h2 : ¬ n > 3 := fun h => hc (.inr (.inl h))
    have h3 : ¬ (l.length : Int) > 8 := fun h => hc (.inr (.inr h))
    have : (cond (decide (n < 1)) true (cond (decide (n > 3)) true (decide ((l.length : Int) > 8)))) = false := by simp [h1, h2, h3]
    rw [this]
    simp only [cond_false]
    rcases forL_inv (body := line_Check_b0 n) (fun k _ => ∀ j r, j < k → l[j]? = some r → rowOk n r) (fun _ => False) (fun r => r ≠ 0) l 0 () (fun j r h => by omega) (fun k x s hx hI => by
      rw [Nat.zero_add] at hI ⊢
      unfold line_Check_b0
      by_cases hlen : (x.f_Coef.length : Int) = n
      · rw [show ((x.f_Coef.length : Int) != n) = false by simp [hlen]]
        simp only [cond_false]
        rcases forL_all (body := line_Check_b2) (fun _ _ => True) (fun _ a => -9 ≤ a ∧ a ≤ 9) (Ctl.rt (1 : Int)) x.f_Coef () trivial (fun k a s ha _ => by
          unfold line_Check_b2
          by_cases h : a < -9 ∨ a > 9
          · refine .inr ⟨by omega, ?_⟩
            rw [show (cond (decide (a < -9)) true (decide (a > 9))) = true by rcases h with h | h <;> simp [h]]
            rfl
          · refine .inl ⟨by omega, (), ?_, trivial⟩
            rw [show (cond (decide (a < -9)) true (decide (a > 9))) = false by simp; omega]
            rfl) with ⟨g1, s', e, _⟩ | ⟨_, e⟩
        · rw [e]
          simp only [Option.bind_some, Sum.elim_inl]
          by_cases hm : x.f_Most < -99 ∨ x.f_Most > 99
          · rw [show (cond (decide (x.f_Most < -99)) true (decide (x.f_Most > 99))) = true by rcases hm with h | h <;> simp [h]]
            exact .inr (.inr ⟨1, rfl, by decide⟩)
          · rw [show (cond (decide (x.f_Most < -99)) true (decide (x.f_Most > 99))) = false by simp; omega]
            refine .inl ⟨(), rfl, fun j r hj hr => ?_⟩
            rcases Nat.lt_or_ge j k with hjk | hjk
            · exact hI j r hjk hr
            · have : j = k := by omega
              subst this
              rw [hx] at hr; cases hr
              refine ⟨hlen, fun a ha => ?_, by omega, by omega⟩
              obtain ⟨i, hi, rfl⟩ := List.mem_iff_getElem.1 ha
              exact g1 i _ (List.getElem?_eq_getElem hi)
        · rw [e]
          exact .inr (.inr ⟨1, rfl, by decide⟩)
      · rw [show ((x.f_Coef.length : Int) != n) = true by simp [hlen]]
        exact .inr (.inr ⟨3, rfl, by decide⟩)) with ⟨s', e, h | h⟩ | ⟨r, e, h⟩
    · rw [e]
      refine ⟨0, rfl, fun _ => ⟨by omega, by omega, by omega, fun r hr => ?_⟩⟩
      obtain ⟨i, hi, rfl⟩ := List.mem_iff_getElem.1 hr
      exact h i _ (by omega) (List.getElem?_eq_getElem hi)
    · exact h.elim
    · rw [e]
      exact ⟨r, rfl, fun h' => absurd h' h⟩

/-- The left side of a row at a point. -/
def lhs (c x : List Int) (n : Nat) : Int := sm (fun j => c.getD j 0 * x.getD j 0) n

theorem getD_of {l : List Int} {k : Nat} {x : Int} (h : l[k]? = some x) : l.getD k 0 = x := by simp [List.getD, h]
theorem get_of {l : List Int} {k : Nat} (h : k < l.length) : l[k]? = some (l.getD k 0) := by simp [List.getD, h]
theorem getD_bnd {l : List Int} {A B : Int} (hA : A ≤ 0) (hB : 0 ≤ B) (h : ∀ a ∈ l, A ≤ a ∧ a ≤ B) (k : Nat) : A ≤ l.getD k 0 ∧ l.getD k 0 ≤ B := by
  by_cases hk : k < l.length
  · have := h _ (List.getElem_mem hk)
    simpa [List.getD, hk] using this
  · simp [List.getD, hk]
    omega

/-- What Solves says. -/
def solved (l : List line_Row) (n : Int) (p : line_Point) : Prop :=
  (p.f_Num.length : Int) = n ∧ 1 ≤ p.f_Den ∧ p.f_Den ≤ 1125899906842624 ∧ (∀ a ∈ p.f_Num, -36028797018963968 ≤ a ∧ a ≤ 36028797018963968) ∧
    ∀ r ∈ l, lhs r.f_Coef p.f_Num n.toNat ≤ r.f_Most * p.f_Den

theorem lhs_bnd {r : line_Row} {x : List Int} {n : Int} {k : Nat} (hr : rowOk n r) (hx : ∀ a ∈ x, -36028797018963968 ≤ a ∧ a ≤ 36028797018963968) (hk : (k : Int) ≤ 3) :
    -1000000000000000000 ≤ lhs r.f_Coef x k ∧ lhs r.f_Coef x k ≤ 1000000000000000000 ∧ -1000000000000000000 ≤ r.f_Coef.getD k 0 * x.getD k 0 ∧ r.f_Coef.getD k 0 * x.getD k 0 ≤ 1000000000000000000 := by
  have each : ∀ j, -(9 * 36028797018963968) ≤ r.f_Coef.getD j 0 * x.getD j 0 ∧ r.f_Coef.getD j 0 * x.getD j 0 ≤ 9 * 36028797018963968 := by
    intro j
    have h1 := getD_bnd (by decide) (by decide) hr.2.1 j
    have h2 := getD_bnd (by decide) (by decide) hx j
    exact mul_bnd h1.1 h1.2 h2.1 h2.2
  have h1 := sm_le (f := fun j => r.f_Coef.getD j 0 * x.getD j 0) (n := k) (fun j _ => (each j).2)
  have h2 := sm_ge (f := fun j => r.f_Coef.getD j 0 * x.getD j 0) (n := k) (fun j _ => (each j).1)
  have h3 := each k
  have e : (k : Int) * (9 * 36028797018963968) ≤ 3 * (9 * 36028797018963968) := Int.mul_le_mul_of_nonneg_right hk (by decide)
  unfold lhs
  refine ⟨by omega, by omega, by omega, by omega⟩

theorem most_bnd {r : line_Row} {n d : Int} (hr : rowOk n r) (h1 : 1 ≤ d) (h2 : d ≤ 1125899906842624) : -1000000000000000000 ≤ r.f_Most * d ∧ r.f_Most * d ≤ 1000000000000000000 := by
  have := mul_bnd (A := 99) (B := 1125899906842624) hr.2.2.1 hr.2.2.2 (show -1125899906842624 ≤ d by omega) h2
  omega

theorem pre_true (l : List line_Row) (n : Int) (p : line_Point) (c : Int) (hc : line_Check l n = some c) (h : c ≠ 0 ∨ (p.f_Num.length : Int) ≠ n ∨ p.f_Den < 1 ∨ p.f_Den > 1125899906842624) :
    ((line_Check l n).bind fun r1 => cond (r1 != 0) (some true) (cond ((p.f_Num.length : Int) != n) (some true) (cond (decide (p.f_Den < 1)) (some true) (some (decide (p.f_Den > 1125899906842624)))))) = some true := by
  rw [hc]
  simp only [Option.bind_some]
  by_cases h1 : c = 0
  · by_cases h2 : (p.f_Num.length : Int) = n
    · by_cases h3 : p.f_Den < 1
      · simp [h1, h2, h3]
      · rcases h with h | h | h | h
        · exact absurd h1 h
        · exact absurd h2 h
        · exact absurd h h3
        · simp [h1, h2, h3]; omega
    · rw [show ((p.f_Num.length : Int) != n) = true by simp [h2]]; simp [h1]
  · rw [show (c != 0) = true by simp [h1]]; rfl

theorem pre_false (l : List line_Row) (n : Int) (p : line_Point) (hc : line_Check l n = some 0) (h1 : (p.f_Num.length : Int) = n) (h2 : ¬ p.f_Den < 1) (h3 : ¬ p.f_Den > 1125899906842624) :
    ((line_Check l n).bind fun r1 => cond (r1 != 0) (some true) (cond ((p.f_Num.length : Int) != n) (some true) (cond (decide (p.f_Den < 1)) (some true) (some (decide (p.f_Den > 1125899906842624)))))) = some false := by
  rw [hc]
  simp [h1, h2]
  omega

theorem holds_spec (l : List line_Row) (n : Int) (p : line_Point) : ∃ b, line_Holds l n p = some b ∧ (b = true ↔ line_Check l n = some 0 ∧ solved l n p) := by
  obtain ⟨c, hc, hc0⟩ := check_spec l n
  unfold line_Holds
  by_cases h : c ≠ 0 ∨ (p.f_Num.length : Int) ≠ n ∨ p.f_Den < 1 ∨ p.f_Den > 1125899906842624
  · rw [pre_true l n p c hc h]
    refine ⟨false, rfl, by simp, fun ⟨h1, h2⟩ => ?_⟩
    rw [hc] at h1; cases h1
    rcases h with h | h | h | h
    · exact absurd rfl h
    · exact absurd h2.1 h
    · have := h2.2.1; omega
    · have := h2.2.2.1; omega
  · have h0 : c = 0 := Decidable.byContradiction fun e => h (.inl e)
    have h1 : (p.f_Num.length : Int) = n := Decidable.byContradiction fun e => h (.inr (.inl e))
    have h2 : ¬ p.f_Den < 1 := fun e => h (.inr (.inr (.inl e)))
    have h3 : ¬ p.f_Den > 1125899906842624 := fun e => h (.inr (.inr (.inr e)))
    subst h0
    rw [pre_false l n p hc h1 h2 h3]
    obtain ⟨c1, c2, c3, c4⟩ := hc0 rfl
    simp only [Option.bind_some, cond_false]
    rcases forL_all (body := line_Holds_b0) (fun _ _ => True) (fun _ a => -36028797018963968 ≤ a ∧ a ≤ 36028797018963968) false p.f_Num () trivial (fun k a s ha _ => by
      unfold line_Holds_b0
      by_cases h : a < -36028797018963968 ∨ a > 36028797018963968
      · refine .inr ⟨by omega, ?_⟩
        rw [show (cond (decide (a < -36028797018963968)) true (decide (a > 36028797018963968))) = true by rcases h with h | h <;> simp [h]]
        rfl
      · refine .inl ⟨by omega, (), ?_, trivial⟩
        rw [show (cond (decide (a < -36028797018963968)) true (decide (a > 36028797018963968))) = false by simp; omega]
        rfl) with ⟨g1, s', e, _⟩ | ⟨⟨k, a, ha, hna⟩, e⟩
    · rw [e]
      simp only [Option.bind_some, Sum.elim_inl]
      have hx : ∀ a ∈ p.f_Num, -36028797018963968 ≤ a ∧ a ≤ 36028797018963968 := by
        intro a ha
        obtain ⟨i, hi, rfl⟩ := List.mem_iff_getElem.1 ha
        exact g1 i _ (List.getElem?_eq_getElem hi)
      rcases forL_all (body := line_Holds_b2 p) (fun _ _ => True) (fun _ r => lhs r.f_Coef p.f_Num n.toNat ≤ r.f_Most * p.f_Den) false l () trivial (fun k r s hr _ => by
        have hok := c4 r (List.mem_of_getElem? hr)
        unfold line_Holds_b2
        obtain ⟨s', e', hs'⟩ := forL_nx (body := line_Holds_b4 p) (fun k s => s = lhs r.f_Coef p.f_Num k) r.f_Coef 0 rfl (fun k x s hx' hs => by
          subst hs
          have hk : k < r.f_Coef.length := (List.getElem?_eq_some_iff.1 hx').1
          have hl := hok.1
          have bd := lhs_bnd (k := k) hok hx (by omega)
          unfold line_Holds_b4
          rw [get_of (l := p.f_Num) (k := k) (by omega)]
          have := getD_of hx'
          subst this
          simp only [Option.bind_some]
          rw [wrap64 (x := r.f_Coef.getD k 0 * p.f_Num.getD k 0) (by omega) (by omega), wrap64 (by omega) (by omega)]
          exact ⟨_, rfl, rfl⟩)
        rw [e']
        subst hs'
        have hl := hok.1
        have hle : r.f_Coef.length = n.toNat := by omega
        rw [hle]
        have mb := most_bnd hok (show 1 ≤ p.f_Den by omega) (by omega)
        simp only [Option.bind_some, Sum.elim_inl]
        rw [wrap64 (by omega) (by omega)]
        by_cases hgt : lhs r.f_Coef p.f_Num n.toNat > r.f_Most * p.f_Den
        · exact .inr ⟨by omega, by simp [hgt]⟩
        · exact .inl ⟨by omega, (), by simp [hgt], trivial⟩) with ⟨g2, s', e, _⟩ | ⟨⟨k, r, hr, hna⟩, e⟩
      · rw [e]
        refine ⟨true, rfl, fun _ => ⟨hc, h1, by omega, by omega, hx, fun r hr => ?_⟩, fun _ => rfl⟩
        obtain ⟨i, hi, rfl⟩ := List.mem_iff_getElem.1 hr
        exact g2 i _ (List.getElem?_eq_getElem hi)
      · rw [e]
        refine ⟨false, rfl, by simp, fun ⟨_, hs⟩ => absurd (hs.2.2.2.2 r (List.mem_of_getElem? hr)) hna⟩
    · rw [e]
      exact ⟨false, rfl, by simp, fun ⟨_, hs⟩ => absurd (hs.2.2.2.1 a (List.mem_of_getElem? ha)) hna⟩

theorem solves_spec (l : List line_Row) (n : Int) (p : line_Point) : ∃ b, mootref3_Solves l n p = some b ∧ (b = true ↔ line_Check l n = some 0 ∧ solved l n p) := by
  obtain ⟨c, hc, hc0⟩ := check_spec l n
  unfold mootref3_Solves
  rw [fault_eq, show decide (p.f_Den ≤ 0) = decide (p.f_Den < 1) by congr 1; simp; omega]
  by_cases h : c ≠ 0 ∨ (p.f_Num.length : Int) ≠ n ∨ p.f_Den < 1 ∨ p.f_Den > 1125899906842624
  · rw [pre_true l n p c hc h]
    refine ⟨false, rfl, by simp, fun ⟨h1, h2⟩ => ?_⟩
    rw [hc] at h1; cases h1
    rcases h with h | h | h | h
    · exact absurd rfl h
    · exact absurd h2.1 h
    · have := h2.2.1; omega
    · have := h2.2.2.1; omega
  · have h0 : c = 0 := Decidable.byContradiction fun e => h (.inl e)
    have h1 : (p.f_Num.length : Int) = n := Decidable.byContradiction fun e => h (.inr (.inl e))
    have h2 : ¬ p.f_Den < 1 := fun e => h (.inr (.inr (.inl e)))
    have h3 : ¬ p.f_Den > 1125899906842624 := fun e => h (.inr (.inr (.inr e)))
    subst h0
    rw [pre_false l n p hc h1 h2 h3]
    obtain ⟨c1, c2, c3, c4⟩ := hc0 rfl
    simp only [Option.bind_some, cond_false]
    rcases forL_all (body := mootref3_Solves_b0) (fun _ _ => True) (fun _ a => -36028797018963968 ≤ a ∧ a ≤ 36028797018963968) false p.f_Num () trivial (fun k a s ha _ => by
      unfold mootref3_Solves_b0
      by_cases h : a > 36028797018963968 ∨ a < -36028797018963968
      · refine .inr ⟨by omega, ?_⟩
        rw [show (cond (decide (a > 36028797018963968)) true (decide (a < -36028797018963968))) = true by rcases h with h | h <;> simp [h]]
        rfl
      · refine .inl ⟨by omega, (), ?_, trivial⟩
        rw [show (cond (decide (a > 36028797018963968)) true (decide (a < -36028797018963968))) = false by simp; omega]
        rfl) with ⟨g1, s', e, _⟩ | ⟨⟨k, a, ha, hna⟩, e⟩
    · rw [e]
      simp only [Option.bind_some, Sum.elim_inl]
      have hx : ∀ a ∈ p.f_Num, -36028797018963968 ≤ a ∧ a ≤ 36028797018963968 := by
        intro a ha
        obtain ⟨i, hi, rfl⟩ := List.mem_iff_getElem.1 ha
        exact g1 i _ (List.getElem?_eq_getElem hi)
      rcases forL_all (body := mootref3_Solves_b2 n p) (fun _ _ => True) (fun _ r => lhs r.f_Coef p.f_Num n.toNat ≤ r.f_Most * p.f_Den) false l () trivial (fun k r s hr _ => by
        have hok := c4 r (List.mem_of_getElem? hr)
        have hl := hok.1
        unfold mootref3_Solves_b2
        rw [chk_of (show n ≤ (LIM : Int) by unfold LIM; omega)]
        have mb := most_bnd hok (show 1 ≤ p.f_Den by omega) (by omega)
        simp only [Option.bind_some]
        rw [wrap64 (x := r.f_Most * p.f_Den) (by omega) (by omega)]
        obtain ⟨s', e', hs'⟩ := forN_nx (body := mootref3_Solves_b4 p r) (fun k s => s = r.f_Most * p.f_Den - lhs r.f_Coef p.f_Num k) n.toNat (r.f_Most * p.f_Den) (by simp [lhs, sm]) (fun k s hk hs => by
          subst hs
          have bd := lhs_bnd (k := k) hok hx (by omega)
          unfold mootref3_Solves_b4
          rw [get_of (l := p.f_Num) (k := k) (by omega), get_of (l := r.f_Coef) (k := k) (by omega)]
          simp only [Option.bind_some]
          rw [wrap64 (x := r.f_Coef.getD k 0 * p.f_Num.getD k 0) (by omega) (by omega), wrap64 (by omega) (by omega)]
          exact ⟨_, rfl, by simp only [lhs, sm]; omega⟩)
        rw [e']
        subst hs'
        simp only [Option.bind_some, Sum.elim_inl]
        by_cases hgt : lhs r.f_Coef p.f_Num n.toNat > r.f_Most * p.f_Den
        · exact .inr ⟨by omega, by rw [show decide (r.f_Most * p.f_Den - lhs r.f_Coef p.f_Num n.toNat < 0) = true by simp; omega]; rfl⟩
        · exact .inl ⟨by omega, (), by rw [show decide (r.f_Most * p.f_Den - lhs r.f_Coef p.f_Num n.toNat < 0) = false by simp; omega]; rfl, trivial⟩) with ⟨g2, s', e, _⟩ | ⟨⟨k, r, hr, hna⟩, e⟩
      · rw [e]
        refine ⟨true, rfl, fun _ => ⟨hc, h1, by omega, by omega, hx, fun r hr => ?_⟩, fun _ => rfl⟩
        obtain ⟨i, hi, rfl⟩ := List.mem_iff_getElem.1 hr
        exact g2 i _ (List.getElem?_eq_getElem hi)
      · rw [e]
        refine ⟨false, rfl, by simp, fun ⟨_, hs⟩ => absurd (hs.2.2.2.2 r (List.mem_of_getElem? hr)) hna⟩
    · rw [e]
      exact ⟨false, rfl, by simp, fun ⟨_, hs⟩ => absurd (hs.2.2.2.1 a (List.mem_of_getElem? ha)) hna⟩

/-- A column of the rows, weighed. -/
def col (l : List line_Row) (b : List Int) (v : Nat) (m : Nat) : Int := sm (fun k => (l.getD k default).f_Coef.getD v 0 * b.getD k 0) m
def mst (l : List line_Row) (b : List Int) (m : Nat) : Int := sm (fun k => (l.getD k default).f_Most * b.getD k 0) m

/-- What Disproves says. -/
def disproved (l : List line_Row) (n : Int) (b : List Int) : Prop :=
  b.length = l.length ∧ (∀ y ∈ b, 0 ≤ y ∧ y ≤ 1125899906842624) ∧ (∀ v, v < n.toNat → col l b v l.length = 0) ∧ mst l b l.length < 0

theorem lgetD_of {α : Type} {l : List α} {k : Nat} {x d : α} (h : l[k]? = some x) : l.getD k d = x := by simp [List.getD, h]
theorem lget_of {α : Type} {l : List α} {k : Nat} (d : α) (h : k < l.length) : l[k]? = some (l.getD k d) := by simp [List.getD, h]

theorem col_bnd {l : List line_Row} {n : Int} {b : List Int} (hl : ∀ r ∈ l, rowOk n r) (hb : ∀ y ∈ b, 0 ≤ y ∧ y ≤ 1125899906842624) (h8 : l.length ≤ 8) (v : Nat) {k : Nat} (hk : k < l.length) :
    (-1000000000000000000 ≤ col l b v k ∧ col l b v k ≤ 1000000000000000000) ∧ -1000000000000000000 ≤ (l.getD k default).f_Coef.getD v 0 * b.getD k 0 ∧ (l.getD k default).f_Coef.getD v 0 * b.getD k 0 ≤ 1000000000000000000 := by
  have each : ∀ j, j < l.length → -(9 * 1125899906842624) ≤ (l.getD j default).f_Coef.getD v 0 * b.getD j 0 ∧ (l.getD j default).f_Coef.getD v 0 * b.getD j 0 ≤ 9 * 1125899906842624 := by
    intro j hj
    have hr := hl (l.getD j default) (List.mem_of_getElem? (lget_of default hj))
    have h1 := getD_bnd (by decide) (by decide) hr.2.1 v
    have h2 := getD_bnd (by decide) (by decide) hb j
    exact mul_bnd h1.1 h1.2 (by omega) h2.2
  have h1 := sm_le (f := fun k => (l.getD k default).f_Coef.getD v 0 * b.getD k 0) (n := k) (fun j hj => (each j (by omega)).2)
  have h2 := sm_ge (f := fun k => (l.getD k default).f_Coef.getD v 0 * b.getD k 0) (n := k) (fun j hj => (each j (by omega)).1)
  have h3 := each k hk
  have e : (k : Int) * (9 * 1125899906842624) ≤ 8 * (9 * 1125899906842624) := Int.mul_le_mul_of_nonneg_right (by omega) (by decide)
  unfold col
  exact ⟨⟨by omega, by omega⟩, by omega, by omega⟩

theorem mst_bnd {l : List line_Row} {n : Int} {b : List Int} (hl : ∀ r ∈ l, rowOk n r) (hb : ∀ y ∈ b, 0 ≤ y ∧ y ≤ 1125899906842624) (h8 : l.length ≤ 8) {k : Nat} (hk : k < l.length) :
    (-2000000000000000000 ≤ mst l b k ∧ mst l b k ≤ 2000000000000000000) ∧ -1000000000000000000 ≤ (l.getD k default).f_Most * b.getD k 0 ∧ (l.getD k default).f_Most * b.getD k 0 ≤ 1000000000000000000 := by
  have each : ∀ j, j < l.length → -(99 * 1125899906842624) ≤ (l.getD j default).f_Most * b.getD j 0 ∧ (l.getD j default).f_Most * b.getD j 0 ≤ 99 * 1125899906842624 := by
    intro j hj
    have hr := hl (l.getD j default) (List.mem_of_getElem? (lget_of default hj))
    have h2 := getD_bnd (by decide) (by decide) hb j
    exact mul_bnd hr.2.2.1 hr.2.2.2 (by omega) h2.2
  have h1 := sm_le (f := fun k => (l.getD k default).f_Most * b.getD k 0) (n := k) (fun j hj => (each j (by omega)).2)
  have h2 := sm_ge (f := fun k => (l.getD k default).f_Most * b.getD k 0) (n := k) (fun j hj => (each j (by omega)).1)
  have h3 := each k hk
  have e : (k : Int) * (99 * 1125899906842624) ≤ 8 * (99 * 1125899906842624) := Int.mul_le_mul_of_nonneg_right (by omega) (by decide)
  unfold mst
  exact ⟨⟨by omega, by omega⟩, by omega, by omega⟩

theorem len_true (l : List line_Row) (n : Int) (b : List Int) (c : Int) (hc : line_Check l n = some c) (h : c ≠ 0 ∨ b.length ≠ l.length) :
    ((line_Check l n).bind fun r1 => cond (r1 != 0) (some true) (some ((b.length : Int) != (l.length : Int)))) = some true := by
  rw [hc]
  simp only [Option.bind_some]
  by_cases h1 : c = 0
  · rcases h with h | h
    · exact absurd h1 h
    · rw [show ((b.length : Int) != (l.length : Int)) = true by simp; omega]; simp [h1]
  · rw [show (c != 0) = true by simp [h1]]; rfl

theorem len_false (l : List line_Row) (n : Int) (b : List Int) (hc : line_Check l n = some 0) (h : b.length = l.length) :
    ((line_Check l n).bind fun r1 => cond (r1 != 0) (some true) (some ((b.length : Int) != (l.length : Int)))) = some false := by
  rw [hc, h]
  simp

theorem disproves_spec (l : List line_Row) (n : Int) (b : List Int) : ∃ r, mootref3_Disproves l n b = some r ∧ (r = true ↔ line_Check l n = some 0 ∧ disproved l n b) := by
  obtain ⟨c, hc, hc0⟩ := check_spec l n
  unfold mootref3_Disproves
  rw [fault_eq]
  by_cases h : c ≠ 0 ∨ b.length ≠ l.length
  · rw [len_true l n b c hc h]
    refine ⟨false, rfl, by simp, fun ⟨h1, h2⟩ => ?_⟩
    rw [hc] at h1; cases h1
    rcases h with h | h
    · exact absurd rfl h
    · exact absurd h2.1 h
  · have h0 : c = 0 := Decidable.byContradiction fun e => h (.inl e)
    have h1 : b.length = l.length := Decidable.byContradiction fun e => h (.inr e)
    subst h0
    rw [len_false l n b hc h1]
    obtain ⟨c1, c2, c3, c4⟩ := hc0 rfl
    simp only [Option.bind_some, cond_false]
    rcases forL_all (body := mootref3_Disproves_b0) (fun _ _ => True) (fun _ a => 0 ≤ a ∧ a ≤ 1125899906842624) false b () trivial (fun k a s ha _ => by
      unfold mootref3_Disproves_b0
      by_cases h : a < 0 ∨ a > 1125899906842624
      · refine .inr ⟨by omega, ?_⟩
        rw [show (cond (decide (a < 0)) true (decide (a > 1125899906842624))) = true by rcases h with h | h <;> simp [h]]
        rfl
      · refine .inl ⟨by omega, (), ?_, trivial⟩
        rw [show (cond (decide (a < 0)) true (decide (a > 1125899906842624))) = false by simp; omega]
        rfl) with ⟨g1, s', e, _⟩ | ⟨⟨k, a, ha, hna⟩, e⟩
    · rw [e]
      have hx : ∀ a ∈ b, 0 ≤ a ∧ a ≤ 1125899906842624 := by
        intro a ha
        obtain ⟨i, hi, rfl⟩ := List.mem_iff_getElem.1 ha
        exact g1 i _ (List.getElem?_eq_getElem hi)
      simp only [Option.bind_some, Sum.elim_inl]
      rw [chk_of (show n ≤ (LIM : Int) by unfold LIM; omega)]
      simp only [Option.bind_some]
      rcases forN_all (body := mootref3_Disproves_b2 l b) (fun _ _ => True) (fun v => col l b v l.length = 0) false n.toNat () trivial (fun v s hv _ => by
        unfold mootref3_Disproves_b2
        obtain ⟨s', e', hs'⟩ := forL_nx (body := mootref3_Disproves_b4 b v) (fun k s => s = col l b v k) l 0 rfl (fun k r s hr hs => by
          subst hs
          have hk : k < l.length := (List.getElem?_eq_some_iff.1 hr).1
          have hok := c4 r (List.mem_of_getElem? hr)
          have hlen := hok.1
          have bd := col_bnd c4 hx c3 v hk
          have hrd := lgetD_of (d := default) hr
          unfold mootref3_Disproves_b4
          rw [get_of (l := r.f_Coef) (k := v) (by omega), get_of (l := b) (k := k) (by omega)]
          rw [hrd] at bd
          simp only [Option.bind_some]
          rw [wrap64 (x := r.f_Coef.getD v 0 * b.getD k 0) (by omega) (by omega), wrap64 (by omega) (by omega)]
          exact ⟨_, rfl, by simp only [col, sm]; rw [hrd]⟩)
        rw [e']
        subst hs'
        simp only [Option.bind_some, Sum.elim_inl]
        by_cases hz : col l b v l.length = 0
        · exact .inl ⟨hz, (), by rw [show (col l b v l.length != 0) = false by simp [hz]]; rfl, trivial⟩
        · exact .inr ⟨hz, by rw [show (col l b v l.length != 0) = true by simp [hz]]; rfl⟩) with ⟨g2, s', e, _⟩ | ⟨⟨v, hv, hna⟩, e⟩
      · rw [e]
        simp only [Option.bind_some, Sum.elim_inl]
        obtain ⟨s', e', hs'⟩ := forL_nx (body := mootref3_Disproves_b6 b) (fun k s => s = mst l b k) l 0 rfl (fun k r s hr hs => by
          subst hs
          have hk : k < l.length := (List.getElem?_eq_some_iff.1 hr).1
          have bd := mst_bnd c4 hx c3 hk
          have hrd := lgetD_of (d := default) hr
          unfold mootref3_Disproves_b6
          rw [get_of (l := b) (k := k) (by omega)]
          rw [hrd] at bd
          simp only [Option.bind_some]
          rw [wrap64 (x := r.f_Most * b.getD k 0) (by omega) (by omega), wrap64 (by omega) (by omega)]
          exact ⟨_, rfl, by simp only [mst, sm]; rw [hrd]⟩)
        rw [e']
        subst hs'
        simp only [Option.bind_some, Sum.elim_inl]
        refine ⟨_, rfl, fun h => ⟨hc, h1, hx, g2, by simpa using h⟩, fun ⟨_, _, _, _, h⟩ => by simpa using h⟩
      · rw [e]
        exact ⟨false, rfl, by simp, fun ⟨_, hs⟩ => absurd (hs.2.2.1 v hv) hna⟩
    · rw [e]
      exact ⟨false, rfl, by simp, fun ⟨_, hs⟩ => absurd (hs.2.1 a (List.mem_of_getElem? ha)) hna⟩
end Go.Proofs.Ytfhddbnacbcppaa
