/- Plain laws: gcd, lowest terms, products, the order of fractions, the greatest and the least of a list. -/
import Derived.Test.YtfhddbnacbcppaaKPa
set_option linter.unusedVariables false
set_option linter.unnecessarySimpa false
set_option linter.unusedSimpArgs false
namespace Go.Proofs.Ytfhddbnacbcppaa
open Go.PG

theorem common_nat : ∀ (fu x y : Nat), y < fu → whL line_common_b0 fu ((x : Int), (y : Int)) = some (.inl ((Nat.gcd x y : Nat), (0 : Int)) : (Int × Int) ⊕ Int)
  | 0, x, y, h => by omega
  | fu + 1, x, y, h => by
    by_cases hy : y = 0
    · subst hy
      rw [whL_bk (s' := ((x : Int), (0 : Int))) (by unfold line_common_b0; simp)]
      simp
    · have e : (x : Int).tmod (y : Int) = ((x % y : Nat) : Int) := by simp [Int.tmod]
      rw [whL_nx (s' := ((y : Int), ((x % y : Nat) : Int))) (by
        unfold line_common_b0
        rw [show (((x : Int), (y : Int)).2 != 0) = true by simp [hy], chk_of (show ¬ ((x : Int), (y : Int)).2 = 0 by simp [hy])]
        simp only [cond_true, Option.bind_some, e])]
      rw [common_nat fu y (x % y) (by have := Nat.mod_lt x (show 0 < y by omega); omega)]
      rw [show Nat.gcd y (x % y) = Nat.gcd x y by rw [Nat.gcd_comm x y, Nat.gcd_rec y x, Nat.gcd_comm]]

theorem common_spec {fu : Nat} {a b : Int} (ha : 0 ≤ a) (hb : 0 ≤ b) (hf : b < fu) : line_common fu a b = some ((Int.gcd a b : Nat) : Int) := by
  unfold line_common
  have h1 := common_nat fu a.toNat b.toNat (by omega)
  rw [show ((a.toNat : Nat) : Int) = a by omega, show ((b.toNat : Nat) : Int) = b by omega] at h1
  rw [h1]
  simp only [Option.bind_some, Sum.elim_inl]
  congr 1
  simp only [Int.gcd]
  congr 2 <;> omega

/-- A fraction in lowest terms. -/
def frOk (f : line_frac) : Prop := 0 < f.f_d ∧ Int.gcd f.f_n f.f_d = 1

theorem tdiv_of_dvd {a b : Int} (h : b ∣ a) : a.tdiv b = a / b := by
  rw [Int.tdiv_eq_ediv_of_dvd h]

theorem abs_le_of {a b c : Int} (h : a = b * c) (hc : 0 < c) : -(if a < 0 then -a else a) ≤ b ∧ b ≤ (if a < 0 then -a else a) := by
  have h1 : ∀ b : Int, 0 ≤ b → b ≤ b * c := fun b hb => by
    have := Int.mul_le_mul_of_nonneg_left (show 1 ≤ c by omega) hb
    omega
  rcases Int.lt_or_le b 0 with hb | hb
  · have := h1 (-b) (by omega)
    rw [Int.neg_mul] at this
    have hneg : a < 0 := by
      have := Int.mul_neg_of_neg_of_pos hb hc
      omega
    rw [if_pos hneg]; omega
  · have := h1 b hb
    have : ¬ a < 0 := by omega
    rw [if_neg this]; omega

theorem lowest_pos {fu : Nat} {a b : Int} (hb : 0 < b) (h1 : -4611686018427387904 ≤ a) (h2 : a ≤ 4611686018427387904) (h3 : b ≤ 4611686018427387904) (hf : 4611686018427387904 < fu) :
    ∃ f, line_lowest fu a b = some f ∧ frOk f ∧ f.f_n * b = a * f.f_d ∧ -4611686018427387904 ≤ f.f_n ∧ f.f_n ≤ 4611686018427387904 ∧ f.f_d ≤ b := by
  unfold line_lowest
  rw [show decide (b < 0) = false by simp; omega]
  simp only [cond_false, Option.bind_some]
  rw [wrap64 (x := 0 - a) (by omega) (by omega)]
  have habs : (if 0 - a > a then 0 - a else a) = ((a.natAbs : Nat) : Int) := by split <;> omega
  rw [habs, common_spec (by omega) (by omega) (by omega)]
  have hg : Int.gcd (a.natAbs : Int) b = Int.gcd a b := by simp [Int.gcd]
  rw [hg]
  have hgp : 0 < Int.gcd a b := Int.gcd_pos_of_ne_zero_right a (by omega)
  have hda : ((Int.gcd a b : Nat) : Int) ∣ a := Int.gcd_dvd_left a b
  have hdb : ((Int.gcd a b : Nat) : Int) ∣ b := Int.gcd_dvd_right a b
  simp only [Option.bind_some]
  rw [chk_of (show ¬ ((Int.gcd a b : Nat) : Int) = 0 by omega)]
  simp only [Option.bind_some]
  obtain ⟨a', ha'⟩ := hda
  obtain ⟨b', hb'⟩ := hdb
  have e1 : a.tdiv ((Int.gcd a b : Nat) : Int) = a' := by
    rw [tdiv_of_dvd ⟨a', ha'⟩]
    conv => lhs; lhs; rw [ha']
    exact Int.mul_ediv_cancel_left _ (by omega)
  have e2 : b.tdiv ((Int.gcd a b : Nat) : Int) = b' := by
    rw [tdiv_of_dvd ⟨b', hb'⟩]
    conv => lhs; lhs; rw [hb']
    exact Int.mul_ediv_cancel_left _ (by omega)
  have bb := abs_le_of (a := b) (b := b') (c := ((Int.gcd a b : Nat) : Int)) (by rw [Int.mul_comm]; exact hb') (by omega)
  have ba := abs_le_of (a := a) (b := a') (c := ((Int.gcd a b : Nat) : Int)) (by rw [Int.mul_comm]; exact ha') (by omega)
  rw [if_neg (by omega)] at bb
  have hb'pos : 0 < b' := by
    rcases Int.lt_or_le 0 b' with h | h
    · exact h
    · have := Int.mul_nonpos_of_nonneg_of_nonpos (show (0 : Int) ≤ ((Int.gcd a b : Nat) : Int) by omega) h
      omega
  have hab : -4611686018427387904 ≤ a' ∧ a' ≤ 4611686018427387904 := by
    split at ba <;> omega
  rw [e1, e2, wrap64 (x := a') (by omega) (by omega), wrap64 (x := b') (by omega) (by omega)]
  refine ⟨_, rfl, ⟨hb'pos, ?_⟩, ?_, hab.1, hab.2, ?_⟩
  · show Int.gcd a' b' = 1
    have h := Int.gcd_ediv_gcd_ediv_gcd (i := a) (j := b) hgp
    have q1 : a / ((Int.gcd a b : Nat) : Int) = a' := by rw [← tdiv_of_dvd ⟨a', ha'⟩, e1]
    have q2 : b / ((Int.gcd a b : Nat) : Int) = b' := by rw [← tdiv_of_dvd ⟨b', hb'⟩, e2]
    rw [q1, q2] at h
    exact h
  · show a' * b = a * b'
    generalize ((Int.gcd a b : Nat) : Int) = g at ha' hb'
    rw [ha', hb']
    simp only [Int.mul_comm, Int.mul_left_comm]
  · show b' ≤ b
    omega

theorem lowest_spec {fu : Nat} {a b : Int} (hb : b ≠ 0) (h1 : -4611686018427387904 ≤ a) (h2 : a ≤ 4611686018427387904) (h3 : b ≤ 4611686018427387904) (h4 : -4611686018427387904 ≤ b) (hf : 4611686018427387904 < fu) :
    ∃ f, line_lowest fu a b = some f ∧ frOk f ∧ f.f_n * b = a * f.f_d ∧ -4611686018427387904 ≤ f.f_n ∧ f.f_n ≤ 4611686018427387904 ∧ f.f_d ≤ 4611686018427387904 := by
  by_cases hp : 0 < b
  · obtain ⟨f, e, g1, g2, g3, g4, g5⟩ := lowest_pos hp h1 h2 h3 hf
    exact ⟨f, e, g1, g2, g3, g4, by omega⟩
  · have hn : b < 0 := by omega
    have : line_lowest fu a b = line_lowest fu (-a) (-b) := by
      unfold line_lowest
      rw [show decide (b < 0) = true by simp [hn], show decide (-b < 0) = false by simp; omega]
      simp only [cond_true, cond_false, Option.bind_some]
      rw [wrap64 (x := 0 - a) (by omega) (by omega), wrap64 (x := 0 - b) (by omega) (by omega), Int.zero_sub a, Int.zero_sub b]
    obtain ⟨f, e, g1, g2, g3, g4, g5⟩ := lowest_pos (fu := fu) (a := -a) (b := -b) (by omega) (by omega) (by omega) (by omega) hf
    refine ⟨f, by rw [this]; exact e, g1, ?_, g3, g4, by omega⟩
    rw [Int.mul_neg, Int.neg_mul] at g2
    omega

theorem mask32 {x : Int} (h0 : 0 ≤ x) (h1 : x < 4294967296) : IntKind.u64.wrap (((BitVec.ofInt IntKind.u64.bits x &&& BitVec.ofInt IntKind.u64.bits 4294967295).toNat : Int)) = x := by
  have e1 : (BitVec.ofInt IntKind.u64.bits x).toNat = x.toNat := by
    simp only [IntKind.bits, BitVec.toNat_ofInt]
    omega
  have e2 : (BitVec.ofInt IntKind.u64.bits 4294967295).toNat = 2 ^ 32 - 1 := by decide
  rw [BitVec.toNat_and, e1, e2, Nat.and_two_pow_sub_one_eq_mod]
  have : x.toNat % 2 ^ 32 = x.toNat := Nat.mod_eq_of_lt (by omega)
  rw [this]
  simp [IntKind.wrap, IntKind.signed, IntKind.bits]
  omega

theorem wrapu {x : Int} (h : 0 ≤ x) (h' : x < 18446744073709551616) : IntKind.u64.wrap x = x := by
  simp [IntKind.wrap, IntKind.signed, IntKind.bits]
  omega

theorem shr32 {x : Int} (h0 : 0 ≤ x) (h1 : x < 4294967296) : x.fdiv (2 ^ (min (32 : Int).toNat IntKind.u64.bits)) = 0 := by
  have : (2 : Int) ^ (min (32 : Int).toNat IntKind.u64.bits) = 4294967296 := by decide
  rw [this, Int.fdiv_eq_ediv_of_nonneg _ (by decide)]
  omega

theorem mul_nonneg_lt {a b A B : Int} (ha : 0 ≤ a) (hA : a < A) (hb : 0 ≤ b) (hB : b < B) : 0 ≤ a * b ∧ a * b < A * B := by
  refine ⟨Int.mul_nonneg ha hb, ?_⟩
  have h1 : a * b ≤ a * B := Int.mul_le_mul_of_nonneg_left (by omega) ha
  have h2 : a * B < A * B := Int.mul_lt_mul_of_pos_right hA (by omega)
  omega

theorem mul64_small {a b : Int} (ha : 0 ≤ a) (ha' : a < 4294967296) (hb : 0 ≤ b) (hb' : b < 4294967296) : math_bits_Mul64 a b = some (0, a * b) := by
  have hp := mul_nonneg_lt ha ha' hb hb'
  have hshr : ∀ x : Int, x.fdiv (2 ^ (min (32 : Int).toNat IntKind.u64.bits)) = x / 4294967296 := by
    intro x
    have : (2 : Int) ^ (min (32 : Int).toNat IntKind.u64.bits) = 4294967296 := by decide
    rw [this, Int.fdiv_eq_ediv_of_nonneg _ (by decide)]
  unfold math_bits_Mul64
  simp only [mask32 ha ha', mask32 hb hb', shr32 ha ha', shr32 hb hb', Int.zero_mul, Int.mul_zero]
  simp only [show IntKind.u64.wrap 0 = 0 from by decide, Int.zero_add, Int.add_zero, hshr]
  rw [wrapu (x := a * b) hp.1 (by omega)]
  have e1 : 0 ≤ a * b / 4294967296 ∧ a * b / 4294967296 < 4294967296 := by omega
  rw [wrapu (x := a * b / 4294967296) (by omega) (by omega), mask32 e1.1 e1.2]
  have e2 : a * b / 4294967296 / 4294967296 = 0 := by omega
  rw [wrapu (x := a * b / 4294967296) (by omega) (by omega), e2]
  rfl

theorem cross_small {a b : Int} (ha : -4294967296 < a) (ha' : a < 4294967296) (hb : 0 ≤ b) (hb' : b < 4294967296) : line_cross a b = some ⟨decide (a * b < 0), 0, if a * b < 0 then -(a * b) else a * b⟩ := by
  unfold line_cross
  rw [wrap64 (x := 0 - a) (by omega) (by omega), wrap64 (x := 0 - b) (by omega) (by omega)]
  have e1 : (if 0 - a > a then 0 - a else a) = if a < 0 then -a else a := by split <;> split <;> omega
  have e2 : (if 0 - b > b then 0 - b else b) = b := by split <;> omega
  rw [e1, e2]
  have h1 : 0 ≤ (if a < 0 then -a else a) ∧ (if a < 0 then -a else a) < 4294967296 := by split <;> omega
  rw [wrapu h1.1 (by omega), wrapu hb (by omega), mul64_small h1.1 h1.2 hb hb']
  simp only [Option.bind_some]
  have e3 : decide (b < 0) = false := by simp; omega
  have e4 : (if a < 0 then -a else a) * b = if a * b < 0 then -(a * b) else a * b := by
    by_cases h : a < 0
    · have := Int.mul_nonneg (show 0 ≤ -a by omega) hb
      rw [Int.neg_mul] at this
      rw [if_pos h, Int.neg_mul]
      by_cases h2 : a * b < 0
      · rw [if_pos h2]
      · rw [if_neg h2]; omega
    · have := Int.mul_nonneg (show 0 ≤ a by omega) hb
      rw [if_neg h, if_neg (by omega)]
  have hp := mul_nonneg_lt h1.1 h1.2 hb hb'
  rw [e4] at hp ⊢
  have e5 : ∀ y : Int, 0 ≤ y → y < 18446744073709551616 → (IntKind.u64.wrap (((BitVec.ofInt IntKind.u64.bits 0 ||| BitVec.ofInt IntKind.u64.bits y).toNat : Int)) != 0) = decide (y ≠ 0) := by
    intro y h1 h2
    have : (BitVec.ofInt IntKind.u64.bits 0 ||| BitVec.ofInt IntKind.u64.bits y).toNat = y.toNat := by
      show (BitVec.ofInt 64 0 ||| BitVec.ofInt 64 y).toNat = y.toNat
      rw [show BitVec.ofInt 64 0 ||| BitVec.ofInt 64 y = BitVec.ofInt 64 y by simp]
      simp only [BitVec.toNat_ofInt]
      omega
    rw [this, show ((y.toNat : Nat) : Int) = y by omega, wrapu h1 h2]
    by_cases h : y = 0 <;> simp [h]
  rw [e5 _ hp.1 (by omega), e3]
  have f1 : a < 0 → ¬ 0 < a * b := by
    intro h h3
    have := Int.mul_nonneg (show 0 ≤ -a by omega) hb
    rw [Int.neg_mul] at this; omega
  have f2 : ¬ a < 0 → ¬ a * b < 0 := by
    intro h
    have := Int.mul_nonneg (show 0 ≤ a by omega) hb
    omega
  congr 2
  generalize a * b = c at f1 f2
  by_cases h : a < 0
  · have := f1 h
    by_cases h2 : c < 0
    · have : ¬ c = 0 := by omega
      simp [h, h2, this]
    · have : c = 0 := by omega
      simp [h, h2, this]
  · have h2 := f2 h
    simp [h, h2]

/-- Fractions that can be compared without loss. -/
def frB (f : line_frac) : Prop := -4294967296 < f.f_n ∧ f.f_n < 4294967296 ∧ 0 < f.f_d ∧ f.f_d < 4294967296

theorem less_small {a b : line_frac} (ha : frB a) (hb : frB b) : line_less a b = some (decide (a.f_n * b.f_d < b.f_n * a.f_d)) := by
  obtain ⟨a1, a2, a3, a4⟩ := ha
  obtain ⟨b1, b2, b3, b4⟩ := hb
  unfold line_less
  rw [cross_small a1 a2 (by omega) b4, cross_small b1 b2 (by omega) a4]
  simp only [Option.bind_some]
  generalize a.f_n * b.f_d = x
  generalize b.f_n * a.f_d = y
  by_cases hx : x < 0 <;> by_cases hy : y < 0
  · by_cases h : x < y
    · have : -x > -y := by omega
      simp [hx, hy, h]
    · have : ¬ -x > -y := by omega
      simp [hx, hy, h]
  · have : x < y := by omega
    simp [hx, hy, this]
  · have : ¬ x < y := by omega
    simp [hx, hy, this]
  · by_cases h : x < y <;> simp [hx, hy, h]

theorem order_small {a b : line_frac} (ha : frB a) (hb : frB b) : line_order a b = some (if a.f_n * b.f_d < b.f_n * a.f_d then -1 else if b.f_n * a.f_d < a.f_n * b.f_d then 1 else 0) := by
  unfold line_order
  rw [less_small ha hb]
  simp only [Option.bind_some]
  by_cases h : a.f_n * b.f_d < b.f_n * a.f_d
  · simp [h]
  · rw [less_small hb ha]
    simp only [Option.bind_some]
    by_cases h2 : b.f_n * a.f_d < a.f_n * b.f_d <;> simp [h, h2]

/-- a is at most b. -/
def frLe (a b : line_frac) : Prop := a.f_n * b.f_d ≤ b.f_n * a.f_d

theorem frLe_trans {a b c : line_frac} (ha : 0 < a.f_d) (hb : 0 < b.f_d) (hc : 0 < c.f_d) (h1 : frLe a b) (h2 : frLe b c) : frLe a c := by
  unfold frLe at *
  have e1 := Int.mul_le_mul_of_nonneg_right h1 (show 0 ≤ c.f_d by omega)
  have e2 := Int.mul_le_mul_of_nonneg_right h2 (show 0 ≤ a.f_d by omega)
  have : b.f_d * (a.f_n * c.f_d) ≤ b.f_d * (c.f_n * a.f_d) := by
    have f1 : a.f_n * b.f_d * c.f_d = b.f_d * (a.f_n * c.f_d) := by simp only [Int.mul_comm, Int.mul_left_comm]
    have f2 : c.f_n * b.f_d * a.f_d = b.f_d * (c.f_n * a.f_d) := by simp only [Int.mul_comm, Int.mul_left_comm]
    have f3 : b.f_n * a.f_d * c.f_d = b.f_n * c.f_d * a.f_d := by simp only [Int.mul_comm, Int.mul_left_comm]
    omega
  exact Int.le_of_mul_le_mul_left this hb

theorem frLe_refl (a : line_frac) : frLe a a := Int.le_refl _

theorem max_spec {fu : Nat} {l : List line_frac} (hl : ∀ f ∈ l, frB f) (h0 : 0 < l.length) (h63 : l.length < 4611686018427387904) (hf : l.length < fu) :
    ∃ m, slices_MaxFunc_line_frac fu l (fun z0 z1 => line_order z0 z1) = some m ∧ m ∈ l ∧ ∀ f ∈ l, frLe f m := by
  unfold slices_MaxFunc_line_frac
  rw [show decide ((l.length : Int) < 1) = false by simp; omega]
  simp only [cond_false]
  have hget : ∀ k, k < l.length → ∃ f, l[k]? = some f ∧ f ∈ l := fun k hk => ⟨l[k], List.getElem?_eq_getElem hk, List.getElem_mem hk⟩
  obtain ⟨x, hx, hxm⟩ := hget 0 h0
  unfold idx
  rw [if_pos (by decide), show (0 : Int).toNat = 0 from rfl, hx]
  simp only [Option.bind_some]
  obtain ⟨s', e, i1, i2⟩ := whL_inv (body := slices_MaxFunc_line_frac_b0 l (fun z0 z1 => line_order z0 z1))
    (fun s => 1 ≤ s.1 ∧ s.1 ≤ l.length ∧ line_frac.mk s.2.1 s.2.2 ∈ l ∧ ∀ (k : Nat) f, (k : Int) < s.1 → l[k]? = some f → frLe f (line_frac.mk s.2.1 s.2.2)) (fun s => l.length - s.1.toNat)
    (fun s => line_frac.mk s.2.1 s.2.2 ∈ l ∧ ∀ f ∈ l, frLe f (line_frac.mk s.2.1 s.2.2)) (fun s ⟨j1, j2, j3, j4⟩ => by
      unfold slices_MaxFunc_line_frac_b0
      by_cases hk : s.1 < l.length
      · rw [show decide (s.1 < (l.length : Int)) = true by simp [hk]]
        simp only [cond_true]
        obtain ⟨f, hf1, hf2⟩ := hget s.1.toNat (by omega)
        unfold idx
        rw [if_pos (by omega), hf1]
        simp only [Option.bind_some]
        rw [order_small (hl f hf2) (hl _ j3)]
        simp only [Option.bind_some]
        rw [wrap64 (x := s.1 + 1) (by omega) (by omega)]
        have hd : ∀ f ∈ l, 0 < f.f_d := fun f hf => (hl f hf).2.2.1
        refine .inl ?_
        by_cases hgt : s.2.1 * f.f_d < f.f_n * s.2.2
        · refine ⟨(s.1 + 1, f.f_n, f.f_d), ?_, ⟨by show 1 ≤ s.1 + 1; omega, by show s.1 + 1 ≤ l.length; omega, hf2, fun k g hk2 hg => ?_⟩, by show l.length - (s.1 + 1).toNat < l.length - s.1.toNat; omega⟩
          · have h2 : ¬ f.f_n * s.2.2 < s.2.1 * f.f_d := by omega
            simp [hgt, h2]
          · by_cases e : (k : Int) < s.1
            · exact frLe_trans (hd g (List.mem_of_getElem? hg)) (hd _ j3) (hd f hf2) (j4 k g e hg) (by show s.2.1 * f.f_d ≤ f.f_n * s.2.2; omega)
            · have : k = s.1.toNat := by have : (k : Int) < s.1 + 1 := hk2; omega
              subst this
              rw [hf1] at hg; cases hg
              exact frLe_refl _
        · refine ⟨(s.1 + 1, s.2.1, s.2.2), ?_, ⟨by show 1 ≤ s.1 + 1; omega, by show s.1 + 1 ≤ l.length; omega, j3, fun k g hk2 hg => ?_⟩, by show l.length - (s.1 + 1).toNat < l.length - s.1.toNat; omega⟩
          · by_cases h2 : f.f_n * s.2.2 < s.2.1 * f.f_d <;> simp [hgt, h2]
          · by_cases e : (k : Int) < s.1
            · exact j4 k g e hg
            · have : k = s.1.toNat := by have : (k : Int) < s.1 + 1 := hk2; omega
              subst this
              rw [hf1] at hg; cases hg
              show f.f_n * s.2.2 ≤ s.2.1 * f.f_d
              omega
      · rw [show decide (s.1 < (l.length : Int)) = false by simp; omega]
        refine .inr ⟨s, rfl, j3, fun f hf => ?_⟩
        obtain ⟨i, hi, rfl⟩ := List.mem_iff_getElem.1 hf
        exact j4 i _ (by omega) (List.getElem?_eq_getElem hi)) fu (1, x.f_n, x.f_d) ⟨by show (1 : Int) ≤ 1; omega, by show (1 : Int) ≤ l.length; omega, hxm, fun k f hk hf => by
          have : k = 0 := by have : (k : Int) < 1 := hk; omega
          subst this
          rw [hx] at hf; cases hf; exact frLe_refl _⟩ (by show l.length - (1 : Int).toNat < fu; omega)
  rw [e]
  exact ⟨_, rfl, i1, i2⟩

theorem min_spec {fu : Nat} {l : List line_frac} (hl : ∀ f ∈ l, frB f) (h0 : 0 < l.length) (h63 : l.length < 4611686018427387904) (hf : l.length < fu) :
    ∃ m, slices_MinFunc_line_frac fu l (fun z0 z1 => line_order z0 z1) = some m ∧ m ∈ l ∧ ∀ f ∈ l, frLe m f := by
  unfold slices_MinFunc_line_frac
  rw [show decide ((l.length : Int) < 1) = false by simp; omega]
  simp only [cond_false]
  have hget : ∀ k, k < l.length → ∃ f, l[k]? = some f ∧ f ∈ l := fun k hk => ⟨l[k], List.getElem?_eq_getElem hk, List.getElem_mem hk⟩
  obtain ⟨x, hx, hxm⟩ := hget 0 h0
  unfold idx
  rw [if_pos (by decide), show (0 : Int).toNat = 0 from rfl, hx]
  simp only [Option.bind_some]
  obtain ⟨s', e, i1, i2⟩ := whL_inv (body := slices_MinFunc_line_frac_b0 l (fun z0 z1 => line_order z0 z1))
    (fun s => 1 ≤ s.1 ∧ s.1 ≤ l.length ∧ line_frac.mk s.2.1 s.2.2 ∈ l ∧ ∀ (k : Nat) f, (k : Int) < s.1 → l[k]? = some f → frLe (line_frac.mk s.2.1 s.2.2) f) (fun s => l.length - s.1.toNat)
    (fun s => line_frac.mk s.2.1 s.2.2 ∈ l ∧ ∀ f ∈ l, frLe (line_frac.mk s.2.1 s.2.2) f) (fun s ⟨j1, j2, j3, j4⟩ => by
      unfold slices_MinFunc_line_frac_b0
      by_cases hk : s.1 < l.length
      · rw [show decide (s.1 < (l.length : Int)) = true by simp [hk]]
        simp only [cond_true]
        obtain ⟨f, hf1, hf2⟩ := hget s.1.toNat (by omega)
        unfold idx
        rw [if_pos (by omega), hf1]
        simp only [Option.bind_some]
        rw [order_small (hl f hf2) (hl _ j3)]
        simp only [Option.bind_some]
        rw [wrap64 (x := s.1 + 1) (by omega) (by omega)]
        have hd : ∀ f ∈ l, 0 < f.f_d := fun f hf => (hl f hf).2.2.1
        refine .inl ?_
        by_cases hgt : f.f_n * s.2.2 < s.2.1 * f.f_d
        · refine ⟨(s.1 + 1, f.f_n, f.f_d), ?_, ⟨by show 1 ≤ s.1 + 1; omega, by show s.1 + 1 ≤ l.length; omega, hf2, fun k g hk2 hg => ?_⟩, by show l.length - (s.1 + 1).toNat < l.length - s.1.toNat; omega⟩
          · simp [hgt]
          · by_cases e : (k : Int) < s.1
            · exact frLe_trans (hd f hf2) (hd _ j3) (hd g (List.mem_of_getElem? hg)) (by show f.f_n * s.2.2 ≤ s.2.1 * f.f_d; omega) (j4 k g e hg)
            · have : k = s.1.toNat := by have : (k : Int) < s.1 + 1 := hk2; omega
              subst this
              rw [hf1] at hg; cases hg
              exact frLe_refl _
        · refine ⟨(s.1 + 1, s.2.1, s.2.2), ?_, ⟨by show 1 ≤ s.1 + 1; omega, by show s.1 + 1 ≤ l.length; omega, j3, fun k g hk2 hg => ?_⟩, by show l.length - (s.1 + 1).toNat < l.length - s.1.toNat; omega⟩
          · by_cases h2 : s.2.1 * f.f_d < f.f_n * s.2.2 <;> simp [hgt, h2]
          · by_cases e : (k : Int) < s.1
            · exact j4 k g e hg
            · have : k = s.1.toNat := by have : (k : Int) < s.1 + 1 := hk2; omega
              subst this
              rw [hf1] at hg; cases hg
              show s.2.1 * f.f_d ≤ f.f_n * s.2.2
              omega
      · rw [show decide (s.1 < (l.length : Int)) = false by simp; omega]
        refine .inr ⟨s, rfl, j3, fun f hf => ?_⟩
        obtain ⟨i, hi, rfl⟩ := List.mem_iff_getElem.1 hf
        exact j4 i _ (by omega) (List.getElem?_eq_getElem hi)) fu (1, x.f_n, x.f_d) ⟨by show (1 : Int) ≤ 1; omega, by show (1 : Int) ≤ l.length; omega, hxm, fun k f hk hf => by
          have : k = 0 := by have : (k : Int) < 1 := hk; omega
          subst this
          rw [hx] at hf; cases hf; exact frLe_refl _⟩ (by show l.length - (1 : Int).toNat < fu; omega)
  rw [e]
  exact ⟨_, rfl, i1, i2⟩
end Go.Proofs.Ytfhddbnacbcppaa
