/- Plain facts about the loops of the printed functions; no program in sight. -/
import Derived.Test.YtfhddbnacbcppaaKPgZ
set_option linter.unusedSimpArgs false
set_option linter.unusedVariables false
set_option linter.unnecessarySimpa false
namespace Go.PG

theorem wrap64 {x : Int} (h : -9223372036854775808 ≤ x) (h' : x ≤ 9223372036854775807) : IntKind.i64.wrap x = x := by
  simp [IntKind.wrap, IntKind.signed, IntKind.bits]
  omega

/-- What a loop comes to, with an invariant. -/
theorem forL_inv {α σ ρ : Type} {body : Nat → α → σ → Option (Ctl σ ρ)} (I : Nat → σ → Prop) (B : σ → Prop) (Q : ρ → Prop) : ∀ (l : List α) (k0 : Nat) (s : σ), I k0 s →
    (∀ k x s, l[k]? = some x → I (k0 + k) s → (∃ s', body (k0 + k) x s = some (.nx s') ∧ I (k0 + k + 1) s') ∨ (∃ s', body (k0 + k) x s = some (.bk s') ∧ B s') ∨ ∃ r, body (k0 + k) x s = some (.rt r) ∧ Q r) →
    (∃ s', forL body k0 l s = some (.inl s') ∧ (I (k0 + l.length) s' ∨ B s')) ∨ ∃ r, forL body k0 l s = some (.inr r) ∧ Q r
  | [], k0, s, h0, _ => .inl ⟨s, rfl, .inl h0⟩
  | x :: l, k0, s, h0, h => by
    unfold forL
    rcases h 0 x s rfl h0 with ⟨s', e, hs⟩ | ⟨s', e, hs⟩ | ⟨r, e, hr⟩
    · rw [Nat.add_zero] at e hs
      rw [e]
      have := forL_inv I B Q l (k0 + 1) s' hs (fun k y t hk hI => by
        have := h (k + 1) y t (by simpa using hk) (by rwa [show k0 + (k + 1) = k0 + 1 + k by omega])
        rwa [show k0 + (k + 1) = k0 + 1 + k by omega] at this)
      rw [show k0 + (x :: l).length = k0 + 1 + l.length by simp; omega]
      exact this
    · rw [Nat.add_zero] at e
      rw [e]
      exact .inl ⟨s', rfl, .inr hs⟩
    · rw [Nat.add_zero] at e
      rw [e]
      exact .inr ⟨r, rfl, hr⟩

theorem forN_inv {σ ρ : Type} {body : Nat → σ → Option (Ctl σ ρ)} (I : Nat → σ → Prop) (B : σ → Prop) (Q : ρ → Prop) : ∀ (m : Nat) (k0 : Nat) (s : σ), I k0 s →
    (∀ k s, k < m → I (k0 + k) s → (∃ s', body (k0 + k) s = some (.nx s') ∧ I (k0 + k + 1) s') ∨ (∃ s', body (k0 + k) s = some (.bk s') ∧ B s') ∨ ∃ r, body (k0 + k) s = some (.rt r) ∧ Q r) →
    (∃ s', forN body k0 m s = some (.inl s') ∧ (I (k0 + m) s' ∨ B s')) ∨ ∃ r, forN body k0 m s = some (.inr r) ∧ Q r
  | 0, k0, s, h0, _ => .inl ⟨s, rfl, .inl h0⟩
  | m + 1, k0, s, h0, h => by
    unfold forN
    rcases h 0 s (by omega) h0 with ⟨s', e, hs⟩ | ⟨s', e, hs⟩ | ⟨r, e, hr⟩
    · rw [Nat.add_zero] at e hs
      rw [e]
      have := forN_inv I B Q m (k0 + 1) s' hs (fun k t hk hI => by
        have := h (k + 1) t (by omega) (by rwa [show k0 + (k + 1) = k0 + 1 + k by omega])
        rwa [show k0 + (k + 1) = k0 + 1 + k by omega] at this)
      rw [show k0 + (m + 1) = k0 + 1 + m by omega]
      exact this
    · rw [Nat.add_zero] at e
      rw [e]
      exact .inl ⟨s', rfl, .inr hs⟩
    · rw [Nat.add_zero] at e
      rw [e]
      exact .inr ⟨r, rfl, hr⟩

/-- A loop that stops, always with the same, where something doesn't hold. -/
theorem forL_all {α σ ρ : Type} {body : Nat → α → σ → Option (Ctl σ ρ)} (I : Nat → σ → Prop) (ok : Nat → α → Prop) (r0 : ρ) (l : List α) (s : σ) (h0 : I 0 s)
    (step : ∀ k x s, l[k]? = some x → I k s → (ok k x ∧ ∃ s', body k x s = some (.nx s') ∧ I (k + 1) s') ∨ (¬ ok k x ∧ body k x s = some (.rt r0))) :
    ((∀ k x, l[k]? = some x → ok k x) ∧ ∃ s', forL body 0 l s = some (.inl s') ∧ I l.length s') ∨ ((∃ k x, l[k]? = some x ∧ ¬ ok k x) ∧ forL body 0 l s = some (.inr r0)) := by
  rcases forL_inv (body := body) (fun k s => I k s ∧ ∀ j x, j < k → l[j]? = some x → ok j x) (fun _ => False) (fun r => r = r0 ∧ ∃ k x, l[k]? = some x ∧ ¬ ok k x) l 0 s ⟨h0, fun j x h => by omega⟩
    (fun k x s hx ⟨hI, ha⟩ => by
      rw [Nat.zero_add] at hI ha ⊢
      rcases step k x s hx hI with ⟨h1, s', e, h2⟩ | ⟨h1, e⟩
      · refine .inl ⟨s', e, h2, fun j y hj hy => ?_⟩
        rcases Nat.lt_or_ge j k with hjk | hjk
        · exact ha j y hjk hy
        · have : j = k := by omega
          subst this
          rw [hx] at hy; cases hy; exact h1
      · exact .inr (.inr ⟨r0, e, rfl, k, x, hx, h1⟩)) with ⟨s', e, ⟨h1, h2⟩ | h⟩ | ⟨r, e, rfl, h⟩
  · rw [Nat.zero_add] at h1 h2
    exact .inl ⟨fun k x hx => h2 k x (List.getElem?_eq_some_iff.1 hx).1 hx, s', e, h1⟩
  · exact h.elim
  · exact .inr ⟨h, e⟩

theorem forN_all {σ ρ : Type} {body : Nat → σ → Option (Ctl σ ρ)} (I : Nat → σ → Prop) (ok : Nat → Prop) (r0 : ρ) (m : Nat) (s : σ) (h0 : I 0 s)
    (step : ∀ k s, k < m → I k s → (ok k ∧ ∃ s', body k s = some (.nx s') ∧ I (k + 1) s') ∨ (¬ ok k ∧ body k s = some (.rt r0))) :
    ((∀ k, k < m → ok k) ∧ ∃ s', forN body 0 m s = some (.inl s') ∧ I m s') ∨ ((∃ k, k < m ∧ ¬ ok k) ∧ forN body 0 m s = some (.inr r0)) := by
  rcases forN_inv (body := body) (fun k s => I k s ∧ ∀ j, j < k → ok j) (fun _ => False) (fun r => r = r0 ∧ ∃ k, k < m ∧ ¬ ok k) m 0 s ⟨h0, fun j h => by omega⟩
    (fun k s hk ⟨hI, ha⟩ => by
      rw [Nat.zero_add] at hI ha ⊢
      rcases step k s hk hI with ⟨h1, s', e, h2⟩ | ⟨h1, e⟩
      · refine .inl ⟨s', e, h2, fun j hj => ?_⟩
        rcases Nat.lt_or_ge j k with hjk | hjk
        · exact ha j hjk
        · have : j = k := by omega
          subst this; exact h1
      · exact .inr (.inr ⟨r0, e, rfl, k, hk, h1⟩)) with ⟨s', e, ⟨h1, h2⟩ | h⟩ | ⟨r, e, rfl, h⟩
  · rw [Nat.zero_add] at h1 h2
    exact .inl ⟨h2, s', e, h1⟩
  · exact h.elim
  · exact .inr ⟨h, e⟩

/-- A loop that never stops. -/
theorem forL_nx {α σ ρ : Type} {body : Nat → α → σ → Option (Ctl σ ρ)} (I : Nat → σ → Prop) (l : List α) (s : σ) (h0 : I 0 s)
    (step : ∀ k x s, l[k]? = some x → I k s → ∃ s', body k x s = some (.nx s') ∧ I (k + 1) s') : ∃ s', forL body 0 l s = some (.inl s') ∧ I l.length s' := by
  rcases forL_inv (body := body) I (fun _ => False) (fun _ => False) l 0 s h0 (fun k x s hx hI => by rw [Nat.zero_add] at hI ⊢; exact .inl (step k x s hx hI)) with ⟨s', e, h | h⟩ | ⟨r, e, h⟩
  · rw [Nat.zero_add] at h
    exact ⟨s', e, h⟩
  · exact h.elim
  · exact h.elim

theorem forN_nx {σ ρ : Type} {body : Nat → σ → Option (Ctl σ ρ)} (I : Nat → σ → Prop) (m : Nat) (s : σ) (h0 : I 0 s)
    (step : ∀ k s, k < m → I k s → ∃ s', body k s = some (.nx s') ∧ I (k + 1) s') : ∃ s', forN body 0 m s = some (.inl s') ∧ I m s' := by
  rcases forN_inv (body := body) I (fun _ => False) (fun _ => False) m 0 s h0 (fun k s hk hI => by rw [Nat.zero_add] at hI ⊢; exact .inl (step k s hk hI)) with ⟨s', e, h | h⟩ | ⟨r, e, h⟩
  · rw [Nat.zero_add] at h
    exact ⟨s', e, h⟩
  · exact h.elim
  · exact h.elim

theorem whL_nx {σ ρ : Type} {body : σ → Option (Ctl σ ρ)} {k : Nat} {s s' : σ} (h : body s = some (.nx s')) : whL body (k + 1) s = whL body k s' := by
  simp only [whL, h, Option.bind_some]

theorem whL_bk {σ ρ : Type} {body : σ → Option (Ctl σ ρ)} {k : Nat} {s s' : σ} (h : body s = some (.bk s')) : whL body (k + 1) s = some (.inl s') := by
  simp only [whL, h, Option.bind_some]

/-- A while loop with a measure. -/
theorem whL_inv {σ ρ : Type} {body : σ → Option (Ctl σ ρ)} (I : σ → Prop) (m : σ → Nat) (B : σ → Prop)
    (step : ∀ s, I s → (∃ s', body s = some (.nx s') ∧ I s' ∧ m s' < m s) ∨ ∃ s', body s = some (.bk s') ∧ B s') : ∀ (k : Nat) (s : σ), I s → m s < k → ∃ s', whL body k s = some (.inl s') ∧ B s'
  | 0, s, _, h => by omega
  | k + 1, s, hI, h => by
    rcases step s hI with ⟨s', e, h1, h2⟩ | ⟨s', e, h1⟩
    · rw [whL_nx e]
      exact whL_inv I m B step k s' h1 (by omega)
    · exact ⟨s', whL_bk e, h1⟩

/-- A sum. -/
def sm (f : Nat → Int) : Nat → Int
  | 0 => 0
  | n + 1 => sm f n + f n

theorem sm_le {f : Nat → Int} {B : Int} {n : Nat} (h : ∀ k, k < n → f k ≤ B) : sm f n ≤ n * B := by
  induction n with
  | zero => simp [sm]
  | succ n ih =>
    have h1 := ih (fun k hk => h k (by omega))
    have h2 := h n (by omega)
    simp only [sm]
    rw [show ((n + 1 : Nat) : Int) * B = n * B + B by rw [Int.natCast_add, Int.add_mul]; simp]
    omega

theorem sm_ge {f : Nat → Int} {B : Int} {n : Nat} (h : ∀ k, k < n → -B ≤ f k) : -(n * B) ≤ sm f n := by
  induction n with
  | zero => simp [sm]
  | succ n ih =>
    have h1 := ih (fun k hk => h k (by omega))
    have h2 := h n (by omega)
    simp only [sm]
    rw [show ((n + 1 : Nat) : Int) * B = n * B + B by rw [Int.natCast_add, Int.add_mul]; simp]
    omega

theorem sm_congr {f g : Nat → Int} {n : Nat} (h : ∀ k, k < n → f k = g k) : sm f n = sm g n := by
  induction n with
  | zero => rfl
  | succ n ih => simp only [sm]; rw [ih (fun k hk => h k (by omega)), h n (by omega)]

theorem mul_bnd {a b A B : Int} (h1 : -A ≤ a) (h2 : a ≤ A) (h3 : -B ≤ b) (h4 : b ≤ B) : -(A * B) ≤ a * b ∧ a * b ≤ A * B := by
  have hA : 0 ≤ A := by omega
  have hB : 0 ≤ B := by omega
  have e1 : 0 ≤ (A - a) * (B - b) := Int.mul_nonneg (by omega) (by omega)
  have e2 : 0 ≤ (A + a) * (B + b) := Int.mul_nonneg (by omega) (by omega)
  have e3 : 0 ≤ (A - a) * (B + b) := Int.mul_nonneg (by omega) (by omega)
  have e4 : 0 ≤ (A + a) * (B - b) := Int.mul_nonneg (by omega) (by omega)
  simp only [Int.sub_mul, Int.mul_sub, Int.add_mul, Int.mul_add] at e1 e2 e3 e4
  constructor <;> omega
end Go.PG
