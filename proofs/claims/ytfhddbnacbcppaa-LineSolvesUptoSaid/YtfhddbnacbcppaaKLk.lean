import Derived.Test.YtfhddbnacbcppaaKPgLl
import Derived.Test.YtfhddbnacbcppaaKLa
import Derived.Test.YtfhddbnacbcppaaRows
import Derived.JoinedCond
set_option linter.unusedSimpArgs false
set_option linter.unusedVariables false
set_option linter.unnecessarySimpa false
namespace Go.Proofs.Ytfhddbnacbcppaa
open Go.PG Go.ChangeShapes Go.WideShapes Go.ChangeAt Go.RowKit

theorem bk (H : Type) : Bk (Rows.uptoBulk (H := H)) Rows.uptoBulkAll := by
  have pos : ∀ d : DataW H, 1 ≤ Rows.uptoBulk d := by
    intro d
    cases d with
    | lit l => cases l <;> simp [Rows.uptoBulk]
    | _ => simp [Rows.uptoBulk]
  refine ⟨fun l => pos _, fun b => by simp [Rows.uptoBulk], pos _, fun es sp => by simp [Rows.uptoBulk], fun ps => by simp [Rows.uptoBulk], fun d ds => by simp [Rows.uptoBulkAll], pos⟩

theorem laidOut : laidOutB Try.prog = true := by kernel_rfl
theorem own : ownKnob Try.prog.godebug = none := by kernel_rfl

def inI (x : Int) : Prop := IntKind.i64.min ≤ x ∧ x ≤ IntKind.i64.max

theorem dec_int {n : Nat} {x : V} (h : VA Try.prog n 3 x) : ∃ a, x = .int .i64 a ∧ inI a := by
  obtain ⟨cs, h1, _, h3⟩ := VA_of h tT3
  obtain ⟨a, ha, h4⟩ := VT_int h1 tT3 rfl
  rw [h3 rfl] at ha
  simp at ha
  exact ⟨a, ha, h4⟩

theorem dec_ints' {n : Nat} {cs : List V} (h : VT Try.prog n 23 cs) : ∃ l : List Int, cs = [.sl 1 (l.map (V.int .i64))] ∧ ∀ a ∈ l, inI a :=
  VT_slice (V.int .i64) inI h tT23 rfl tT3 fun m x ys hy _ h2 => by
    obtain ⟨a, ha, h4⟩ := VT_int hy tT3 rfl
    rw [← h2 rfl] at ha
    simp at ha
    exact ⟨a, ha, h4⟩

theorem dec_ints {n : Nat} {x : V} (h : VA Try.prog n 23 x) : ∃ l : List Int, x = .sl 1 (l.map (V.int .i64)) ∧ ∀ a ∈ l, inI a := by
  obtain ⟨cs, h1, _, h3⟩ := VA_of h tT23
  obtain ⟨l, hl, h4⟩ := dec_ints' h1
  rw [h3 rfl] at hl
  simp at hl
  exact ⟨l, hl, h4⟩

/-- A list of ints and an int, as a struct. -/
theorem dec_two {m : Nat} {cs : List V} (h : fsVT Try.prog (VT Try.prog m) [(0, 23), (1, 3)] cs) : ∃ (l : List Int) (a : Int), cs = [.sl 1 (l.map (V.int .i64)), .int .i64 a] ∧ (∀ a ∈ l, inI a) ∧ inI a := by
  obtain ⟨a1, b1, rfl, h1, h2⟩ := fsVT_cons h
  obtain ⟨a2, b2, rfl, h3, h4⟩ := fsVT_cons h2
  cases fsVT_nil h4
  obtain ⟨l, rfl, hl⟩ := dec_ints' h1
  obtain ⟨a, rfl, ha⟩ := VT_int h3 tT3 rfl
  exact ⟨l, a, rfl, hl, ha⟩

def rowI (r : line_Row) : Prop := (∀ a ∈ r.f_Coef, inI a) ∧ inI r.f_Most

theorem dec_rows {n : Nat} {x : V} (h : VA Try.prog n 22 x) : ∃ l : List line_Row, x = .sl 2 (l.map e_line_Row) ∧ ∀ a ∈ l, rowI a := by
  obtain ⟨cs, h1, _, h3⟩ := VA_of h tT22
  obtain ⟨l, hl, h4⟩ := VT_slice e_line_Row rowI h1 tT22 rfl tT38 fun m x ys hy h2 _ => by
    obtain ⟨m', hm⟩ := VT_struct hy tT38 rfl
    obtain ⟨l, a, rfl, hl, ha⟩ := dec_two hm
    exact ⟨⟨l, a⟩, h2 rfl, hl, ha⟩
  rw [h3 rfl] at hl
  simp at hl
  exact ⟨l, hl, h4⟩

theorem dec_point {n : Nat} {x : V} (h : VA Try.prog n 25 x) : ∃ p : line_Point, x = .agg [.sl 1 (p.f_Num.map (V.int .i64)), .int .i64 p.f_Den] ∧ (∀ a ∈ p.f_Num, inI a) ∧ inI p.f_Den := by
  obtain ⟨cs, h1, h2, _⟩ := VA_of h tT25
  obtain ⟨m', hm⟩ := VT_struct h1 tT25 rfl
  obtain ⟨l, a, rfl, hl, ha⟩ := dec_two hm
  exact ⟨⟨l, a⟩, h2 rfl, hl, ha⟩
end Go.Proofs.Ytfhddbnacbcppaa
