/- PROVED: mootlaw3.ViewData returns true and leaves its arguments as they were, whatever view and datum are passed in. Conditions: those of the given statement alone (what is read is of bulk at most 1048576). -/
import Derived.Test.YtfhddbnacbcppaaKPartf
set_option linter.unusedSimpArgs false
set_option linter.unusedVariables false
set_option linter.unnecessarySimpa false
set_option linter.unusedSectionVars false

namespace Go.Proofs.Ytfhddbnacbcppaa.viewData
open Go.PG Go.PG.PH Go.ChangeShapes Go.WideShapes Go.ChangeAt Go.RowKit

def tyD : Ty := .pair (.int .i64) (.pair .str (.pair (.int .i64) (.int .i64)))
def tyP : Ty := .pair (.int .i64) (.int .i64)
def tyV : Ty := .pair (.int .i64) (.pair (.list tyP) (.list tyD))

theorem len_bulk {α : Type} (f : α → V) (h : ∀ x, 1 ≤ (f x).bulk) : ∀ l : List α, l.length ≤ V.bulkL (l.map f)
  | [] => Nat.zero_le _
  | x :: l => by
    have h1 := len_bulk f h l
    have h2 := h x
    simp only [List.map_cons, V.bulkL, List.length_cons]
    omega

set_option maxRecDepth 100000 in
theorem contract (H : Type) (enc : TypeId × Value → H) (W : World) (base : Nat) (args : Array Value) (ds gs : List (DataW H)) (before : List MemPlace)
    (hval : ∀ (j : Nat) t v, Try.f5.params[j]? = some t → args[j]? = some v → Value.okWide Try.prog W .any base t v)
    (hW : DataW.Whole enc Try.prog Try.f5.params.toList Rows.viewDataSpec.vars false W args.toList ds gs before) (hk : Rows.uptoSmall H (ds ++ gs) = true) :
    Calls Try.prog 5 args W fun e W' => ∃ v, e = .returned v ∧ Rows.viewDataSpec.post enc Try.prog Try.f5 false true false false W args v W' := by
  refine law_true (bk H) (n := 6) (rt := 4) laidOut (ts := [45, 49]) (by kernel_rfl) (by kernel_rfl) (by kernel_rfl) (by kernel_rfl) Try.underlying4 rfl ?_ ?_ W base args ds gs before hval hW (by simpa [Rows.uptoSmall] using hk)
  · intro ds hds
    match ds, hds with
    | [d1, d2], _ => exact ⟨rfl, rfl, rfl⟩
  · intro xs hxs hv hb
    match xs, hxs with
    | [x1, x2], _ =>
      obtain ⟨v, rfl, _⟩ := VA_D (m := 8) (ty := tyV) (hv 0 45 x1 rfl rfl) (by kernel_rfl)
      obtain ⟨d, rfl, _⟩ := VA_D (m := 8) (ty := tyD) (hv 1 49 x2 rfl rfl) (by kernel_rfl)
      have h1 : ∀ x : tyP.D, 1 ≤ (tyP.enc x).bulk := fun x => by simp [Ty.enc, Ty.isA, mkV, Ty.cells, tyP, V.bulk, V.bulkL]
      have h2 : ∀ x : tyD.D, 1 ≤ (tyD.enc x).bulk := fun x => by simp [Ty.enc, Ty.isA, mkV, Ty.cells, tyD, V.bulk, V.bulkL]
      have hp := len_bulk (fun x : tyP.D => tyP.enc x) h1 v.2.1
      have hd := len_bulk (fun x : tyD.D => tyD.enc x) h2 v.2.2
      have hb' : V.bulkL ((v.2.1 : List tyP.D).map fun x => tyP.enc x) + V.bulkL ((v.2.2 : List tyD.D).map fun x => tyD.enc x) ≤ V.bulkL [tyV.enc v, tyD.enc d] := by
        simp only [Ty.enc, Ty.isA, mkV, Ty.cells, tyV, V.bulk, V.bulkL, cond_true, List.cons_append, List.nil_append]
        omega
      have e1 : (v.2.1 : List (Int × Int)).length ≤ 1048576 := Nat.le_trans hp (by omega)
      have e2 : (v.2.2 : List Dm).length ≤ 1048576 := Nat.le_trans hd (by omega)
      exact c_5.ok (v, d) true (viewData_plain v d e1 e2)

set_option maxRecDepth 100000 in
theorem lifted (os : Os) (started : os.Started) (H : Type) (enc : TypeId × Value → H) (F : Stop.Interp) :
    ReturnsInHanded {} Try.checked os 5 .any ((Rows.OpenSpec.upto Rows.viewDataSpec).pre6 enc Try.prog Try.f5 Rows.viewDataUptoRow.domain false) (((Rows.OpenSpec.upto Rows.viewDataSpec).at F).post enc Try.prog Try.f5 false true false false) := by
  refine returnsInHanded_of_cond (C := Try.checked) (s := Rows.OpenSpec.upto Rows.viewDataSpec) (k := Rows.uptoSmall) rfl own started (by kernel_rfl) Try.func5
    (OpenSpec.witness (enc := enc) (C := Try.checked) (s := Rows.OpenSpec.upto Rows.viewDataSpec) (k := Rows.uptoSmall) rfl false
      ⟨#[], #[.agg #[.int .i64 0, .slice none 0 0, .slice none 0 0], .agg #[.int .i64 0, .string ByteArray.empty, .int .i64 0, .int .i64 0]], []⟩ 8 (by kernel_rfl) (by kernel_rfl) (by kernel_rfl)
      (x := ([.agg [.lit (.int .i64 0), .nil, .nil], .agg [.lit (.int .i64 0), .lit (.string []), .agg [.lit (.int .i64 0), .lit (.int .i64 0)]]], [], [])) (by kernel_rfl) rfl (by kernel_rfl)) ?_
  intro W base args ds gs before hval hW _ hk _
  exact contract H enc W base args ds gs before hval hW hk

theorem over : Rows.viewDataUptoRow.holds Try.pinned (Rows.OpenSpec.upto Rows.viewDataSpec) :=
  OpenClaim.holds_of_cond 5 Try.f5 rfl rfl rfl rfl rfl rfl rfl ⟨rfl, rfl, rfl, rfl, rfl⟩ rfl rfl rfl rfl rfl (by kernel_rfl) Try.func5 (by kernel_rfl)
    (of_decide_eq_true (by kernel_rfl)) (by unfold Func.isWrapper; first | (rw [if_pos (by decide +kernel)]; kernel_rfl) | (rw [if_neg (by decide +kernel)]; exact ⟨rfl, rfl⟩))
    (fun os started H enc _ F => lifted os started H enc F)

theorem proved : Rows.ViewDataUptoSaid := over
end Go.Proofs.Ytfhddbnacbcppaa.viewData
