/- PROVED: mootkeep3.LineFewer returns true and leaves its arguments as they were, whatever numbers are passed in. Conditions: those of the given statement alone (what is read is of bulk at most 1048576). -/
import Derived.Test.YtfhddbnacbcppaaKPartf
set_option linter.unusedSimpArgs false
set_option linter.unusedVariables false
set_option linter.unnecessarySimpa false
set_option linter.unusedSectionVars false

namespace Go.Proofs.Ytfhddbnacbcppaa.lineFewer
open Go.PG Go.PG.PH Go.ChangeShapes Go.WideShapes Go.ChangeAt Go.RowKit

set_option maxRecDepth 100000 in
theorem contract (H : Type) (enc : TypeId × Value → H) (W : World) (base : Nat) (args : Array Value) (ds gs : List (DataW H)) (before : List MemPlace)
    (hval : ∀ (j : Nat) t v, Try.f7.params[j]? = some t → args[j]? = some v → Value.okWide Try.prog W .any base t v)
    (hW : DataW.Whole enc Try.prog Try.f7.params.toList Rows.lineFewerSpec.vars false W args.toList ds gs before) (hk : Rows.uptoSmall H (ds ++ gs) = true) :
    Calls Try.prog 7 args W fun e W' => ∃ v, e = .returned v ∧ Rows.lineFewerSpec.post enc Try.prog Try.f7 false true false false W args v W' := by
  refine law_true (bk H) (n := 6) (rt := 4) laidOut (ts := [23, 23, 3]) (by kernel_rfl) (by kernel_rfl) (by kernel_rfl) (by kernel_rfl) Try.underlying4 rfl ?_ ?_ W base args ds gs before hval hW (by simpa [Rows.uptoSmall] using hk)
  · intro ds hds
    match ds, hds with
    | [d1, d2, d3], _ => exact ⟨rfl, rfl, rfl⟩
  · intro xs hxs hv _
    match xs, hxs with
    | [x1, x2, x3], _ =>
      obtain ⟨l, rfl, _⟩ := VA_D (m := 8) (ty := .list (.int .i64)) (hv 0 23 x1 rfl rfl) (by kernel_rfl)
      obtain ⟨q, rfl, _⟩ := VA_D (m := 8) (ty := .list (.int .i64)) (hv 1 23 x2 rfl rfl) (by kernel_rfl)
      obtain ⟨n, rfl, _⟩ := VA_D (m := 8) (ty := .int .i64) (hv 2 3 x3 rfl rfl) (by kernel_rfl)
      exact (c_7 FU).ok (l, q, n) true (lineFewer_plain l q n)

set_option maxRecDepth 100000 in
theorem lifted (os : Os) (started : os.Started) (H : Type) (enc : TypeId × Value → H) (F : Stop.Interp) :
    ReturnsInHanded {} Try.checked os 7 .any ((Rows.OpenSpec.upto Rows.lineFewerSpec).pre6 enc Try.prog Try.f7 Rows.lineFewerUptoRow.domain false) (((Rows.OpenSpec.upto Rows.lineFewerSpec).at F).post enc Try.prog Try.f7 false true false false) := by
  refine returnsInHanded_of_cond (C := Try.checked) (s := Rows.OpenSpec.upto Rows.lineFewerSpec) (k := Rows.uptoSmall) rfl own started (by kernel_rfl) Try.func7
    (OpenSpec.witness (enc := enc) (C := Try.checked) (s := Rows.OpenSpec.upto Rows.lineFewerSpec) (k := Rows.uptoSmall) rfl false ⟨#[], #[.slice none 0 0, .slice none 0 0, .int .i64 0], []⟩ 8 (by kernel_rfl) (by kernel_rfl) (by kernel_rfl)
      (x := ([.nil, .nil, .lit (.int .i64 0)], [], [])) (by kernel_rfl) rfl (by kernel_rfl)) ?_
  intro W base args ds gs before hval hW _ hk _
  exact contract H enc W base args ds gs before hval hW hk

theorem over : Rows.lineFewerUptoRow.holds Try.pinned (Rows.OpenSpec.upto Rows.lineFewerSpec) :=
  OpenClaim.holds_of_cond 7 Try.f7 rfl rfl rfl rfl rfl rfl rfl ⟨rfl, rfl, rfl, rfl, rfl⟩ rfl rfl rfl rfl rfl (by kernel_rfl) Try.func7 (by kernel_rfl)
    (of_decide_eq_true (by kernel_rfl)) (by unfold Func.isWrapper; first | (rw [if_pos (by decide +kernel)]; kernel_rfl) | (rw [if_neg (by decide +kernel)]; exact ⟨rfl, rfl⟩))
    (fun os started H enc _ F => lifted os started H enc F)

theorem proved : Rows.LineFewerUptoSaid := over
end Go.Proofs.Ytfhddbnacbcppaa.lineFewer
