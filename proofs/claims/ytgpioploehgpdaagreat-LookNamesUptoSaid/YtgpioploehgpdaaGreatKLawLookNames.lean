/- PROVED: mootlaw3.LookNames returns true and leaves its arguments as they were, whatever body and string are passed in. Conditions: those of the given statement alone (what is read is of bulk at most 1048576). -/
import Derived.Test.YtgpioploehgpdaaGreatKPartg
set_option linter.unusedSimpArgs false
set_option linter.unusedVariables false
set_option linter.unnecessarySimpa false
set_option linter.unusedSectionVars false

set_option linter.unusedVariables false
set_option linter.unusedSimpArgs false
namespace Go.Proofs.YtgpioploehgpdaaGreat.lookNames
open Go.PG Go.PG.PH Go.ChangeShapes Go.WideShapes Go.ChangeAt Go.RowKit
set_option maxRecDepth 100000 in
theorem contract (H : Type) (enc : TypeId × Value -> H) (W : World) (base : Nat) (args : Array Value) (ds gs : List (DataW H)) (before : List MemPlace)
  (hval : ∀ (j : Nat) t v, Tryz.f5.params[j]? = some t -> args[j]? = some v -> Value.okWide Tryz.prog W .any base t v)
  (hW : DataW.Whole enc Tryz.prog Tryz.f5.params.toList Rows.lookNamesSpec.vars false W args.toList ds gs before) (hk : Rows.uptoSmall H (ds ++ gs) = true) :
  Calls Tryz.prog 5 args W fun e W' => ∃ v, e = .returned v /\ Rows.lookNamesSpec.post enc Tryz.prog Tryz.f5 false true false false W args v W' := by
 refine law_true (bk H) (n := 10) (rt := 4) laidOut (ts := [24, 9]) (by kernel_rfl) (by kernel_rfl) (by kernel_rfl) (by kernel_rfl) Tryz.underlying4 rfl ?_ ?_ W base args ds gs before hval hW (by simpa [Rows.uptoSmall] using hk)
 ·intro ds hds
  match ds, hds with
  | [d1, d2], _ => exact ⟨rfl, rfl, rfl⟩
 ·intro xs hxs hv hb
  match xs, hxs with
  | [x1, x2], _ =>
   obtain ⟨b, rfl, _⟩ := VA_D (m := 12) (ty := .list tyAct) (hv 0 24 x1 rfl rfl) (by kernel_rfl);obtain ⟨s, rfl, _⟩ := VA_D (m := 12) (ty := .str) (hv 1 9 x2 rfl rfl) (by kernel_rfl);simp only [V.bulkL, enc_bd] at hb;have hM := M20_eq;haveI : Fit b := fit_of b (by omega);haveI : Big (LIM + 1) := ⟨Nat.lt_succ_self _⟩;exact (c_5 (LIM + 1)).ok (b, s) true (lookNames_plain (LIM + 1) looked_ok b s)
set_option maxRecDepth 100000 in
theorem lifted (os : Os) (started : os.Started) (H : Type) (enc : TypeId × Value -> H) (F : Stop.Interp) :
  ReturnsInHanded {} Tryz.checked os 5 .any ((Rows.OpenSpec.upto Rows.lookNamesSpec).pre6 enc Tryz.prog Tryz.f5 Rows.lookNamesUptoRow.domain false) (((Rows.OpenSpec.upto Rows.lookNamesSpec).at F).post enc Tryz.prog Tryz.f5 false true false false) := by
 refine returnsInHanded_of_cond (C := Tryz.checked) (s := Rows.OpenSpec.upto Rows.lookNamesSpec) (k := Rows.uptoSmall) rfl own started (by kernel_rfl) Tryz.func5
  (OpenSpec.witness (enc := enc) (C := Tryz.checked) (s := Rows.OpenSpec.upto Rows.lookNamesSpec) (k := Rows.uptoSmall) rfl false
   ⟨#[], #[.slice none 0 0, .string ByteArray.empty], []⟩ 8 (by kernel_rfl) (by kernel_rfl) (by kernel_rfl)
   (x := ([.nil, .lit (.string [])], [], [])) (by kernel_rfl) rfl (by kernel_rfl)) ?_
 intro W base args ds gs before hval hW _ hk _
 exact contract H enc W base args ds gs before hval hW hk
theorem k1 : Tryz.pinned.checked.prog.funcNamed Rows.lookNamesUptoRow.func = some 5 := by kernel_rfl
theorem j1 : (Rows.lookNamesUptoRow.inPlace == Tryz.prog.inPlace 5) = true := by kernel_rfl
theorem j2 : (Rows.lookNamesUptoRow.unfollowed == Tryz.prog.unfollowed 5) = true := by kernel_rfl
theorem j3 : (Rows.lookNamesUptoRow.recurses == Tryz.prog.recurses 5) = true := by kernel_rfl
theorem j4 : (Rows.lookNamesUptoRow.named == Tryz.prog.varsNamed 5) = true := by kernel_rfl
theorem j6 : (Rows.lookNamesUptoRow.lifted == Tryz.prog.liftsFinal) = true := by kernel_rfl
theorem j7 : (Tryz.prog.make == some Rows.lookNamesUptoRow.make) = true := by kernel_rfl
theorem k3 : joinedFacts Tryz.prog 5 Tryz.f5 (Rows.OpenSpec.upto Rows.lookNamesSpec).bare Rows.lookNamesUptoRow = true := joined_of j1 j2 j3 j4 mayEnter j6 j7 laidOut stopsHeard (by kernel_rfl) (by kernel_rfl) (by kernel_rfl)
theorem k4 : Tryz.f5.isInstance Tryz.pinned.checked.prog Rows.lookNamesUptoRow.origin Rows.lookNamesUptoRow.targs := (of_decide_eq_true (by kernel_rfl))
theorem k5 : Tryz.f5.isWrapper Tryz.pinned.checked.prog Rows.lookNamesUptoRow.wrapper Rows.lookNamesUptoRow.mainSum := (by unfold Func.isWrapper; first | (rw [if_pos (by decide +kernel)]; kernel_rfl) | (rw [if_neg (by decide +kernel)]; exact ⟨rfl, rfl⟩))
theorem over : Rows.lookNamesUptoRow.holds Tryz.pinned (Rows.OpenSpec.upto Rows.lookNamesSpec) :=
 OpenClaim.holds_of_cond 5 Tryz.f5 rfl rfl rfl rfl rfl rfl rfl ⟨rfl, rfl, rfl, rfl, rfl⟩ rfl rfl rfl rfl rfl k1 Tryz.func5 k3 k4 k5
  (fun os started H enc _ F => lifted os started H enc F)
theorem proved : Rows.LookNamesUptoSaid := over
end Go.Proofs.YtgpioploehgpdaaGreat.lookNames
