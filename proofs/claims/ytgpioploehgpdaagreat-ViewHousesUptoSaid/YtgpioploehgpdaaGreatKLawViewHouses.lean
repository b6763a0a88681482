/- PROVED: mootlaw3.ViewHouses returns true and leaves its arguments as they were, whatever body, views and number are passed in. Conditions: those of the given statement alone (what is read is of bulk at most 1048576). -/
import Derived.Test.YtgpioploehgpdaaGreatKPartg
set_option linter.unusedSimpArgs false
set_option linter.unusedVariables false
set_option linter.unnecessarySimpa false
set_option linter.unusedSectionVars false

set_option linter.unusedVariables false
set_option linter.unusedSimpArgs false
namespace Go.Proofs.YtgpioploehgpdaaGreat.viewHouses
open Go.PG Go.PG.PH Go.ChangeShapes Go.WideShapes Go.ChangeAt Go.RowKit
set_option maxRecDepth 100000 in
theorem contract (H : Type) (enc : TypeId × Value -> H) (W : World) (base : Nat) (args : Array Value) (ds gs : List (DataW H)) (before : List MemPlace)
  (hval : ∀ (j : Nat) t v, Tryz.f13.params[j]? = some t -> args[j]? = some v -> Value.okWide Tryz.prog W .any base t v)
  (hW : DataW.Whole enc Tryz.prog Tryz.f13.params.toList Rows.viewHousesSpec.vars false W args.toList ds gs before) (hk : Rows.uptoSmall H (ds ++ gs) = true) :
  Calls Tryz.prog 13 args W fun e W' => ∃ v, e = .returned v /\ Rows.viewHousesSpec.post enc Tryz.prog Tryz.f13 false true false false W args v W' := by
 refine law_true (bk H) (n := 10) (rt := 4) laidOut (ts := [24, 101, 101, 3]) (by kernel_rfl) (by kernel_rfl) (by kernel_rfl) (by kernel_rfl) Tryz.underlying4 rfl ?_ ?_ W base args ds gs before hval hW (by simpa [Rows.uptoSmall] using hk)
 ·intro ds hds
  match ds, hds with
  | [d1, d2, d3, d4], _ => exact ⟨rfl, rfl, rfl⟩
 ·intro xs hxs hv hb
  match xs, hxs with
  | [x1, x2, x3, x4], _ =>
   obtain ⟨b, rfl, _⟩ := VA_D (m := 12) (ty := .list tyAct) (hv 0 24 x1 rfl rfl) (by kernel_rfl);obtain ⟨v, rfl, _⟩ := VA_D (m := 12) (ty := tyVw) (hv 1 101 x2 rfl rfl) (by kernel_rfl);obtain ⟨w, rfl, _⟩ := VA_D (m := 12) (ty := tyVw) (hv 2 101 x3 rfl rfl) (by kernel_rfl);obtain ⟨n, rfl, _⟩ := VA_D (m := 12) (ty := tyI) (hv 3 3 x4 rfl rfl) (by kernel_rfl);simp only [V.bulkL, enc_bd] at hb;have hM := M20_eq;haveI : Fit b := fit_of b (by omega);haveI : Big (LIM + 1) := ⟨Nat.lt_succ_self _⟩;have hv : bd tyVw v = bd tyI v.1 + (bd (.list tyPt) v.2.1 + bd (.list tyDm) v.2.2) := by
    unfold tyVw;rw [bd_pair, bd_pair]
   have e1 := bd_len (t := tyPt) (one_pair (one_int _)) v.2.1;have e2 := bd_len (t := tyDm) (one_pair (one_int _)) v.2.2;exact (c_13 (LIM + 1)).ok (b, v, w, n) true (viewHouses_plain (LIM + 1) b v w n (by omega) (by omega))
set_option maxRecDepth 100000 in
theorem lifted (os : Os) (started : os.Started) (H : Type) (enc : TypeId × Value -> H) (F : Stop.Interp) :
  ReturnsInHanded {} Tryz.checked os 13 .any ((Rows.OpenSpec.upto Rows.viewHousesSpec).pre6 enc Tryz.prog Tryz.f13 Rows.viewHousesUptoRow.domain false) (((Rows.OpenSpec.upto Rows.viewHousesSpec).at F).post enc Tryz.prog Tryz.f13 false true false false) := by
 refine returnsInHanded_of_cond (C := Tryz.checked) (s := Rows.OpenSpec.upto Rows.viewHousesSpec) (k := Rows.uptoSmall) rfl own started (by kernel_rfl) Tryz.func13
  (OpenSpec.witness (enc := enc) (C := Tryz.checked) (s := Rows.OpenSpec.upto Rows.viewHousesSpec) (k := Rows.uptoSmall) rfl false
   ⟨#[], #[.slice none 0 0, .agg #[.int .i64 0, .slice none 0 0, .slice none 0 0], .agg #[.int .i64 0, .slice none 0 0, .slice none 0 0], .int .i64 0], []⟩ 8 (by kernel_rfl) (by kernel_rfl) (by kernel_rfl)
   (x := ([.nil, .agg [.lit (.int .i64 0), .nil, .nil], .agg [.lit (.int .i64 0), .nil, .nil], .lit (.int .i64 0)], [], [])) (by kernel_rfl) rfl (by kernel_rfl)) ?_
 intro W base args ds gs before hval hW _ hk _
 exact contract H enc W base args ds gs before hval hW hk
theorem k1 : Tryz.pinned.checked.prog.funcNamed Rows.viewHousesUptoRow.func = some 13 := by kernel_rfl
theorem j1 : (Rows.viewHousesUptoRow.inPlace == Tryz.prog.inPlace 13) = true := by kernel_rfl
theorem j2 : (Rows.viewHousesUptoRow.unfollowed == Tryz.prog.unfollowed 13) = true := by kernel_rfl
theorem j3 : (Rows.viewHousesUptoRow.recurses == Tryz.prog.recurses 13) = true := by kernel_rfl
theorem j4 : (Rows.viewHousesUptoRow.named == Tryz.prog.varsNamed 13) = true := by kernel_rfl
theorem j6 : (Rows.viewHousesUptoRow.lifted == Tryz.prog.liftsFinal) = true := by kernel_rfl
theorem j7 : (Tryz.prog.make == some Rows.viewHousesUptoRow.make) = true := by kernel_rfl
theorem k3 : joinedFacts Tryz.prog 13 Tryz.f13 (Rows.OpenSpec.upto Rows.viewHousesSpec).bare Rows.viewHousesUptoRow = true := joined_of j1 j2 j3 j4 mayEnter j6 j7 laidOut stopsHeard (by kernel_rfl) (by kernel_rfl) (by kernel_rfl)
theorem k4 : Tryz.f13.isInstance Tryz.pinned.checked.prog Rows.viewHousesUptoRow.origin Rows.viewHousesUptoRow.targs := (of_decide_eq_true (by kernel_rfl))
theorem k5 : Tryz.f13.isWrapper Tryz.pinned.checked.prog Rows.viewHousesUptoRow.wrapper Rows.viewHousesUptoRow.mainSum := (by unfold Func.isWrapper; first | (rw [if_pos (by decide +kernel)]; kernel_rfl) | (rw [if_neg (by decide +kernel)]; exact ⟨rfl, rfl⟩))
theorem over : Rows.viewHousesUptoRow.holds Tryz.pinned (Rows.OpenSpec.upto Rows.viewHousesSpec) :=
 OpenClaim.holds_of_cond 13 Tryz.f13 rfl rfl rfl rfl rfl rfl rfl ⟨rfl, rfl, rfl, rfl, rfl⟩ rfl rfl rfl rfl rfl k1 Tryz.func13 k3 k4 k5
  (fun os started H enc _ F => lifted os started H enc F)
theorem proved : Rows.ViewHousesUptoSaid := over
end Go.Proofs.YtgpioploehgpdaaGreat.viewHouses
