/- PROVED: mootlaw3.ViewChecks returns true and leaves its arguments as they were, whatever body, attributes and view are passed in. Conditions: those of the given statement alone (what is read is of bulk at most 1048576). -/
import Derived.Test.YtgpioploehgpdaaGreatKPartg
set_option linter.unusedSimpArgs false
set_option linter.unusedVariables false
set_option linter.unnecessarySimpa false
set_option linter.unusedSectionVars false

set_option linter.unusedVariables false
set_option linter.unusedSimpArgs false
namespace Go.Proofs.YtgpioploehgpdaaGreat
open Go.PG Go.PG.PH
def bd (t : Ty) (x : t.D) : Nat := V.bulkL (t.cells x)
theorem enc_bd : ∀ (t : Ty) (x : t.D), (t.enc x).bulk = bd t x
 | .int _, _ => by simp [Ty.enc, Ty.isA, mkV, Ty.cells, bd, V.bulk, V.bulkL]
 | .bool, _ => by simp [Ty.enc, Ty.isA, mkV, Ty.cells, bd, V.bulk, V.bulkL]
 | .str, _ => by simp [Ty.enc, Ty.isA, mkV, Ty.cells, bd, V.bulk, V.bulkL]
 | .list _, _ => by simp [Ty.enc, Ty.isA, mkV, Ty.cells, bd, V.bulk, V.bulkL]
 | .map _ _, _ => by simp [Ty.enc, Ty.isA, mkV, Ty.cells, bd, V.bulk, V.bulkL]
 | .unit, _ => by simp [Ty.enc, Ty.isA, mkV, Ty.cells, bd, V.bulk, V.bulkL]
 | .box a, _ => by simp [Ty.enc, Ty.isA, mkV, bd, V.bulk]
 | .pair a b, _ => by simp [Ty.enc, Ty.isA, mkV, bd, V.bulk]
theorem bd_pair (a b : Ty) (x : a.D × b.D) : bd (.pair a b) x = bd a x.1 + bd b x.2 := by
 unfold bd
 rw [show (Ty.pair a b).cells x = a.cells x.1 ++ b.cells x.2 from rfl, bulkL_append]
theorem bd_list (t : Ty) (l : List t.D) : bd (.list t) l = V.bulkL (l.map t.enc) + 1 := by
 unfold bd
 rw [show (Ty.list t).cells l = [.sl t.size (l.map t.enc)] from rfl]
 simp [V.bulkL, V.bulk]
theorem bd_int (k : IntKind) (x : Int) : bd (.int k) x = 1 := by simp [bd, Ty.cells, V.bulk, V.bulkL]
theorem bd_bool (x : Bool) : bd .bool x = 1 := by simp [bd, Ty.cells, V.bulk, V.bulkL]
theorem bd_str (x : ByteArray) : bd .str x = x.size + 1 := by simp [bd, Ty.cells, V.bulk, V.bulkL]
theorem bd_mem {t : Ty} {x : t.D} : ∀ {l : List t.D}, x ∈ l → bd t x ≤ bd (.list t) l
 | y :: l, h => by
  rw [bd_list, List.map_cons, V.bulkL, enc_bd]
  rcases List.mem_cons.1 h with rfl | h
  ·omega
  ·have := bd_mem h
   rw [bd_list] at this
   omega
theorem bd_len {t : Ty} (h : ∀ x, 1 ≤ bd t x) : ∀ l : List t.D, l.length ≤ bd (.list t) l
 | [] => Nat.zero_le _
 | x :: l => by
  have h1 := bd_len h l
  have h2 := h x
  rw [bd_list] at h1
  rw [bd_list, List.map_cons, V.bulkL, enc_bd, List.length_cons]
  omega
theorem bd_sum {t : Ty} (f : t.D → Nat) (h : ∀ x, f x ≤ bd t x) : ∀ l : List t.D, (l.map f).sum ≤ bd (.list t) l
 | [] => Nat.zero_le _
 | x :: l => by
  have h1 := bd_sum f h l
  have h2 := h x
  rw [bd_list] at h1
  rw [bd_list, List.map_cons, V.bulkL.eq_def, List.map_cons, List.sum_cons]
  simp only [enc_bd]
  omega
abbrev tyI : Ty := .int .i64
abbrev tyNd : Ty := .pair tyI (.pair (.list tyI) (.pair tyI (.pair tyI .str)))
abbrev tyAt : Ty := .pair .str (.pair tyI (.pair .bool (.pair tyI (.pair tyI (.pair tyI tyI)))))
abbrev tySt : Ty := .pair tyI tyI
abbrev tyTb : Ty := .pair .str (.pair tyI (.pair tyI (.pair .bool (.list tySt))))
abbrev tyRf : Ty := .pair .str .str
abbrev tyAr : Ty := .pair .str (.pair .str (.pair (.list tyNd) (.pair (.list tyNd) (.pair (.list tyRf) tyI))))
abbrev tyAct : Ty := .pair .str (.pair tyI (.pair tyI (.pair (.list tyAt) (.pair (.list tyTb) (.list tyAr)))))
abbrev tyPt : Ty := .pair tyI tyI
abbrev tyDm : Ty := .pair tyI (.pair .str (.pair tyI tyI))
abbrev tyVw : Ty := .pair tyI (.pair (.list tyPt) (.list tyDm))
theorem one_int (k : IntKind) (x : Int) : 1 ≤ bd (.int k) x := by rw [bd_int]; omega
theorem one_str (x : ByteArray) : 1 ≤ bd .str x := by rw [bd_str]; omega
theorem one_pair {a b : Ty} (h : ∀ x, 1 ≤ bd a x) (x : a.D × b.D) : 1 ≤ bd (.pair a b) x := by
 have := h x.1
 rw [bd_pair]; omega
theorem fitX_of (l : List Nd) (h : bd (.list tyNd) l ≤ M20) : FitX l := by
 have h1 := bd_len (t := tyNd) (one_pair (one_int _)) l
 refine ⟨Nat.le_trans h1 h, fun n hn => ?_⟩
 have h2 := bd_mem (t := tyNd) hn
 have h3 := bd_len (t := tyI) (one_int _) n.2.1
 have h4 : bd tyNd n = bd tyI n.1 + (bd (.list tyI) n.2.1 + bd (.pair tyI (.pair tyI .str)) n.2.2) := by
  unfold tyNd
  rw [bd_pair, bd_pair]
 omega
theorem bd_act (a : Act) : bd tyAct a = bd .str a.1 + (bd tyI a.2.1 + (bd tyI a.2.2.1 + (bd (.list tyAt) a.2.2.2.1 + (bd (.list tyTb) a.2.2.2.2.1 + bd (.list tyAr) a.2.2.2.2.2)))) := by
 simp only [bd_pair]
theorem bd_tb (t : Tb) : bd tyTb t = bd .str t.1 + (bd tyI t.2.1 + (bd tyI t.2.2.1 + (bd .bool t.2.2.2.1 + bd (.list tySt) t.2.2.2.2))) := by
 simp only [bd_pair]
theorem bd_ar (x : Ar) : bd tyAr x = bd .str x.1 + (bd .str x.2.1 + (bd (.list tyNd) x.2.2.1 + (bd (.list tyNd) x.2.2.2.1 + (bd (.list tyRf) x.2.2.2.2.1 + bd tyI x.2.2.2.2.2)))) := by
 simp only [bd_pair]
theorem fit_of (b : List Act) (h : bd (.list tyAct) b ≤ M20) : Fit b := by
 refine ⟨Nat.le_trans (bd_len (t := tyAct) (one_pair one_str) b) h, ?_, fun a ha => ?_⟩
 ·have h1 := bd_sum (t := tyAct) (fun a : Act => a.2.2.2.1.length) (fun a => by
   have h2 := bd_len (t := tyAt) (one_pair one_str) a.2.2.2.1
   have h3 := bd_act a
   omega) b
  rw [List.length_flatMap]
  exact Nat.le_trans h1 h
 ·have h1 := bd_mem (t := tyAct) ha
  have h2 := bd_act a
  have k1 := bd_len (t := tyAt) (one_pair one_str) a.2.2.2.1
  have k2 := bd_len (t := tyTb) (one_pair one_str) a.2.2.2.2.1
  have k3 := bd_len (t := tyAr) (one_pair one_str) a.2.2.2.2.2
  refine ⟨by omega, by omega, by omega, fun t ht => ?_, fun x hx => ?_⟩
  ·have h3 := bd_mem (t := tyTb) ht
   have h4 := bd_tb t
   have h5 := bd_len (t := tySt) (one_pair (one_int _)) t.2.2.2.2
   omega
  ·have h3 := bd_mem (t := tyAr) hx
   have h4 := bd_ar x
   have h5 := bd_len (t := tyRf) (one_pair one_str) x.2.2.2.2.1
   exact ⟨fitX_of _ (by omega), fitX_of _ (by omega), by omega⟩
end Go.Proofs.YtgpioploehgpdaaGreat
namespace Go.Proofs.YtgpioploehgpdaaGreat.viewChecks
open Go.PG Go.PG.PH Go.ChangeShapes Go.WideShapes Go.ChangeAt Go.RowKit
set_option maxRecDepth 100000 in
theorem contract (H : Type) (enc : TypeId × Value → H) (W : World) (base : Nat) (args : Array Value) (ds gs : List (DataW H)) (before : List MemPlace)
  (hval : ∀ (j : Nat) t v, Tryz.f11.params[j]? = some t → args[j]? = some v → Value.okWide Tryz.prog W .any base t v)
  (hW : DataW.Whole enc Tryz.prog Tryz.f11.params.toList Rows.viewChecksSpec.vars false W args.toList ds gs before) (hk : Rows.uptoSmall H (ds ++ gs) = true) :
  Calls Tryz.prog 11 args W fun e W' => ∃ v, e = .returned v ∧ Rows.viewChecksSpec.post enc Tryz.prog Tryz.f11 false true false false W args v W' := by
 refine law_true (bk H) (n := 10) (rt := 4) laidOut (ts := [24, 39, 101]) (by kernel_rfl) (by kernel_rfl) (by kernel_rfl) (by kernel_rfl) Tryz.underlying4 rfl ?_ ?_ W base args ds gs before hval hW (by simpa [Rows.uptoSmall] using hk)
 ·intro ds hds
  match ds, hds with
  | [d1, d2, d3], _ => exact ⟨rfl, rfl, rfl⟩
 ·intro xs hxs hv hb
  match xs, hxs with
  | [x1, x2, x3], _ =>
   obtain ⟨b, rfl, _⟩ := VA_D (m := 12) (ty := .list tyAct) (hv 0 24 x1 rfl rfl) (by kernel_rfl)
   obtain ⟨l, rfl, _⟩ := VA_D (m := 12) (ty := .list tyAt) (hv 1 39 x2 rfl rfl) (by kernel_rfl)
   obtain ⟨v, rfl, _⟩ := VA_D (m := 12) (ty := tyVw) (hv 2 101 x3 rfl rfl) (by kernel_rfl)
   simp only [V.bulkL, enc_bd] at hb
   have hM := M20_eq
   haveI : Fit b := fit_of b (by omega)
   haveI : Big (LIM + 1) := ⟨Nat.lt_succ_self _⟩
   have hv1 : bd tyVw v = bd tyI v.1 + (bd (.list tyPt) v.2.1 + bd (.list tyDm) v.2.2) := by
    unfold tyVw
    rw [bd_pair, bd_pair]
   have e1 := bd_len (t := tyPt) (one_pair (one_int _)) v.2.1
   have e2 := bd_len (t := tyDm) (one_pair (one_int _)) v.2.2
   exact (c_11 (LIM + 1)).ok (b, l, v) true (viewChecks_plain (LIM + 1) b l v (by omega) (by omega))
set_option maxRecDepth 100000 in
theorem lifted (os : Os) (started : os.Started) (H : Type) (enc : TypeId × Value → H) (F : Stop.Interp) :
  ReturnsInHanded {} Tryz.checked os 11 .any ((Rows.OpenSpec.upto Rows.viewChecksSpec).pre6 enc Tryz.prog Tryz.f11 Rows.viewChecksUptoRow.domain false) (((Rows.OpenSpec.upto Rows.viewChecksSpec).at F).post enc Tryz.prog Tryz.f11 false true false false) := by
 refine returnsInHanded_of_cond (C := Tryz.checked) (s := Rows.OpenSpec.upto Rows.viewChecksSpec) (k := Rows.uptoSmall) rfl own started (by kernel_rfl) Tryz.func11
  (OpenSpec.witness (enc := enc) (C := Tryz.checked) (s := Rows.OpenSpec.upto Rows.viewChecksSpec) (k := Rows.uptoSmall) rfl false
   ⟨#[], #[.slice none 0 0, .slice none 0 0, .agg #[.int .i64 0, .slice none 0 0, .slice none 0 0]], []⟩ 8 (by kernel_rfl) (by kernel_rfl) (by kernel_rfl)
   (x := ([.nil, .nil, .agg [.lit (.int .i64 0), .nil, .nil]], [], [])) (by kernel_rfl) rfl (by kernel_rfl)) ?_
 intro W base args ds gs before hval hW _ hk _
 exact contract H enc W base args ds gs before hval hW hk
theorem k1 : Tryz.pinned.checked.prog.funcNamed Rows.viewChecksUptoRow.func = some 11 := by kernel_rfl
theorem j1 : (Rows.viewChecksUptoRow.inPlace == Tryz.prog.inPlace 11) = true := by kernel_rfl
theorem j2 : (Rows.viewChecksUptoRow.unfollowed == Tryz.prog.unfollowed 11) = true := by kernel_rfl
theorem j3 : (Rows.viewChecksUptoRow.recurses == Tryz.prog.recurses 11) = true := by kernel_rfl
theorem j4 : (Rows.viewChecksUptoRow.named == Tryz.prog.varsNamed 11) = true := by kernel_rfl
theorem j6 : (Rows.viewChecksUptoRow.lifted == Tryz.prog.liftsFinal) = true := by kernel_rfl
theorem j7 : (Tryz.prog.make == some Rows.viewChecksUptoRow.make) = true := by kernel_rfl
theorem k3 : joinedFacts Tryz.prog 11 Tryz.f11 (Rows.OpenSpec.upto Rows.viewChecksSpec).bare Rows.viewChecksUptoRow = true := joined_of j1 j2 j3 j4 mayEnter j6 j7 laidOut stopsHeard (by kernel_rfl) (by kernel_rfl) (by kernel_rfl)
theorem k4 : Tryz.f11.isInstance Tryz.pinned.checked.prog Rows.viewChecksUptoRow.origin Rows.viewChecksUptoRow.targs := (of_decide_eq_true (by kernel_rfl))
theorem k5 : Tryz.f11.isWrapper Tryz.pinned.checked.prog Rows.viewChecksUptoRow.wrapper Rows.viewChecksUptoRow.mainSum := (by unfold Func.isWrapper; first | (rw [if_pos (by decide +kernel)]; kernel_rfl) | (rw [if_neg (by decide +kernel)]; exact ⟨rfl, rfl⟩))
theorem over : Rows.viewChecksUptoRow.holds Tryz.pinned (Rows.OpenSpec.upto Rows.viewChecksSpec) :=
 OpenClaim.holds_of_cond 11 Tryz.f11 rfl rfl rfl rfl rfl rfl rfl ⟨rfl, rfl, rfl, rfl, rfl⟩ rfl rfl rfl rfl rfl k1 Tryz.func11 k3 k4 k5
  (fun os started H enc _ F => lifted os started H enc F)
theorem proved : Rows.ViewChecksUptoSaid := over
end Go.Proofs.YtgpioploehgpdaaGreat.viewChecks
