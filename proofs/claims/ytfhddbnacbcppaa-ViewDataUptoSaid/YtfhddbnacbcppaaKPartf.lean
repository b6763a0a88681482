import Derived.Test.YtfhddbnacbcppaaKParte
import Derived.Test.YtfhddbnacbcppaaProg
import Derived.KernelRfl
set_option linter.unusedSimpArgs false
set_option linter.unusedVariables false
set_option linter.unnecessarySimpa false
set_option linter.unusedSectionVars false

/- Printed by the bench (PtC #gen): the functions that the law ViewData reaches, by join. -/
set_option maxRecDepth 100000
set_option linter.unusedVariables false
namespace Go.Proofs.Ytfhddbnacbcppaa
open Go.PG Go.PG.PH
theorem mixA : Try.prog.follows .mixedOrders = true := by kernel_rfl

-- slices.Clone[[]moothall/api.Party,moothall/api.Party]
def h_38 : HT := (.s .n (.s (.j ⟨[], [], [(0, .dt (.list (.pair (.int .i64) (.int .i64)))), (4, .dt .bool)], []⟩ (.q 0) .n) .n))
noncomputable def slices_Clone___api_Party_api_Party_ (p0 : List (Int × Int)) : Option (List (Int × Int)) :=
  join (fun d => bif d.snd then some [] else (chk ((0 : Nat) + d.fst.length ≤ LIM)).bind fun x => some d.fst) fun K =>
    lcase p0 (K ([], true)) (K ([], false)) fun x xs => K (x :: xs, false)
noncomputable def c_38 : Ct Try.prog := .mk' mixA ⟨[], []⟩ 0 38 Try.f38 [.d (.list (.pair (.int .i64) (.int .i64)))] (.one (.list (.pair (.int .i64) (.int .i64)))) h_38 Try.func38 (by kernel_rfl) (fun d => slices_Clone___api_Party_api_Party_ d) (by kernel_rfl)

-- cmp.isNaN[int]
def h_63 : HT := .n
noncomputable def cmp_isNaN_int_ (p0 : Int) : Option (Bool) :=
  some (p0 != p0)
noncomputable def c_63 : Ct Try.prog := .mk' mixA ⟨[], []⟩ 0 63 Try.f63 [.d (.int .i64)] (.one .bool) h_63 Try.func63 (by kernel_rfl) (fun d => cmp_isNaN_int_ d) (by kernel_rfl)

-- cmp.Compare[int]
def h_55 : HT := .n
noncomputable def cmp_Compare_int_ (p0 : Int) (p1 : Int) : Option (Int) :=
  (cmp_isNaN_int_ p0).bind fun r =>
    (cmp_isNaN_int_ p1).bind fun r_1 =>
      bif r then bif r_1 then some (0 : Int) else some (-1 : Int)
      else bif r_1 then some (1 : Int) else bif decide (p0 < p1) then some (-1 : Int) else bif decide (p0 > p1) then some (1 : Int) else some (0 : Int)
noncomputable def c_55 : Ct Try.prog := .mk' mixA ⟨[c_63], []⟩ 0 55 Try.f55 [.d (.int .i64), .d (.int .i64)] (.one (.int .i64)) h_55 Try.func55 (by kernel_rfl) (fun d => cmp_Compare_int_ d.1 d.2) (by kernel_rfl)

-- cmp.isNaN[string]
def h_64 : HT := .n
noncomputable def cmp_isNaN_string_ (p0 : ByteArray) : Option (Bool) :=
  some !p0.toList == p0.toList
noncomputable def c_64 : Ct Try.prog := .mk' mixA ⟨[], []⟩ 0 64 Try.f64 [.d .str] (.one .bool) h_64 Try.func64 (by kernel_rfl) (fun d => cmp_isNaN_string_ d) (by kernel_rfl)

-- cmp.Compare[string]
def h_56 : HT := .n
noncomputable def cmp_Compare_string_ (p0 : ByteArray) (p1 : ByteArray) : Option (Int) :=
  (cmp_isNaN_string_ p0).bind fun r =>
    (cmp_isNaN_string_ p1).bind fun r_1 =>
      bif r then bif r_1 then some (0 : Int) else some (-1 : Int)
      else
        bif r_1 then some (1 : Int)
        else bif Op.bytesLess p0.toList p1.toList then some (-1 : Int) else bif !(Op.bytesLess p0.toList p1.toList || p0.toList == p1.toList) then some (1 : Int) else some (0 : Int)
noncomputable def c_56 : Ct Try.prog := .mk' mixA ⟨[c_64], []⟩ 0 56 Try.f56 [.d .str, .d .str] (.one (.int .i64)) h_56 Try.func56 (by kernel_rfl) (fun d => cmp_Compare_string_ d.1 d.2) (by kernel_rfl)

-- cmp.Or[int]
def h_54 : HT := (.s .n (.s .n (.s (.s .n (.l ⟨[3, 6, 7, 8], [], [], []⟩ .n)) .n)))
noncomputable def cmp_Or_int_ (p0 : List Int) : Option (Int) :=
  forK (fun k x d next => bif x != (0 : Int) then some x else next ()) (0 : Nat) p0 () fun d => some (0 : Int)
noncomputable def c_54 : Ct Try.prog := .mk' mixA ⟨[], []⟩ 0 54 Try.f54 [.d (.list (.int .i64))] (.one (.int .i64)) h_54 Try.func54 (by kernel_rfl) (fun d => cmp_Or_int_ d) (by kernel_rfl)

-- moothall/view.order
def h_40 : HT := .n
noncomputable def view_order (p0 : Int × ByteArray × Int × Int) (p1 : Int × ByteArray × Int × Int) : Option (Int) :=
  (cmp_Compare_int_ p0.fst p1.fst).bind fun r => (cmp_Compare_string_ p0.snd.fst p1.snd.fst).bind fun r_1 => (cmp_Or_int_ [r, r_1]).bind fun r => some r
noncomputable def c_40 : Ct Try.prog := .mk' mixA ⟨[c_55, c_56, c_54], []⟩ 0 40 Try.f40 [.d (.pair (.int .i64) (.pair .str (.pair (.int .i64) (.int .i64)))), .d (.pair (.int .i64) (.pair .str (.pair (.int .i64) (.int .i64))))] (.one (.int .i64)) h_40 Try.func40 (by kernel_rfl) (fun d => view_order d.1 d.2) (by kernel_rfl)

-- moothall/view.With$1
def h_39 : HT := (.s (.j ⟨[0, 1, 2], [2000, 2001, 2002, 1302], [(10, .dt .bool)], []⟩ .n .n) .n)
noncomputable def view_With_1 (c0_0 : Bool) (c1_0 : Int) (c1_1 : ByteArray) (c1_2 : Int) (c1_3 : Int) (c2_2 : List (Int × ByteArray × Int × Int)) (c2_0 : Int) (c2_1 : List (Int × Int)) : Option (Bool × Int × ByteArray × Int × Int × List (Int × ByteArray × Int × Int) × Int × List (Int × Int)) :=
  join
    (fun d =>
      bif d then (chk (c2_2.length + (1 : Nat) ≤ LIM)).bind fun x => some (true, c1_0, c1_1, c1_2, c1_3, c2_2 ++ [(c1_0, c1_1, c1_2, c1_3)], c2_0, c2_1)
      else some (true, c1_0, c1_1, c1_2, c1_3, c2_2, c2_0, c2_1))
    fun K => bif !c0_0 then K !(c1_2 == (0 : Int) && (c1_3 == (0 : Int) && true)) else K false
noncomputable def o_39 : Ow Try.prog := .mk' mixA ⟨[], []⟩ 0 39 Try.f39 [.pt 2000 1 0, .pt 2001 4 0, .pt 2002 3 0] [(2000, .el true 1 [.dt .bool]), (2001, .el true 4 [(.ag [.dt (.int .i64), .dt .str, .dt (.int .i64), .dt (.int .i64)])]), (1302, .ls (.pair (.int .i64) (.pair .str (.pair (.int .i64) (.int .i64))))), (2002, .el true 3 [(.ag [.dt (.int .i64), .dt (.list (.pair (.int .i64) (.int .i64))), .wn 1302 4])])] [] [(2000, .el true 1 [.dt .bool]), (2001, .el true 4 [(.ag [.dt (.int .i64), .dt .str, .dt (.int .i64), .dt (.int .i64)])]), (1302, .ls (.pair (.int .i64) (.pair .str (.pair (.int .i64) (.int .i64))))), (2002, .el false 3 [(.ag [.dt (.int .i64), .dt (.list (.pair (.int .i64) (.int .i64))), .wn 1302 4])])] [1302] h_39 Try.func39 (by kernel_rfl) (by kernel_rfl) (fun d => view_With_1 d.1 d.2.1 d.2.2.1 d.2.2.2.1 d.2.2.2.2.1 d.2.2.2.2.2.1 d.2.2.2.2.2.2.1 d.2.2.2.2.2.2.2) (by kernel_rfl)

-- moothall/view.With
def h_19 : HT := (.s .n (.s .n (.s .n (.s .n (.s (.s .n (.l ⟨[3, 4, 5, 7, 19, 20, 21], [4], [], [(3, .el true 4 [.dt (.pair (.int .i64) (.pair .str (.pair (.int .i64) (.int .i64))))]), (5, .el true 3 [(.ag [.dt (.int .i64), .dt (.list (.pair (.int .i64) (.int .i64))), .wn 31 4])]), (31, .ls (.pair (.int .i64) (.pair .str (.pair (.int .i64) (.int .i64))))), (6, .el true 1 [.dt .bool])]⟩ (.s .n (.s .n (.j ⟨[3, 4, 5, 7, 9, 10, 19, 20, 21], [4, 9], [], [(3, .el true 4 [.dt (.pair (.int .i64) (.pair .str (.pair (.int .i64) (.int .i64))))]), (5, .el false 3 [(.ag [.dt (.int .i64), .dt (.list (.pair (.int .i64) (.int .i64))), .wn 31 4])]), (31, .ls (.pair (.int .i64) (.pair .str (.pair (.int .i64) (.int .i64))))), (6, .el true 1 [.dt .bool])]⟩ .n .n))))) .n)))))
noncomputable def view_With (p0 : Int × List (Int × Int) × List (Int × ByteArray × Int × Int)) (p1 : Int × ByteArray × Int × Int) : Option (Int × List (Int × Int) × List (Int × ByteArray × Int × Int)) :=
  (slices_Clone___api_Party_api_Party_ p0.snd.fst).bind fun r =>
    forK
      (fun k x d next =>
        (view_order (x.fst, x.snd.fst, x.snd.snd.fst, x.snd.snd.snd) (d.fst.fst, d.fst.snd.fst, d.fst.snd.snd.fst, d.fst.snd.snd.snd)).bind fun r =>
          join
            (fun d =>
              bif r != (0 : Int) then
                (chk (d.snd.snd.snd.fst.length + (1 : Nat) ≤ LIM)).bind fun x_1 =>
                  next (d.fst, d.snd.fst, d.snd.snd.fst, d.snd.snd.snd.fst ++ [(x.fst, x.snd.fst, x.snd.snd.fst, x.snd.snd.snd)], d.snd.snd.snd.snd)
              else next (d.fst, d.snd.fst, d.snd.snd.fst, d.snd.snd.snd.fst, d.snd.snd.snd.snd))
            fun K =>
            bif decide (r ≥ (0 : Int)) then
              (view_With_1 d.snd.snd.snd.snd d.fst.fst d.fst.snd.fst d.fst.snd.snd.fst d.fst.snd.snd.snd d.snd.snd.snd.fst d.snd.fst d.snd.snd.fst).bind fun r =>
                K
                  ((r.snd.fst, r.snd.snd.fst, r.snd.snd.snd.fst, r.snd.snd.snd.snd.fst), r.snd.snd.snd.snd.snd.snd.fst, r.snd.snd.snd.snd.snd.snd.snd, r.snd.snd.snd.snd.snd.fst,
                    r.fst)
            else K (d.fst, d.snd.fst, d.snd.snd.fst, d.snd.snd.snd.fst, d.snd.snd.snd.snd))
      (0 : Nat) p0.snd.snd (p1, p0.fst, r, [], false) fun d =>
      (view_With_1 d.snd.snd.snd.snd d.fst.fst d.fst.snd.fst d.fst.snd.snd.fst d.fst.snd.snd.snd d.snd.snd.snd.fst d.snd.fst d.snd.snd.fst).bind fun r =>
        some (r.snd.snd.snd.snd.snd.snd.fst, r.snd.snd.snd.snd.snd.snd.snd, r.snd.snd.snd.snd.snd.fst)
noncomputable def c_19 : Ct Try.prog := .mk' mixA ⟨[c_38, c_40], [o_39]⟩ 0 19 Try.f19 [.d (.pair (.int .i64) (.pair (.list (.pair (.int .i64) (.int .i64))) (.list (.pair (.int .i64) (.pair .str (.pair (.int .i64) (.int .i64))))))), .d (.pair (.int .i64) (.pair .str (.pair (.int .i64) (.int .i64))))] (.one (.pair (.int .i64) (.pair (.list (.pair (.int .i64) (.int .i64))) (.list (.pair (.int .i64) (.pair .str (.pair (.int .i64) (.int .i64)))))))) h_19 Try.func19 (by kernel_rfl) (fun d => view_With d.1 d.2) (by kernel_rfl)

-- moothall/mootref3.Ahead
def h_20 : HT := .n
noncomputable def mootref3_Ahead (p0 : Int × ByteArray × Int × Int) (p1 : Int × ByteArray × Int × Int) : Option (Bool) :=
  bif decide (p0.fst < p1.fst) then some true else bif p0.fst == p1.fst then some (Op.bytesLess p0.snd.fst.toList p1.snd.fst.toList) else some false
noncomputable def c_20 : Ct Try.prog := .mk' mixA ⟨[], []⟩ 0 20 Try.f20 [.d (.pair (.int .i64) (.pair .str (.pair (.int .i64) (.int .i64)))), .d (.pair (.int .i64) (.pair .str (.pair (.int .i64) (.int .i64))))] (.one .bool) h_20 Try.func20 (by kernel_rfl) (fun d => mootref3_Ahead d.1 d.2) (by kernel_rfl)

-- moothall/mootref3.Solo
def h_58 : HT := .n
noncomputable def mootref3_Solo : Option (Int × List (Int × Int) × List (Int × ByteArray × Int × Int)) :=
  some ((0 : Int), [((1 : Int), (1 : Int))], [])
noncomputable def c_58 : Ct Try.prog := .mk' mixA ⟨[], []⟩ 0 58 Try.f58 [] (.one (.pair (.int .i64) (.pair (.list (.pair (.int .i64) (.int .i64))) (.list (.pair (.int .i64) (.pair .str (.pair (.int .i64) (.int .i64)))))))) h_58 Try.func58 (by kernel_rfl) (fun d => mootref3_Solo) (by kernel_rfl)

-- moothall/mootlaw3.solo
def h_43 : HT := .n
noncomputable def mootlaw3_solo (p0 : Int) : Option (Int × List (Int × Int) × List (Int × ByteArray × Int × Int)) :=
  mootref3_Solo.bind fun r => some (r.fst, r.snd.fst, [((1 : Int), ByteArray.mk #[(105 : UInt8), (110 : UInt8), (45 : UInt8), (97 : UInt8)], (1 : Int), p0)])
noncomputable def c_43 : Ct Try.prog := .mk' mixA ⟨[c_58], []⟩ 0 43 Try.f43 [.d (.int .i64)] (.one (.pair (.int .i64) (.pair (.list (.pair (.int .i64) (.int .i64))) (.list (.pair (.int .i64) (.pair .str (.pair (.int .i64) (.int .i64)))))))) h_43 Try.func43 (by kernel_rfl) (fun d => mootlaw3_solo d) (by kernel_rfl)

-- moothall/view.Get
def h_25 : HT := (.s .n (.s (.s .n (.l ⟨[1, 2, 6, 10, 11, 12], [6], [], []⟩ (.s .n (.j ⟨[1, 2, 6, 8, 10, 11, 12], [6, 8], [(25, .dt .bool)], []⟩ .n .n)))) .n))
noncomputable def view_Get (p0 : Int × List (Int × Int) × List (Int × ByteArray × Int × Int)) (p1 : Int) (p2 : ByteArray) : Option (Int × Int) :=
  forK (fun k x d next => join (fun d => bif d then some (x.snd.snd.fst, x.snd.snd.snd) else next ()) fun K => bif x.fst == p1 then K (x.snd.fst.toList == p2.toList) else K false)
    (0 : Nat) p0.snd.snd () fun d => some ((0 : Int), (0 : Int))
noncomputable def c_25 : Ct Try.prog := .mk' mixA ⟨[], []⟩ 0 25 Try.f25 [.d (.pair (.int .i64) (.pair (.list (.pair (.int .i64) (.int .i64))) (.list (.pair (.int .i64) (.pair .str (.pair (.int .i64) (.int .i64))))))), .d (.int .i64), .d .str] (.one (.pair (.int .i64) (.int .i64))) h_25 Try.func25 (by kernel_rfl) (fun d => view_Get d.1 d.2.1 d.2.2) (by kernel_rfl)

-- moothall/view.Form$1
def h_60 : HT := .n
noncomputable def view_Form_1 (p0 : Int × Int) (c0_0 : Int) (c0_1 : Int) : Option (Bool × Int × Int) :=
  some (p0.fst == c0_0, c0_0, c0_1)
noncomputable def o_60 : Ow Try.prog := .mk' mixA ⟨[], []⟩ 0 60 Try.f60 [.dt (.pair (.int .i64) (.int .i64)), .pt 2001 2 0] [(2001, .el true 2 [(.ag [.dt (.int .i64), .dt (.int .i64)])])] [.dt .bool] [(2001, .el true 2 [(.ag [.dt (.int .i64), .dt (.int .i64)])])] [] h_60 Try.func60 (by kernel_rfl) (by kernel_rfl) (fun d => view_Form_1 d.1 d.2.1 d.2.2) (by kernel_rfl)

-- slices.IndexFunc[[]moothall/api.Party,moothall/api.Party]
def h_66_60 : HT := (.s .n (.s (.s .n (.l ⟨[0, 1, 6, 7, 8], [], [], [(2050, .el true 2 [(.ag [.dt (.int .i64), .dt (.int .i64)])])]⟩ .n)) .n))
noncomputable def slices_IndexFunc___api_Party_api_Party__60 (p0 : List (Int × Int)) (q1_0_0 : Int) (q1_0_1 : Int) : Option (Int × Int × Int) :=
  forK
    (fun k x d next =>
      (idx p0 (↑k : Int)).bind fun y =>
        (view_Form_1 (y.fst, y.snd) d.fst d.snd).bind fun r => bif r.fst then some ((↑k : Int), r.snd.fst, r.snd.snd) else next (r.snd.fst, r.snd.snd))
    (0 : Nat) p0 (q1_0_0, q1_0_1) fun d => some ((-1 : Int), d.fst, d.snd)
noncomputable def o_66_60 : Ow Try.prog := .mk' mixA ⟨[], [o_60]⟩ 0 66 Try.f66 [.dt (.list (.pair (.int .i64) (.int .i64))), .fn 60 [.pt 2050 2 0]] [(2050, .el true 2 [(.ag [.dt (.int .i64), .dt (.int .i64)])])] [.dt (.int .i64)] [(2050, .el true 2 [(.ag [.dt (.int .i64), .dt (.int .i64)])])] [] h_66_60 Try.func66 (by kernel_rfl) (by kernel_rfl) (fun d => slices_IndexFunc___api_Party_api_Party__60 d.1 d.2.1 d.2.2) (by kernel_rfl)

-- slices.ContainsFunc[[]moothall/api.Party,moothall/api.Party]
def h_59_60 : HT := .n
noncomputable def slices_ContainsFunc___api_Party_api_Party__60 (p0 : List (Int × Int)) (q1_0_0 : Int) (q1_0_1 : Int) : Option (Bool × Int × Int) :=
  (slices_IndexFunc___api_Party_api_Party__60 p0 q1_0_0 q1_0_1).bind fun r => some (decide (r.fst ≥ (0 : Int)), r.snd.fst, r.snd.snd)
noncomputable def o_59_60 : Ow Try.prog := .mk' mixA ⟨[], [o_66_60, o_60]⟩ 0 59 Try.f59 [.dt (.list (.pair (.int .i64) (.int .i64))), .fn 60 [.pt 2050 2 0]] [(2050, .el true 2 [(.ag [.dt (.int .i64), .dt (.int .i64)])])] [.dt .bool] [(2050, .el true 2 [(.ag [.dt (.int .i64), .dt (.int .i64)])])] [] h_59_60 Try.func59 (by kernel_rfl) (by kernel_rfl) (fun d => slices_ContainsFunc___api_Party_api_Party__60 d.1 d.2.1 d.2.2) (by kernel_rfl)

-- moothall/view.Form$2
def h_61 : HT := .n
noncomputable def view_Form_2 (p0 : Int × Int) (c0_0 : Int) (c0_1 : ByteArray) (c0_2 : Int) (c0_3 : Int) : Option (Bool × Int × ByteArray × Int × Int) :=
  some (p0.fst == c0_0, c0_0, c0_1, c0_2, c0_3)
noncomputable def o_61 : Ow Try.prog := .mk' mixA ⟨[], []⟩ 0 61 Try.f61 [.dt (.pair (.int .i64) (.int .i64)), .pt 2001 4 0] [(2001, .el true 4 [(.ag [.dt (.int .i64), .dt .str, .dt (.int .i64), .dt (.int .i64)])])] [.dt .bool] [(2001, .el true 4 [(.ag [.dt (.int .i64), .dt .str, .dt (.int .i64), .dt (.int .i64)])])] [] h_61 Try.func61 (by kernel_rfl) (by kernel_rfl) (fun d => view_Form_2 d.1 d.2.1 d.2.2.1 d.2.2.2.1 d.2.2.2.2) (by kernel_rfl)

-- slices.IndexFunc[[]moothall/api.Party,moothall/api.Party]
def h_66_61 : HT := (.s .n (.s (.s .n (.l ⟨[0, 1, 6, 7, 8], [], [], [(2050, .el true 4 [(.ag [.dt (.int .i64), .dt .str, .dt (.int .i64), .dt (.int .i64)])])]⟩ .n)) .n))
noncomputable def slices_IndexFunc___api_Party_api_Party__61 (p0 : List (Int × Int)) (q1_0_0 : Int) (q1_0_1 : ByteArray) (q1_0_2 : Int) (q1_0_3 : Int) : Option (Int × Int × ByteArray × Int × Int) :=
  forK
    (fun k x d next =>
      (idx p0 (↑k : Int)).bind fun y =>
        (view_Form_2 (y.fst, y.snd) d.fst d.snd.fst d.snd.snd.fst d.snd.snd.snd).bind fun r =>
          bif r.fst then some ((↑k : Int), r.snd.fst, r.snd.snd.fst, r.snd.snd.snd.fst, r.snd.snd.snd.snd) else next (r.snd.fst, r.snd.snd.fst, r.snd.snd.snd.fst, r.snd.snd.snd.snd))
    (0 : Nat) p0 (q1_0_0, q1_0_1, q1_0_2, q1_0_3) fun d => some ((-1 : Int), d.fst, d.snd.fst, d.snd.snd.fst, d.snd.snd.snd)
noncomputable def o_66_61 : Ow Try.prog := .mk' mixA ⟨[], [o_61]⟩ 0 66 Try.f66 [.dt (.list (.pair (.int .i64) (.int .i64))), .fn 61 [.pt 2050 4 0]] [(2050, .el true 4 [(.ag [.dt (.int .i64), .dt .str, .dt (.int .i64), .dt (.int .i64)])])] [.dt (.int .i64)] [(2050, .el true 4 [(.ag [.dt (.int .i64), .dt .str, .dt (.int .i64), .dt (.int .i64)])])] [] h_66_61 Try.func66 (by kernel_rfl) (by kernel_rfl) (fun d => slices_IndexFunc___api_Party_api_Party__61 d.1 d.2.1 d.2.2.1 d.2.2.2.1 d.2.2.2.2) (by kernel_rfl)

-- slices.ContainsFunc[[]moothall/api.Party,moothall/api.Party]
def h_59_61 : HT := .n
noncomputable def slices_ContainsFunc___api_Party_api_Party__61 (p0 : List (Int × Int)) (q1_0_0 : Int) (q1_0_1 : ByteArray) (q1_0_2 : Int) (q1_0_3 : Int) : Option (Bool × Int × ByteArray × Int × Int) :=
  (slices_IndexFunc___api_Party_api_Party__61 p0 q1_0_0 q1_0_1 q1_0_2 q1_0_3).bind fun r =>
    some (decide (r.fst ≥ (0 : Int)), r.snd.fst, r.snd.snd.fst, r.snd.snd.snd.fst, r.snd.snd.snd.snd)
noncomputable def o_59_61 : Ow Try.prog := .mk' mixA ⟨[], [o_66_61, o_61]⟩ 0 59 Try.f59 [.dt (.list (.pair (.int .i64) (.int .i64))), .fn 61 [.pt 2050 4 0]] [(2050, .el true 4 [(.ag [.dt (.int .i64), .dt .str, .dt (.int .i64), .dt (.int .i64)])])] [.dt .bool] [(2050, .el true 4 [(.ag [.dt (.int .i64), .dt .str, .dt (.int .i64), .dt (.int .i64)])])] [] h_59_61 Try.func59 (by kernel_rfl) (by kernel_rfl) (fun d => slices_ContainsFunc___api_Party_api_Party__61 d.1 d.2.1 d.2.2.1 d.2.2.2.1 d.2.2.2.2) (by kernel_rfl)

-- moothall/view.Form
def h_44 : HT := (.s .n (.s (.j ⟨[1], [1], [(16, .dt .bool)], []⟩ .n .n) (.s (.j ⟨[1], [1], [(24, .dt .bool)], []⟩ .n .n) (.s (.s .n (.l ⟨[1, 26, 27, 28], [1], [], []⟩ .n)) (.s (.s .n (.l ⟨[1, 44, 45, 46], [1], [], []⟩ (.s .n (.s .n (.j ⟨[1, 44, 45, 46], [1], [(68, .dt .bool)], []⟩ .n .n))))) .n)))))
noncomputable def view_Form (p0 : Int × List (Int × Int) × List (Int × ByteArray × Int × Int)) : Option (Int) :=
  join
    (fun d =>
      bif d then some (2 : Int)
      else
        join
          (fun d =>
            bif d then some (1 : Int)
            else
              forK
                (fun k x d next =>
                  bif decide (x.fst < (0 : Int)) then some (1 : Int)
                  else
                    (chk ((0 : Int) ≤ (↑k : Int) ∧ (↑k : Int) ≤ (↑p0.snd.fst.length : Int))).bind fun x_1 =>
                      (slices_ContainsFunc___api_Party_api_Party__60 (List.take (↑k : Int).toNat p0.snd.fst) x.fst x.snd).bind fun r => bif r.fst then some (5 : Int) else next ())
                (0 : Nat) p0.snd.fst () fun d =>
                forK
                  (fun k x d next =>
                    (slices_ContainsFunc___api_Party_api_Party__61 p0.snd.fst x.fst x.snd.fst x.snd.snd.fst x.snd.snd.snd).bind fun r =>
                      bif !r.fst then some (4 : Int)
                      else
                        join (fun d => bif d then some (9 : Int) else next ()) fun K =>
                          bif decide ((↑k : Int) > (0 : Int)) then
                            (idx p0.snd.snd (IntKind.i64.wrap ((↑k : Int) - (1 : Int)))).bind fun y =>
                              (view_order (y.fst, y.snd.fst, y.snd.snd.fst, y.snd.snd.snd) (r.snd.fst, r.snd.snd.fst, r.snd.snd.snd.fst, r.snd.snd.snd.snd)).bind fun r =>
                                K (decide (r ≥ (0 : Int)))
                          else K false)
                  (0 : Nat) p0.snd.snd () fun d => some (0 : Int))
          fun K => bif decide (p0.fst < (0 : Int)) then K true else K (decide (p0.fst > (1048575 : Int))))
    fun K => bif decide ((↑p0.snd.fst.length : Int) > (30 : Int)) then K true else K (decide ((↑p0.snd.snd.length : Int) > (1200 : Int)))
noncomputable def c_44 : Ct Try.prog := .mk' mixA ⟨[c_40], [o_59_60, o_59_61, o_60, o_61]⟩ 0 44 Try.f44 [.d (.pair (.int .i64) (.pair (.list (.pair (.int .i64) (.int .i64))) (.list (.pair (.int .i64) (.pair .str (.pair (.int .i64) (.int .i64)))))))] (.one (.int .i64)) h_44 Try.func44 (by kernel_rfl) (fun d => view_Form d) (by kernel_rfl)

-- moothall/mootlaw3.viewed
def h_22 : HT := .n
noncomputable def mootlaw3_viewed : Option (Bool) :=
  (mootlaw3_solo (0 : Int)).bind fun r =>
    (view_With r ((1 : Int), ByteArray.mk #[(105 : UInt8), (110 : UInt8), (45 : UInt8), (97 : UInt8)], (1 : Int), (1 : Int))).bind fun r =>
      bif (↑r.snd.snd.length : Int) == (1 : Int) then
        (view_Get (r.fst, r.snd.fst, r.snd.snd) (1 : Int) (ByteArray.mk #[(105 : UInt8), (110 : UInt8), (45 : UInt8), (97 : UInt8)])).bind fun r =>
          bif r.fst == (1 : Int) && (r.snd == (1 : Int) && true) then (view_Form ((-1 : Int), [], [])).bind fun r => some (r == (1 : Int)) else some false
      else some false
noncomputable def c_22 : Ct Try.prog := .mk' mixA ⟨[c_43, c_19, c_25, c_44], []⟩ 0 22 Try.f22 [] (.one .bool) h_22 Try.func22 (by kernel_rfl) (fun d => mootlaw3_viewed) (by kernel_rfl)

-- slices.Equal[[]moothall/api.Party,moothall/api.Party]
def h_23 : HT := (.s .n (.s .n (.s (.s .n (.l ⟨[0, 1, 11, 12, 13], [], [], []⟩ .n)) .n)))
noncomputable def slices_Equal___api_Party_api_Party_ (p0 : List (Int × Int)) (p1 : List (Int × Int)) : Option (Bool) :=
  bif (↑p0.length : Int) != (↑p1.length : Int) then some false
  else
    forK (fun k x d next => (idx p0 (↑k : Int)).bind fun y => (idx p1 (↑k : Int)).bind fun y_1 => bif !(y.fst == y_1.fst && (y.snd == y_1.snd && true)) then some false else next ())
      (0 : Nat) p0 () fun d => some true
noncomputable def c_23 : Ct Try.prog := .mk' mixA ⟨[], []⟩ 0 23 Try.f23 [.d (.list (.pair (.int .i64) (.int .i64))), .d (.list (.pair (.int .i64) (.int .i64)))] (.one .bool) h_23 Try.func23 (by kernel_rfl) (fun d => slices_Equal___api_Party_api_Party_ d.1 d.2) (by kernel_rfl)

-- slices.Equal[[]moothall/api.Datum,moothall/api.Datum]
def h_24 : HT := (.s .n (.s .n (.s (.s .n (.l ⟨[0, 1, 11, 12, 13], [], [], []⟩ .n)) .n)))
noncomputable def slices_Equal___api_Datum_api_Datum_ (p0 : List (Int × ByteArray × Int × Int)) (p1 : List (Int × ByteArray × Int × Int)) : Option (Bool) :=
  bif (↑p0.length : Int) != (↑p1.length : Int) then some false
  else
    forK
      (fun k x d next =>
        (idx p0 (↑k : Int)).bind fun y =>
          (idx p1 (↑k : Int)).bind fun y_1 =>
            bif !(y.fst == y_1.fst && (y.snd.fst.toList == y_1.snd.fst.toList && (y.snd.snd.fst == y_1.snd.snd.fst && (y.snd.snd.snd == y_1.snd.snd.snd && true)))) then some false
            else next ())
      (0 : Nat) p0 () fun d => some true
noncomputable def c_24 : Ct Try.prog := .mk' mixA ⟨[], []⟩ 0 24 Try.f24 [.d (.list (.pair (.int .i64) (.pair .str (.pair (.int .i64) (.int .i64))))), .d (.list (.pair (.int .i64) (.pair .str (.pair (.int .i64) (.int .i64)))))] (.one .bool) h_24 Try.func24 (by kernel_rfl) (fun d => slices_Equal___api_Datum_api_Datum_ d.1 d.2) (by kernel_rfl)

-- moothall/mootref3.Known$1
def h_46 : HT := .n
noncomputable def mootref3_Known_1 (p0 : Int × ByteArray × Int × Int) (c0_0 : Int) (c1_0 : ByteArray) : Option (Bool × Int × ByteArray) :=
  bif p0.fst == c0_0 then some (p0.snd.fst.toList == c1_0.toList, c0_0, c1_0) else some (false, c0_0, c1_0)
noncomputable def o_46 : Ow Try.prog := .mk' mixA ⟨[], []⟩ 0 46 Try.f46 [.dt (.pair (.int .i64) (.pair .str (.pair (.int .i64) (.int .i64)))), .pt 2001 1 0, .pt 2002 1 0] [(2001, .el true 1 [.dt (.int .i64)]), (2002, .el true 1 [.dt .str])] [.dt .bool] [(2001, .el true 1 [.dt (.int .i64)]), (2002, .el true 1 [.dt .str])] [] h_46 Try.func46 (by kernel_rfl) (by kernel_rfl) (fun d => mootref3_Known_1 d.1 d.2.1 d.2.2) (by kernel_rfl)

-- slices.IndexFunc[[]moothall/api.Datum,moothall/api.Datum]
def h_45_46 : HT := (.s .n (.s (.s .n (.l ⟨[0, 1, 6, 7, 8], [], [], [(2050, .el true 1 [.dt (.int .i64)]), (2051, .el true 1 [.dt .str])]⟩ .n)) .n))
noncomputable def slices_IndexFunc___api_Datum_api_Datum__46 (p0 : List (Int × ByteArray × Int × Int)) (q1_0_0 : Int) (q1_1_0 : ByteArray) : Option (Int × Int × ByteArray) :=
  forK
    (fun k x d next =>
      (idx p0 (↑k : Int)).bind fun y =>
        (mootref3_Known_1 (y.fst, y.snd.fst, y.snd.snd.fst, y.snd.snd.snd) d.fst d.snd).bind fun r =>
          bif r.fst then some ((↑k : Int), r.snd.fst, r.snd.snd) else next (r.snd.fst, r.snd.snd))
    (0 : Nat) p0 (q1_0_0, q1_1_0) fun d => some ((-1 : Int), d.fst, d.snd)
noncomputable def o_45_46 : Ow Try.prog := .mk' mixA ⟨[], [o_46]⟩ 0 45 Try.f45 [.dt (.list (.pair (.int .i64) (.pair .str (.pair (.int .i64) (.int .i64))))), .fn 46 [.pt 2050 1 0, .pt 2051 1 0]] [(2050, .el true 1 [.dt (.int .i64)]), (2051, .el true 1 [.dt .str])] [.dt (.int .i64)] [(2050, .el true 1 [.dt (.int .i64)]), (2051, .el true 1 [.dt .str])] [] h_45_46 Try.func45 (by kernel_rfl) (by kernel_rfl) (fun d => slices_IndexFunc___api_Datum_api_Datum__46 d.1 d.2.1 d.2.2) (by kernel_rfl)

-- moothall/mootref3.Known
def h_26 : HT := .n
noncomputable def mootref3_Known (p0 : Int × List (Int × Int) × List (Int × ByteArray × Int × Int)) (p1 : Int) (p2 : ByteArray) : Option (Int × Int) :=
  (slices_IndexFunc___api_Datum_api_Datum__46 p0.snd.snd p1 p2).bind fun r =>
    bif decide (r.fst < (0 : Int)) then some ((0 : Int), (0 : Int)) else (idx p0.snd.snd r.fst).bind fun y => some (y.snd.snd.fst, y.snd.snd.snd)
noncomputable def c_26 : Ct Try.prog := .mk' mixA ⟨[], [o_45_46, o_46]⟩ 0 26 Try.f26 [.d (.pair (.int .i64) (.pair (.list (.pair (.int .i64) (.int .i64))) (.list (.pair (.int .i64) (.pair .str (.pair (.int .i64) (.int .i64))))))), .d (.int .i64), .d .str] (.one (.pair (.int .i64) (.int .i64))) h_26 Try.func26 (by kernel_rfl) (fun d => mootref3_Known d.1 d.2.1 d.2.2) (by kernel_rfl)

-- slices.Clone[[]moothall/api.Datum,moothall/api.Datum]
def h_47 : HT := (.s .n (.s (.j ⟨[], [], [(0, .dt (.list (.pair (.int .i64) (.pair .str (.pair (.int .i64) (.int .i64)))))), (4, .dt .bool)], []⟩ (.q 0) .n) .n))
noncomputable def slices_Clone___api_Datum_api_Datum_ (p0 : List (Int × ByteArray × Int × Int)) : Option (List (Int × ByteArray × Int × Int)) :=
  join (fun d => bif d.snd then some [] else (chk ((0 : Nat) + d.fst.length ≤ LIM)).bind fun x => some d.fst) fun K =>
    lcase p0 (K ([], true)) (K ([], false)) fun x xs => K (x :: xs, false)
noncomputable def c_47 : Ct Try.prog := .mk' mixA ⟨[], []⟩ 0 47 Try.f47 [.d (.list (.pair (.int .i64) (.pair .str (.pair (.int .i64) (.int .i64)))))] (.one (.list (.pair (.int .i64) (.pair .str (.pair (.int .i64) (.int .i64)))))) h_47 Try.func47 (by kernel_rfl) (fun d => slices_Clone___api_Datum_api_Datum_ d) (by kernel_rfl)

-- moothall/view.Copy
def h_28 : HT := .n
noncomputable def view_Copy (p0 : Int × List (Int × Int) × List (Int × ByteArray × Int × Int)) : Option (Int × List (Int × Int) × List (Int × ByteArray × Int × Int)) :=
  (slices_Clone___api_Party_api_Party_ p0.snd.fst).bind fun r => (slices_Clone___api_Datum_api_Datum_ p0.snd.snd).bind fun r_1 => some (p0.fst, r, r_1)
noncomputable def c_28 : Ct Try.prog := .mk' mixA ⟨[c_38, c_47], []⟩ 0 28 Try.f28 [.d (.pair (.int .i64) (.pair (.list (.pair (.int .i64) (.int .i64))) (.list (.pair (.int .i64) (.pair .str (.pair (.int .i64) (.int .i64)))))))] (.one (.pair (.int .i64) (.pair (.list (.pair (.int .i64) (.int .i64))) (.list (.pair (.int .i64) (.pair .str (.pair (.int .i64) (.int .i64)))))))) h_28 Try.func28 (by kernel_rfl) (fun d => view_Copy d) (by kernel_rfl)

-- moothall/mootref3.SameView
def h_27 : HT := .n
noncomputable def mootref3_SameView (p0 : Int × List (Int × Int) × List (Int × ByteArray × Int × Int)) (p1 : Int × List (Int × Int) × List (Int × ByteArray × Int × Int)) : Option (Bool) :=
  bif p0.fst == p1.fst then
    (slices_Equal___api_Party_api_Party_ p0.snd.fst p1.snd.fst).bind fun r =>
      bif r then (slices_Equal___api_Datum_api_Datum_ p0.snd.snd p1.snd.snd).bind fun r => some r else some false
  else some false
noncomputable def c_27 : Ct Try.prog := .mk' mixA ⟨[c_23, c_24], []⟩ 0 27 Try.f27 [.d (.pair (.int .i64) (.pair (.list (.pair (.int .i64) (.int .i64))) (.list (.pair (.int .i64) (.pair .str (.pair (.int .i64) (.int .i64))))))), .d (.pair (.int .i64) (.pair (.list (.pair (.int .i64) (.int .i64))) (.list (.pair (.int .i64) (.pair .str (.pair (.int .i64) (.int .i64)))))))] (.one .bool) h_27 Try.func27 (by kernel_rfl) (fun d => mootref3_SameView d.1 d.2) (by kernel_rfl)

-- moothall/mootlaw3.ViewData
def h_5 : HT := (.s .n (.s .n (.s .n (.s .n (.s (.s .n (.l ⟨[2, 3, 5, 14, 15, 16], [2, 3, 5], [(6, .wn 45 4), (7, .dt (.int .i64))], [(45, .ls (.pair (.int .i64) (.pair .str (.pair (.int .i64) (.int .i64)))))]⟩ (.s .n (.j ⟨[2, 3, 5, 6, 9, 14, 15, 16], [2, 3, 5, 9, 45], [(7, .dt (.int .i64))], []⟩ (.j ⟨[2, 3, 5, 6, 7, 9, 14, 15, 16], [2, 3, 5, 9, 45], [(27, .dt .bool)], []⟩ .n .n) (.j ⟨[2, 3, 5, 6, 7, 9, 14, 15, 16], [2, 3, 5, 9, 45], [(41, .dt .bool)], []⟩ .n .n))))) (.j ⟨[2, 3, 5, 6], [2, 3, 5, 45], [(7, .dt (.int .i64))], []⟩ .n (.j ⟨[2, 3, 5], [2, 3, 5], [(6, .wn 45 4)], [(45, .ls (.pair (.int .i64) (.pair .str (.pair (.int .i64) (.int .i64)))))]⟩ .n (.j ⟨[], [], [(4, .dt .bool)], []⟩ .n .n))))))))
noncomputable def mootlaw3_ViewData (p0 : Int × List (Int × Int) × List (Int × ByteArray × Int × Int)) (p1 : Int × ByteArray × Int × Int) : Option (Bool) :=
  (view_With (p0.fst, p0.snd.fst, p0.snd.snd) (p1.fst, p1.snd.fst, p1.snd.snd.fst, p1.snd.snd.snd)).bind fun r =>
    forK
      (fun k x d next =>
        join
          (fun d_1 =>
            join
              (fun d_2 =>
                bif d_2 then (chk (d.snd.length + (1 : Nat) ≤ LIM)).bind fun x_1 => next (d_1, d.snd ++ [(x.fst, x.snd.fst, x.snd.snd.fst, x.snd.snd.snd)]) else next (d_1, d.snd))
              fun K => bif x.fst != p1.fst then K true else K !x.snd.fst.toList == p1.snd.fst.toList)
          fun K =>
          join (fun d_1 => bif d_1 then K (↑d.snd.length : Int) else K d.fst) fun K =>
            bif decide (d.fst < (0 : Int)) then
              (mootref3_Ahead (x.fst, x.snd.fst, x.snd.snd.fst, x.snd.snd.snd) (p1.fst, p1.snd.fst, p1.snd.snd.fst, p1.snd.snd.snd)).bind fun r => K !r
            else K false)
      (0 : Nat) p0.snd.snd ((-1 : Int), []) fun d =>
      join
        (fun d_1 =>
          join
            (fun d =>
              join (fun d => some d) fun K =>
                mootlaw3_viewed.bind fun r_1 =>
                  bif r_1 then
                    bif r.fst == p0.fst then
                      (slices_Equal___api_Party_api_Party_ r.snd.fst p0.snd.fst).bind fun r_2 =>
                        bif r_2 then
                          (slices_Equal___api_Datum_api_Datum_ r.snd.snd d).bind fun r =>
                            bif r then
                              (view_Get (p0.fst, p0.snd.fst, p0.snd.snd) p1.fst p1.snd.fst).bind fun r =>
                                (mootref3_Known (p0.fst, p0.snd.fst, p0.snd.snd) p1.fst p1.snd.fst).bind fun r_3 =>
                                  bif r.fst == r_3.fst && (r.snd == r_3.snd && true) then
                                    (view_Copy (p0.fst, p0.snd.fst, p0.snd.snd)).bind fun r => (mootref3_SameView r (p0.fst, p0.snd.fst, p0.snd.snd)).bind fun r => K r
                                  else K false
                            else K false
                        else K false
                    else K false
                  else K false)
            fun K =>
            bif !(p1.snd.snd.fst == (0 : Int) && (p1.snd.snd.snd == (0 : Int) && true)) then
              ((chk ((0 : Int) ≤ d_1 ∧ d_1 ≤ (↑d.snd.length : Int) ∧ (1 : Nat) ≠ (0 : Nat) ∧ d.snd.length + (1 : Nat) ≤ LIM)).bind fun x =>
                    some
                      (List.take d_1.toNat d.snd ++ [(p1.fst, p1.snd.fst, p1.snd.snd.fst, p1.snd.snd.snd)] ++ List.drop d_1.toNat d.snd,
                        [(p1.fst, p1.snd.fst, p1.snd.snd.fst, p1.snd.snd.snd)])).bind
                fun r => (chk (r.snd.length = (1 : Nat))).bind fun x => K r.fst
            else K d.snd)
        fun K => bif decide (d.fst < (0 : Int)) then K (↑d.snd.length : Int) else K d.fst
noncomputable def c_5 : Ct Try.prog := .mk' mixA ⟨[c_19, c_20, c_22, c_23, c_24, c_25, c_26, c_28, c_27], [o_21w0]⟩ 0 5 Try.f5 [.d (.pair (.int .i64) (.pair (.list (.pair (.int .i64) (.int .i64))) (.list (.pair (.int .i64) (.pair .str (.pair (.int .i64) (.int .i64))))))), .d (.pair (.int .i64) (.pair .str (.pair (.int .i64) (.int .i64))))] (.one .bool) h_5 Try.func5 (by kernel_rfl) (fun d => mootlaw3_ViewData d.1 d.2) (by kernel_rfl)


end Go.Proofs.Ytfhddbnacbcppaa

/- Loops that say how they end. -/
namespace Go.PG
inductive Ctl (σ ρ : Type) where
  | nx (s : σ) | bk (s : σ) | rt (r : ρ)
def forL {α σ ρ : Type} (body : Nat → α → σ → Option (Ctl σ ρ)) : Nat → List α → σ → Option (σ ⊕ ρ)
  | _, [], s => some (.inl s)
  | k, x :: xs, s => (body k x s).bind fun c => match c with
    | .nx s' => forL body (k + 1) xs s'
    | .bk s' => some (.inl s')
    | .rt r => some (.inr r)
def forN {σ ρ : Type} (body : Nat → σ → Option (Ctl σ ρ)) : Nat → Nat → σ → Option (σ ⊕ ρ)
  | _, 0, s => some (.inl s)
  | k, m + 1, s => (body k s).bind fun c => match c with
    | .nx s' => forN body (k + 1) m s'
    | .bk s' => some (.inl s')
    | .rt r => some (.inr r)
def whL {σ ρ : Type} (body : σ → Option (Ctl σ ρ)) : Nat → σ → Option (σ ⊕ ρ)
  | 0, _ => none
  | k + 1, s => (body s).bind fun c => match c with
    | .nx s' => whL body k s'
    | .bk s' => some (.inl s')
    | .rt r => some (.inr r)
end Go.PG

/- Plain facts about the loops of the printed functions; no program in sight. -/
namespace Go.PG

theorem wrap64 {x : Int} (h : -9223372036854775808 ≤ x) (h' : x ≤ 9223372036854775807) : IntKind.i64.wrap x = x := by
  simp [IntKind.wrap, IntKind.signed, IntKind.bits]
  omega

/-- What a loop comes to, with an invariant. -/
theorem forL_inv {α σ ρ : Type} {body : Nat → α → σ → Option (Ctl σ ρ)} (I : Nat → σ → Prop) (B : σ → Prop) (Q : ρ → Prop) : ∀ (l : List α) (k0 : Nat) (s : σ), I k0 s →
    (∀ k x s, l[k]? = some x → I (k0 + k) s → (∃ s', body (k0 + k) x s = some (.nx s') ∧ I (k0 + k + 1) s') ∨ (∃ s', body (k0 + k) x s = some (.bk s') ∧ B s') ∨ ∃ r, body (k0 + k) x s = some (.rt r) ∧ Q r) →
    (∃ s', forL body k0 l s = some (.inl s') ∧ (I (k0 + l.length) s' ∨ B s')) ∨ ∃ r, forL body k0 l s = some (.inr r) ∧ Q r
  | [], k0, s, h0, _ => .inl ⟨s, rfl, .inl h0⟩
  | x :: l, k0, s, h0, h => by
    unfold forL
    rcases h 0 x s rfl h0 with ⟨s', e, hs⟩ | ⟨s', e, hs⟩ | ⟨r, e, hr⟩
    · rw [Nat.add_zero] at e hs
      rw [e]
      have := forL_inv I B Q l (k0 + 1) s' hs (fun k y t hk hI => by
        have := h (k + 1) y t (by simpa using hk) (by rwa [show k0 + (k + 1) = k0 + 1 + k by omega])
        rwa [show k0 + (k + 1) = k0 + 1 + k by omega] at this)
      rw [show k0 + (x :: l).length = k0 + 1 + l.length by simp; omega]
      exact this
    · rw [Nat.add_zero] at e
      rw [e]
      exact .inl ⟨s', rfl, .inr hs⟩
    · rw [Nat.add_zero] at e
      rw [e]
      exact .inr ⟨r, rfl, hr⟩

theorem forN_inv {σ ρ : Type} {body : Nat → σ → Option (Ctl σ ρ)} (I : Nat → σ → Prop) (B : σ → Prop) (Q : ρ → Prop) : ∀ (m : Nat) (k0 : Nat) (s : σ), I k0 s →
    (∀ k s, k < m → I (k0 + k) s → (∃ s', body (k0 + k) s = some (.nx s') ∧ I (k0 + k + 1) s') ∨ (∃ s', body (k0 + k) s = some (.bk s') ∧ B s') ∨ ∃ r, body (k0 + k) s = some (.rt r) ∧ Q r) →
    (∃ s', forN body k0 m s = some (.inl s') ∧ (I (k0 + m) s' ∨ B s')) ∨ ∃ r, forN body k0 m s = some (.inr r) ∧ Q r
  | 0, k0, s, h0, _ => .inl ⟨s, rfl, .inl h0⟩
  | m + 1, k0, s, h0, h => by
    unfold forN
    rcases h 0 s (by omega) h0 with ⟨s', e, hs⟩ | ⟨s', e, hs⟩ | ⟨r, e, hr⟩
    · rw [Nat.add_zero] at e hs
      rw [e]
      have := forN_inv I B Q m (k0 + 1) s' hs (fun k t hk hI => by
        have := h (k + 1) t (by omega) (by rwa [show k0 + (k + 1) = k0 + 1 + k by omega])
        rwa [show k0 + (k + 1) = k0 + 1 + k by omega] at this)
      rw [show k0 + (m + 1) = k0 + 1 + m by omega]
      exact this
    · rw [Nat.add_zero] at e
      rw [e]
      exact .inl ⟨s', rfl, .inr hs⟩
    · rw [Nat.add_zero] at e
      rw [e]
      exact .inr ⟨r, rfl, hr⟩

/-- A loop that stops, always with the same, where something doesn't hold. -/
theorem forL_all {α σ ρ : Type} {body : Nat → α → σ → Option (Ctl σ ρ)} (I : Nat → σ → Prop) (ok : Nat → α → Prop) (r0 : ρ) (l : List α) (s : σ) (h0 : I 0 s)
    (step : ∀ k x s, l[k]? = some x → I k s → (ok k x ∧ ∃ s', body k x s = some (.nx s') ∧ I (k + 1) s') ∨ (¬ ok k x ∧ body k x s = some (.rt r0))) :
    ((∀ k x, l[k]? = some x → ok k x) ∧ ∃ s', forL body 0 l s = some (.inl s') ∧ I l.length s') ∨ ((∃ k x, l[k]? = some x ∧ ¬ ok k x) ∧ forL body 0 l s = some (.inr r0)) := by
  rcases forL_inv (body := body) (fun k s => I k s ∧ ∀ j x, j < k → l[j]? = some x → ok j x) (fun _ => False) (fun r => r = r0 ∧ ∃ k x, l[k]? = some x ∧ ¬ ok k x) l 0 s ⟨h0, fun j x h => by omega⟩
    (fun k x s hx ⟨hI, ha⟩ => by
      rw [Nat.zero_add] at hI ha ⊢
      rcases step k x s hx hI with ⟨h1, s', e, h2⟩ | ⟨h1, e⟩
      · refine .inl ⟨s', e, h2, fun j y hj hy => ?_⟩
        rcases Nat.lt_or_ge j k with hjk | hjk
        · exact ha j y hjk hy
        · have : j = k := by omega
          subst this
          rw [hx] at hy; cases hy; exact h1
      · exact .inr (.inr ⟨r0, e, rfl, k, x, hx, h1⟩)) with ⟨s', e, ⟨h1, h2⟩ | h⟩ | ⟨r, e, rfl, h⟩
  · rw [Nat.zero_add] at h1 h2
    exact .inl ⟨fun k x hx => h2 k x (List.getElem?_eq_some_iff.1 hx).1 hx, s', e, h1⟩
  · exact h.elim
  · exact .inr ⟨h, e⟩

theorem forN_all {σ ρ : Type} {body : Nat → σ → Option (Ctl σ ρ)} (I : Nat → σ → Prop) (ok : Nat → Prop) (r0 : ρ) (m : Nat) (s : σ) (h0 : I 0 s)
    (step : ∀ k s, k < m → I k s → (ok k ∧ ∃ s', body k s = some (.nx s') ∧ I (k + 1) s') ∨ (¬ ok k ∧ body k s = some (.rt r0))) :
    ((∀ k, k < m → ok k) ∧ ∃ s', forN body 0 m s = some (.inl s') ∧ I m s') ∨ ((∃ k, k < m ∧ ¬ ok k) ∧ forN body 0 m s = some (.inr r0)) := by
  rcases forN_inv (body := body) (fun k s => I k s ∧ ∀ j, j < k → ok j) (fun _ => False) (fun r => r = r0 ∧ ∃ k, k < m ∧ ¬ ok k) m 0 s ⟨h0, fun j h => by omega⟩
    (fun k s hk ⟨hI, ha⟩ => by
      rw [Nat.zero_add] at hI ha ⊢
      rcases step k s hk hI with ⟨h1, s', e, h2⟩ | ⟨h1, e⟩
      · refine .inl ⟨s', e, h2, fun j hj => ?_⟩
        rcases Nat.lt_or_ge j k with hjk | hjk
        · exact ha j hjk
        · have : j = k := by omega
          subst this; exact h1
      · exact .inr (.inr ⟨r0, e, rfl, k, hk, h1⟩)) with ⟨s', e, ⟨h1, h2⟩ | h⟩ | ⟨r, e, rfl, h⟩
  · rw [Nat.zero_add] at h1 h2
    exact .inl ⟨h2, s', e, h1⟩
  · exact h.elim
  · exact .inr ⟨h, e⟩

/-- A loop that never stops. -/
theorem forL_nx {α σ ρ : Type} {body : Nat → α → σ → Option (Ctl σ ρ)} (I : Nat → σ → Prop) (l : List α) (s : σ) (h0 : I 0 s)
    (step : ∀ k x s, l[k]? = some x → I k s → ∃ s', body k x s = some (.nx s') ∧ I (k + 1) s') : ∃ s', forL body 0 l s = some (.inl s') ∧ I l.length s' := by
  rcases forL_inv (body := body) I (fun _ => False) (fun _ => False) l 0 s h0 (fun k x s hx hI => by rw [Nat.zero_add] at hI ⊢; exact .inl (step k x s hx hI)) with ⟨s', e, h | h⟩ | ⟨r, e, h⟩
  · rw [Nat.zero_add] at h
    exact ⟨s', e, h⟩
  · exact h.elim
  · exact h.elim

theorem forN_nx {σ ρ : Type} {body : Nat → σ → Option (Ctl σ ρ)} (I : Nat → σ → Prop) (m : Nat) (s : σ) (h0 : I 0 s)
    (step : ∀ k s, k < m → I k s → ∃ s', body k s = some (.nx s') ∧ I (k + 1) s') : ∃ s', forN body 0 m s = some (.inl s') ∧ I m s' := by
  rcases forN_inv (body := body) I (fun _ => False) (fun _ => False) m 0 s h0 (fun k s hk hI => by rw [Nat.zero_add] at hI ⊢; exact .inl (step k s hk hI)) with ⟨s', e, h | h⟩ | ⟨r, e, h⟩
  · rw [Nat.zero_add] at h
    exact ⟨s', e, h⟩
  · exact h.elim
  · exact h.elim

theorem whL_nx {σ ρ : Type} {body : σ → Option (Ctl σ ρ)} {k : Nat} {s s' : σ} (h : body s = some (.nx s')) : whL body (k + 1) s = whL body k s' := by
  simp only [whL, h, Option.bind_some]

theorem whL_bk {σ ρ : Type} {body : σ → Option (Ctl σ ρ)} {k : Nat} {s s' : σ} (h : body s = some (.bk s')) : whL body (k + 1) s = some (.inl s') := by
  simp only [whL, h, Option.bind_some]

/-- A while loop with a measure. -/
theorem whL_inv {σ ρ : Type} {body : σ → Option (Ctl σ ρ)} (I : σ → Prop) (m : σ → Nat) (B : σ → Prop)
    (step : ∀ s, I s → (∃ s', body s = some (.nx s') ∧ I s' ∧ m s' < m s) ∨ ∃ s', body s = some (.bk s') ∧ B s') : ∀ (k : Nat) (s : σ), I s → m s < k → ∃ s', whL body k s = some (.inl s') ∧ B s'
  | 0, s, _, h => by omega
  | k + 1, s, hI, h => by
    rcases step s hI with ⟨s', e, h1, h2⟩ | ⟨s', e, h1⟩
    · rw [whL_nx e]
      exact whL_inv I m B step k s' h1 (by omega)
    · exact ⟨s', whL_bk e, h1⟩

/-- A sum. -/
def sm (f : Nat → Int) : Nat → Int
  | 0 => 0
  | n + 1 => sm f n + f n

theorem sm_le {f : Nat → Int} {B : Int} {n : Nat} (h : ∀ k, k < n → f k ≤ B) : sm f n ≤ n * B := by
  induction n with
  | zero => simp [sm]
  | succ n ih =>
    have h1 := ih (fun k hk => h k (by omega))
    have h2 := h n (by omega)
    simp only [sm]
    rw [show ((n + 1 : Nat) : Int) * B = n * B + B by rw [Int.natCast_add, Int.add_mul]; simp]
    omega

theorem sm_ge {f : Nat → Int} {B : Int} {n : Nat} (h : ∀ k, k < n → -B ≤ f k) : -(n * B) ≤ sm f n := by
  induction n with
  | zero => simp [sm]
  | succ n ih =>
    have h1 := ih (fun k hk => h k (by omega))
    have h2 := h n (by omega)
    simp only [sm]
    rw [show ((n + 1 : Nat) : Int) * B = n * B + B by rw [Int.natCast_add, Int.add_mul]; simp]
    omega

theorem sm_congr {f g : Nat → Int} {n : Nat} (h : ∀ k, k < n → f k = g k) : sm f n = sm g n := by
  induction n with
  | zero => rfl
  | succ n ih => simp only [sm]; rw [ih (fun k hk => h k (by omega)), h n (by omega)]

theorem mul_bnd {a b A B : Int} (h1 : -A ≤ a) (h2 : a ≤ A) (h3 : -B ≤ b) (h4 : b ≤ B) : -(A * B) ≤ a * b ∧ a * b ≤ A * B := by
  have hA : 0 ≤ A := by omega
  have hB : 0 ≤ B := by omega
  have e1 : 0 ≤ (A - a) * (B - b) := Int.mul_nonneg (by omega) (by omega)
  have e2 : 0 ≤ (A + a) * (B + b) := Int.mul_nonneg (by omega) (by omega)
  have e3 : 0 ≤ (A - a) * (B + b) := Int.mul_nonneg (by omega) (by omega)
  have e4 : 0 ≤ (A + a) * (B - b) := Int.mul_nonneg (by omega) (by omega)
  simp only [Int.sub_mul, Int.mul_sub, Int.add_mul, Int.mul_add] at e1 e2 e3 e4
  constructor <;> omega
end Go.PG

/- Loops of the interpreter's functions, out of loops that say how they end. -/
set_option linter.unusedVariables false
namespace Go.PG
open Go.PG.PH

def Ctl.out {σ ρ S R : Type} (g : σ → S) (next K : S → Option R) (F : ρ → Option R) : Ctl σ ρ → Option R
  | .nx s => next (g s)
  | .bk s => K (g s)
  | .rt r => F r
def outS {σ ρ S R : Type} (g : σ → S) (K : S → Option R) (F : ρ → Option R) : σ ⊕ ρ → Option R
  | .inl s => K (g s)
  | .inr r => F r

theorem forK_sim {α σ ρ S R : Type} {B : Nat → α → σ → Option (Ctl σ ρ)} {body : Nat → α → S → (S → Option R) → Option R} (g : σ → S) {K : S → Option R} (F : ρ → Option R) :
    ∀ (l : List α) (i : Nat) (s : σ) (e : σ ⊕ ρ), (∀ k x s c next, l[k]? = some x → B (i + k) x s = some c → body (i + k) x (g s) next = c.out g next K F) →
      forL B i l s = some e → forK body i l (g s) K = outS g K F e
  | [], i, s, e, _, he => by simp only [forL] at he; cases he; rfl
  | x :: xs, i, s, e, h, he => by
    simp only [forL, Option.bind_eq_some_iff] at he
    obtain ⟨c, hc, he⟩ := he
    have h0 := h 0 x s c (fun s' => forK body (i + 1) xs s' K) rfl hc
    simp only [forK]
    rw [Nat.add_zero] at h0
    rw [h0]
    cases c with
    | nx s' =>
      exact forK_sim g F xs (i + 1) s' e (fun k y s c next hk hb => by
        have := h (k + 1) y s c next (by simpa using hk) (by rw [show i + (k + 1) = i + 1 + k by omega]; exact hb)
        rw [show i + (k + 1) = i + 1 + k by omega] at this
        exact this) he
    | bk s' => cases he; rfl
    | rt r => cases he; rfl

theorem cntK_sim {σ ρ S R : Type} {B : Nat → σ → Option (Ctl σ ρ)} {body : Nat → S → (S → Option R) → Option R} (g : σ → S) {K : S → Option R} (F : ρ → Option R) (n : Nat) :
    ∀ (m : Nat) (i : Nat) (s : σ) (e : σ ⊕ ρ), i + m = n → (∀ k s c next, k < n → B k s = some c → body k (g s) next = c.out g next K F) →
      forN B i m s = some e → cntK body i m (g s) K = outS g K F e
  | 0, i, s, e, _, _, he => by simp only [forN] at he; cases he; rfl
  | m + 1, i, s, e, hn, h, he => by
    simp only [forN, Option.bind_eq_some_iff] at he
    obtain ⟨c, hc, he⟩ := he
    have h0 := h i s c (fun s' => cntK body (i + 1) m s' K) (by omega) hc
    simp only [cntK]
    rw [h0]
    cases c with
    | nx s' => exact cntK_sim g F n m (i + 1) s' e (by omega) h he
    | bk s' => cases he; rfl
    | rt r => cases he; rfl

/-- A loop over a list's places. -/
theorem cntL_sim {α σ ρ S R : Type} {B : Nat → α → σ → Option (Ctl σ ρ)} {body : Nat → S → (S → Option R) → Option R} (g : σ → S) {K : S → Option R} (F : ρ → Option R) (l : List α) :
    ∀ (m : Nat) (i : Nat) (s : σ) (e : σ ⊕ ρ), i + m = l.length → (∀ k x s c next, l[k]? = some x → B k x s = some c → body k (g s) next = c.out g next K F) →
      forL B i (l.drop i) s = some e → cntK body i m (g s) K = outS g K F e
  | 0, i, s, e, hm, _, he => by
    rw [List.drop_of_length_le (by omega)] at he
    simp only [forL] at he; cases he; rfl
  | m + 1, i, s, e, hm, h, he => by
    have hi : i < l.length := by omega
    rw [List.drop_eq_getElem_cons hi] at he
    simp only [forL, Option.bind_eq_some_iff] at he
    obtain ⟨c, hc, he⟩ := he
    have h0 := h i l[i] s c (fun s' => cntK body (i + 1) m s' K) (List.getElem?_eq_getElem hi) hc
    simp only [cntK]
    rw [h0]
    cases c with
    | nx s' => exact cntL_sim g F l m (i + 1) s' e (by omega) h he
    | bk s' => cases he; rfl
    | rt r => cases he; rfl

/-- A loop over a list that asks for the places alone. -/
theorem forN_sim {α σ ρ S R : Type} {B : Nat → σ → Option (Ctl σ ρ)} {body : Nat → α → S → (S → Option R) → Option R} (g : σ → S) {K : S → Option R} (F : ρ → Option R) :
    ∀ (l : List α) (i : Nat) (s : σ) (e : σ ⊕ ρ), (∀ k x s c next, l[k]? = some x → B (i + k) s = some c → body (i + k) x (g s) next = c.out g next K F) →
      forN B i l.length s = some e → forK body i l (g s) K = outS g K F e
  | [], i, s, e, _, he => by simp only [List.length_nil, forN] at he; cases he; rfl
  | x :: xs, i, s, e, h, he => by
    simp only [List.length_cons, forN, Option.bind_eq_some_iff] at he
    obtain ⟨c, hc, he⟩ := he
    have h0 := h 0 x s c (fun s' => forK body (i + 1) xs s' K) rfl hc
    simp only [forK]
    rw [Nat.add_zero] at h0
    rw [h0]
    cases c with
    | nx s' =>
      exact forN_sim g F xs (i + 1) s' e (fun k y s c next hk hb => by
        have := h (k + 1) y s c next (by simpa using hk) (by rw [show i + (k + 1) = i + 1 + k by omega]; exact hb)
        rw [show i + (k + 1) = i + 1 + k by omega] at this
        exact this) he
    | bk s' => cases he; rfl
    | rt r => cases he; rfl

theorem whK_sim {σ ρ S R : Type} {B : σ → Option (Ctl σ ρ)} {body : (S → Option R) → S → Option R} (g : σ → S) (K : S → Option R) (F : ρ → Option R) :
    ∀ (fu : Nat) (s : σ) (e : σ ⊕ ρ), (∀ s c self, B s = some c → body self (g s) = c.out g self K F) → whL B fu s = some e → whK body fu (g s) = outS g K F e
  | 0, s, e, _, he => by cases he
  | fu + 1, s, e, h, he => by
    simp only [whL, Option.bind_eq_some_iff] at he
    obtain ⟨c, hc, he⟩ := he
    simp only [whK]
    rw [h s c _ hc]
    cases c with
    | nx s' => exact whK_sim g K F fu s' e h he
    | bk s' => cases he; rfl
    | rt r => cases he; rfl

theorem idx_nat {α : Type} (l : List α) (k : Nat) : idx l (k : Int) = l[k]? := by unfold idx; simp
theorem idx_at {α : Type} {l : List α} {i : Int} {x : α} (h : idx l i = some x) : 0 ≤ i ∧ i.toNat < l.length ∧ l[i.toNat]? = some x := by
  unfold idx at h
  split at h
  · rename_i hi; exact ⟨hi, (List.getElem?_eq_some_iff.1 h).1, h⟩
  · cases h
theorem chk_eq {p : Prop} [Decidable p] (h : p) : chk p = some () := by unfold chk; rw [if_pos h]
end Go.PG

/- ViewData answers true: plain facts about the printed functions. -/
set_option linter.unusedVariables false
set_option linter.unusedSimpArgs false
namespace Go.Proofs.Ytfhddbnacbcppaa
open Go.PG Go.PG.PH

abbrev Dm := Int × ByteArray × Int × Int

/-- Ahead, as a Bool. -/
def ahd (x d : Dm) : Bool := decide (x.1 < d.1) || (x.1 == d.1 && Op.bytesLess x.2.1.toList d.2.1.toList)
/-- Of the same party and attribute. -/
def sam (x d : Dm) : Bool := x.1 == d.1 && x.2.1.toList == d.2.1.toList
def putOf (d : Dm) : List Dm := bif !(d.2.2.1 == (0 : Int) && (d.2.2.2 == (0 : Int) && true)) then [d] else []

theorem bytesLess_irrefl : ∀ l : List UInt8, Op.bytesLess l l = false
  | [] => rfl
  | a :: l => by
    have h := bytesLess_irrefl l
    simp [Op.bytesLess, h]

theorem cmpI (a b : Int) : cmp_Compare_int_ a b = some (bif decide (a < b) then -1 else bif decide (a > b) then 1 else 0) := by
  simp [cmp_Compare_int_, cmp_isNaN_int_]
  cases decide (a < b) <;> cases decide (b < a) <;> rfl

theorem cmpS (a b : ByteArray) : cmp_Compare_string_ a b = some (bif Op.bytesLess a.toList b.toList then -1 else bif !(Op.bytesLess a.toList b.toList || a.toList == b.toList) then 1 else 0) := by
  simp [cmp_Compare_string_, cmp_isNaN_string_]
  cases Op.bytesLess a.toList b.toList <;> cases a.toList == b.toList <;> rfl

theorem cmpOr (a b : Int) : cmp_Or_int_ [a, b] = some (bif a != 0 then a else bif b != 0 then b else 0) := by
  simp only [cmp_Or_int_, forK]
  cases a != 0 <;> cases b != 0 <;> rfl

/-- What order says. -/
theorem order_eq (x d : Dm) : ∃ o : Int, view_order x d = some o ∧ decide (o ≥ 0) = !ahd x d ∧ (o != 0) = !sam x d := by
  refine ⟨_, by simp only [view_order, cmpI, cmpS, cmpOr, Option.bind_some]; rfl, ?_, ?_⟩
  · unfold ahd
    have hI := bytesLess_irrefl
    rcases Int.lt_trichotomy x.1 d.1 with h | h | h
    · simp [h]
    · simp only [h, Int.lt_irrefl, decide_false, cond_false, gt_iff_lt, beq_self_eq_true, Bool.true_and, Bool.false_or, bne_self_eq_false]
      cases h1 : Op.bytesLess x.2.1.toList d.2.1.toList <;> cases h2 : x.2.1.toList == d.2.1.toList <;> rfl
    · have h1 : ¬ x.1 < d.1 := by omega
      have h2 : ¬ x.1 = d.1 := by omega
      simp [h1, h2, h]
  · unfold sam
    rcases Int.lt_trichotomy x.1 d.1 with h | h | h
    · have h2 : ¬ x.1 = d.1 := by omega
      simp [h, h2]
    · simp only [h, Int.lt_irrefl, decide_false, cond_false, gt_iff_lt, beq_self_eq_true, Bool.true_and, Bool.false_or, bne_self_eq_false]
      cases h2 : x.2.1.toList == d.2.1.toList
      · cases h1 : Op.bytesLess x.2.1.toList d.2.1.toList <;> rfl
      · have h3 : x.2.1.toList = d.2.1.toList := by simpa using h2
        rw [h3, bytesLess_irrefl]; rfl
    · have h1 : ¬ x.1 < d.1 := by omega
      have h2 : ¬ x.1 = d.1 := by omega
      simp [h1, h2, h]

theorem Ahead_eq (x d : Dm) : mootref3_Ahead x d = some (ahd x d) := by
  unfold mootref3_Ahead ahd
  cases decide (x.1 < d.1) <;> cases x.1 == d.1 <;> rfl

/-- put(). -/
theorem put_eq (done : Bool) (d : Dm) (out : List Dm) (a : Int) (ps : List (Int × Int)) (h : out.length + 1 ≤ LIM) :
    view_With_1 done d.1 d.2.1 d.2.2.1 d.2.2.2 out a ps = some (true, d.1, d.2.1, d.2.2.1, d.2.2.2, bif done then out else out ++ putOf d, a, ps) := by
  unfold view_With_1 join putOf
  cases done
  · simp only [Bool.not_false, cond_true, cond_false]
    cases !(d.2.2.1 == (0 : Int) && (d.2.2.2 == (0 : Int) && true))
    · simp
    · simp only [cond_true, chk_eq h, Option.bind_some]
  · rfl

/-- The two loops, side by side. -/
def Rel (d : Dm) (a : Int) (want out : List Dm) (done : Bool) : Prop :=
  (done = false ∧ a = -1 ∧ out = want) ∨ (done = true ∧ ∃ n : Nat, a = n ∧ n ≤ want.length ∧ out = want.take n ++ putOf d ++ want.drop n)

theorem putOf_len (d : Dm) : (putOf d).length ≤ 1 := by unfold putOf; cases !(d.2.2.1 == (0 : Int) && (d.2.2.2 == (0 : Int) && true)) <;> simp

theorem Rel.len {d : Dm} {a : Int} {want out : List Dm} {done : Bool} (h : Rel d a want out done) : out.length ≤ want.length + 1 ∧ (done = false → out.length ≤ want.length) := by
  rcases h with ⟨rfl, rfl, rfl⟩ | ⟨rfl, n, rfl, hn, rfl⟩
  · exact ⟨by omega, fun _ => by omega⟩
  · have := putOf_len d
    exact ⟨by simp; omega, fun h => by cases h⟩

theorem loops {R1 R2 S1 S2 : Type} (d : Dm) (g : List Dm → Bool → S1) (f : Int → List Dm → S2)
    {bW : Nat → Dm → S1 → (S1 → Option R1) → Option R1} {bV : Nat → Dm → S2 → (S2 → Option R2) → Option R2}
    (hW : ∀ k x out done next, out.length + 2 ≤ LIM → bW k x (g out done) next =
      next (g ((bif !done && !ahd x d then out ++ putOf d else out) ++ bif sam x d then [] else [x]) (done || !ahd x d)))
    (hV : ∀ k x a want next, want.length + 1 ≤ LIM → bV k x (f a want) next =
      next (f (bif decide (a < 0) && !ahd x d then (want.length : Int) else a) (want ++ bif sam x d then [] else [x]))) :
    ∀ (l : List Dm) (k : Nat) (a : Int) (want out : List Dm) (done : Bool), Rel d a want out done → want.length + l.length + 3 ≤ LIM →
      ∃ a' want' out' done', Rel d a' want' out' done' ∧ want'.length + 3 ≤ LIM ∧ (∀ K, forK bW k l (g out done) K = K (g out' done')) ∧ ∀ K, forK bV k l (f a want) K = K (f a' want')
  | [], k, a, want, out, done, h, hl => ⟨a, want, out, done, h, by simpa using hl, fun _ => rfl, fun _ => rfl⟩
  | x :: l, k, a, want, out, done, h, hl => by
    simp only [List.length_cons] at hl
    have hlen := h.len
    have key : Rel d (bif decide (a < 0) && !ahd x d then (want.length : Int) else a) (want ++ bif sam x d then [] else [x])
        ((bif !done && !ahd x d then out ++ putOf d else out) ++ bif sam x d then [] else [x]) (done || !ahd x d) := by
      rcases h with ⟨rfl, rfl, rfl⟩ | ⟨rfl, n, rfl, hn, rfl⟩
      · cases ahd x d
        · right
          refine ⟨rfl, out.length, rfl, by simp, ?_⟩
          simp
        · left
          exact ⟨rfl, rfl, rfl⟩
      · right
        have h0 : ¬ ((n : Int) < 0) := by omega
        refine ⟨by simp, n, by simp [h0], by simp; omega, ?_⟩
        simp only [Bool.not_true, Bool.false_and, cond_false]
        rw [List.take_append_of_le_length hn, List.drop_append_of_le_length hn]
        simp
    obtain ⟨a', want', out', done', h1, h2, h3, h4⟩ := loops d g f hW hV l (k + 1) _ _ _ _ key (by
      cases sam x d <;> simp <;> omega)
    refine ⟨a', want', out', done', h1, h2, fun K => ?_, fun K => ?_⟩
    · simp only [forK]
      rw [hW k x out done _ (by omega)]
      exact h3 K
    · simp only [forK]
      rw [hV k x a want _ (by omega)]
      exact h4 K

theorem cloneP (l : List (Int × Int)) (h : l.length ≤ LIM) : slices_Clone___api_Party_api_Party_ l = some l := by
  unfold slices_Clone___api_Party_api_Party_ join lcase
  cases l with
  | nil => simp [both, chk_eq]
  | cons x xs => simp only [cond_false, Nat.zero_add, chk_eq h, Option.bind_some]

theorem cloneD (l : List Dm) (h : l.length ≤ LIM) : slices_Clone___api_Datum_api_Datum_ l = some l := by
  unfold slices_Clone___api_Datum_api_Datum_ join lcase
  cases l with
  | nil => simp [both, chk_eq]
  | cons x xs => simp only [cond_false, Nat.zero_add, chk_eq h, Option.bind_some]

theorem forK_pass {α R : Type} {body : Nat → α → Unit → (Unit → Option R) → Option R} (p : List α) (h : ∀ k x next, p[k]? = some x → body k x () next = next ()) :
    ∀ (l : List α) (i : Nat), p.drop i = l → ∀ K, forK body i l () K = K ()
  | [], i, _, K => rfl
  | x :: xs, i, hd, K => by
    have hx : p[i]? = some x := by
      have : (p.drop i)[0]? = some x := by rw [hd]; rfl
      simpa using this
    simp only [forK]
    rw [h i x _ hx]
    exact forK_pass p h xs (i + 1) (by rw [← List.drop_drop, hd]; rfl) K

theorem eqP (l : List (Int × Int)) : slices_Equal___api_Party_api_Party_ l l = some true := by
  unfold slices_Equal___api_Party_api_Party_
  simp only [bne_self_eq_false, cond_false]
  rw [forK_pass l (fun k x next hx => ?_) l 0 rfl]
  simp only [idx_nat, hx, Option.bind_some, beq_self_eq_true, Bool.and_self, Bool.not_true, cond_false]

theorem eqD (l : List Dm) : slices_Equal___api_Datum_api_Datum_ l l = some true := by
  unfold slices_Equal___api_Datum_api_Datum_
  simp only [bne_self_eq_false, cond_false]
  rw [forK_pass l (fun k x next hx => ?_) l 0 rfl]
  simp only [idx_nat, hx, Option.bind_some, beq_self_eq_true, Bool.and_self, Bool.not_true, cond_false]

def isK (w : Int) (s : ByteArray) (x : Dm) : Bool := x.1 == w && x.2.1.toList == s.toList

theorem get_eq (l : List Dm) (a : Int) (ps : List (Int × Int)) (w : Int) (s : ByteArray) : view_Get (a, ps, l) w s = some (match l.find? (isK w s) with | some x => (x.2.2.1, x.2.2.2) | none => (0, 0)) := by
  unfold view_Get
  have key : ∀ (l : List Dm) (i : Nat), forK (fun k (x : Dm) (d : Unit) next => join (fun d => bif d then some (x.snd.snd.fst, x.snd.snd.snd) else next ()) fun K => bif x.fst == w then K (x.snd.fst.toList == s.toList) else K false)
      i l () (fun d => some ((0 : Int), (0 : Int))) = some (match l.find? (isK w s) with | some x => (x.2.2.1, x.2.2.2) | none => (0, 0)) := by
    intro l
    induction l with
    | nil => intro i; rfl
    | cons x l ih =>
      intro i
      have h := ih (i + 1)
      simp only [forK, join] at h ⊢
      rw [h]
      simp only [List.find?_cons, isK]
      cases x.1 == w <;> cases x.2.1.toList == s.toList <;> rfl
  exact key l 0

theorem known_eq (l : List Dm) (a : Int) (ps : List (Int × Int)) (w : Int) (s : ByteArray) : mootref3_Known (a, ps, l) w s = some (match l.find? (isK w s) with | some x => (x.2.2.1, x.2.2.2) | none => (0, 0)) := by
  have key : ∀ (l2 : List Dm) (i : Nat), l.drop i = l2 →
      ∃ n : Int, forK (fun k (x : Dm) (d : Int × ByteArray) next => (idx l (↑k : Int)).bind fun y => (mootref3_Known_1 (y.fst, y.snd.fst, y.snd.snd.fst, y.snd.snd.snd) d.fst d.snd).bind fun r =>
          bif r.fst then some ((↑k : Int), r.snd.fst, r.snd.snd) else next (r.snd.fst, r.snd.snd)) i l2 (w, s) (fun d => some ((-1 : Int), d.fst, d.snd)) = some (n, w, s) ∧
        ((n = -1 ∧ l2.find? (isK w s) = none) ∨ ∃ x, 0 ≤ n ∧ idx l n = some x ∧ l2.find? (isK w s) = some x) := by
    intro l2
    induction l2 with
    | nil => intro i _; exact ⟨-1, rfl, .inl ⟨rfl, rfl⟩⟩
    | cons x l2 ih =>
      intro i hd
      have hx : l[i]? = some x := by
        have : (l.drop i)[0]? = some x := by rw [hd]; rfl
        simpa using this
      obtain ⟨n, h1, h2⟩ := ih (i + 1) (by rw [← List.drop_drop, hd]; rfl)
      have hk : mootref3_Known_1 (x.1, x.2.1, x.2.2.1, x.2.2.2) w s = some (isK w s x, w, s) := by
        unfold mootref3_Known_1 isK
        simp only
        cases x.1 == w <;> rfl
      simp only [forK, idx_nat, hx, Option.bind_some, hk, List.find?_cons]
      cases isK w s x
      · exact ⟨n, h1, h2⟩
      · exact ⟨i, rfl, .inr ⟨x, by omega, by rw [idx_nat]; exact hx, rfl⟩⟩
  obtain ⟨n, h1, h2⟩ := key l 0 rfl
  unfold mootref3_Known slices_IndexFunc___api_Datum_api_Datum__46
  simp only
  rw [h1]
  rcases h2 with ⟨rfl, h⟩ | ⟨x, h, h3, h4⟩
  · rw [h]; rfl
  · rw [h4]
    have : ¬ n < 0 := by omega
    simp only [Option.bind_some, this, decide_false, cond_false, h3]

theorem viewed_true : mootlaw3_viewed = some true := by
  kernel_rfl


noncomputable def bdW : Nat → Dm → Dm × Int × List (Int × Int) × List Dm × Bool → (Dm × Int × List (Int × Int) × List Dm × Bool → Option (Int × List (Int × Int) × List Dm)) → Option (Int × List (Int × Int) × List Dm) :=
      fun k x d next =>
        (view_order (x.fst, x.snd.fst, x.snd.snd.fst, x.snd.snd.snd) (d.fst.fst, d.fst.snd.fst, d.fst.snd.snd.fst, d.fst.snd.snd.snd)).bind fun r =>
          join
            (fun d =>
              bif r != (0 : Int) then
                (chk (d.snd.snd.snd.fst.length + (1 : Nat) ≤ LIM)).bind fun x_1 =>
                  next (d.fst, d.snd.fst, d.snd.snd.fst, d.snd.snd.snd.fst ++ [(x.fst, x.snd.fst, x.snd.snd.fst, x.snd.snd.snd)], d.snd.snd.snd.snd)
              else next (d.fst, d.snd.fst, d.snd.snd.fst, d.snd.snd.snd.fst, d.snd.snd.snd.snd))
            fun K =>
            bif decide (r ≥ (0 : Int)) then
              (view_With_1 d.snd.snd.snd.snd d.fst.fst d.fst.snd.fst d.fst.snd.snd.fst d.fst.snd.snd.snd d.snd.snd.snd.fst d.snd.fst d.snd.snd.fst).bind fun r =>
                K
                  ((r.snd.fst, r.snd.snd.fst, r.snd.snd.snd.fst, r.snd.snd.snd.snd.fst), r.snd.snd.snd.snd.snd.snd.fst, r.snd.snd.snd.snd.snd.snd.snd, r.snd.snd.snd.snd.snd.fst,
                    r.fst)
            else K (d.fst, d.snd.fst, d.snd.snd.fst, d.snd.snd.snd.fst, d.snd.snd.snd.snd)

noncomputable def bdV (d : Dm) : Nat → Dm → Int × List Dm → (Int × List Dm → Option Bool) → Option Bool :=
      fun k (x : Dm) (d_1 : Int × List Dm) next =>
        join
          (fun d_2 =>
            join
              (fun d_3 =>
                bif d_3 then (chk (d_1.snd.length + (1 : Nat) ≤ LIM)).bind fun x_1 => next (d_2, d_1.snd ++ [(x.fst, x.snd.fst, x.snd.snd.fst, x.snd.snd.snd)]) else next (d_2, d_1.snd))
              fun K => bif x.fst != d.fst then K true else K !x.snd.fst.toList == d.snd.fst.toList)
          fun K =>
          join (fun d_2 => bif d_2 then K (↑d_1.snd.length : Int) else K d_1.fst) fun K =>
            bif decide (d_1.fst < (0 : Int)) then
              (mootref3_Ahead (x.fst, x.snd.fst, x.snd.snd.fst, x.snd.snd.snd) (d.fst, d.snd.fst, d.snd.snd.fst, d.snd.snd.snd)).bind fun r => K !r
            else K false

theorem bdW_eq (d : Dm) (at0 : Int) (ps : List (Int × Int)) (k : Nat) (x : Dm) (out : List Dm) (done : Bool) (next : Dm × Int × List (Int × Int) × List Dm × Bool → Option (Int × List (Int × Int) × List Dm)) (hlen : out.length + 2 ≤ LIM) :
    bdW k x (d, at0, ps, out, done) next = next (d, at0, ps, (bif !done && !ahd x d then out ++ putOf d else out) ++ (bif sam x d then [] else [x]), done || !ahd x d) := by
  obtain ⟨o, e1, e2, e3⟩ := order_eq x d
  have hp := putOf_len d
  unfold bdW
  simp only
  rw [e1]
  simp only [Option.bind_some, join, e2, e3]
  rw [put_eq done d out at0 ps (by omega)]
  cases ahd x d <;> cases sam x d <;> cases done <;> simp only [Bool.not_false, Bool.not_true, cond_true, cond_false, Bool.and_true, Bool.and_false, Bool.or_true, Bool.or_false, Bool.true_and, Bool.false_and, Option.bind_some, List.append_nil]
  all_goals (try rw [chk_eq (by first | omega | (simp only [List.length_append]; omega))])
  all_goals (try rfl)

theorem bdV_eq (d : Dm) (k : Nat) (x : Dm) (a : Int) (want : List Dm) (next : Int × List Dm → Option Bool) (hlen : want.length + 1 ≤ LIM) :
    bdV d k x (a, want) next = next (bif decide (a < 0) && !ahd x d then (want.length : Int) else a, want ++ (bif sam x d then [] else [x])) := by
  have hs : sam x d = (x.fst == d.fst && x.snd.fst.toList == d.snd.fst.toList) := rfl
  have hn : (x.fst != d.fst) = !(x.fst == d.fst) := rfl
  unfold bdV
  simp only [join, Ahead_eq, Option.bind_some]
  rw [hs, hn, chk_eq hlen]
  cases decide (a < 0) <;> cases ahd x d <;> cases x.fst == d.fst <;> cases x.snd.fst.toList == d.snd.fst.toList <;> simp

theorem viewData_plain (v : Int × List (Int × Int) × List Dm) (d : Dm) (h1 : v.2.1.length ≤ 1048576) (h2 : v.2.2.length ≤ 1048576) : mootlaw3_ViewData v d = some true := by
  obtain ⟨at0, ps, l⟩ := v
  simp only at h1 h2
  have hL : LIM = 4294967296 := rfl
  obtain ⟨a', want', out', done', h3, h4, hw, h6⟩ := loops d (fun out done => (d, at0, ps, out, done)) (fun a want => (a, want)) (bW := bdW) (bV := bdV d)
    (fun k x out done next hl => bdW_eq d at0 ps k x out done next hl) (fun k x a want next hl => bdV_eq d k x a want next hl) l 0 (-1) [] [] false (.inl ⟨rfl, rfl, rfl⟩) (by simp; omega)
  have h5 : view_With (at0, ps, l) d = some (at0, ps, bif done' then out' else out' ++ putOf d) := by
    unfold view_With
    simp only [cloneP ps (by omega), Option.bind_some]
    refine (hw _).trans ?_
    have h7 := h3.len
    simp only
    rw [put_eq done' d out' at0 ps (by omega)]
    rfl
  unfold mootlaw3_ViewData
  simp only
  rw [h5]
  simp only [Option.bind_some]
  refine (h6 _).trans ?_
  have hend : ∀ (n : Nat), n ≤ want'.length → (bif decide (a' < 0) then ((want'.length : Nat) : Int) else a') = n → (bif done' then out' else out' ++ putOf d) = want'.take n ++ putOf d ++ want'.drop n := by
    intro n hn he
    rcases h3 with ⟨rfl, rfl, rfl⟩ | ⟨rfl, m, rfl, hm, rfl⟩
    · have : n = out'.length := by simp at he; omega
      subst this
      simp
    · have h0 : ¬ ((m : Int) < 0) := by omega
      have : m = n := by simp [h0] at he; omega
      subst this; rfl
  obtain ⟨n, hn, he⟩ : ∃ n : Nat, n ≤ want'.length ∧ (bif decide (a' < 0) then ((want'.length : Nat) : Int) else a') = n := by
    rcases h3 with ⟨rfl, rfl, rfl⟩ | ⟨rfl, m, rfl, hm, rfl⟩
    · exact ⟨out'.length, by omega, by simp⟩
    · have h0 : ¬ ((m : Int) < 0) := by omega
      exact ⟨m, hm, by simp [h0]⟩
  have hg := hend n hn he
  rw [hg]
  have hj : ∀ (rest : Int → Option Bool), join rest (fun K => bif decide (a' < 0) then K (want'.length : Int) else K a') = rest n := by
    intro rest
    unfold join
    cases hq : decide (a' < 0)
    · rw [hq] at he; simp only [cond_false] at he ⊢; rw [he]
    · rw [hq] at he; simp only [cond_true] at he ⊢; rw [he]
  rw [hj]
  simp only [join]
  simp only [viewed_true, Option.bind_some, cond_true, beq_self_eq_true, eqP, Bool.and_true]
  rw [get_eq l at0 ps, known_eq l at0 ps]
  simp only [Option.bind_some, beq_self_eq_true, Bool.and_self, cond_true]
  have hcopy : view_Copy (at0, ps, l) = some (at0, ps, l) := by
    simp only [view_Copy, cloneP ps (by omega), cloneD l (by omega), Option.bind_some]
  rw [hcopy]
  have hsame : mootref3_SameView (at0, ps, l) (at0, ps, l) = some true := by
    simp only [mootref3_SameView, beq_self_eq_true, cond_true, eqP, eqD, Option.bind_some]
  simp only [Option.bind_some, hsame]
  unfold putOf
  have hc : (0 : Int) ≤ (n : Int) ∧ (n : Int) ≤ (want'.length : Int) ∧ (1 : Nat) ≠ 0 ∧ want'.length + 1 ≤ LIM := ⟨by omega, by omega, by omega, by omega⟩
  simp only [Bool.and_true]
  cases !(d.2.2.1 == (0 : Int) && d.2.2.2 == (0 : Int))
  · simp only [cond_false, List.append_nil, List.take_append_drop, eqD, Option.bind_some, cond_true]
  · simp only [cond_true, chk_eq hc, Option.bind_some, List.length_singleton, chk_eq, Int.toNat_natCast]
    rw [eqD]
    simp only [Option.bind_some, cond_true]
end Go.Proofs.Ytfhddbnacbcppaa
