import Derived.Test.YtfhddbnacbcppaaKLa
set_option linter.unnecessarySimpa false
set_option linter.unusedSimpArgs false
set_option linter.unusedVariables false
set_option pp.deepTerms true
set_option maxRecDepth 100000
set_option maxHeartbeats 4000000
namespace Go.Proofs.Ytfhddbnacbcppaa
open Go.PG

-- moothall/mootlaw3.LineChecks
def mootlaw3_LineChecks (fu : Nat) (p0 : (List line_Row)) (p1 : Int) (p2 : line_Point) (p3 : (List Int)) : Option Bool :=
  ((
    (mootlaw3_lined fu).bind fun r1 =>
    cond r1
      ((line_Check p0 p1).bind fun r2 =>
      (mootref3_RowsFault p0 p1).bind fun r3 =>
      cond (r2 == r3)
        ((line_Holds p0 p1 p2).bind fun r4 =>
        (mootref3_Solves p0 p1 p2).bind fun r5 =>
        cond (r4 == r5)
          ((line_Refutes p0 p1 p3).bind fun r6 =>
          (mootref3_Disproves p0 p1 p3).bind fun r7 =>
          some (r6 == r7))
          (some false))
        (some false))
      (some false)) : Option Bool).bind fun (u1 : Bool) =>
  some u1
theorem mootlaw3_LineChecks_pc (fu : Nat) (p0 : (List line_Row)) (p1 : Int) (p2 : line_Point) (p3 : (List Int)) (R : Bool) (hI0 : mootlaw3_LineChecks fu p0 p1 p2 p3 = some R) : PC Try.prog 6 [.sl 2 (p0.map e_line_Row), .int .i64 p1, .agg [.sl 1 (p2.f_Num.map (V.int .i64)), .int .i64 p2.f_Den], .sl 1 (p3.map (V.int .i64))] (.bool R) := by
  unfold mootlaw3_LineChecks at hI0
  refine pc_se Try.func6 rfl (by kernel_rfl) 41 rfl (by simp) ?_
  show Tr _ _ (SE 41 [(0, .sl 2 (p0.map e_line_Row)), (1, .int .i64 p1), (2, .agg [.sl 1 (p2.f_Num.map (V.int .i64)), .int .i64 p2.f_Den]), (3, .sl 1 (p3.map (V.int .i64)))] []) _
  refine tr_sreg fun K1 hK1 => ?_
  try simp +decide only [go_sem, ↓reduceIte]
  refine hK1 _ ?_
  obtain ⟨u1, hI1, hI0⟩ := bind_inv hI0
  refine tr_seq_ex (fun _ : Unit => True) (fun _ => SE 41 [(8, .bool u1)] []) ?_ ?_
  · refine drawT mixA (by kernel_rfl) (by kernel_rfl) ?_
    try simp +decide only [go_sem, ↓reduceIte]
    obtain ⟨r1, hr1, hI1⟩ := bind_inv hI1
    refine evi_callS (caps := []) (mootlaw3_lined_pc fu _ hr1) (by simp +decide only [go_sem, ↓reduceIte]) ?_
    try simp +decide only [go_sem, ↓reduceIte]
    refine waysi_if ?_ ?_
    · intro g1
      replace hI1 := cond_f g1 hI1
      try simp +decide only [go_sem, ↓reduceIte, g1]
      refine evi_skip (by simp +decide only [go_sem, ↓reduceIte, g1]) ?_
      try simp +decide only [go_sem, ↓reduceIte, g1]
      refine evi_skip (by simp +decide only [go_sem, ↓reduceIte, g1]) ?_
      try simp +decide only [go_sem, ↓reduceIte, g1]
      refine evi_skip (by simp +decide only [go_sem, ↓reduceIte, g1]) ?_
      try simp +decide only [go_sem, ↓reduceIte, g1]
      refine evi_skip (by simp +decide only [go_sem, ↓reduceIte, g1]) ?_
      try simp +decide only [go_sem, ↓reduceIte, g1]
      refine evi_skip (by simp +decide only [go_sem, ↓reduceIte, g1]) ?_
      try simp +decide only [go_sem, ↓reduceIte, g1]
      refine evi_skip (by simp +decide only [go_sem, ↓reduceIte, g1]) ?_
      try simp +decide only [go_sem, ↓reduceIte, g1]
      refine dn_mk (by kernel_rfl) ?_
      obtain rfl := Option.some.inj hI1
      refine st_mk () trivial ?_
      exact le_se (by simp [go_sem, g1]) (by simp [go_sem, g1])
    · intro g1
      replace hI1 := cond_t g1 hI1
      try simp +decide only [go_sem, ↓reduceIte, g1]
      obtain ⟨r2, hr2, hI1⟩ := bind_inv hI1
      refine evi_callSg (caps := []) (line_Check_pc p0 p1 _ hr2) (by simp +decide only [go_sem, ↓reduceIte, g1]) ?_
      try simp +decide only [go_sem, ↓reduceIte, g1]
      obtain ⟨r3, hr3, hI1⟩ := bind_inv hI1
      refine evi_callSg (caps := []) (mootref3_RowsFault_pc p0 p1 _ hr3) (by simp +decide only [go_sem, ↓reduceIte, g1]) ?_
      try simp +decide only [go_sem, ↓reduceIte, g1]
      refine waysi_if ?_ ?_
      · intro g2
        replace hI1 := cond_f g2 hI1
        try simp +decide only [go_sem, ↓reduceIte, g1, g2]
        refine evi_skip (by simp +decide only [go_sem, ↓reduceIte, g1, g2]) ?_
        try simp +decide only [go_sem, ↓reduceIte, g1, g2]
        refine evi_skip (by simp +decide only [go_sem, ↓reduceIte, g1, g2]) ?_
        try simp +decide only [go_sem, ↓reduceIte, g1, g2]
        refine evi_skip (by simp +decide only [go_sem, ↓reduceIte, g1, g2]) ?_
        try simp +decide only [go_sem, ↓reduceIte, g1, g2]
        refine evi_skip (by simp +decide only [go_sem, ↓reduceIte, g1, g2]) ?_
        try simp +decide only [go_sem, ↓reduceIte, g1, g2]
        refine dn_mk (by kernel_rfl) ?_
        obtain rfl := Option.some.inj hI1
        refine st_mk () trivial ?_
        exact le_se (by simp [go_sem, g1, g2]) (by simp [go_sem, g1, g2])
      · intro g2
        replace hI1 := cond_t g2 hI1
        try simp +decide only [go_sem, ↓reduceIte, g1, g2]
        obtain ⟨r4, hr4, hI1⟩ := bind_inv hI1
        refine evi_callSg (caps := []) (line_Holds_pc p0 p1 p2 _ hr4) (by simp +decide only [go_sem, ↓reduceIte, g1, g2]) ?_
        try simp +decide only [go_sem, ↓reduceIte, g1, g2]
        obtain ⟨r5, hr5, hI1⟩ := bind_inv hI1
        refine evi_callSg (caps := []) (mootref3_Solves_pc p0 p1 p2 _ hr5) (by simp +decide only [go_sem, ↓reduceIte, g1, g2]) ?_
        try simp +decide only [go_sem, ↓reduceIte, g1, g2]
        refine waysi_if ?_ ?_
        · intro g3
          replace hI1 := cond_f g3 hI1
          try simp +decide only [go_sem, ↓reduceIte, g1, g2, g3]
          refine evi_skip (by simp +decide only [go_sem, ↓reduceIte, g1, g2, g3]) ?_
          try simp +decide only [go_sem, ↓reduceIte, g1, g2, g3]
          refine evi_skip (by simp +decide only [go_sem, ↓reduceIte, g1, g2, g3]) ?_
          try simp +decide only [go_sem, ↓reduceIte, g1, g2, g3]
          refine dn_mk (by kernel_rfl) ?_
          obtain rfl := Option.some.inj hI1
          refine st_mk () trivial ?_
          exact le_se (by simp [go_sem, g1, g2, g3]) (by simp [go_sem, g1, g2, g3])
        · intro g3
          replace hI1 := cond_t g3 hI1
          try simp +decide only [go_sem, ↓reduceIte, g1, g2, g3]
          obtain ⟨r6, hr6, hI1⟩ := bind_inv hI1
          refine evi_callSg (caps := []) (line_Refutes_pc p0 p1 p3 _ hr6) (by simp +decide only [go_sem, ↓reduceIte, g1, g2, g3]) ?_
          try simp +decide only [go_sem, ↓reduceIte, g1, g2, g3]
          obtain ⟨r7, hr7, hI1⟩ := bind_inv hI1
          refine evi_callSg (caps := []) (mootref3_Disproves_pc p0 p1 p3 _ hr7) (by simp +decide only [go_sem, ↓reduceIte, g1, g2, g3]) ?_
          try simp +decide only [go_sem, ↓reduceIte, g1, g2, g3]
          refine dn_mk (by kernel_rfl) ?_
          obtain rfl := Option.some.inj hI1
          refine st_mk () trivial ?_
          exact le_se (by simp [go_sem, g1, g2, g3]) (by simp [go_sem, g1, g2, g3])
  · rintro _ _
    refine tr_ret ?_
    try simp +decide only [Post.andThen, Post.inBlock, rangePost, ↓reduceIte]
    obtain rfl := Option.some.inj hI0
    simp [PG.Fin, resAll, resOf, resV, Try.results6, go_sem]
end Go.Proofs.Ytfhddbnacbcppaa
