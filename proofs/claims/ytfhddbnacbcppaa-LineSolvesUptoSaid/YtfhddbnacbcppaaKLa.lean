import Derived.Test.YtfhddbnacbcppaaKPgZa
import Derived.Test.YtfhddbnacbcppaaKTy
set_option linter.unnecessarySimpa false
set_option linter.unusedSimpArgs false
set_option linter.unusedVariables false
set_option pp.deepTerms false
set_option pp.deepTerms.threshold 4
set_option maxRecDepth 100000
set_option maxHeartbeats 4000000
namespace Go.Proofs.Ytfhddbnacbcppaa
open Go.PG
theorem mixA : Try.prog.follows .mixedOrders = true := by kernel_rfl
structure line_Row where
  f_Coef : (List Int)
  f_Most : Int
  deriving DecidableEq, Inhabited
def e_line_Row (x : line_Row) : V := .agg [.sl 1 (x.f_Coef.map (V.int .i64)), .int .i64 x.f_Most]
attribute [go_sem] e_line_Row
structure line_Point where
  f_Num : (List Int)
  f_Den : Int
  deriving DecidableEq, Inhabited
def e_line_Point (x : line_Point) : V := .agg [.sl 1 (x.f_Num.map (V.int .i64)), .int .i64 x.f_Den]
attribute [go_sem] e_line_Point
structure line_row where
  f_Row : line_Row
  f_by : (List Int)
  deriving DecidableEq, Inhabited
def e_line_row (x : line_row) : V := .agg [.sl 1 (x.f_Row.f_Coef.map (V.int .i64)), .int .i64 x.f_Row.f_Most, .sl 1 (x.f_by.map (V.int .i64))]
attribute [go_sem] e_line_row
def e_Lline_row (x : List line_row) : V := .sl 3 (x.map e_line_row)
attribute [go_sem] e_Lline_row
structure line_frac where
  f_n : Int
  f_d : Int
  deriving DecidableEq, Inhabited
def e_line_frac (x : line_frac) : V := .agg [.int .i64 x.f_n, .int .i64 x.f_d]
attribute [go_sem] e_line_frac
structure line_product where
  f_neg : Bool
  f_hi : Int
  f_lo : Int
  deriving DecidableEq, Inhabited
def e_line_product (x : line_product) : V := .agg [.bool x.f_neg, .int .u64 x.f_hi, .int .u64 x.f_lo]
attribute [go_sem] e_line_product

-- moothall/line.Check
def line_Check_b2 (k2 : Nat) (x2 : Int) (s2 : Unit) : Option (Ctl Unit (Ctl Unit Int)) :=
  cond (cond (decide (x2 < (-9))) true (decide (x2 > 9)))
    (some (.rt (.rt 1)))
    (some (.nx ()))
def line_Check_b0 (p1 : Int) (k1 : Nat) (x1 : line_Row) (s1 : Unit) : Option (Ctl Unit Int) :=
  cond ((x1.f_Coef.length : Int) != p1)
    (some (.rt 3))
    ((forL line_Check_b2 0 x1.f_Coef ()).bind (Sum.elim (fun (u1 : Unit) =>
      cond (cond (decide (x1.f_Most < (-99))) true (decide (x1.f_Most > 99)))
        (some (.rt 1))
        (some (.nx ()))) some))
def line_Check (p0 : (List line_Row)) (p1 : Int) : Option Int :=
  cond (cond (decide (p1 < 1)) true (cond (decide (p1 > 3)) true (decide ((p0.length : Int) > 8))))
    (some 2)
    ((forL (line_Check_b0 p1) 0 p0 ()).bind (Sum.elim (fun (u2 : Unit) =>
      some 0) some))
theorem line_Check_pc (p0 : (List line_Row)) (p1 : Int) (R : Int) (hI0 : line_Check p0 p1 = some R) : PC Try.prog 29 [.sl 2 (p0.map e_line_Row), .int .i64 p1] (.int .i64 R) := by
  unfold line_Check at hI0
  refine pc_se Try.func29 rfl (by kernel_rfl) 54 rfl (by simp) ?_
  show Tr _ _ (SE 54 [(0, .sl 2 (p0.map e_line_Row)), (1, .int .i64 p1)] []) _
  refine tr_sreg fun K1 hK1 => ?_
  try simp +decide only [go_sem, ↓reduceIte]
  refine hK1 _ ?_
  refine tr_seq_k fun K2 hK2 => ?_
  refine tr_seq_ex (fun _ : Unit => True) (fun _ => SE 54 [(0, .sl 2 (p0.map e_line_Row)), (1, .int .i64 p1), (19, .bool (cond (decide (p1 < 1)) true (cond (decide (p1 > 3)) true (decide ((p0.length : Int) > 8)))))] []) ?_ ?_
  · refine tr_reg ?_
    try simp +decide only [go_sem, ↓reduceIte]
    refine waysl_not ?_ ?_
    · intro g1
      try simp +decide only [go_sem, ↓reduceIte, g1]
      refine st_mk () trivial ?_
      exact le_se (by simp [go_sem, g1]) (by simp [go_sem, g1])
    · intro g1
      try simp +decide only [go_sem, ↓reduceIte, g1]
      refine waysl_not ?_ ?_
      · intro g2
        try simp +decide only [go_sem, ↓reduceIte, g1, g2]
        refine st_mk () trivial ?_
        exact le_se (by simp [go_sem, g1, g2]) (by simp [go_sem, g1, g2])
      · intro g2
        try simp +decide only [go_sem, ↓reduceIte, g1, g2]
        refine st_mk () trivial ?_
        exact le_se (by simp [go_sem, g1, g2]) (by simp [go_sem, g1, g2])
  · rintro _ _
    refine tr_condS (b := (cond (decide (p1 < 1)) true (cond (decide (p1 > 3)) true (decide ((p0.length : Int) > 8))))) rfl (by simp +decide only [go_sem, ↓reduceIte]) ?_ ?_
    · intro g3
      replace hI0 := cond_t g3 hI0
      refine tr_sreg fun K3 hK3 => ?_
      try simp +decide only [go_sem, ↓reduceIte, g3]
      refine hK3 _ ?_
      refine tr_ret ?_
      try simp +decide only [Post.andThen, Post.inBlock, rangePost, ↓reduceIte]
      obtain rfl := Option.some.inj hI0
      simp [PG.Fin, resAll, resOf, resV, Try.results29, go_sem, g3]
    · intro g3
      replace hI0 := cond_f g3 hI0
      refine tr_skip ?_
      try simp +decide only [Post.andThen, Post.inBlock, rangePost, ↓reduceIte]
      refine hK2 _ ?_
      refine tr_seq_k fun K4 hK4 => ?_
      refine tr_sreg fun K5 hK5 => ?_
      try simp +decide only [go_sem, ↓reduceIte, g3]
      refine hK5 _ ?_
      obtain ⟨o2, hL2, hI0⟩ := bind_inv hI0
      refine tr_tail_ex (fun (i : Unit × Unit) => o2 = .inl i.1) (fun i => SE 54 ((fun (i : Unit × Unit) => [(1, .int .i64 p1), (20, .sl 2 (p0.map e_line_Row))]) i) ((fun (i : Unit × Unit) => []) i)) ?_ ?_
      · refine tr_lim_sl (t := 20) (sz := 2) (l := p0.map e_line_Row) (by try simp +decide only [go_sem, ↓reduceIte, g3]) rfl fun hlim => ?_
        refine tr_forL 54 (fun i => i.1) (fun (i : Unit × Unit) => [(1, .int .i64 p1), (20, .sl 2 (p0.map e_line_Row))]) (fun (i : Unit × Unit) => []) ((), ()) hL2 ?_ ?_ ?_ ?_ ?_ ?_ ?_
        · simpa using hlim
        · first | exact .inl rfl | exact .inr rfl
        · decide
        · decide
        · intro i; simp [aget]
        · exact le_se (by simp [go_sem, g3]) (by simp [go_sem, g3])
        · rintro k1 x1 ⟨s1, n1⟩ ctl1 hx1 hq1 hI1 hbk1 hrt1
          try dsimp only at hI1 ⊢
          unfold line_Check_b0 at hI1
          refine tr_sreg fun K6 hK6 => ?_
          try simp +decide only [go_sem, ↓reduceIte, g3, hx1]
          refine hK6 _ ?_
          refine tr_seq_k fun K7 hK7 => ?_
          refine tr_sreg fun K8 hK8 => ?_
          try simp +decide only [go_sem, ↓reduceIte, g3, hx1]
          refine hK8 _ ?_
          refine tr_condS (b := ((x1.f_Coef.length : Int) != p1)) rfl (by simp +decide only [go_sem, ↓reduceIte, g3, hx1]) ?_ ?_
          · intro g4
            replace hI1 := cond_t g4 hI1
            refine tr_sreg fun K9 hK9 => ?_
            try simp +decide only [go_sem, ↓reduceIte, g3, hx1, g4]
            refine hK9 _ ?_
            refine tr_ret ?_
            try simp +decide only [Post.andThen, Post.inBlock, rangePost, ↓reduceIte]
            obtain rfl := Option.some.inj hI1
            have ho := hrt1 _ rfl
            subst ho
            replace hI0 := elim_r hI0
            obtain rfl := Option.some.inj hI0
            simp [PG.Fin, resAll, resOf, resV, Try.results29, go_sem, g3, hx1, g4]
          · intro g4
            replace hI1 := cond_f g4 hI1
            refine tr_skip ?_
            try simp +decide only [Post.andThen, Post.inBlock, rangePost, ↓reduceIte]
            refine hK7 _ ?_
            refine tr_seq_k fun K10 hK10 => ?_
            refine tr_sreg fun K11 hK11 => ?_
            try simp +decide only [go_sem, ↓reduceIte, g3, hx1, g4]
            refine hK11 _ ?_
            obtain ⟨o1, hL1, hI1⟩ := bind_inv hI1
            refine tr_tail_ex (fun (i : Unit × Unit) => o1 = .inl i.1) (fun i => SE 54 ((fun (i : Unit × Unit) => [(1, .int .i64 p1), (6, .ep 6 0 2 0 0), (20, .sl 2 (p0.map e_line_Row)), (21, .int .i64 (p0.length : Int)), (22, .int .i64 (k1 : Int)), (32, .sl 1 (x1.f_Coef.map (V.int .i64)))]) i) ((fun (i : Unit × Unit) => [(6, .arr 0 true 2 [.agg [.sl 1 (x1.f_Coef.map (V.int .i64)), .int .i64 x1.f_Most]])]) i)) ?_ ?_
            · refine tr_lim_sl (t := 32) (sz := 1) (l := x1.f_Coef.map (V.int .i64)) (by try simp +decide only [go_sem, ↓reduceIte, g3, hx1, g4]) rfl fun hlim => ?_
              refine tr_forL 54 (fun i => i.1) (fun (i : Unit × Unit) => [(1, .int .i64 p1), (6, .ep 6 0 2 0 0), (20, .sl 2 (p0.map e_line_Row)), (21, .int .i64 (p0.length : Int)), (22, .int .i64 (k1 : Int)), (32, .sl 1 (x1.f_Coef.map (V.int .i64)))]) (fun (i : Unit × Unit) => [(6, .arr 0 true 2 [.agg [.sl 1 (x1.f_Coef.map (V.int .i64)), .int .i64 x1.f_Most]])]) ((), ()) hL1 ?_ ?_ ?_ ?_ ?_ ?_ ?_
              · simpa using hlim
              · first | exact .inl rfl | exact .inr rfl
              · decide
              · decide
              · intro i; simp [aget]
              · exact le_se (by simp [go_sem, g3, hx1, g4]) (by simp [go_sem, g3, hx1, g4])
              · rintro k2 x2 ⟨s2, n2⟩ ctl2 hx2 hq2 hI2 hbk2 hrt2
                try dsimp only at hI2 ⊢
                unfold line_Check_b2 at hI2
                refine tr_sreg fun K12 hK12 => ?_
                try simp +decide only [go_sem, ↓reduceIte, g3, hx1, g4, hx2]
                refine hK12 _ ?_
                refine tr_seq_ex (fun _ : Unit => True) (fun _ => SE 54 [(1, .int .i64 p1), (6, .ep 6 0 2 0 0), (20, .sl 2 (p0.map e_line_Row)), (21, .int .i64 (p0.length : Int)), (22, .int .i64 (k1 : Int)), (32, .sl 1 (x1.f_Coef.map (V.int .i64))), (33, .int .i64 (x1.f_Coef.length : Int)), (34, .int .i64 (k2 : Int)), (43, .bool (cond (decide (x2 < (-9))) true (decide (x2 > 9))))] [(6, .arr 0 true 2 [.agg [.sl 1 (x1.f_Coef.map (V.int .i64)), .int .i64 x1.f_Most]])]) ?_ ?_
                · refine tr_reg ?_
                  try simp +decide only [go_sem, ↓reduceIte, g3, hx1, g4, hx2]
                  refine waysl_not ?_ ?_
                  · intro g5
                    try simp +decide only [go_sem, ↓reduceIte, g3, hx1, g4, hx2, g5]
                    refine st_mk () trivial ?_
                    exact le_se (by simp [go_sem, g3, hx1, g4, hx2, g5]) (by simp [go_sem, g3, hx1, g4, hx2, g5])
                  · intro g5
                    try simp +decide only [go_sem, ↓reduceIte, g3, hx1, g4, hx2, g5]
                    refine st_mk () trivial ?_
                    exact le_se (by simp [go_sem, g3, hx1, g4, hx2, g5]) (by simp [go_sem, g3, hx1, g4, hx2, g5])
                · rintro _ _
                  refine tr_condS (b := (cond (decide (x2 < (-9))) true (decide (x2 > 9)))) rfl (by simp +decide only [go_sem, ↓reduceIte, g3, hx1, g4, hx2]) ?_ ?_
                  · intro g6
                    replace hI2 := cond_t g6 hI2
                    refine tr_sreg fun K13 hK13 => ?_
                    try simp +decide only [go_sem, ↓reduceIte, g3, hx1, g4, hx2, g6]
                    refine hK13 _ ?_
                    refine tr_ret ?_
                    try simp +decide only [Post.andThen, Post.inBlock, rangePost, ↓reduceIte]
                    obtain rfl := Option.some.inj hI2
                    have ho := hrt2 _ rfl
                    subst ho
                    replace hI1 := elim_r hI1
                    obtain rfl := Option.some.inj hI1
                    have ho := hrt1 _ rfl
                    subst ho
                    replace hI0 := elim_r hI0
                    obtain rfl := Option.some.inj hI0
                    simp [PG.Fin, resAll, resOf, resV, Try.results29, go_sem, g3, hx1, g4, hx2, g6]
                  · intro g6
                    replace hI2 := cond_f g6 hI2
                    refine tr_skip ?_
                    try simp +decide only [Post.andThen, Post.inBlock, rangePost, ↓reduceIte]
                    obtain rfl := Option.some.inj hI2
                    refine st_mk ((), ()) (by first | rfl | trivial) ?_
                    exact le_se (by simp [go_sem, g3, hx1, g4, hx2, g6]) (by simp [go_sem, g3, hx1, g4, hx2, g6])
            · rintro ⟨u1, m1⟩ e9 ho hle
              try dsimp only at ho hle ⊢
              subst ho
              replace hI1 := elim_l hI1
              refine hK10 _ ?_
              refine tr_le hle ?_
              refine tr_seq_ex (fun _ : Unit => True) (fun _ => SE 54 [(1, .int .i64 p1), (20, .sl 2 (p0.map e_line_Row)), (21, .int .i64 (p0.length : Int)), (22, .int .i64 (k1 : Int)), (52, .bool (cond (decide (x1.f_Most < (-99))) true (decide (x1.f_Most > 99))))] []) ?_ ?_
              · refine tr_reg ?_
                try simp +decide only [go_sem, ↓reduceIte, g3, hx1, g4]
                refine waysl_not ?_ ?_
                · intro g7
                  try simp +decide only [go_sem, ↓reduceIte, g3, hx1, g4, g7]
                  refine st_mk () trivial ?_
                  exact le_se (by simp [go_sem, g3, hx1, g4, g7]) (by simp [go_sem, g3, hx1, g4, g7])
                · intro g7
                  try simp +decide only [go_sem, ↓reduceIte, g3, hx1, g4, g7]
                  refine st_mk () trivial ?_
                  exact le_se (by simp [go_sem, g3, hx1, g4, g7]) (by simp [go_sem, g3, hx1, g4, g7])
              · rintro _ _
                refine tr_condS (b := (cond (decide (x1.f_Most < (-99))) true (decide (x1.f_Most > 99)))) rfl (by simp +decide only [go_sem, ↓reduceIte, g3, hx1, g4]) ?_ ?_
                · intro g8
                  replace hI1 := cond_t g8 hI1
                  refine tr_sreg fun K14 hK14 => ?_
                  try simp +decide only [go_sem, ↓reduceIte, g3, hx1, g4, g8]
                  refine hK14 _ ?_
                  refine tr_ret ?_
                  try simp +decide only [Post.andThen, Post.inBlock, rangePost, ↓reduceIte]
                  obtain rfl := Option.some.inj hI1
                  have ho := hrt1 _ rfl
                  subst ho
                  replace hI0 := elim_r hI0
                  obtain rfl := Option.some.inj hI0
                  simp [PG.Fin, resAll, resOf, resV, Try.results29, go_sem, g3, hx1, g4, g8]
                · intro g8
                  replace hI1 := cond_f g8 hI1
                  refine tr_skip ?_
                  try simp +decide only [Post.andThen, Post.inBlock, rangePost, ↓reduceIte]
                  obtain rfl := Option.some.inj hI1
                  refine st_mk ((), ()) (by first | rfl | trivial) ?_
                  exact le_se (by simp [go_sem, g3, hx1, g4, g8]) (by simp [go_sem, g3, hx1, g4, g8])
      · rintro ⟨u2, m2⟩ e9 ho hle
        try dsimp only at ho hle ⊢
        subst ho
        replace hI0 := elim_l hI0
        refine hK4 _ ?_
        refine tr_le hle ?_
        refine tr_sreg fun K15 hK15 => ?_
        try simp +decide only [go_sem, ↓reduceIte, g3]
        refine hK15 _ ?_
        refine tr_ret ?_
        try simp +decide only [Post.andThen, Post.inBlock, rangePost, ↓reduceIte]
        obtain rfl := Option.some.inj hI0
        simp [PG.Fin, resAll, resOf, resV, Try.results29, go_sem, g3]

-- slices.Clone[[]int,int]
def slices_Clone_int (p0 : (List Int)) : Option (List Int) := some p0
theorem slices_Clone_int_pc (p0 : (List Int)) (R : (List Int)) (hI0 : slices_Clone_int p0 = some R) : PC Try.prog 18 [.sl 1 (p0.map (V.int .i64))] (.sl 1 (R.map (V.int .i64))) := by
  obtain rfl := Option.some.inj hI0
  refine pc_se Try.func18 rfl (by kernel_rfl) 8 rfl (by simp) ?_
  show Tr _ _ (SE 8 [(0, .sl 1 (p0.map (V.int .i64)))] []) _
  refine tr_sreg fun K1 hK1 => ?_
  simp +decide only [go_sem, ↓reduceIte]
  refine hK1 _ ?_
  refine tr_lim_sl (t := 0) (sz := 1) (l := p0.map (V.int .i64)) (by simp +decide only [go_sem, ↓reduceIte]) rfl fun hlim => ?_
  rw [List.length_map] at hlim
  cases p0 with
  | nil =>
    refine tr_nilqS 0 1 (by simp +decide only [go_sem, ↓reduceIte]) rfl ?_ ?_
    · refine tr_seq_k fun K3 hK3 => ?_
      refine tr_sreg fun K2 hK2 => ?_
      simp +decide only [go_sem, ↓reduceIte]
      refine hK2 _ ?_
      refine tr_cond_t (by simp +decide only [go_sem, ↓reduceIte]) ?_
      refine tr_sreg fun K4 hK4 => ?_
      simp +decide only [go_sem, ↓reduceIte]
      refine hK4 _ ?_
      refine tr_le (e' := SE 8 [(2, .sl 1 [])] []) (le_se (by simp [go_sem]) (by simp [go_sem])) ?_
      refine tr_ret ?_
      simp [PG.Fin, Post.andThen, resAll, resOf, resV, Try.results18, go_sem]
    · refine tr_seq_k fun K3 hK3 => ?_
      refine tr_sreg fun K2 hK2 => ?_
      simp +decide only [go_sem, ↓reduceIte]
      refine hK2 _ ?_
      refine tr_cond_f (by simp +decide only [go_sem, ↓reduceIte]) ?_
      refine tr_skip ?_
      refine hK3 _ ?_
      refine tr_sreg fun K4 hK4 => ?_
      simp +decide only [go_sem, ↓reduceIte]
      refine hK4 _ ?_
      refine tr_ret ?_
      simp [PG.Fin, Post.andThen, resAll, resOf, resV, Try.results18, go_sem]
  | cons a p0 =>
    refine tr_seq_k fun K3 hK3 => ?_
    refine tr_sreg fun K2 hK2 => ?_
    simp +decide only [go_sem, ↓reduceIte]
    refine hK2 _ ?_
    refine tr_cond_f (by simp +decide only [go_sem, ↓reduceIte]) ?_
    refine tr_skip ?_
    refine hK3 _ ?_
    refine tr_sreg fun K4 hK4 => ?_
    have hlim' : (0 : Nat) + (p0.length + 1) ≤ LIM := by simpa using hlim
    have hlim2 : p0.length + 1 ≤ LIM := by simpa using hlim
    simp +decide only [go_sem, ↓reduceIte, hlim', hlim2]
    refine hK4 _ ?_
    refine tr_ret ?_
    simp [PG.Fin, Post.andThen, resAll, resOf, resV, Try.results18, go_sem]

-- moothall/line.add
def line_add_b0 (p0 : line_row) (p1 : Int) (p2 : line_row) (p3 : Int) (k1 : Nat) (s1 : (List Int)) : Option (Ctl (List Int) line_row) :=
  (p0.f_Row.f_Coef[k1]?).bind fun x1 =>
  (p2.f_Row.f_Coef[k1]?).bind fun x2 =>
  (chk (s1.length + 1 ≤ LIM)).bind fun _ =>
  some (.nx (s1 ++ [(IntKind.i64.wrap ((IntKind.i64.wrap (p1 * x1)) + (IntKind.i64.wrap (p3 * x2))))]))
def line_add_b2 (p0 : line_row) (p1 : Int) (p2 : line_row) (p3 : Int) (k2 : Nat) (s1 : (List Int)) : Option (Ctl (List Int) line_row) :=
  (p0.f_by[k2]?).bind fun x3 =>
  (p2.f_by[k2]?).bind fun x4 =>
  (chk (s1.length + 1 ≤ LIM)).bind fun _ =>
  some (.nx (s1 ++ [(IntKind.i64.wrap ((IntKind.i64.wrap (p1 * x3)) + (IntKind.i64.wrap (p3 * x4))))]))
def line_add (p0 : line_row) (p1 : Int) (p2 : line_row) (p3 : Int) : Option line_row :=
  (chk ((p0.f_Row.f_Coef.length : Int) ≤ (LIM : Int))).bind fun _ =>
  (forN (line_add_b0 p0 p1 p2 p3) 0 p0.f_Row.f_Coef.length ([] : (List Int))).bind (Sum.elim (fun (u1 : (List Int)) =>
    (chk ((p0.f_by.length : Int) ≤ (LIM : Int))).bind fun _ =>
    (forN (line_add_b2 p0 p1 p2 p3) 0 p0.f_by.length ([] : (List Int))).bind (Sum.elim (fun (u2 : (List Int)) =>
      some (line_row.mk (line_Row.mk u1 (IntKind.i64.wrap ((IntKind.i64.wrap (p1 * p0.f_Row.f_Most)) + (IntKind.i64.wrap (p3 * p2.f_Row.f_Most))))) u2)) some)) some)
theorem line_add_pc (p0 : line_row) (p1 : Int) (p2 : line_row) (p3 : Int) (R : line_row) (hI0 : line_add p0 p1 p2 p3 = some R) : PC Try.prog 49 [.agg [.sl 1 (p0.f_Row.f_Coef.map (V.int .i64)), .int .i64 p0.f_Row.f_Most, .sl 1 (p0.f_by.map (V.int .i64))], .int .i64 p1, .agg [.sl 1 (p2.f_Row.f_Coef.map (V.int .i64)), .int .i64 p2.f_Row.f_Most, .sl 1 (p2.f_by.map (V.int .i64))], .int .i64 p3] (e_line_row R) := by
  unfold line_add at hI0
  refine pc_se Try.func49 rfl (by kernel_rfl) 85 rfl (by simp) ?_
  show Tr _ _ (SE 85 [(0, .agg [.sl 1 (p0.f_Row.f_Coef.map (V.int .i64)), .int .i64 p0.f_Row.f_Most, .sl 1 (p0.f_by.map (V.int .i64))]), (1, .int .i64 p1), (2, .agg [.sl 1 (p2.f_Row.f_Coef.map (V.int .i64)), .int .i64 p2.f_Row.f_Most, .sl 1 (p2.f_by.map (V.int .i64))]), (3, .int .i64 p3)] []) _
  refine tr_sreg fun K1 hK1 => ?_
  try simp +decide only [go_sem, ↓reduceIte]
  refine hK1 _ ?_
  refine tr_sreg fun K2 hK2 => ?_
  try simp +decide only [go_sem, ↓reduceIte]
  refine hK2 _ ?_
  refine tr_seq_k fun K3 hK3 => ?_
  refine tr_sreg fun K4 hK4 => ?_
  try simp +decide only [go_sem, ↓reduceIte]
  refine hK4 _ ?_
  obtain ⟨_, cN, hI0⟩ := bind_inv hI0; replace cN := chk_some cN
  obtain ⟨o1, hL1, hI0⟩ := bind_inv hI0
  refine tr_le (le_new_se 1001 0 true 1 (by try simp +decide only [go_sem, ↓reduceIte])) ?_
  try simp +decide only [go_sem, ↓reduceIte]
  refine tr_le (le_obj 9 0 3 true [.agg [.nil, .int .i64 (IntKind.i64.wrap ((IntKind.i64.wrap (p1 * p0.f_Row.f_Most)) + (IntKind.i64.wrap (p3 * p2.f_Row.f_Most)))), .nil]] [.agg [.so 1001 0 1 0 0, .int .i64 (IntKind.i64.wrap ((IntKind.i64.wrap (p1 * p0.f_Row.f_Most)) + (IntKind.i64.wrap (p3 * p2.f_Row.f_Most)))), .nil]] (by try simp +decide only [go_sem, ↓reduceIte]) (by simp [objLe, cellsLe, V.cells])) ?_
  try simp +decide only [go_sem, ↓reduceIte]
  refine tr_tail_ex (fun (i : (List Int) × Nat) => o1 = .inl i.1) (fun i => SE 85 ((fun (i : (List Int) × Nat) => [(1, .int .i64 p1), (3, .int .i64 p3), (4, .ep 4 0 3 0 0), (6, .ep 6 0 3 0 0), (8, .ep 8 0 3 0 0), (9, .ep 9 0 3 0 0)]) i) ((fun (i : (List Int) × Nat) => [(4, .arr 0 true 3 [.agg [.sl 1 (p0.f_Row.f_Coef.map (V.int .i64)), .int .i64 p0.f_Row.f_Most, .sl 1 (p0.f_by.map (V.int .i64))]]), (6, .arr 0 true 3 [.agg [.sl 1 (p2.f_Row.f_Coef.map (V.int .i64)), .int .i64 p2.f_Row.f_Most, .sl 1 (p2.f_by.map (V.int .i64))]]), (8, .arr 0 true 3 [.agg [.nil, .int .i64 0, .nil]]), (9, .arr 0 false 3 [.agg [.so 1001 i.2 1 0 i.1.length, .int .i64 (IntKind.i64.wrap ((IntKind.i64.wrap (p1 * p0.f_Row.f_Most)) + (IntKind.i64.wrap (p3 * p2.f_Row.f_Most)))), .nil]]), (1001, .arr i.2 true 1 (i.1.map (V.int .i64)))]) i)) ?_ ?_
  · refine tr_forN (N := p0.f_Row.f_Coef.length) (Nz := (p0.f_Row.f_Coef.length : Int)) (by simp) 85 (fun i => i.1) (fun (i : (List Int) × Nat) => [(1, .int .i64 p1), (3, .int .i64 p3), (4, .ep 4 0 3 0 0), (6, .ep 6 0 3 0 0), (8, .ep 8 0 3 0 0), (9, .ep 9 0 3 0 0)]) (fun (i : (List Int) × Nat) => [(4, .arr 0 true 3 [.agg [.sl 1 (p0.f_Row.f_Coef.map (V.int .i64)), .int .i64 p0.f_Row.f_Most, .sl 1 (p0.f_by.map (V.int .i64))]]), (6, .arr 0 true 3 [.agg [.sl 1 (p2.f_Row.f_Coef.map (V.int .i64)), .int .i64 p2.f_Row.f_Most, .sl 1 (p2.f_by.map (V.int .i64))]]), (8, .arr 0 true 3 [.agg [.nil, .int .i64 0, .nil]]), (9, .arr 0 false 3 [.agg [.so 1001 i.2 1 0 i.1.length, .int .i64 (IntKind.i64.wrap ((IntKind.i64.wrap (p1 * p0.f_Row.f_Most)) + (IntKind.i64.wrap (p3 * p2.f_Row.f_Most)))), .nil]]), (1001, .arr i.2 true 1 (i.1.map (V.int .i64)))]) (([] : (List Int)), 0) hL1 ?_ ?_ ?_ ?_ ?_ ?_ ?_
    · omega
    · first | exact .inl rfl | exact .inr rfl
    · decide
    · decide
    · intro i; simp [aget]
    · exact le_se (by simp [go_sem]) (by simp [go_sem])
    · rintro k1 ⟨s1, n1⟩ ctl1 hk1 hq1 hI1 hbk1 hrt1
      try dsimp only at hI1 ⊢
      unfold line_add_b0 at hI1
      refine tr_sreg fun K5 hK5 => ?_
      try simp +decide only [go_sem, ↓reduceIte]
      refine hK5 _ ?_
      refine drawT mixA (by kernel_rfl) (by kernel_rfl) ?_
      obtain ⟨x1, hx1, hI1⟩ := bind_inv hI1
      have hx1b : (k1 : Int) < (p0.f_Row.f_Coef.length : Nat) := by simpa using get_lt hx1
      obtain ⟨x2, hx2, hI1⟩ := bind_inv hI1
      have hx2b : (k1 : Int) < (p2.f_Row.f_Coef.length : Nat) := by simpa using get_lt hx2
      obtain ⟨_, c1, hI1⟩ := bind_inv hI1; replace c1 := chk_some c1
      try simp +decide only [go_sem, ↓reduceIte, hx1, hx1b, hx2, hx2b, c1]
      refine dn_mk (by kernel_rfl) ?_
      obtain rfl := Option.some.inj hI1
      refine st_mk ((s1 ++ [(IntKind.i64.wrap ((IntKind.i64.wrap (p1 * x1)) + (IntKind.i64.wrap (p3 * x2))))]), (n1 + 1)) (by first | rfl | trivial) ?_
      exact le_se (by simp [go_sem, hx1, hx1b, hx2, hx2b, c1]) (by simp [go_sem, hx1, hx1b, hx2, hx2b, c1])
  · rintro ⟨u1, m1⟩ e9 ho hle
    try dsimp only at ho hle ⊢
    subst ho
    replace hI0 := elim_l hI0
    refine hK3 _ ?_
    refine tr_le hle ?_
    refine tr_seq_k fun K7 hK7 => ?_
    refine tr_sreg fun K8 hK8 => ?_
    try simp +decide only [go_sem, ↓reduceIte]
    refine hK8 _ ?_
    obtain ⟨_, cN, hI0⟩ := bind_inv hI0; replace cN := chk_some cN
    obtain ⟨o2, hL2, hI0⟩ := bind_inv hI0
    refine tr_le (le_new_se 1002 0 true 1 (by try simp +decide only [go_sem, ↓reduceIte])) ?_
    try simp +decide only [go_sem, ↓reduceIte]
    refine tr_le (le_obj 9 0 3 false [.agg [.so 1001 m1 1 0 u1.length, .int .i64 (IntKind.i64.wrap ((IntKind.i64.wrap (p1 * p0.f_Row.f_Most)) + (IntKind.i64.wrap (p3 * p2.f_Row.f_Most)))), .nil]] [.agg [.so 1001 m1 1 0 u1.length, .int .i64 (IntKind.i64.wrap ((IntKind.i64.wrap (p1 * p0.f_Row.f_Most)) + (IntKind.i64.wrap (p3 * p2.f_Row.f_Most)))), .so 1002 0 1 0 0]] (by try simp +decide only [go_sem, ↓reduceIte]) (by simp [objLe, cellsLe, V.cells])) ?_
    try simp +decide only [go_sem, ↓reduceIte]
    refine tr_tail_ex (fun (i : (List Int) × Nat) => o2 = .inl i.1) (fun i => SE 85 ((fun (i : (List Int) × Nat) => [(1, .int .i64 p1), (3, .int .i64 p3), (4, .ep 4 0 3 0 0), (6, .ep 6 0 3 0 0), (8, .ep 8 0 3 0 0), (9, .ep 9 0 3 0 0)]) i) ((fun (i : (List Int) × Nat) => [(4, .arr 0 true 3 [.agg [.sl 1 (p0.f_Row.f_Coef.map (V.int .i64)), .int .i64 p0.f_Row.f_Most, .sl 1 (p0.f_by.map (V.int .i64))]]), (6, .arr 0 true 3 [.agg [.sl 1 (p2.f_Row.f_Coef.map (V.int .i64)), .int .i64 p2.f_Row.f_Most, .sl 1 (p2.f_by.map (V.int .i64))]]), (8, .arr 0 true 3 [.agg [.nil, .int .i64 0, .nil]]), (9, .arr 0 false 3 [.agg [.so 1001 m1 1 0 u1.length, .int .i64 (IntKind.i64.wrap ((IntKind.i64.wrap (p1 * p0.f_Row.f_Most)) + (IntKind.i64.wrap (p3 * p2.f_Row.f_Most)))), .so 1002 i.2 1 0 i.1.length]]), (1001, .arr m1 true 1 (u1.map (V.int .i64))), (1002, .arr i.2 true 1 (i.1.map (V.int .i64)))]) i)) ?_ ?_
    · refine tr_forN (N := p0.f_by.length) (Nz := (p0.f_by.length : Int)) (by simp) 85 (fun i => i.1) (fun (i : (List Int) × Nat) => [(1, .int .i64 p1), (3, .int .i64 p3), (4, .ep 4 0 3 0 0), (6, .ep 6 0 3 0 0), (8, .ep 8 0 3 0 0), (9, .ep 9 0 3 0 0)]) (fun (i : (List Int) × Nat) => [(4, .arr 0 true 3 [.agg [.sl 1 (p0.f_Row.f_Coef.map (V.int .i64)), .int .i64 p0.f_Row.f_Most, .sl 1 (p0.f_by.map (V.int .i64))]]), (6, .arr 0 true 3 [.agg [.sl 1 (p2.f_Row.f_Coef.map (V.int .i64)), .int .i64 p2.f_Row.f_Most, .sl 1 (p2.f_by.map (V.int .i64))]]), (8, .arr 0 true 3 [.agg [.nil, .int .i64 0, .nil]]), (9, .arr 0 false 3 [.agg [.so 1001 m1 1 0 u1.length, .int .i64 (IntKind.i64.wrap ((IntKind.i64.wrap (p1 * p0.f_Row.f_Most)) + (IntKind.i64.wrap (p3 * p2.f_Row.f_Most)))), .so 1002 i.2 1 0 i.1.length]]), (1001, .arr m1 true 1 (u1.map (V.int .i64))), (1002, .arr i.2 true 1 (i.1.map (V.int .i64)))]) (([] : (List Int)), 0) hL2 ?_ ?_ ?_ ?_ ?_ ?_ ?_
      · omega
      · first | exact .inl rfl | exact .inr rfl
      · decide
      · decide
      · intro i; simp [aget]
      · exact le_se (by simp [go_sem]) (by simp [go_sem])
      · rintro k2 ⟨s1, n1⟩ ctl1 hk2 hq2 hI1 hbk1 hrt1
        try dsimp only at hI1 ⊢
        unfold line_add_b2 at hI1
        refine tr_sreg fun K9 hK9 => ?_
        try simp +decide only [go_sem, ↓reduceIte]
        refine hK9 _ ?_
        refine drawT mixA (by kernel_rfl) (by kernel_rfl) ?_
        obtain ⟨x3, hx3, hI1⟩ := bind_inv hI1
        have hx3b : (k2 : Int) < (p0.f_by.length : Nat) := by simpa using get_lt hx3
        obtain ⟨x4, hx4, hI1⟩ := bind_inv hI1
        have hx4b : (k2 : Int) < (p2.f_by.length : Nat) := by simpa using get_lt hx4
        obtain ⟨_, c2, hI1⟩ := bind_inv hI1; replace c2 := chk_some c2
        try simp +decide only [go_sem, ↓reduceIte, hx3, hx3b, hx4, hx4b, c2]
        refine dn_mk (by kernel_rfl) ?_
        obtain rfl := Option.some.inj hI1
        refine st_mk ((s1 ++ [(IntKind.i64.wrap ((IntKind.i64.wrap (p1 * x3)) + (IntKind.i64.wrap (p3 * x4))))]), (n1 + 1)) (by first | rfl | trivial) ?_
        exact le_se (by simp [go_sem, hx3, hx3b, hx4, hx4b, c2]) (by simp [go_sem, hx3, hx3b, hx4, hx4b, c2])
    · rintro ⟨u2, m2⟩ e9 ho hle
      try dsimp only at ho hle ⊢
      subst ho
      replace hI0 := elim_l hI0
      refine hK7 _ ?_
      refine tr_le hle ?_
      refine tr_sreg fun K11 hK11 => ?_
      try simp +decide only [go_sem, ↓reduceIte]
      refine hK11 _ ?_
      refine tr_ret ?_
      try simp +decide only [Post.andThen, Post.inBlock, rangePost, ↓reduceIte]
      obtain rfl := Option.some.inj hI0
      simp [PG.Fin, resAll, resOf, resV, Try.results49, go_sem]

-- moothall/line.without
def line_without_b3 (p1 : Int) (x1 : line_row) (x2 : Int) (k2 : Nat) (x3 : line_row) (s2 : (List line_row)) : Option (Ctl (List line_row) (Ctl (List line_row) (List line_row))) :=
  (idx x3.f_Row.f_Coef p1).bind fun x4 =>
  cond (decide (x4 < 0))
    ((line_add x1 (IntKind.i64.wrap (0 - x4)) x3 x2).bind fun r1 =>
    (chk (s2.length + 1 ≤ LIM)).bind fun _ =>
    some (.nx (s2 ++ [r1])))
    (some (.nx s2))
def line_without_b0 (p0 : (List line_row)) (p1 : Int) (k1 : Nat) (x1 : line_row) (s1 : (List line_row)) : Option (Ctl (List line_row) (List line_row)) :=
  (idx x1.f_Row.f_Coef p1).bind fun x2 =>
  cond (x2 == 0)
    ((chk (s1.length + 1 ≤ LIM)).bind fun _ =>
    some (.nx (s1 ++ [x1])))
    (cond (decide (x2 > 0))
      ((forL (line_without_b3 p1 x1 x2) 0 p0 s1).bind (Sum.elim (fun (u1 : (List line_row)) =>
        some (.nx u1)) some))
      (some (.nx s1)))
def line_without (p0 : (List line_row)) (p1 : Int) : Option (List line_row) :=
  (forL (line_without_b0 p0 p1) 0 p0 ([] : (List line_row))).bind (Sum.elim (fun (u2 : (List line_row)) =>
    some u2) some)
theorem line_without_pc (p0 : (List line_row)) (p1 : Int) (R : (List line_row)) (hI0 : line_without p0 p1 = some R) : PC Try.prog 35 [.sl 3 (p0.map e_line_row), .int .i64 p1] (.sl 3 (R.map e_line_row)) := by
  unfold line_without at hI0
  refine pc_se Try.func35 rfl (by kernel_rfl) 63 rfl (by simp) ?_
  show Tr _ _ (SE 63 [(0, .sl 3 (p0.map e_line_row)), (1, .int .i64 p1)] []) _
  refine tr_sreg fun K1 hK1 => ?_
  try simp +decide only [go_sem, ↓reduceIte]
  refine hK1 _ ?_
  refine tr_sreg fun K2 hK2 => ?_
  try simp +decide only [go_sem, ↓reduceIte]
  refine hK2 _ ?_
  refine tr_seq_k fun K3 hK3 => ?_
  refine tr_sreg fun K4 hK4 => ?_
  try simp +decide only [go_sem, ↓reduceIte]
  refine hK4 _ ?_
  obtain ⟨o2, hL2, hI0⟩ := bind_inv hI0
  refine tr_le (le_new_se 1002 0 true 3 (by try simp +decide only [go_sem, ↓reduceIte])) ?_
  try simp +decide only [go_sem, ↓reduceIte]
  refine tr_tail_ex (fun (i : (List line_row) × Nat) => o2 = .inl i.1) (fun i => SE 63 ((fun (i : (List line_row) × Nat) => [(0, .sl 3 (p0.map e_line_row)), (1, .int .i64 p1), (5, .so 1002 i.2 3 0 i.1.length), (11, .sl 3 (p0.map e_line_row))]) i) ((fun (i : (List line_row) × Nat) => [(1002, .arr i.2 true 3 (i.1.map e_line_row))]) i)) ?_ ?_
  · refine tr_lim_sl (t := 0) (sz := 3) (l := p0.map e_line_row) (by try simp +decide only [go_sem, ↓reduceIte]) rfl fun hlim => ?_
    refine tr_forL 63 (fun i => i.1) (fun (i : (List line_row) × Nat) => [(0, .sl 3 (p0.map e_line_row)), (1, .int .i64 p1), (5, .so 1002 i.2 3 0 i.1.length), (11, .sl 3 (p0.map e_line_row))]) (fun (i : (List line_row) × Nat) => [(1002, .arr i.2 true 3 (i.1.map e_line_row))]) (([] : (List line_row)), 0) hL2 ?_ ?_ ?_ ?_ ?_ ?_ ?_
    · simpa using hlim
    · first | exact .inl rfl | exact .inr rfl
    · decide
    · decide
    · intro i; simp [aget]
    · exact le_se (by simp [go_sem]) (by simp [go_sem])
    · rintro k1 x1 ⟨s1, n1⟩ ctl1 hx1 hq1 hI1 hbk1 hrt1
      try dsimp only at hI1 ⊢
      unfold line_without_b0 at hI1
      refine tr_sreg fun K5 hK5 => ?_
      try simp +decide only [go_sem, ↓reduceIte, hx1]
      refine hK5 _ ?_
      refine tr_sreg fun K6 hK6 => ?_
      obtain ⟨x2, hx2, hI1⟩ := bind_inv hI1
      have hx2l : p1 < ((x1.f_Row.f_Coef.length : Nat) : Int) := by simpa using idx_below hx2
      obtain ⟨hx2a, hx2b⟩ := idx_some hx2; clear hx2
      try simp +decide only [go_sem, ↓reduceIte, hx1, hx2a, hx2b, hx2l]
      refine hK6 _ ?_
      refine tr_block ?_
      refine tr_sreg fun K7 hK7 => ?_
      try simp +decide only [go_sem, ↓reduceIte, hx1, hx2a, hx2b, hx2l]
      refine hK7 _ ?_
      refine tr_condS (b := (x2 == 0)) rfl (by simp +decide only [go_sem, ↓reduceIte, hx1, hx2a, hx2b, hx2l]) ?_ ?_
      · intro g1
        replace hI1 := cond_t g1 hI1
        refine tr_reg ?_
        obtain ⟨_, c1, hI1⟩ := bind_inv hI1; replace c1 := chk_some c1
        try simp +decide only [go_sem, ↓reduceIte, hx1, hx2a, hx2b, hx2l, g1, c1]
        obtain rfl := Option.some.inj hI1
        refine st_mk ((s1 ++ [x1]), (n1 + 1)) (by first | rfl | trivial) ?_
        exact le_se (by simp [go_sem, hx1, hx2a, hx2b, hx2l, g1, c1]) (by simp [go_sem, hx1, hx2a, hx2b, hx2l, g1, c1])
      · intro g1
        replace hI1 := cond_f g1 hI1
        refine tr_sreg fun K9 hK9 => ?_
        try simp +decide only [go_sem, ↓reduceIte, hx1, hx2a, hx2b, hx2l, g1]
        refine hK9 _ ?_
        refine tr_condS (b := (decide (x2 > 0))) rfl (by simp +decide only [go_sem, ↓reduceIte, hx1, hx2a, hx2b, hx2l, g1]) ?_ ?_
        · intro g2
          replace hI1 := cond_t g2 hI1
          refine tr_sreg fun K10 hK10 => ?_
          try simp +decide only [go_sem, ↓reduceIte, hx1, hx2a, hx2b, hx2l, g1, g2]
          refine hK10 _ ?_
          obtain ⟨o1, hL1, hI1⟩ := bind_inv hI1
          refine tr_tail_ex (fun (i : (List line_row) × Nat) => o1 = .inl i.1) (fun i => SE 63 ((fun (i : (List line_row) × Nat) => [(0, .sl 3 (p0.map e_line_row)), (1, .int .i64 p1), (5, .so 1002 i.2 3 0 i.1.length), (7, .ep 7 0 3 0 0), (8, .int .i64 x2), (11, .sl 3 (p0.map e_line_row)), (12, .int .i64 (p0.length : Int)), (13, .int .i64 (k1 : Int)), (33, .sl 3 (p0.map e_line_row))]) i) ((fun (i : (List line_row) × Nat) => [(7, .arr 0 true 3 [.agg [.sl 1 (x1.f_Row.f_Coef.map (V.int .i64)), .int .i64 x1.f_Row.f_Most, .sl 1 (x1.f_by.map (V.int .i64))]]), (1002, .arr i.2 true 3 (i.1.map e_line_row))]) i)) ?_ ?_
          · refine tr_lim_sl (t := 0) (sz := 3) (l := p0.map e_line_row) (by try simp +decide only [go_sem, ↓reduceIte, hx1, hx2a, hx2b, hx2l, g1, g2]) rfl fun hlim => ?_
            refine tr_forL 63 (fun i => i.1) (fun (i : (List line_row) × Nat) => [(0, .sl 3 (p0.map e_line_row)), (1, .int .i64 p1), (5, .so 1002 i.2 3 0 i.1.length), (7, .ep 7 0 3 0 0), (8, .int .i64 x2), (11, .sl 3 (p0.map e_line_row)), (12, .int .i64 (p0.length : Int)), (13, .int .i64 (k1 : Int)), (33, .sl 3 (p0.map e_line_row))]) (fun (i : (List line_row) × Nat) => [(7, .arr 0 true 3 [.agg [.sl 1 (x1.f_Row.f_Coef.map (V.int .i64)), .int .i64 x1.f_Row.f_Most, .sl 1 (x1.f_by.map (V.int .i64))]]), (1002, .arr i.2 true 3 (i.1.map e_line_row))]) (s1, n1) hL1 ?_ ?_ ?_ ?_ ?_ ?_ ?_
            · simpa using hlim
            · first | exact .inl rfl | exact .inr rfl
            · decide
            · decide
            · intro i; simp [aget]
            · exact le_se (by simp [go_sem, hx1, hx2a, hx2b, hx2l, g1, g2]) (by simp [go_sem, hx1, hx2a, hx2b, hx2l, g1, g2])
            · rintro k2 x3 ⟨s2, n2⟩ ctl2 hx3 hq2 hI2 hbk2 hrt2
              try dsimp only at hI2 ⊢
              unfold line_without_b3 at hI2
              refine tr_sreg fun K11 hK11 => ?_
              try simp +decide only [go_sem, ↓reduceIte, hx1, hx2a, hx2b, hx2l, g1, g2, hx3]
              refine hK11 _ ?_
              refine tr_sreg fun K12 hK12 => ?_
              obtain ⟨x4, hx4, hI2⟩ := bind_inv hI2
              have hx4l : p1 < ((x3.f_Row.f_Coef.length : Nat) : Int) := by simpa using idx_below hx4
              obtain ⟨hx4a, hx4b⟩ := idx_some hx4; clear hx4
              try simp +decide only [go_sem, ↓reduceIte, hx1, hx2a, hx2b, hx2l, g1, g2, hx3, hx4a, hx4b, hx4l]
              refine hK12 _ ?_
              refine tr_condS (b := (decide (x4 < 0))) rfl (by simp +decide only [go_sem, ↓reduceIte, hx1, hx2a, hx2b, hx2l, g1, g2, hx3, hx4a, hx4b, hx4l]) ?_ ?_
              · intro g3
                replace hI2 := cond_t g3 hI2
                refine drawT mixA (by kernel_rfl) (by kernel_rfl) ?_
                try simp +decide only [go_sem, ↓reduceIte, hx1, hx2a, hx2b, hx2l, g1, g2, hx3, hx4a, hx4b, hx4l, g3]
                obtain ⟨r1, hr1, hI2⟩ := bind_inv hI2
                refine evi_callS (caps := []) (line_add_pc x1 (IntKind.i64.wrap (0 - x4)) x3 x2 _ hr1) (by simp +decide only [go_sem, ↓reduceIte, hx1, hx2a, hx2b, hx2l, g1, g2, hx3, hx4a, hx4b, hx4l, g3]) ?_
                obtain ⟨_, c2, hI2⟩ := bind_inv hI2; replace c2 := chk_some c2
                try simp +decide only [go_sem, ↓reduceIte, hx1, hx2a, hx2b, hx2l, g1, g2, hx3, hx4a, hx4b, hx4l, g3, c2]
                refine dn_mk (by kernel_rfl) ?_
                obtain rfl := Option.some.inj hI2
                refine st_mk ((s2 ++ [r1]), (n2 + 1)) (by first | rfl | trivial) ?_
                exact le_se (by simp [go_sem, hx1, hx2a, hx2b, hx2l, g1, g2, hx3, hx4a, hx4b, hx4l, g3, c2]) (by simp [go_sem, hx1, hx2a, hx2b, hx2l, g1, g2, hx3, hx4a, hx4b, hx4l, g3, c2])
              · intro g3
                replace hI2 := cond_f g3 hI2
                refine tr_skip ?_
                try simp +decide only [Post.andThen, Post.inBlock, rangePost, ↓reduceIte]
                obtain rfl := Option.some.inj hI2
                refine st_mk (s2, n2) (by first | rfl | trivial) ?_
                exact le_se (by simp [go_sem, hx1, hx2a, hx2b, hx2l, g1, g2, hx3, hx4a, hx4b, hx4l, g3]) (by simp [go_sem, hx1, hx2a, hx2b, hx2l, g1, g2, hx3, hx4a, hx4b, hx4l, g3])
          · rintro ⟨u1, m1⟩ e9 ho hle
            try dsimp only at ho hle ⊢
            subst ho
            replace hI1 := elim_l hI1
            obtain rfl := Option.some.inj hI1
            refine st_mk (u1, m1) (by first | rfl | trivial) ?_
            refine Le.trans hle ?_
            exact le_se (by simp [go_sem, hx1, hx2a, hx2b, hx2l, g1, g2]) (by simp [go_sem, hx1, hx2a, hx2b, hx2l, g1, g2])
        · intro g2
          replace hI1 := cond_f g2 hI1
          refine tr_skip ?_
          try simp +decide only [Post.andThen, Post.inBlock, rangePost, ↓reduceIte]
          obtain rfl := Option.some.inj hI1
          refine st_mk (s1, n1) (by first | rfl | trivial) ?_
          exact le_se (by simp [go_sem, hx1, hx2a, hx2b, hx2l, g1, g2]) (by simp [go_sem, hx1, hx2a, hx2b, hx2l, g1, g2])
  · rintro ⟨u2, m2⟩ e9 ho hle
    try dsimp only at ho hle ⊢
    subst ho
    replace hI0 := elim_l hI0
    refine hK3 _ ?_
    refine tr_le hle ?_
    refine tr_sreg fun K14 hK14 => ?_
    try simp +decide only [go_sem, ↓reduceIte]
    refine hK14 _ ?_
    refine tr_ret ?_
    try simp +decide only [Post.andThen, Post.inBlock, rangePost, ↓reduceIte]
    obtain rfl := Option.some.inj hI0
    simp [PG.Fin, resAll, resOf, resV, Try.results35, go_sem]

-- moothall/line.common
def line_common_b0 (s1 : (Int × Int)) : Option (Ctl (Int × Int) Int) :=
  cond (s1.2 != 0)
    ((chk (¬ s1.2 = 0)).bind fun _ =>
    some (.nx (s1.2, (s1.1.tmod s1.2))))
    (some (.bk (s1.1, s1.2)))
def line_common (fu : Nat) (p0 : Int) (p1 : Int) : Option Int :=
  (whL line_common_b0 fu (p0, p1)).bind (Sum.elim (fun (u1 : (Int × Int)) =>
    some u1.1) some)
theorem line_common_pc (fu : Nat) (p0 : Int) (p1 : Int) (R : Int) (hI0 : line_common fu p0 p1 = some R) : PC Try.prog 37 [.int .i64 p0, .int .i64 p1] (.int .i64 R) := by
  unfold line_common at hI0
  refine pc_se Try.func37 rfl (by kernel_rfl) 12 rfl (by simp) ?_
  show Tr _ _ (SE 12 [(0, .int .i64 p0), (1, .int .i64 p1)] []) _
  refine tr_sreg fun K1 hK1 => ?_
  try simp +decide only [go_sem, ↓reduceIte]
  refine hK1 _ ?_
  obtain ⟨o1, hL1, hI0⟩ := bind_inv hI0
  refine tr_seq_ex (fun (i : (Int × Int) × Unit) => o1 = .inl i.1) (fun i => SE 12 ((fun (i : (Int × Int) × Unit) => [(0, .int .i64 i.1.1), (1, .int .i64 i.1.2)]) i) ((fun (i : (Int × Int) × Unit) => []) i)) ?_ ?_
  · refine tr_whL (fun i => i.1) (fun i => SE 12 ((fun (i : (Int × Int) × Unit) => [(0, .int .i64 i.1.1), (1, .int .i64 i.1.2)]) i) ((fun (i : (Int × Int) × Unit) => []) i)) ((p0, p1), ()) hL1 ?_ ?_
    · exact le_se (by simp [go_sem]) (by simp [go_sem])
    · rintro ⟨s1, n1⟩ ctl1  hI1 hbk1 hrt1
      try dsimp only at hI1 ⊢
      unfold line_common_b0 at hI1
      refine tr_seq_k fun K2 hK2 => ?_
      refine tr_sreg fun K3 hK3 => ?_
      try simp +decide only [go_sem, ↓reduceIte]
      refine hK3 _ ?_
      refine tr_condS (b := (s1.2 != 0)) rfl (by simp +decide only [go_sem, ↓reduceIte]) ?_ ?_
      · intro g1
        replace hI1 := cond_t g1 hI1
        refine tr_skip ?_
        try simp +decide only [Post.andThen, Post.inBlock, rangePost, ↓reduceIte]
        refine hK2 _ ?_
        refine tr_block ?_
        refine drawT mixA (by kernel_rfl) (by kernel_rfl) ?_
        obtain ⟨_, c1, hI1⟩ := bind_inv hI1; replace c1 := chk_some c1
        try simp +decide only [go_sem, ↓reduceIte, g1, c1]
        refine dn_mk (by kernel_rfl) ?_
        obtain rfl := Option.some.inj hI1
        refine st_mk ((s1.2, (s1.1.tmod s1.2)), ()) (by first | rfl | trivial) ?_
        exact le_se (by simp [go_sem, g1, c1]) (by simp [go_sem, g1, c1])
      · intro g1
        replace hI1 := cond_f g1 hI1
        refine tr_exit ?_
        try simp +decide only [Post.andThen, Post.inBlock, rangePost, ↓reduceIte]
        obtain rfl := Option.some.inj hI1
        refine st_mk ((s1.1, s1.2), ()) (hbk1 _ rfl) ?_
        exact le_se (by simp [go_sem, g1]) (by simp [go_sem, g1])
  · rintro ⟨u1, m1⟩ ho
    try dsimp only at ho ⊢
    subst ho
    replace hI0 := elim_l hI0
    refine tr_sreg fun K5 hK5 => ?_
    try simp +decide only [go_sem, ↓reduceIte]
    refine hK5 _ ?_
    refine tr_ret ?_
    try simp +decide only [Post.andThen, Post.inBlock, rangePost, ↓reduceIte]
    obtain rfl := Option.some.inj hI0
    simp [PG.Fin, resAll, resOf, resV, Try.results37, go_sem]

-- moothall/line.lowest
def line_lowest (fu : Nat) (p0 : Int) (p1 : Int) : Option line_frac :=
  ((
    cond (decide (p1 < 0))
      (some ((IntKind.i64.wrap (0 - p0)), (IntKind.i64.wrap (0 - p1))))
      (some (p0, p1))) : Option (Int × Int)).bind fun (u1 : (Int × Int)) =>
  (line_common fu (if (IntKind.i64.wrap (0 - u1.1)) > u1.1 then (IntKind.i64.wrap (0 - u1.1)) else u1.1) u1.2).bind fun r1 =>
  (chk (¬ r1 = 0)).bind fun _ =>
  (chk (¬ r1 = 0)).bind fun _ =>
  some (line_frac.mk (IntKind.i64.wrap (u1.1.tdiv r1)) (IntKind.i64.wrap (u1.2.tdiv r1)))
theorem line_lowest_pc (fu : Nat) (p0 : Int) (p1 : Int) (R : line_frac) (hI0 : line_lowest fu p0 p1 = some R) : PC Try.prog 50 [.int .i64 p0, .int .i64 p1] (e_line_frac R) := by
  unfold line_lowest at hI0
  refine pc_se Try.func50 rfl (by kernel_rfl) 25 rfl (by simp) ?_
  show Tr _ _ (SE 25 [(0, .int .i64 p0), (1, .int .i64 p1)] []) _
  refine tr_sreg fun K1 hK1 => ?_
  try simp +decide only [go_sem, ↓reduceIte]
  refine hK1 _ ?_
  obtain ⟨o1, hI1, hI0⟩ := bind_inv hI0
  refine tr_seq_ex (fun i : (Int × Int) × Unit => o1 = i.1) (fun i => SE 25 [(0, .int .i64 i.1.1), (1, .int .i64 i.1.2), (4, .ep 4 0 2 0 0)] [(4, .arr 0 true 2 [.agg [.int .i64 0, .int .i64 0]])]) ?_ ?_
  · refine tr_sreg fun K2 hK2 => ?_
    try simp +decide only [go_sem, ↓reduceIte]
    refine hK2 _ ?_
    refine tr_condS (b := (decide (p1 < 0))) rfl (by simp +decide only [go_sem, ↓reduceIte]) ?_ ?_
    · intro g1
      replace hI1 := cond_t g1 hI1
      refine tr_reg ?_
      try simp +decide only [go_sem, ↓reduceIte, g1]
      obtain rfl := Option.some.inj hI1
      refine st_mk (((IntKind.i64.wrap (0 - p0)), (IntKind.i64.wrap (0 - p1))), ()) (by first | rfl | trivial) ?_
      exact le_se (by simp [go_sem, g1]) (by simp [go_sem, g1])
    · intro g1
      replace hI1 := cond_f g1 hI1
      refine tr_skip ?_
      try simp +decide only [Post.andThen, Post.inBlock, rangePost, ↓reduceIte]
      obtain rfl := Option.some.inj hI1
      refine st_mk ((p0, p1), ()) (by first | rfl | trivial) ?_
      exact le_se (by simp [go_sem, g1]) (by simp [go_sem, g1])
  · rintro ⟨u1, m1⟩ ho
    try dsimp only at ho ⊢
    subst o1
    refine tr_sreg fun K4 hK4 => ?_
    try simp +decide only [go_sem, ↓reduceIte]
    obtain ⟨r1, hr1, hI0⟩ := bind_inv hI0
    refine evl_callS (caps := []) (line_common_pc fu (if (IntKind.i64.wrap (0 - u1.1)) > u1.1 then (IntKind.i64.wrap (0 - u1.1)) else u1.1) u1.2 _ hr1) (by simp +decide only [go_sem, ↓reduceIte]) ?_
    try simp +decide only [go_sem, ↓reduceIte]
    refine hK4 _ ?_
    refine drawS mixA (by kernel_rfl) (by kernel_rfl) fun K5 hK5 => ?_
    obtain ⟨_, c1, hI0⟩ := bind_inv hI0; replace c1 := chk_some c1
    obtain ⟨_, c2, hI0⟩ := bind_inv hI0; replace c2 := chk_some c2
    try simp +decide only [go_sem, ↓reduceIte, c1, c2]
    refine dn_mk (by kernel_rfl) ?_
    refine hK5 _ ?_
    refine tr_ret ?_
    try simp +decide only [Post.andThen, Post.inBlock, rangePost, ↓reduceIte]
    obtain rfl := Option.some.inj hI0
    simp [PG.Fin, resAll, resOf, resV, Try.results50, go_sem, c1, c2]

-- slices.MaxFunc[[]moothall/line.frac,moothall/line.frac]
def slices_MaxFunc_line_frac_b0 (p0 : (List line_frac)) (q1 : line_frac → line_frac → Option Int) (s1 : (Int × Int × Int)) : Option (Ctl (Int × Int × Int) line_frac) :=
  cond (decide (s1.1 < (p0.length : Int)))
    ((idx p0 s1.1).bind fun x2 =>
    (q1 x2 (line_frac.mk s1.2.1 s1.2.2)).bind fun r1 =>
    cond (decide (r1 > 0))
      (some (.nx ((IntKind.i64.wrap (s1.1 + 1)), x2.f_n, x2.f_d)))
      (some (.nx ((IntKind.i64.wrap (s1.1 + 1)), s1.2.1, s1.2.2))))
    (some (.bk (s1.1, s1.2.1, s1.2.2)))
def slices_MaxFunc_line_frac (fu : Nat) (p0 : (List line_frac)) (q1 : line_frac → line_frac → Option Int) : Option line_frac :=
  cond (decide ((p0.length : Int) < 1))
    none
    ((idx p0 0).bind fun x1 =>
    (whL (slices_MaxFunc_line_frac_b0 p0 q1) fu (1, x1.f_n, x1.f_d)).bind (Sum.elim (fun (u1 : (Int × Int × Int)) =>
      some (line_frac.mk u1.2.1 u1.2.2)) some))
theorem slices_MaxFunc_line_frac_pc (fu : Nat) (p0 : (List line_frac)) (q1 : line_frac → line_frac → Option Int) (f_q1 : FuncId) (c_q1 : List V) (hc_q1 : V.idfreeL c_q1 = true) (hp_q1 : ∀ (y0 : line_frac) (y1 : line_frac) r, q1 y0 y1 = some r → PC Try.prog f_q1 ([.agg [.int .i64 y0.f_n, .int .i64 y0.f_d], .agg [.int .i64 y1.f_n, .int .i64 y1.f_d]] ++ c_q1) (.int .i64 r)) (R : line_frac) (hI0 : slices_MaxFunc_line_frac fu p0 q1 = some R) : PC Try.prog 51 [.sl 2 (p0.map e_line_frac), .fn (.func f_q1) c_q1] (e_line_frac R) := by
  unfold slices_MaxFunc_line_frac at hI0
  have hw_q1 := fun h : Heap => withinL_of (h := h) hc_q1
  refine pc_se Try.func51 rfl (by kernel_rfl) 33 rfl (by simp) ?_
  show Tr _ _ (SE 33 [(0, .sl 2 (p0.map e_line_frac)), (1, .fn (.func f_q1) c_q1)] []) _
  refine tr_sreg fun K1 hK1 => ?_
  try simp +decide only [go_sem, ↓reduceIte, hc_q1, hw_q1]
  refine hK1 _ ?_
  refine tr_seq_k fun K2 hK2 => ?_
  refine tr_sreg fun K3 hK3 => ?_
  try simp +decide only [go_sem, ↓reduceIte, hc_q1, hw_q1]
  refine hK3 _ ?_
  refine tr_condS (b := (decide ((p0.length : Int) < 1))) rfl (by simp +decide only [go_sem, ↓reduceIte, hc_q1, hw_q1]) ?_ ?_
  · intro g1
    replace hI0 := cond_t g1 hI0
    exact absurd hI0 (by simp)
  · intro g1
    replace hI0 := cond_f g1 hI0
    refine tr_skip ?_
    try simp +decide only [Post.andThen, Post.inBlock, rangePost, ↓reduceIte]
    refine hK2 _ ?_
    refine tr_sreg fun K4 hK4 => ?_
    obtain ⟨x1, hx1, hI0⟩ := bind_inv hI0
    have hx1l : 0 < ((p0.length : Nat) : Int) := by simpa using idx_below hx1
    obtain ⟨hx1a, hx1b⟩ := idx_some hx1; clear hx1
    try simp +decide only [go_sem, ↓reduceIte, hc_q1, hw_q1, g1, hx1a, hx1b, hx1l]
    refine hK4 _ ?_
    refine tr_seq_k fun K5 hK5 => ?_
    refine tr_sreg fun K6 hK6 => ?_
    try simp +decide only [go_sem, ↓reduceIte, hc_q1, hw_q1, g1, hx1a, hx1b, hx1l]
    refine hK6 _ ?_
    obtain ⟨o1, hL1, hI0⟩ := bind_inv hI0
    refine tr_tail_ex (fun (i : (Int × Int × Int) × Unit) => o1 = .inl i.1) (fun i => SE 33 ((fun (i : (Int × Int × Int) × Unit) => [(0, .sl 2 (p0.map e_line_frac)), (1, .fn (.func f_q1) c_q1), (4, .ep 4 0 2 0 0), (5, .ep 5 0 2 0 0), (6, .int .i64 i.1.1)]) i) ((fun (i : (Int × Int × Int) × Unit) => [(4, .arr 0 true 2 [.agg [.int .i64 0, .int .i64 0]]), (5, .arr 0 true 2 [.agg [.int .i64 i.1.2.1, .int .i64 i.1.2.2]])]) i)) ?_ ?_
    · refine tr_whL (fun i => i.1) (fun i => SE 33 ((fun (i : (Int × Int × Int) × Unit) => [(0, .sl 2 (p0.map e_line_frac)), (1, .fn (.func f_q1) c_q1), (4, .ep 4 0 2 0 0), (5, .ep 5 0 2 0 0), (6, .int .i64 i.1.1)]) i) ((fun (i : (Int × Int × Int) × Unit) => [(4, .arr 0 true 2 [.agg [.int .i64 0, .int .i64 0]]), (5, .arr 0 true 2 [.agg [.int .i64 i.1.2.1, .int .i64 i.1.2.2]])]) i)) ((1, x1.f_n, x1.f_d), ()) hL1 ?_ ?_
      · exact le_se (by simp [go_sem, hc_q1, hw_q1, g1, hx1a, hx1b, hx1l]) (by simp [go_sem, hc_q1, hw_q1, g1, hx1a, hx1b, hx1l])
      · rintro ⟨s1, n1⟩ ctl1  hI1 hbk1 hrt1
        try dsimp only at hI1 ⊢
        unfold slices_MaxFunc_line_frac_b0 at hI1
        refine tr_seq_k fun K7 hK7 => ?_
        refine tr_sreg fun K8 hK8 => ?_
        try simp +decide only [go_sem, ↓reduceIte, hc_q1, hw_q1, g1, hx1a, hx1b, hx1l]
        refine hK8 _ ?_
        refine tr_condS (b := (decide (s1.1 < (p0.length : Int)))) rfl (by simp +decide only [go_sem, ↓reduceIte, hc_q1, hw_q1, g1, hx1a, hx1b, hx1l]) ?_ ?_
        · intro g2
          replace hI1 := cond_t g2 hI1
          refine tr_skip ?_
          try simp +decide only [Post.andThen, Post.inBlock, rangePost, ↓reduceIte]
          refine hK7 _ ?_
          refine tr_seq_k fun K9 hK9 => ?_
          refine tr_block ?_
          refine drawS mixA (by kernel_rfl) (by kernel_rfl) fun K10 hK10 => ?_
          obtain ⟨x2, hx2, hI1⟩ := bind_inv hI1
          have hx2l : s1.1 < ((p0.length : Nat) : Int) := by simpa using idx_below hx2
          obtain ⟨hx2a, hx2b⟩ := idx_some hx2; clear hx2
          try simp +decide only [go_sem, ↓reduceIte, hc_q1, hw_q1, g1, hx1a, hx1b, hx1l, g2, hx2a, hx2b, hx2l]
          obtain ⟨r1, hr1, hI1⟩ := bind_inv hI1
          refine evi_callS (caps := c_q1) (hp_q1 x2 (line_frac.mk s1.2.1 s1.2.2) _ hr1) (by simp +decide only [go_sem, ↓reduceIte, hc_q1, hw_q1, g1, hx1a, hx1b, hx1l, g2, hx2a, hx2b, hx2l, hc_q1, idfreeL_app]) ?_
          try simp +decide only [go_sem, ↓reduceIte, hc_q1, hw_q1, g1, hx1a, hx1b, hx1l, g2, hx2a, hx2b, hx2l]
          refine dn_mk (by kernel_rfl) ?_
          refine hK10 _ ?_
          refine tr_condS (b := (decide (r1 > 0))) rfl (by simp +decide only [go_sem, ↓reduceIte, hc_q1, hw_q1, g1, hx1a, hx1b, hx1l, g2, hx2a, hx2b, hx2l]) ?_ ?_
          · intro g3
            replace hI1 := cond_t g3 hI1
            refine tr_reg ?_
            try simp +decide only [go_sem, ↓reduceIte, hc_q1, hw_q1, g1, hx1a, hx1b, hx1l, g2, hx2a, hx2b, hx2l, g3]
            refine hK9 _ ?_
            refine tr_reg ?_
            try simp +decide only [go_sem, ↓reduceIte, hc_q1, hw_q1, g1, hx1a, hx1b, hx1l, g2, hx2a, hx2b, hx2l, g3]
            obtain rfl := Option.some.inj hI1
            refine st_mk (((IntKind.i64.wrap (s1.1 + 1)), x2.f_n, x2.f_d), ()) (by first | rfl | trivial) ?_
            exact le_se (by simp [go_sem, hc_q1, hw_q1, g1, hx1a, hx1b, hx1l, g2, hx2a, hx2b, hx2l, g3]) (by simp [go_sem, hc_q1, hw_q1, g1, hx1a, hx1b, hx1l, g2, hx2a, hx2b, hx2l, g3])
          · intro g3
            replace hI1 := cond_f g3 hI1
            refine tr_skip ?_
            try simp +decide only [Post.andThen, Post.inBlock, rangePost, ↓reduceIte]
            refine hK9 _ ?_
            refine tr_reg ?_
            try simp +decide only [go_sem, ↓reduceIte, hc_q1, hw_q1, g1, hx1a, hx1b, hx1l, g2, hx2a, hx2b, hx2l, g3]
            obtain rfl := Option.some.inj hI1
            refine st_mk (((IntKind.i64.wrap (s1.1 + 1)), s1.2.1, s1.2.2), ()) (by first | rfl | trivial) ?_
            exact le_se (by simp [go_sem, hc_q1, hw_q1, g1, hx1a, hx1b, hx1l, g2, hx2a, hx2b, hx2l, g3]) (by simp [go_sem, hc_q1, hw_q1, g1, hx1a, hx1b, hx1l, g2, hx2a, hx2b, hx2l, g3])
        · intro g2
          replace hI1 := cond_f g2 hI1
          refine tr_exit ?_
          try simp +decide only [Post.andThen, Post.inBlock, rangePost, ↓reduceIte]
          obtain rfl := Option.some.inj hI1
          refine st_mk ((s1.1, s1.2.1, s1.2.2), ()) (hbk1 _ rfl) ?_
          exact le_se (by simp [go_sem, hc_q1, hw_q1, g1, hx1a, hx1b, hx1l, g2]) (by simp [go_sem, hc_q1, hw_q1, g1, hx1a, hx1b, hx1l, g2])
    · rintro ⟨u1, m1⟩ e9 ho hle
      try dsimp only at ho hle ⊢
      subst ho
      replace hI0 := elim_l hI0
      refine hK5 _ ?_
      refine tr_le hle ?_
      refine tr_sreg fun K14 hK14 => ?_
      try simp +decide only [go_sem, ↓reduceIte, hc_q1, hw_q1, g1, hx1a, hx1b, hx1l]
      refine hK14 _ ?_
      refine tr_ret ?_
      try simp +decide only [Post.andThen, Post.inBlock, rangePost, ↓reduceIte]
      obtain rfl := Option.some.inj hI0
      simp [PG.Fin, resAll, resOf, resV, Try.results51, go_sem, hc_q1, hw_q1, g1, hx1a, hx1b, hx1l]

-- math/bits.Mul64
def math_bits_Mul64 (p0 : Int) (p1 : Int) : Option (Int × Int) :=
  some ((IntKind.u64.wrap ((IntKind.u64.wrap ((IntKind.u64.wrap ((p0.fdiv (2 ^ (min (32 : Int).toNat IntKind.u64.bits))) * (p1.fdiv (2 ^ (min (32 : Int).toNat IntKind.u64.bits))))) + ((IntKind.u64.wrap ((IntKind.u64.wrap ((p0.fdiv (2 ^ (min (32 : Int).toNat IntKind.u64.bits))) * (IntKind.u64.wrap (((BitVec.ofInt IntKind.u64.bits p1 &&& BitVec.ofInt IntKind.u64.bits 4294967295).toNat : Int))))) + ((IntKind.u64.wrap ((IntKind.u64.wrap (((BitVec.ofInt IntKind.u64.bits p0 &&& BitVec.ofInt IntKind.u64.bits 4294967295).toNat : Int))) * (IntKind.u64.wrap (((BitVec.ofInt IntKind.u64.bits p1 &&& BitVec.ofInt IntKind.u64.bits 4294967295).toNat : Int))))).fdiv (2 ^ (min (32 : Int).toNat IntKind.u64.bits))))).fdiv (2 ^ (min (32 : Int).toNat IntKind.u64.bits))))) + ((IntKind.u64.wrap ((IntKind.u64.wrap (((BitVec.ofInt IntKind.u64.bits (IntKind.u64.wrap ((IntKind.u64.wrap ((p0.fdiv (2 ^ (min (32 : Int).toNat IntKind.u64.bits))) * (IntKind.u64.wrap (((BitVec.ofInt IntKind.u64.bits p1 &&& BitVec.ofInt IntKind.u64.bits 4294967295).toNat : Int))))) + ((IntKind.u64.wrap ((IntKind.u64.wrap (((BitVec.ofInt IntKind.u64.bits p0 &&& BitVec.ofInt IntKind.u64.bits 4294967295).toNat : Int))) * (IntKind.u64.wrap (((BitVec.ofInt IntKind.u64.bits p1 &&& BitVec.ofInt IntKind.u64.bits 4294967295).toNat : Int))))).fdiv (2 ^ (min (32 : Int).toNat IntKind.u64.bits))))) &&& BitVec.ofInt IntKind.u64.bits 4294967295).toNat : Int))) + (IntKind.u64.wrap ((IntKind.u64.wrap (((BitVec.ofInt IntKind.u64.bits p0 &&& BitVec.ofInt IntKind.u64.bits 4294967295).toNat : Int))) * (p1.fdiv (2 ^ (min (32 : Int).toNat IntKind.u64.bits))))))).fdiv (2 ^ (min (32 : Int).toNat IntKind.u64.bits))))), (IntKind.u64.wrap (p0 * p1)))
theorem math_bits_Mul64_pc (p0 : Int) (p1 : Int) (R : (Int × Int)) (hI0 : math_bits_Mul64 p0 p1 = some R) : PC Try.prog 68 [.int .u64 p0, .int .u64 p1] (.tup [.int .u64 R.1, .int .u64 R.2]) := by
  unfold math_bits_Mul64 at hI0
  refine pc_se Try.func68 rfl (by kernel_rfl) 51 rfl (by simp) ?_
  show Tr _ _ (SE 51 [(0, .int .u64 p0), (1, .int .u64 p1)] []) _
  refine tr_sreg fun K1 hK1 => ?_
  try simp +decide only [go_sem, ↓reduceIte]
  refine hK1 _ ?_
  refine tr_sreg fun K2 hK2 => ?_
  try simp +decide only [go_sem, ↓reduceIte]
  refine hK2 _ ?_
  refine tr_sreg fun K3 hK3 => ?_
  try simp +decide only [go_sem, ↓reduceIte]
  refine hK3 _ ?_
  refine tr_sreg fun K4 hK4 => ?_
  try simp +decide only [go_sem, ↓reduceIte]
  refine hK4 _ ?_
  refine tr_sreg fun K5 hK5 => ?_
  try simp +decide only [go_sem, ↓reduceIte]
  refine hK5 _ ?_
  refine tr_sreg fun K6 hK6 => ?_
  try simp +decide only [go_sem, ↓reduceIte]
  refine hK6 _ ?_
  refine tr_sreg fun K7 hK7 => ?_
  try simp +decide only [go_sem, ↓reduceIte]
  refine hK7 _ ?_
  refine tr_sreg fun K8 hK8 => ?_
  try simp +decide only [go_sem, ↓reduceIte]
  refine hK8 _ ?_
  refine tr_sreg fun K9 hK9 => ?_
  try simp +decide only [go_sem, ↓reduceIte]
  refine hK9 _ ?_
  refine tr_sreg fun K10 hK10 => ?_
  try simp +decide only [go_sem, ↓reduceIte]
  refine hK10 _ ?_
  refine tr_sreg fun K11 hK11 => ?_
  try simp +decide only [go_sem, ↓reduceIte]
  refine hK11 _ ?_
  refine tr_sreg fun K12 hK12 => ?_
  try simp +decide only [go_sem, ↓reduceIte]
  refine hK12 _ ?_
  refine tr_ret ?_
  try simp +decide only [Post.andThen, Post.inBlock, rangePost, ↓reduceIte]
  obtain rfl := Option.some.inj hI0
  simp [PG.Fin, resAll, resOf, resV, Try.results68, go_sem]

-- moothall/line.cross
def line_cross (p0 : Int) (p1 : Int) : Option line_product :=
  (math_bits_Mul64 (IntKind.u64.wrap (if (IntKind.i64.wrap (0 - p0)) > p0 then (IntKind.i64.wrap (0 - p0)) else p0)) (IntKind.u64.wrap (if (IntKind.i64.wrap (0 - p1)) > p1 then (IntKind.i64.wrap (0 - p1)) else p1))).bind fun r1 =>
  some (line_product.mk (cond (!((decide (p0 < 0)) == (decide (p1 < 0)))) ((IntKind.u64.wrap (((BitVec.ofInt IntKind.u64.bits r1.1 ||| BitVec.ofInt IntKind.u64.bits r1.2).toNat : Int))) != 0) false) r1.1 r1.2)
theorem line_cross_pc (p0 : Int) (p1 : Int) (R : line_product) (hI0 : line_cross p0 p1 = some R) : PC Try.prog 67 [.int .i64 p0, .int .i64 p1] (e_line_product R) := by
  unfold line_cross at hI0
  refine pc_se Try.func67 rfl (by kernel_rfl) 35 rfl (by simp) ?_
  show Tr _ _ (SE 35 [(0, .int .i64 p0), (1, .int .i64 p1)] []) _
  refine tr_sreg fun K1 hK1 => ?_
  try simp +decide only [go_sem, ↓reduceIte]
  refine hK1 _ ?_
  refine tr_sreg fun K2 hK2 => ?_
  try simp +decide only [go_sem, ↓reduceIte]
  obtain ⟨r1, hr1, hI0⟩ := bind_inv hI0
  refine evl_callS (caps := []) (math_bits_Mul64_pc (IntKind.u64.wrap (if (IntKind.i64.wrap (0 - p0)) > p0 then (IntKind.i64.wrap (0 - p0)) else p0)) (IntKind.u64.wrap (if (IntKind.i64.wrap (0 - p1)) > p1 then (IntKind.i64.wrap (0 - p1)) else p1)) _ hr1) (by simp +decide only [go_sem, ↓reduceIte]) ?_
  try simp +decide only [go_sem, ↓reduceIte]
  refine hK2 _ ?_
  refine tr_seq_ex (fun _ : Unit => True) (fun _ => SE 35 [(4, .ep 4 0 3 0 0)] [(4, .arr 0 true 3 [.agg [.bool (cond (!((decide (p0 < 0)) == (decide (p1 < 0)))) ((IntKind.u64.wrap (((BitVec.ofInt IntKind.u64.bits r1.1 ||| BitVec.ofInt IntKind.u64.bits r1.2).toNat : Int))) != 0) false), .int .u64 r1.1, .int .u64 r1.2]])]) ?_ ?_
  · refine tr_reg ?_
    try simp +decide only [go_sem, ↓reduceIte]
    refine waysl_if ?_ ?_
    · intro g1
      try simp +decide only [go_sem, ↓reduceIte, g1]
      refine st_mk () trivial ?_
      exact le_se (by simp [go_sem, g1]) (by simp [go_sem, g1])
    · intro g1
      try simp +decide only [go_sem, ↓reduceIte, g1]
      refine st_mk () trivial ?_
      exact le_se (by simp [go_sem, g1]) (by simp [go_sem, g1])
  · rintro _ _
    refine tr_ret ?_
    try simp +decide only [Post.andThen, Post.inBlock, rangePost, ↓reduceIte]
    obtain rfl := Option.some.inj hI0
    simp [PG.Fin, resAll, resOf, resV, Try.results67, go_sem]

-- moothall/line.less
def line_less (p0 : line_frac) (p1 : line_frac) : Option Bool :=
  (line_cross p0.f_n p1.f_d).bind fun r1 =>
  (line_cross p1.f_n p0.f_d).bind fun r2 =>
  cond (!(r1.f_neg == r2.f_neg))
    (some r1.f_neg)
    (some (cond r1.f_neg (cond (cond (decide (r1.f_hi > r2.f_hi)) true (cond (r1.f_hi == r2.f_hi) (decide (r1.f_lo > r2.f_lo)) false)) true false) (cond (decide (r1.f_hi < r2.f_hi)) true (cond (r1.f_hi == r2.f_hi) (decide (r1.f_lo < r2.f_lo)) false))))
theorem line_less_pc (p0 : line_frac) (p1 : line_frac) (R : Bool) (hI0 : line_less p0 p1 = some R) : PC Try.prog 62 [.agg [.int .i64 p0.f_n, .int .i64 p0.f_d], .agg [.int .i64 p1.f_n, .int .i64 p1.f_d]] (.bool R) := by
  unfold line_less at hI0
  refine pc_se Try.func62 rfl (by kernel_rfl) 77 rfl (by simp) ?_
  show Tr _ _ (SE 77 [(0, .agg [.int .i64 p0.f_n, .int .i64 p0.f_d]), (1, .agg [.int .i64 p1.f_n, .int .i64 p1.f_d])] []) _
  refine tr_sreg fun K1 hK1 => ?_
  try simp +decide only [go_sem, ↓reduceIte]
  refine hK1 _ ?_
  refine drawS mixA (by kernel_rfl) (by kernel_rfl) fun K2 hK2 => ?_
  try simp +decide only [go_sem, ↓reduceIte]
  obtain ⟨r1, hr1, hI0⟩ := bind_inv hI0
  refine evi_callS (caps := []) (line_cross_pc p0.f_n p1.f_d _ hr1) (by simp +decide only [go_sem, ↓reduceIte]) ?_
  try simp +decide only [go_sem, ↓reduceIte]
  obtain ⟨r2, hr2, hI0⟩ := bind_inv hI0
  refine evi_callS (caps := []) (line_cross_pc p1.f_n p0.f_d _ hr2) (by simp +decide only [go_sem, ↓reduceIte]) ?_
  try simp +decide only [go_sem, ↓reduceIte]
  refine dn_mk (by kernel_rfl) ?_
  refine hK2 _ ?_
  refine tr_seq_k fun K3 hK3 => ?_
  refine tr_sreg fun K4 hK4 => ?_
  try simp +decide only [go_sem, ↓reduceIte]
  refine hK4 _ ?_
  refine tr_condS (b := (!(r1.f_neg == r2.f_neg))) rfl (by simp +decide only [go_sem, ↓reduceIte]) ?_ ?_
  · intro g1
    replace hI0 := cond_t g1 hI0
    refine tr_sreg fun K5 hK5 => ?_
    try simp +decide only [go_sem, ↓reduceIte, g1]
    refine hK5 _ ?_
    refine tr_ret ?_
    try simp +decide only [Post.andThen, Post.inBlock, rangePost, ↓reduceIte]
    obtain rfl := Option.some.inj hI0
    simp [PG.Fin, resAll, resOf, resV, Try.results62, go_sem, g1]
  · intro g1
    replace hI0 := cond_f g1 hI0
    refine tr_skip ?_
    try simp +decide only [Post.andThen, Post.inBlock, rangePost, ↓reduceIte]
    refine hK3 _ ?_
    refine tr_seq_ex (fun _ : Unit => True) (fun _ => SE 77 [(5, .ep 5 0 3 0 0), (6, .ep 6 0 3 0 0), (7, .bool (cond (decide (r1.f_hi > r2.f_hi)) true (cond (r1.f_hi == r2.f_hi) (decide (r1.f_lo > r2.f_lo)) false)))] [(5, .arr 0 true 3 [.agg [.bool r1.f_neg, .int .u64 r1.f_hi, .int .u64 r1.f_lo]]), (6, .arr 0 true 3 [.agg [.bool r2.f_neg, .int .u64 r2.f_hi, .int .u64 r2.f_lo]])]) ?_ ?_
    · refine tr_reg ?_
      try simp +decide only [go_sem, ↓reduceIte, g1]
      refine waysl_not ?_ ?_
      · intro g2
        try simp +decide only [go_sem, ↓reduceIte, g1, g2]
        refine st_mk () trivial ?_
        exact le_se (by simp [go_sem, g1, g2]) (by simp [go_sem, g1, g2])
      · intro g2
        try simp +decide only [go_sem, ↓reduceIte, g1, g2]
        refine waysl_if ?_ ?_
        · intro g3
          try simp +decide only [go_sem, ↓reduceIte, g1, g2, g3]
          refine st_mk () trivial ?_
          exact le_se (by simp [go_sem, g1, g2, g3]) (by simp [go_sem, g1, g2, g3])
        · intro g3
          try simp +decide only [go_sem, ↓reduceIte, g1, g2, g3]
          refine st_mk () trivial ?_
          exact le_se (by simp [go_sem, g1, g2, g3]) (by simp [go_sem, g1, g2, g3])
    · rintro _ _
      refine tr_seq_ex (fun _ : Unit => True) (fun _ => SE 77 [(5, .ep 5 0 3 0 0), (7, .bool (cond (decide (r1.f_hi > r2.f_hi)) true (cond (r1.f_hi == r2.f_hi) (decide (r1.f_lo > r2.f_lo)) false))), (8, .bool (cond (decide (r1.f_hi < r2.f_hi)) true (cond (r1.f_hi == r2.f_hi) (decide (r1.f_lo < r2.f_lo)) false)))] [(5, .arr 0 true 3 [.agg [.bool r1.f_neg, .int .u64 r1.f_hi, .int .u64 r1.f_lo]])]) ?_ ?_
      · refine tr_reg ?_
        try simp +decide only [go_sem, ↓reduceIte, g1]
        refine waysl_not ?_ ?_
        · intro g4
          try simp +decide only [go_sem, ↓reduceIte, g1, g4]
          refine st_mk () trivial ?_
          exact le_se (by simp [go_sem, g1, g4]) (by simp [go_sem, g1, g4])
        · intro g4
          try simp +decide only [go_sem, ↓reduceIte, g1, g4]
          refine waysl_if ?_ ?_
          · intro g5
            try simp +decide only [go_sem, ↓reduceIte, g1, g4, g5]
            refine st_mk () trivial ?_
            exact le_se (by simp [go_sem, g1, g4, g5]) (by simp [go_sem, g1, g4, g5])
          · intro g5
            try simp +decide only [go_sem, ↓reduceIte, g1, g4, g5]
            refine st_mk () trivial ?_
            exact le_se (by simp [go_sem, g1, g4, g5]) (by simp [go_sem, g1, g4, g5])
      · rintro _ _
        refine tr_seq_ex (fun _ : Unit => True) (fun _ => SE 77 [(4, .bool (cond r1.f_neg (cond (cond (decide (r1.f_hi > r2.f_hi)) true (cond (r1.f_hi == r2.f_hi) (decide (r1.f_lo > r2.f_lo)) false)) true false) (cond (decide (r1.f_hi < r2.f_hi)) true (cond (r1.f_hi == r2.f_hi) (decide (r1.f_lo < r2.f_lo)) false))))] []) ?_ ?_
        · refine tr_reg ?_
          try simp +decide only [go_sem, ↓reduceIte, g1]
          refine waysl_if ?_ ?_
          · intro g6
            try simp +decide only [go_sem, ↓reduceIte, g1, g6]
            refine st_mk () trivial ?_
            exact le_se (by simp [go_sem, g1, g6]) (by simp [go_sem, g1, g6])
          · intro g6
            try simp +decide only [go_sem, ↓reduceIte, g1, g6]
            refine waysl_not ?_ ?_
            · intro g7
              try simp +decide only [go_sem, ↓reduceIte, g1, g6, g7]
              refine st_mk () trivial ?_
              exact le_se (by simp [go_sem, g1, g6, g7]) (by simp [go_sem, g1, g6, g7])
            · intro g7
              try simp +decide only [go_sem, ↓reduceIte, g1, g6, g7]
              refine st_mk () trivial ?_
              exact le_se (by simp [go_sem, g1, g6, g7]) (by simp [go_sem, g1, g6, g7])
        · rintro _ _
          refine tr_ret ?_
          try simp +decide only [Post.andThen, Post.inBlock, rangePost, ↓reduceIte]
          obtain rfl := Option.some.inj hI0
          simp [PG.Fin, resAll, resOf, resV, Try.results62, go_sem, g1]

-- moothall/line.order
def line_order (p0 : line_frac) (p1 : line_frac) : Option Int :=
  (line_less p0 p1).bind fun r1 =>
  cond r1
    (some (-1))
    ((line_less p1 p0).bind fun r2 =>
    cond r2
      (some 1)
      (some 0))
theorem line_order_pc (p0 : line_frac) (p1 : line_frac) (R : Int) (hI0 : line_order p0 p1 = some R) : PC Try.prog 52 [.agg [.int .i64 p0.f_n, .int .i64 p0.f_d], .agg [.int .i64 p1.f_n, .int .i64 p1.f_d]] (.int .i64 R) := by
  unfold line_order at hI0
  refine pc_se Try.func52 rfl (by kernel_rfl) 13 rfl (by simp) ?_
  show Tr _ _ (SE 13 [(0, .agg [.int .i64 p0.f_n, .int .i64 p0.f_d]), (1, .agg [.int .i64 p1.f_n, .int .i64 p1.f_d])] []) _
  refine tr_sreg fun K1 hK1 => ?_
  try simp +decide only [go_sem, ↓reduceIte]
  refine hK1 _ ?_
  refine tr_seq_k fun K2 hK2 => ?_
  refine tr_block ?_
  refine tr_sreg fun K3 hK3 => ?_
  try simp +decide only [go_sem, ↓reduceIte]
  obtain ⟨r1, hr1, hI0⟩ := bind_inv hI0
  refine evl_callS (caps := []) (line_less_pc p0 p1 _ hr1) (by simp +decide only [go_sem, ↓reduceIte]) ?_
  try simp +decide only [go_sem, ↓reduceIte]
  refine hK3 _ ?_
  refine tr_condS (b := r1) rfl (by simp +decide only [go_sem, ↓reduceIte]) ?_ ?_
  · intro g1
    replace hI0 := cond_t g1 hI0
    refine tr_sreg fun K4 hK4 => ?_
    try simp +decide only [go_sem, ↓reduceIte, g1]
    refine hK4 _ ?_
    refine tr_ret ?_
    try simp +decide only [Post.andThen, Post.inBlock, rangePost, ↓reduceIte]
    obtain rfl := Option.some.inj hI0
    simp [PG.Fin, resAll, resOf, resV, Try.results52, go_sem, g1]
  · intro g1
    replace hI0 := cond_f g1 hI0
    refine tr_sreg fun K5 hK5 => ?_
    try simp +decide only [go_sem, ↓reduceIte, g1]
    obtain ⟨r2, hr2, hI0⟩ := bind_inv hI0
    refine evl_callS (caps := []) (line_less_pc p1 p0 _ hr2) (by simp +decide only [go_sem, ↓reduceIte, g1]) ?_
    try simp +decide only [go_sem, ↓reduceIte, g1]
    refine hK5 _ ?_
    refine tr_condS (b := r2) rfl (by simp +decide only [go_sem, ↓reduceIte, g1]) ?_ ?_
    · intro g2
      replace hI0 := cond_t g2 hI0
      refine tr_sreg fun K6 hK6 => ?_
      try simp +decide only [go_sem, ↓reduceIte, g1, g2]
      refine hK6 _ ?_
      refine tr_ret ?_
      try simp +decide only [Post.andThen, Post.inBlock, rangePost, ↓reduceIte]
      obtain rfl := Option.some.inj hI0
      simp [PG.Fin, resAll, resOf, resV, Try.results52, go_sem, g1, g2]
    · intro g2
      replace hI0 := cond_f g2 hI0
      refine tr_skip ?_
      try simp +decide only [Post.andThen, Post.inBlock, rangePost, ↓reduceIte]
      refine hK2 _ ?_
      refine tr_sreg fun K7 hK7 => ?_
      try simp +decide only [go_sem, ↓reduceIte, g1, g2]
      refine hK7 _ ?_
      refine tr_ret ?_
      try simp +decide only [Post.andThen, Post.inBlock, rangePost, ↓reduceIte]
      obtain rfl := Option.some.inj hI0
      simp [PG.Fin, resAll, resOf, resV, Try.results52, go_sem, g1, g2]

-- slices.MinFunc[[]moothall/line.frac,moothall/line.frac]
def slices_MinFunc_line_frac_b0 (p0 : (List line_frac)) (q1 : line_frac → line_frac → Option Int) (s1 : (Int × Int × Int)) : Option (Ctl (Int × Int × Int) line_frac) :=
  cond (decide (s1.1 < (p0.length : Int)))
    ((idx p0 s1.1).bind fun x2 =>
    (q1 x2 (line_frac.mk s1.2.1 s1.2.2)).bind fun r1 =>
    cond (decide (r1 < 0))
      (some (.nx ((IntKind.i64.wrap (s1.1 + 1)), x2.f_n, x2.f_d)))
      (some (.nx ((IntKind.i64.wrap (s1.1 + 1)), s1.2.1, s1.2.2))))
    (some (.bk (s1.1, s1.2.1, s1.2.2)))
def slices_MinFunc_line_frac (fu : Nat) (p0 : (List line_frac)) (q1 : line_frac → line_frac → Option Int) : Option line_frac :=
  cond (decide ((p0.length : Int) < 1))
    none
    ((idx p0 0).bind fun x1 =>
    (whL (slices_MinFunc_line_frac_b0 p0 q1) fu (1, x1.f_n, x1.f_d)).bind (Sum.elim (fun (u1 : (Int × Int × Int)) =>
      some (line_frac.mk u1.2.1 u1.2.2)) some))
theorem slices_MinFunc_line_frac_pc (fu : Nat) (p0 : (List line_frac)) (q1 : line_frac → line_frac → Option Int) (f_q1 : FuncId) (c_q1 : List V) (hc_q1 : V.idfreeL c_q1 = true) (hp_q1 : ∀ (y0 : line_frac) (y1 : line_frac) r, q1 y0 y1 = some r → PC Try.prog f_q1 ([.agg [.int .i64 y0.f_n, .int .i64 y0.f_d], .agg [.int .i64 y1.f_n, .int .i64 y1.f_d]] ++ c_q1) (.int .i64 r)) (R : line_frac) (hI0 : slices_MinFunc_line_frac fu p0 q1 = some R) : PC Try.prog 53 [.sl 2 (p0.map e_line_frac), .fn (.func f_q1) c_q1] (e_line_frac R) := by
  unfold slices_MinFunc_line_frac at hI0
  have hw_q1 := fun h : Heap => withinL_of (h := h) hc_q1
  refine pc_se Try.func53 rfl (by kernel_rfl) 33 rfl (by simp) ?_
  show Tr _ _ (SE 33 [(0, .sl 2 (p0.map e_line_frac)), (1, .fn (.func f_q1) c_q1)] []) _
  refine tr_sreg fun K1 hK1 => ?_
  try simp +decide only [go_sem, ↓reduceIte, hc_q1, hw_q1]
  refine hK1 _ ?_
  refine tr_seq_k fun K2 hK2 => ?_
  refine tr_sreg fun K3 hK3 => ?_
  try simp +decide only [go_sem, ↓reduceIte, hc_q1, hw_q1]
  refine hK3 _ ?_
  refine tr_condS (b := (decide ((p0.length : Int) < 1))) rfl (by simp +decide only [go_sem, ↓reduceIte, hc_q1, hw_q1]) ?_ ?_
  · intro g1
    replace hI0 := cond_t g1 hI0
    exact absurd hI0 (by simp)
  · intro g1
    replace hI0 := cond_f g1 hI0
    refine tr_skip ?_
    try simp +decide only [Post.andThen, Post.inBlock, rangePost, ↓reduceIte]
    refine hK2 _ ?_
    refine tr_sreg fun K4 hK4 => ?_
    obtain ⟨x1, hx1, hI0⟩ := bind_inv hI0
    have hx1l : 0 < ((p0.length : Nat) : Int) := by simpa using idx_below hx1
    obtain ⟨hx1a, hx1b⟩ := idx_some hx1; clear hx1
    try simp +decide only [go_sem, ↓reduceIte, hc_q1, hw_q1, g1, hx1a, hx1b, hx1l]
    refine hK4 _ ?_
    refine tr_seq_k fun K5 hK5 => ?_
    refine tr_sreg fun K6 hK6 => ?_
    try simp +decide only [go_sem, ↓reduceIte, hc_q1, hw_q1, g1, hx1a, hx1b, hx1l]
    refine hK6 _ ?_
    obtain ⟨o1, hL1, hI0⟩ := bind_inv hI0
    refine tr_tail_ex (fun (i : (Int × Int × Int) × Unit) => o1 = .inl i.1) (fun i => SE 33 ((fun (i : (Int × Int × Int) × Unit) => [(0, .sl 2 (p0.map e_line_frac)), (1, .fn (.func f_q1) c_q1), (4, .ep 4 0 2 0 0), (5, .ep 5 0 2 0 0), (6, .int .i64 i.1.1)]) i) ((fun (i : (Int × Int × Int) × Unit) => [(4, .arr 0 true 2 [.agg [.int .i64 0, .int .i64 0]]), (5, .arr 0 true 2 [.agg [.int .i64 i.1.2.1, .int .i64 i.1.2.2]])]) i)) ?_ ?_
    · refine tr_whL (fun i => i.1) (fun i => SE 33 ((fun (i : (Int × Int × Int) × Unit) => [(0, .sl 2 (p0.map e_line_frac)), (1, .fn (.func f_q1) c_q1), (4, .ep 4 0 2 0 0), (5, .ep 5 0 2 0 0), (6, .int .i64 i.1.1)]) i) ((fun (i : (Int × Int × Int) × Unit) => [(4, .arr 0 true 2 [.agg [.int .i64 0, .int .i64 0]]), (5, .arr 0 true 2 [.agg [.int .i64 i.1.2.1, .int .i64 i.1.2.2]])]) i)) ((1, x1.f_n, x1.f_d), ()) hL1 ?_ ?_
      · exact le_se (by simp [go_sem, hc_q1, hw_q1, g1, hx1a, hx1b, hx1l]) (by simp [go_sem, hc_q1, hw_q1, g1, hx1a, hx1b, hx1l])
      · rintro ⟨s1, n1⟩ ctl1  hI1 hbk1 hrt1
        try dsimp only at hI1 ⊢
        unfold slices_MinFunc_line_frac_b0 at hI1
        refine tr_seq_k fun K7 hK7 => ?_
        refine tr_sreg fun K8 hK8 => ?_
        try simp +decide only [go_sem, ↓reduceIte, hc_q1, hw_q1, g1, hx1a, hx1b, hx1l]
        refine hK8 _ ?_
        refine tr_condS (b := (decide (s1.1 < (p0.length : Int)))) rfl (by simp +decide only [go_sem, ↓reduceIte, hc_q1, hw_q1, g1, hx1a, hx1b, hx1l]) ?_ ?_
        · intro g2
          replace hI1 := cond_t g2 hI1
          refine tr_skip ?_
          try simp +decide only [Post.andThen, Post.inBlock, rangePost, ↓reduceIte]
          refine hK7 _ ?_
          refine tr_seq_k fun K9 hK9 => ?_
          refine tr_block ?_
          refine drawS mixA (by kernel_rfl) (by kernel_rfl) fun K10 hK10 => ?_
          obtain ⟨x2, hx2, hI1⟩ := bind_inv hI1
          have hx2l : s1.1 < ((p0.length : Nat) : Int) := by simpa using idx_below hx2
          obtain ⟨hx2a, hx2b⟩ := idx_some hx2; clear hx2
          try simp +decide only [go_sem, ↓reduceIte, hc_q1, hw_q1, g1, hx1a, hx1b, hx1l, g2, hx2a, hx2b, hx2l]
          obtain ⟨r1, hr1, hI1⟩ := bind_inv hI1
          refine evi_callS (caps := c_q1) (hp_q1 x2 (line_frac.mk s1.2.1 s1.2.2) _ hr1) (by simp +decide only [go_sem, ↓reduceIte, hc_q1, hw_q1, g1, hx1a, hx1b, hx1l, g2, hx2a, hx2b, hx2l, hc_q1, idfreeL_app]) ?_
          try simp +decide only [go_sem, ↓reduceIte, hc_q1, hw_q1, g1, hx1a, hx1b, hx1l, g2, hx2a, hx2b, hx2l]
          refine dn_mk (by kernel_rfl) ?_
          refine hK10 _ ?_
          refine tr_condS (b := (decide (r1 < 0))) rfl (by simp +decide only [go_sem, ↓reduceIte, hc_q1, hw_q1, g1, hx1a, hx1b, hx1l, g2, hx2a, hx2b, hx2l]) ?_ ?_
          · intro g3
            replace hI1 := cond_t g3 hI1
            refine tr_reg ?_
            try simp +decide only [go_sem, ↓reduceIte, hc_q1, hw_q1, g1, hx1a, hx1b, hx1l, g2, hx2a, hx2b, hx2l, g3]
            refine hK9 _ ?_
            refine tr_reg ?_
            try simp +decide only [go_sem, ↓reduceIte, hc_q1, hw_q1, g1, hx1a, hx1b, hx1l, g2, hx2a, hx2b, hx2l, g3]
            obtain rfl := Option.some.inj hI1
            refine st_mk (((IntKind.i64.wrap (s1.1 + 1)), x2.f_n, x2.f_d), ()) (by first | rfl | trivial) ?_
            exact le_se (by simp [go_sem, hc_q1, hw_q1, g1, hx1a, hx1b, hx1l, g2, hx2a, hx2b, hx2l, g3]) (by simp [go_sem, hc_q1, hw_q1, g1, hx1a, hx1b, hx1l, g2, hx2a, hx2b, hx2l, g3])
          · intro g3
            replace hI1 := cond_f g3 hI1
            refine tr_skip ?_
            try simp +decide only [Post.andThen, Post.inBlock, rangePost, ↓reduceIte]
            refine hK9 _ ?_
            refine tr_reg ?_
            try simp +decide only [go_sem, ↓reduceIte, hc_q1, hw_q1, g1, hx1a, hx1b, hx1l, g2, hx2a, hx2b, hx2l, g3]
            obtain rfl := Option.some.inj hI1
            refine st_mk (((IntKind.i64.wrap (s1.1 + 1)), s1.2.1, s1.2.2), ()) (by first | rfl | trivial) ?_
            exact le_se (by simp [go_sem, hc_q1, hw_q1, g1, hx1a, hx1b, hx1l, g2, hx2a, hx2b, hx2l, g3]) (by simp [go_sem, hc_q1, hw_q1, g1, hx1a, hx1b, hx1l, g2, hx2a, hx2b, hx2l, g3])
        · intro g2
          replace hI1 := cond_f g2 hI1
          refine tr_exit ?_
          try simp +decide only [Post.andThen, Post.inBlock, rangePost, ↓reduceIte]
          obtain rfl := Option.some.inj hI1
          refine st_mk ((s1.1, s1.2.1, s1.2.2), ()) (hbk1 _ rfl) ?_
          exact le_se (by simp [go_sem, hc_q1, hw_q1, g1, hx1a, hx1b, hx1l, g2]) (by simp [go_sem, hc_q1, hw_q1, g1, hx1a, hx1b, hx1l, g2])
    · rintro ⟨u1, m1⟩ e9 ho hle
      try dsimp only at ho hle ⊢
      subst ho
      replace hI0 := elim_l hI0
      refine hK5 _ ?_
      refine tr_le hle ?_
      refine tr_sreg fun K14 hK14 => ?_
      try simp +decide only [go_sem, ↓reduceIte, hc_q1, hw_q1, g1, hx1a, hx1b, hx1l]
      refine hK14 _ ?_
      refine tr_ret ?_
      try simp +decide only [Post.andThen, Post.inBlock, rangePost, ↓reduceIte]
      obtain rfl := Option.some.inj hI0
      simp [PG.Fin, resAll, resOf, resV, Try.results53, go_sem, hc_q1, hw_q1, g1, hx1a, hx1b, hx1l]

-- moothall/line.choose
def line_choose_b2 (x1 : line_row) (k2 : Nat) (x3 : line_frac) (s2 : (Int × Int)) : Option (Ctl (Int × Int) (Ctl ((List line_frac) × (List line_frac)) line_frac)) :=
  (x1.f_Row.f_Coef[k2]?).bind fun x4 =>
  some (.nx ((IntKind.i64.wrap ((IntKind.i64.wrap (s2.1 * x3.f_d)) - (IntKind.i64.wrap ((IntKind.i64.wrap (x4 * x3.f_n)) * s2.2)))), (IntKind.i64.wrap (s2.2 * x3.f_d))))
def line_choose_b0 (fu : Nat) (p1 : Int) (p2 : (List line_frac)) (k1 : Nat) (x1 : line_row) (s1 : ((List line_frac) × (List line_frac))) : Option (Ctl ((List line_frac) × (List line_frac)) line_frac) :=
  (idx x1.f_Row.f_Coef p1).bind fun x2 =>
  cond (x2 == 0)
    (some (.nx (s1.1, s1.2)))
    ((forL (line_choose_b2 x1) 0 p2 (x1.f_Row.f_Most, 1)).bind (Sum.elim (fun (u1 : (Int × Int)) =>
      (line_lowest fu u1.1 u1.2).bind fun r1 =>
      (line_lowest fu r1.f_n (IntKind.i64.wrap (r1.f_d * x2))).bind fun r2 =>
      cond (decide (x2 > 0))
        ((chk (s1.1.length + 1 ≤ LIM)).bind fun _ =>
        some (.nx ((s1.1 ++ [r2]), s1.2)))
        ((chk (s1.2.length + 1 ≤ LIM)).bind fun _ =>
        some (.nx (s1.1, (s1.2 ++ [r2]))))) some))
def line_choose (fu : Nat) (p0 : (List line_row)) (p1 : Int) (p2 : (List line_frac)) : Option line_frac :=
  (forL (line_choose_b0 fu p1 p2) 0 p0 (([] : (List line_frac)), ([] : (List line_frac)))).bind (Sum.elim (fun (u2 : ((List line_frac) × (List line_frac))) =>
    cond (decide ((u2.2.length : Int) > 0))
      ((slices_MaxFunc_line_frac fu u2.2 (fun z0 z1 => line_order z0 z1)).bind fun r3 =>
      some r3)
      (cond (decide ((u2.1.length : Int) > 0))
        ((slices_MinFunc_line_frac fu u2.1 (fun z0 z1 => line_order z0 z1)).bind fun r4 =>
        some r4)
        (some (line_frac.mk 0 1)))) some)
theorem line_choose_pc (fu : Nat) (p0 : (List line_row)) (p1 : Int) (p2 : (List line_frac)) (R : line_frac) (hI0 : line_choose fu p0 p1 p2 = some R) : PC Try.prog 36 [.sl 3 (p0.map e_line_row), .int .i64 p1, .sl 2 (p2.map e_line_frac)] (e_line_frac R) := by
  unfold line_choose at hI0
  refine pc_se Try.func36 rfl (by kernel_rfl) 104 rfl (by simp) ?_
  show Tr _ _ (SE 104 [(0, .sl 3 (p0.map e_line_row)), (1, .int .i64 p1), (2, .sl 2 (p2.map e_line_frac))] []) _
  refine tr_sreg fun K1 hK1 => ?_
  try simp +decide only [go_sem, ↓reduceIte]
  refine hK1 _ ?_
  refine tr_sreg fun K2 hK2 => ?_
  try simp +decide only [go_sem, ↓reduceIte]
  refine hK2 _ ?_
  refine tr_seq_k fun K3 hK3 => ?_
  refine tr_sreg fun K4 hK4 => ?_
  try simp +decide only [go_sem, ↓reduceIte]
  refine hK4 _ ?_
  obtain ⟨o2, hL2, hI0⟩ := bind_inv hI0
  refine tr_le (le_new_se 1001 0 true 2 (by try simp +decide only [go_sem, ↓reduceIte])) ?_
  try simp +decide only [go_sem, ↓reduceIte]
  refine tr_le (le_new_se 1002 0 true 2 (by try simp +decide only [go_sem, ↓reduceIte])) ?_
  try simp +decide only [go_sem, ↓reduceIte]
  refine tr_tail_ex (fun (i : ((List line_frac) × (List line_frac)) × (Nat × Nat)) => o2 = .inl i.1) (fun i => SE 104 ((fun (i : ((List line_frac) × (List line_frac)) × (Nat × Nat)) => [(1, .int .i64 p1), (2, .sl 2 (p2.map e_line_frac)), (6, .ep 6 0 2 0 0), (7, .so 1002 i.2.2 2 0 i.1.2.length), (8, .so 1001 i.2.1 2 0 i.1.1.length), (16, .sl 3 (p0.map e_line_row))]) i) ((fun (i : ((List line_frac) × (List line_frac)) × (Nat × Nat)) => [(6, .arr 0 true 2 [.agg [.int .i64 0, .int .i64 0]]), (1001, .arr i.2.1 true 2 (i.1.1.map e_line_frac)), (1002, .arr i.2.2 true 2 (i.1.2.map e_line_frac))]) i)) ?_ ?_
  · refine tr_lim_sl (t := 16) (sz := 3) (l := p0.map e_line_row) (by try simp +decide only [go_sem, ↓reduceIte]) rfl fun hlim => ?_
    refine tr_forL 104 (fun i => i.1) (fun (i : ((List line_frac) × (List line_frac)) × (Nat × Nat)) => [(1, .int .i64 p1), (2, .sl 2 (p2.map e_line_frac)), (6, .ep 6 0 2 0 0), (7, .so 1002 i.2.2 2 0 i.1.2.length), (8, .so 1001 i.2.1 2 0 i.1.1.length), (16, .sl 3 (p0.map e_line_row))]) (fun (i : ((List line_frac) × (List line_frac)) × (Nat × Nat)) => [(6, .arr 0 true 2 [.agg [.int .i64 0, .int .i64 0]]), (1001, .arr i.2.1 true 2 (i.1.1.map e_line_frac)), (1002, .arr i.2.2 true 2 (i.1.2.map e_line_frac))]) ((([] : (List line_frac)), ([] : (List line_frac))), (0, 0)) hL2 ?_ ?_ ?_ ?_ ?_ ?_ ?_
    · simpa using hlim
    · first | exact .inl rfl | exact .inr rfl
    · decide
    · decide
    · intro i; simp [aget]
    · exact le_se (by simp [go_sem]) (by simp [go_sem])
    · rintro k1 x1 ⟨s1, n1⟩ ctl1 hx1 hq1 hI1 hbk1 hrt1
      try dsimp only at hI1 ⊢
      unfold line_choose_b0 at hI1
      refine tr_sreg fun K5 hK5 => ?_
      try simp +decide only [go_sem, ↓reduceIte, hx1]
      refine hK5 _ ?_
      refine tr_seq_k fun K6 hK6 => ?_
      refine tr_sreg fun K7 hK7 => ?_
      obtain ⟨x2, hx2, hI1⟩ := bind_inv hI1
      have hx2l : p1 < ((x1.f_Row.f_Coef.length : Nat) : Int) := by simpa using idx_below hx2
      obtain ⟨hx2a, hx2b⟩ := idx_some hx2; clear hx2
      try simp +decide only [go_sem, ↓reduceIte, hx1, hx2a, hx2b, hx2l]
      refine hK7 _ ?_
      refine tr_condS (b := (x2 == 0)) rfl (by simp +decide only [go_sem, ↓reduceIte, hx1, hx2a, hx2b, hx2l]) ?_ ?_
      · intro g1
        replace hI1 := cond_t g1 hI1
        refine tr_exit ?_
        try simp +decide only [Post.andThen, Post.inBlock, rangePost, ↓reduceIte]
        obtain rfl := Option.some.inj hI1
        refine st_mk ((s1.1, s1.2), (n1.1, n1.2)) (by first | rfl | trivial) ?_
        exact le_se (by simp [go_sem, hx1, hx2a, hx2b, hx2l, g1]) (by simp [go_sem, hx1, hx2a, hx2b, hx2l, g1])
      · intro g1
        replace hI1 := cond_f g1 hI1
        refine tr_skip ?_
        try simp +decide only [Post.andThen, Post.inBlock, rangePost, ↓reduceIte]
        refine hK6 _ ?_
        refine tr_sreg fun K8 hK8 => ?_
        try simp +decide only [go_sem, ↓reduceIte, hx1, hx2a, hx2b, hx2l, g1]
        refine hK8 _ ?_
        refine tr_seq_k fun K9 hK9 => ?_
        refine tr_sreg fun K10 hK10 => ?_
        try simp +decide only [go_sem, ↓reduceIte, hx1, hx2a, hx2b, hx2l, g1]
        refine hK10 _ ?_
        obtain ⟨o1, hL1, hI1⟩ := bind_inv hI1
        refine tr_tail_ex (fun (i : (Int × Int) × Unit) => o1 = .inl i.1) (fun i => SE 104 ((fun (i : (Int × Int) × Unit) => [(1, .int .i64 p1), (2, .sl 2 (p2.map e_line_frac)), (6, .ep 6 0 2 0 0), (7, .so 1002 n1.2 2 0 s1.2.length), (8, .so 1001 n1.1 2 0 s1.1.length), (10, .ep 10 0 3 0 0), (11, .int .i64 i.1.1), (12, .int .i64 i.1.2), (16, .sl 3 (p0.map e_line_row)), (17, .int .i64 (p0.length : Int)), (18, .int .i64 (k1 : Int)), (32, .sl 2 (p2.map e_line_frac))]) i) ((fun (i : (Int × Int) × Unit) => [(6, .arr 0 true 2 [.agg [.int .i64 0, .int .i64 0]]), (10, .arr 0 true 3 [.agg [.sl 1 (x1.f_Row.f_Coef.map (V.int .i64)), .int .i64 x1.f_Row.f_Most, .sl 1 (x1.f_by.map (V.int .i64))]]), (1001, .arr n1.1 true 2 (s1.1.map e_line_frac)), (1002, .arr n1.2 true 2 (s1.2.map e_line_frac))]) i)) ?_ ?_
        · refine tr_lim_sl (t := 2) (sz := 2) (l := p2.map e_line_frac) (by try simp +decide only [go_sem, ↓reduceIte, hx1, hx2a, hx2b, hx2l, g1]) rfl fun hlim => ?_
          refine tr_forL 104 (fun i => i.1) (fun (i : (Int × Int) × Unit) => [(1, .int .i64 p1), (2, .sl 2 (p2.map e_line_frac)), (6, .ep 6 0 2 0 0), (7, .so 1002 n1.2 2 0 s1.2.length), (8, .so 1001 n1.1 2 0 s1.1.length), (10, .ep 10 0 3 0 0), (11, .int .i64 i.1.1), (12, .int .i64 i.1.2), (16, .sl 3 (p0.map e_line_row)), (17, .int .i64 (p0.length : Int)), (18, .int .i64 (k1 : Int)), (32, .sl 2 (p2.map e_line_frac))]) (fun (i : (Int × Int) × Unit) => [(6, .arr 0 true 2 [.agg [.int .i64 0, .int .i64 0]]), (10, .arr 0 true 3 [.agg [.sl 1 (x1.f_Row.f_Coef.map (V.int .i64)), .int .i64 x1.f_Row.f_Most, .sl 1 (x1.f_by.map (V.int .i64))]]), (1001, .arr n1.1 true 2 (s1.1.map e_line_frac)), (1002, .arr n1.2 true 2 (s1.2.map e_line_frac))]) ((x1.f_Row.f_Most, 1), ()) hL1 ?_ ?_ ?_ ?_ ?_ ?_ ?_
          · simpa using hlim
          · first | exact .inl rfl | exact .inr rfl
          · decide
          · decide
          · intro i; simp [aget]
          · exact le_se (by simp [go_sem, hx1, hx2a, hx2b, hx2l, g1]) (by simp [go_sem, hx1, hx2a, hx2b, hx2l, g1])
          · rintro k2 x3 ⟨s2, n2⟩ ctl2 hx3 hq2 hI2 hbk2 hrt2
            try dsimp only at hI2 ⊢
            unfold line_choose_b2 at hI2
            refine tr_sreg fun K11 hK11 => ?_
            try simp +decide only [go_sem, ↓reduceIte, hx1, hx2a, hx2b, hx2l, g1, hx3]
            refine hK11 _ ?_
            refine drawT mixA (by kernel_rfl) (by kernel_rfl) ?_
            obtain ⟨x4, hx4, hI2⟩ := bind_inv hI2
            have hx4b : (k2 : Int) < (x1.f_Row.f_Coef.length : Nat) := by simpa using get_lt hx4
            try simp +decide only [go_sem, ↓reduceIte, hx1, hx2a, hx2b, hx2l, g1, hx3, hx4, hx4b]
            refine dn_mk (by kernel_rfl) ?_
            obtain rfl := Option.some.inj hI2
            refine st_mk (((IntKind.i64.wrap ((IntKind.i64.wrap (s2.1 * x3.f_d)) - (IntKind.i64.wrap ((IntKind.i64.wrap (x4 * x3.f_n)) * s2.2)))), (IntKind.i64.wrap (s2.2 * x3.f_d))), ()) (by first | rfl | trivial) ?_
            exact le_se (by simp [go_sem, hx1, hx2a, hx2b, hx2l, g1, hx3, hx4, hx4b]) (by simp [go_sem, hx1, hx2a, hx2b, hx2l, g1, hx3, hx4, hx4b])
        · rintro ⟨u1, m1⟩ e9 ho hle
          try dsimp only at ho hle ⊢
          subst ho
          replace hI1 := elim_l hI1
          refine hK9 _ ?_
          refine tr_le hle ?_
          refine tr_sreg fun K13 hK13 => ?_
          try simp +decide only [go_sem, ↓reduceIte, hx1, hx2a, hx2b, hx2l, g1]
          obtain ⟨r1, hr1, hI1⟩ := bind_inv hI1
          refine evl_callS (caps := []) (line_lowest_pc fu u1.1 u1.2 _ hr1) (by simp +decide only [go_sem, ↓reduceIte, hx1, hx2a, hx2b, hx2l, g1]) ?_
          try simp +decide only [go_sem, ↓reduceIte, hx1, hx2a, hx2b, hx2l, g1]
          refine hK13 _ ?_
          refine drawS mixA (by kernel_rfl) (by kernel_rfl) fun K14 hK14 => ?_
          try simp +decide only [go_sem, ↓reduceIte, hx1, hx2a, hx2b, hx2l, g1]
          obtain ⟨r2, hr2, hI1⟩ := bind_inv hI1
          refine evi_callS (caps := []) (line_lowest_pc fu r1.f_n (IntKind.i64.wrap (r1.f_d * x2)) _ hr2) (by simp +decide only [go_sem, ↓reduceIte, hx1, hx2a, hx2b, hx2l, g1]) ?_
          try simp +decide only [go_sem, ↓reduceIte, hx1, hx2a, hx2b, hx2l, g1]
          refine dn_mk (by kernel_rfl) ?_
          refine hK14 _ ?_
          refine tr_sreg fun K15 hK15 => ?_
          try simp +decide only [go_sem, ↓reduceIte, hx1, hx2a, hx2b, hx2l, g1]
          refine hK15 _ ?_
          refine tr_condS (b := (decide (x2 > 0))) rfl (by simp +decide only [go_sem, ↓reduceIte, hx1, hx2a, hx2b, hx2l, g1]) ?_ ?_
          · intro g2
            replace hI1 := cond_t g2 hI1
            refine tr_reg ?_
            obtain ⟨_, c1, hI1⟩ := bind_inv hI1; replace c1 := chk_some c1
            try simp +decide only [go_sem, ↓reduceIte, hx1, hx2a, hx2b, hx2l, g1, g2, c1]
            obtain rfl := Option.some.inj hI1
            refine st_mk (((s1.1 ++ [r2]), s1.2), ((n1.1 + 1), n1.2)) (by first | rfl | trivial) ?_
            exact le_se (by simp [go_sem, hx1, hx2a, hx2b, hx2l, g1, g2, c1]) (by simp [go_sem, hx1, hx2a, hx2b, hx2l, g1, g2, c1])
          · intro g2
            replace hI1 := cond_f g2 hI1
            refine tr_reg ?_
            obtain ⟨_, c2, hI1⟩ := bind_inv hI1; replace c2 := chk_some c2
            try simp +decide only [go_sem, ↓reduceIte, hx1, hx2a, hx2b, hx2l, g1, g2, c2]
            obtain rfl := Option.some.inj hI1
            refine st_mk ((s1.1, (s1.2 ++ [r2])), (n1.1, (n1.2 + 1))) (by first | rfl | trivial) ?_
            exact le_se (by simp [go_sem, hx1, hx2a, hx2b, hx2l, g1, g2, c2]) (by simp [go_sem, hx1, hx2a, hx2b, hx2l, g1, g2, c2])
  · rintro ⟨u2, m2⟩ e9 ho hle
    try dsimp only at ho hle ⊢
    subst ho
    replace hI0 := elim_l hI0
    refine hK3 _ ?_
    refine tr_le hle ?_
    refine tr_seq_k fun K18 hK18 => ?_
    refine tr_block ?_
    refine tr_sreg fun K19 hK19 => ?_
    try simp +decide only [go_sem, ↓reduceIte]
    refine hK19 _ ?_
    refine tr_condS (b := (decide ((u2.2.length : Int) > 0))) rfl (by simp +decide only [go_sem, ↓reduceIte]) ?_ ?_
    · intro g3
      replace hI0 := cond_t g3 hI0
      refine tr_sreg fun K20 hK20 => ?_
      try simp +decide only [go_sem, ↓reduceIte, g3]
      obtain ⟨r3, hr3, hI0⟩ := bind_inv hI0
      refine evl_lentS (caps := []) (slices_MaxFunc_line_frac_pc fu u2.2 (fun z0 z1 => line_order z0 z1) 52 [] rfl (fun z0 z1 r h => line_order_pc z0 z1 r h) _ hr3) (by simp +decide only [go_sem, ↓reduceIte, g3, resV, List.mapM_cons, List.mapM_nil, Option.pure_def, Option.bind_eq_bind, Option.bind_some, V.flat, V.flatL]) ?_
      try simp +decide only [go_sem, ↓reduceIte, g3]
      refine hK20 _ ?_
      refine tr_ret ?_
      try simp +decide only [Post.andThen, Post.inBlock, rangePost, ↓reduceIte]
      obtain rfl := Option.some.inj hI0
      simp [PG.Fin, resAll, resOf, resV, Try.results36, go_sem, g3]
    · intro g3
      replace hI0 := cond_f g3 hI0
      refine tr_sreg fun K21 hK21 => ?_
      try simp +decide only [go_sem, ↓reduceIte, g3]
      refine hK21 _ ?_
      refine tr_condS (b := (decide ((u2.1.length : Int) > 0))) rfl (by simp +decide only [go_sem, ↓reduceIte, g3]) ?_ ?_
      · intro g4
        replace hI0 := cond_t g4 hI0
        refine tr_sreg fun K22 hK22 => ?_
        try simp +decide only [go_sem, ↓reduceIte, g3, g4]
        obtain ⟨r4, hr4, hI0⟩ := bind_inv hI0
        refine evl_lentS (caps := []) (slices_MinFunc_line_frac_pc fu u2.1 (fun z0 z1 => line_order z0 z1) 52 [] rfl (fun z0 z1 r h => line_order_pc z0 z1 r h) _ hr4) (by simp +decide only [go_sem, ↓reduceIte, g3, g4, resV, List.mapM_cons, List.mapM_nil, Option.pure_def, Option.bind_eq_bind, Option.bind_some, V.flat, V.flatL]) ?_
        try simp +decide only [go_sem, ↓reduceIte, g3, g4]
        refine hK22 _ ?_
        refine tr_ret ?_
        try simp +decide only [Post.andThen, Post.inBlock, rangePost, ↓reduceIte]
        obtain rfl := Option.some.inj hI0
        simp [PG.Fin, resAll, resOf, resV, Try.results36, go_sem, g3, g4]
      · intro g4
        replace hI0 := cond_f g4 hI0
        refine tr_skip ?_
        try simp +decide only [Post.andThen, Post.inBlock, rangePost, ↓reduceIte]
        refine hK18 _ ?_
        refine tr_sreg fun K23 hK23 => ?_
        try simp +decide only [go_sem, ↓reduceIte, g3, g4]
        refine hK23 _ ?_
        refine tr_ret ?_
        try simp +decide only [Post.andThen, Post.inBlock, rangePost, ↓reduceIte]
        obtain rfl := Option.some.inj hI0
        simp [PG.Fin, resAll, resOf, resV, Try.results36, go_sem, g3, g4]

-- moothall/line.Solve
def line_Solve_b0 (p0 : (List line_Row)) (k1 : Nat) (x1 : line_Row) (s1 : (List line_row)) : Option (Ctl (List line_row) (line_Point × (List Int) × Bool × Int)) :=
  (chk (0 ≤ (p0.length : Int) ∧ (p0.length : Int) ≤ (LIM : Int))).bind fun _ =>
  ((List.replicate p0.length (0 : Int))[k1]?).bind fun x2 =>
  (slices_Clone_int x1.f_Coef).bind fun r2 =>
  (chk (s1.length + 1 ≤ LIM)).bind fun _ =>
  some (.nx (s1 ++ [(line_row.mk (line_Row.mk r2 x1.f_Most) ((List.replicate p0.length (0 : Int)).set k1 1))]))
def line_Solve_b2 (s1 : (Int × (List (List line_row)))) : Option (Ctl (Int × (List (List line_row))) (line_Point × (List Int) × Bool × Int)) :=
  cond (decide (s1.1 ≥ 0))
    ((idx s1.2 (IntKind.i64.wrap (s1.1 + 1))).bind fun x4 =>
    (line_without x4 s1.1).bind fun r3 =>
    (idx s1.2 s1.1).bind fun x5 =>
    some (.nx ((IntKind.i64.wrap (s1.1 - 1)), (s1.2.set s1.1.toNat r3))))
    (some (.bk (s1.1, s1.2)))
def line_Solve_b4 (k2 : Nat) (x7 : line_row) (s1 : Unit) : Option (Ctl Unit (line_Point × (List Int) × Bool × Int)) :=
  cond (decide (x7.f_Row.f_Most < 0))
    (some (.rt ((line_Point.mk ([] : (List Int)) 0), x7.f_by, false, 0)))
    (some (.nx ()))
def line_Solve_b6 (fu : Nat) (u2 : (Int × (List (List line_row)))) (k3 : Nat) (s1 : (List line_frac)) : Option (Ctl (List line_frac) (line_Point × (List Int) × Bool × Int)) :=
  (idx u2.2 (IntKind.i64.wrap ((k3 : Int) + 1))).bind fun x8 =>
  (line_choose fu x8 (k3 : Int) s1).bind fun r4 =>
  (chk (s1.length + 1 ≤ LIM)).bind fun _ =>
  some (.nx (s1 ++ [r4]))
def line_Solve_b8 (fu : Nat) (k4 : Nat) (x9 : line_frac) (s1 : Int) : Option (Ctl Int (line_Point × (List Int) × Bool × Int)) :=
  (line_common fu s1 x9.f_d).bind fun r5 =>
  (chk (¬ r5 = 0)).bind fun _ =>
  some (.nx (IntKind.i64.wrap ((IntKind.i64.wrap (s1.tdiv r5)) * x9.f_d)))
def line_Solve_b10 (u5 : Int) (k5 : Nat) (x10 : line_frac) (s1 : (List Int)) : Option (Ctl (List Int) (line_Point × (List Int) × Bool × Int)) :=
  (chk (¬ x10.f_d = 0)).bind fun _ =>
  (chk (s1.length + 1 ≤ LIM)).bind fun _ =>
  some (.nx (s1 ++ [(IntKind.i64.wrap (x10.f_n * (IntKind.i64.wrap (u5.tdiv x10.f_d))))]))
def line_Solve (fu : Nat) (p0 : (List line_Row)) (p1 : Int) : Option (line_Point × (List Int) × Bool × Int) :=
  (line_Check p0 p1).bind fun r1 =>
  cond (r1 != 0)
    (some ((line_Point.mk ([] : (List Int)) 0), ([] : (List Int)), false, r1))
    ((forL (line_Solve_b0 p0) 0 p0 ([] : (List line_row))).bind (Sum.elim (fun (u1 : (List line_row)) =>
      (chk (0 ≤ (IntKind.i64.wrap (p1 + 1)) ∧ (IntKind.i64.wrap (p1 + 1)) ≤ (LIM : Int))).bind fun _ =>
      (idx (List.replicate ((IntKind.i64.wrap (p1 + 1)).toNat) (([] : (List line_row)) : (List line_row))) p1).bind fun x3 =>
      (whL line_Solve_b2 fu ((IntKind.i64.wrap (p1 - 1)), ((List.replicate ((IntKind.i64.wrap (p1 + 1)).toNat) (([] : (List line_row)) : (List line_row))).set p1.toNat u1))).bind (Sum.elim (fun (u2 : (Int × (List (List line_row)))) =>
        (idx u2.2 0).bind fun x6 =>
        (forL line_Solve_b4 0 x6 ()).bind (Sum.elim (fun (u3 : Unit) =>
          (chk (p1 ≤ (LIM : Int))).bind fun _ =>
          (forN (line_Solve_b6 fu u2) 0 p1.toNat ([] : (List line_frac))).bind (Sum.elim (fun (u4 : (List line_frac)) =>
            (forL (line_Solve_b8 fu) 0 u4 1).bind (Sum.elim (fun (u5 : Int) =>
              (forL (line_Solve_b10 u5) 0 u4 ([] : (List Int))).bind (Sum.elim (fun (u6 : (List Int)) =>
                some ((line_Point.mk u6 u5), ([] : (List Int)), true, 0)) some)) some)) some)) some)) some)) some))
theorem line_Solve_pc (fu : Nat) (p0 : (List line_Row)) (p1 : Int) (R : (line_Point × (List Int) × Bool × Int)) (hI0 : line_Solve fu p0 p1 = some R) : PC Try.prog 8 [.sl 2 (p0.map e_line_Row), .int .i64 p1] (.tup [.agg [.sl 1 (R.1.f_Num.map (V.int .i64)), .int .i64 R.1.f_Den], .sl 1 (R.2.1.map (V.int .i64)), .bool R.2.2.1, .int .i64 R.2.2.2]) := by
  unfold line_Solve at hI0
  refine pc_se Try.func8 rfl (by kernel_rfl) 150 rfl (by simp) ?_
  show Tr _ _ (SE 150 [(0, .sl 2 (p0.map e_line_Row)), (1, .int .i64 p1)] []) _
  refine tr_sreg fun K1 hK1 => ?_
  try simp +decide only [go_sem, ↓reduceIte]
  refine hK1 _ ?_
  refine tr_seq_k fun K2 hK2 => ?_
  refine tr_sreg fun K3 hK3 => ?_
  try simp +decide only [go_sem, ↓reduceIte]
  obtain ⟨r1, hr1, hI0⟩ := bind_inv hI0
  refine evl_callS (caps := []) (line_Check_pc p0 p1 _ hr1) (by simp +decide only [go_sem, ↓reduceIte]) ?_
  try simp +decide only [go_sem, ↓reduceIte]
  refine hK3 _ ?_
  refine tr_sreg fun K4 hK4 => ?_
  try simp +decide only [go_sem, ↓reduceIte]
  refine hK4 _ ?_
  refine tr_condS (b := (r1 != 0)) rfl (by simp +decide only [go_sem, ↓reduceIte]) ?_ ?_
  · intro g1
    replace hI0 := cond_t g1 hI0
    refine tr_sreg fun K5 hK5 => ?_
    try simp +decide only [go_sem, ↓reduceIte, g1]
    refine hK5 _ ?_
    refine tr_le (le_obj 4 0 2 true [.agg [.nil, .int .i64 0]] [.agg [.sl 1 (([] : (List Int)).map (V.int .i64)), .int .i64 0]] (by try simp +decide only [go_sem, ↓reduceIte, g1]) (by simp [go_sem])) ?_
    try simp +decide only [go_sem, ↓reduceIte, g1]
    refine tr_le (e' := SE 150 [(4, .ep 4 0 2 0 0), (5, .sl 1 (([] : (List Int)).map (V.int .i64))), (6, .bool false), (7, .int .i64 r1)] [(4, .arr 0 false 2 [.agg [.sl 1 (([] : (List Int)).map (V.int .i64)), .int .i64 0]])]) ?_ ?_
    · exact le_se (by simp [go_sem, g1]) (by simp [go_sem, g1])
    refine tr_ret ?_
    try simp +decide only [Post.andThen, Post.inBlock, rangePost, ↓reduceIte]
    obtain rfl := Option.some.inj hI0
    simp [PG.Fin, resAll, resOf, resV, Try.results8, go_sem, g1]
  · intro g1
    replace hI0 := cond_f g1 hI0
    refine tr_skip ?_
    try simp +decide only [Post.andThen, Post.inBlock, rangePost, ↓reduceIte]
    refine hK2 _ ?_
    refine tr_sreg fun K6 hK6 => ?_
    try simp +decide only [go_sem, ↓reduceIte, g1]
    refine hK6 _ ?_
    refine tr_seq_k fun K7 hK7 => ?_
    refine tr_sreg fun K8 hK8 => ?_
    try simp +decide only [go_sem, ↓reduceIte, g1]
    refine hK8 _ ?_
    obtain ⟨o1, hL1, hI0⟩ := bind_inv hI0
    refine tr_le (le_new_se 1001 0 true 3 (by try simp +decide only [go_sem, ↓reduceIte, g1])) ?_
    try simp +decide only [go_sem, ↓reduceIte, g1]
    refine tr_tail_ex (fun (i : (List line_row) × Nat) => o1 = .inl i.1) (fun i => SE 150 ((fun (i : (List line_row) × Nat) => [(0, .sl 2 (p0.map e_line_Row)), (1, .int .i64 p1), (4, .ep 4 0 2 0 0), (9, .so 1001 i.2 3 0 i.1.length), (32, .sl 2 (p0.map e_line_Row))]) i) ((fun (i : (List line_row) × Nat) => [(4, .arr 0 true 2 [.agg [.nil, .int .i64 0]]), (1001, .arr i.2 true 3 (i.1.map e_line_row))]) i)) ?_ ?_
    · refine tr_lim_sl (t := 0) (sz := 2) (l := p0.map e_line_Row) (by try simp +decide only [go_sem, ↓reduceIte, g1]) rfl fun hlim => ?_
      refine tr_forL 150 (fun i => i.1) (fun (i : (List line_row) × Nat) => [(0, .sl 2 (p0.map e_line_Row)), (1, .int .i64 p1), (4, .ep 4 0 2 0 0), (9, .so 1001 i.2 3 0 i.1.length), (32, .sl 2 (p0.map e_line_Row))]) (fun (i : (List line_row) × Nat) => [(4, .arr 0 true 2 [.agg [.nil, .int .i64 0]]), (1001, .arr i.2 true 3 (i.1.map e_line_row))]) (([] : (List line_row)), 0) hL1 ?_ ?_ ?_ ?_ ?_ ?_ ?_
      · simpa using hlim
      · first | exact .inl rfl | exact .inr rfl
      · decide
      · decide
      · intro i; simp [aget]
      · exact le_se (by simp [go_sem, g1]) (by simp [go_sem, g1])
      · rintro k1 x1 ⟨s1, n1⟩ ctl1 hx1 hq1 hI1 hbk1 hrt1
        try dsimp only at hI1 ⊢
        unfold line_Solve_b0 at hI1
        refine tr_sreg fun K9 hK9 => ?_
        try simp +decide only [go_sem, ↓reduceIte, g1, hx1]
        refine hK9 _ ?_
        refine tr_sreg fun K10 hK10 => ?_
        obtain ⟨_, c1, hI1⟩ := bind_inv hI1; replace c1 := chk_some c1
        obtain ⟨c1a, c1b⟩ := c1
        try simp +decide only [go_sem, ↓reduceIte, g1, hx1, c1a, c1b]
        refine hK10 _ ?_
        refine tr_le (e' := SE 150 [(0, .sl 2 (p0.map e_line_Row)), (1, .int .i64 p1), (4, .ep 4 0 2 0 0), (9, .so 1001 n1 3 0 s1.length), (10, .int .i64 (k1 : Int)), (11, .ep 11 0 2 0 0), (12, .so 41 0 1 0 p0.length), (32, .sl 2 (p0.map e_line_Row)), (33, .int .i64 (p0.length : Int)), (34, .int .i64 (k1 : Int))] [(4, .arr 0 true 2 [.agg [.nil, .int .i64 0]]), (11, .arr 0 true 2 [.agg [.sl 1 (x1.f_Coef.map (V.int .i64)), .int .i64 x1.f_Most]]), (41, .arr 0 true 1 ((List.replicate p0.length (0 : Int)).map (V.int .i64))), (1001, .arr n1 true 3 (s1.map e_line_row))]) ?_ ?_
        · exact le_se (by simp [go_sem, g1, hx1, c1a, c1b]) (by simp [go_sem, g1, hx1, c1a, c1b])
        refine tr_sreg fun K11 hK11 => ?_
        obtain ⟨x2, hx2, hI1⟩ := bind_inv hI1
        have hx2b : (k1 : Int) < (p0.length : Nat) := by simpa using get_lt hx2
        try simp +decide only [go_sem, ↓reduceIte, g1, hx1, c1a, c1b, hx2, hx2b]
        refine hK11 _ ?_
        refine tr_le (e' := SE 150 [(0, .sl 2 (p0.map e_line_Row)), (1, .int .i64 p1), (4, .ep 4 0 2 0 0), (9, .so 1001 n1 3 0 s1.length), (11, .ep 11 0 2 0 0), (12, .so 41 0 1 0 p0.length), (32, .sl 2 (p0.map e_line_Row)), (33, .int .i64 (p0.length : Int)), (34, .int .i64 (k1 : Int))] [(4, .arr 0 true 2 [.agg [.nil, .int .i64 0]]), (11, .arr 0 true 2 [.agg [.sl 1 (x1.f_Coef.map (V.int .i64)), .int .i64 x1.f_Most]]), (41, .arr 0 true 1 (((List.replicate p0.length (0 : Int)).set k1 1).map (V.int .i64))), (1001, .arr n1 true 3 (s1.map e_line_row))]) ?_ ?_
        · exact le_se (by simp [go_sem, g1, hx1, c1a, c1b, hx2, hx2b]) (by simp [go_sem, g1, hx1, c1a, c1b, hx2, hx2b])
        refine tr_le (le_sealS 41 0 1 (((List.replicate p0.length (0 : Int)).set k1 1).map (V.int .i64)) (by try simp +decide only [go_sem, ↓reduceIte, g1, hx1, c1a, c1b, hx2, hx2b])) ?_
        try simp +decide only [go_sem, ↓reduceIte, g1, hx1, c1a, c1b, hx2, hx2b]
        refine drawT mixA (by kernel_rfl) (by kernel_rfl) ?_
        try simp +decide only [go_sem, ↓reduceIte, g1, hx1, c1a, c1b, hx2, hx2b]
        obtain ⟨r2, hr2, hI1⟩ := bind_inv hI1
        refine evi_callS (caps := []) (slices_Clone_int_pc x1.f_Coef _ hr2) (by simp +decide only [go_sem, ↓reduceIte, g1, hx1, c1a, c1b, hx2, hx2b]) ?_
        obtain ⟨_, c2, hI1⟩ := bind_inv hI1; replace c2 := chk_some c2
        try simp +decide only [go_sem, ↓reduceIte, g1, hx1, c1a, c1b, hx2, hx2b, c2]
        refine dn_mk (by kernel_rfl) ?_
        obtain rfl := Option.some.inj hI1
        refine st_mk ((s1 ++ [(line_row.mk (line_Row.mk r2 x1.f_Most) ((List.replicate p0.length (0 : Int)).set k1 1))]), (n1 + 1)) (by first | rfl | trivial) ?_
        exact le_se (by simp [go_sem, g1, hx1, c1a, c1b, hx2, hx2b, c2]) (by simp [go_sem, g1, hx1, c1a, c1b, hx2, hx2b, c2])
    · rintro ⟨u1, m1⟩ e9 ho hle
      try dsimp only at ho hle ⊢
      subst ho
      replace hI0 := elim_l hI0
      refine hK7 _ ?_
      refine tr_le hle ?_
      refine tr_sreg fun K13 hK13 => ?_
      obtain ⟨_, c3, hI0⟩ := bind_inv hI0; replace c3 := chk_some c3
      obtain ⟨c3a, c3b⟩ := c3
      try simp +decide only [go_sem, ↓reduceIte, g1, c3a, c3b]
      refine hK13 _ ?_
      refine tr_le (le_nils 59 0 ((IntKind.i64.wrap (p1 + 1)).toNat) 3 (by try simp +decide only [go_sem, ↓reduceIte, g1, c3a, c3b])) ?_
      try simp +decide only [go_sem, ↓reduceIte, g1, c3a, c3b]
      refine tr_le (e' := SE 150 [(1, .int .i64 p1), (4, .ep 4 0 2 0 0), (9, .so 1001 m1 3 0 u1.length), (13, .so 59 0 1 0 ((IntKind.i64.wrap (p1 + 1)).toNat))] [(4, .arr 0 true 2 [.agg [.nil, .int .i64 0]]), (59, .arr 0 true 1 ((List.replicate ((IntKind.i64.wrap (p1 + 1)).toNat) (([] : (List line_row)) : (List line_row))).map e_Lline_row)), (1001, .arr m1 true 3 (u1.map e_line_row))]) ?_ ?_
      · exact le_se (by simp [go_sem, g1, c3a, c3b]) (by simp [go_sem, g1, c3a, c3b])
      refine tr_le (le_sealS 1001 m1 3 (u1.map e_line_row) (by try simp +decide only [go_sem, ↓reduceIte, g1, c3a, c3b])) ?_
      try simp +decide only [go_sem, ↓reduceIte, g1, c3a, c3b]
      refine tr_sreg fun K14 hK14 => ?_
      obtain ⟨x3, hx3, hI0⟩ := bind_inv hI0
      have hx3l : p1 < ((((IntKind.i64.wrap (p1 + 1)).toNat) : Nat) : Int) := by simpa using idx_below hx3
      obtain ⟨hx3a, hx3b⟩ := idx_some hx3; clear hx3
      try simp +decide only [go_sem, ↓reduceIte, g1, c3a, c3b, hx3a, hx3b, hx3l]
      refine hK14 _ ?_
      refine tr_le (e' := SE 150 [(1, .int .i64 p1), (4, .ep 4 0 2 0 0), (13, .so 59 0 1 0 ((IntKind.i64.wrap (p1 + 1)).toNat))] [(4, .arr 0 true 2 [.agg [.nil, .int .i64 0]]), (59, .arr 0 true 1 (((List.replicate ((IntKind.i64.wrap (p1 + 1)).toNat) (([] : (List line_row)) : (List line_row))).set p1.toNat u1).map e_Lline_row))]) ?_ ?_
      · exact le_se (by simp [go_sem, g1, c3a, c3b, hx3a, hx3b, hx3l]) (by simp [go_sem, g1, c3a, c3b, hx3a, hx3b, hx3l])
      refine tr_seq_k fun K15 hK15 => ?_
      refine tr_sreg fun K16 hK16 => ?_
      try simp +decide only [go_sem, ↓reduceIte, g1, c3a, c3b, hx3a, hx3b, hx3l]
      refine hK16 _ ?_
      obtain ⟨o2, hL2, hI0⟩ := bind_inv hI0
      refine tr_tail_ex (fun (i : (Int × (List (List line_row))) × Unit) => o2 = .inl i.1) (fun i => SE 150 ((fun (i : (Int × (List (List line_row))) × Unit) => [(1, .int .i64 p1), (4, .ep 4 0 2 0 0), (13, .so 59 0 1 0 i.1.2.length), (14, .int .i64 i.1.1)]) i) ((fun (i : (Int × (List (List line_row))) × Unit) => [(4, .arr 0 true 2 [.agg [.nil, .int .i64 0]]), (59, .arr 0 true 1 (i.1.2.map e_Lline_row))]) i)) ?_ ?_
      · refine tr_whL (fun i => i.1) (fun i => SE 150 ((fun (i : (Int × (List (List line_row))) × Unit) => [(1, .int .i64 p1), (4, .ep 4 0 2 0 0), (13, .so 59 0 1 0 i.1.2.length), (14, .int .i64 i.1.1)]) i) ((fun (i : (Int × (List (List line_row))) × Unit) => [(4, .arr 0 true 2 [.agg [.nil, .int .i64 0]]), (59, .arr 0 true 1 (i.1.2.map e_Lline_row))]) i)) (((IntKind.i64.wrap (p1 - 1)), ((List.replicate ((IntKind.i64.wrap (p1 + 1)).toNat) (([] : (List line_row)) : (List line_row))).set p1.toNat u1)), ()) hL2 ?_ ?_
        · exact le_se (by simp [go_sem, g1, c3a, c3b, hx3a, hx3b, hx3l]) (by simp [go_sem, g1, c3a, c3b, hx3a, hx3b, hx3l])
        · rintro ⟨s1, n1⟩ ctl1  hI1 hbk1 hrt1
          try dsimp only at hI1 ⊢
          unfold line_Solve_b2 at hI1
          refine tr_seq_k fun K17 hK17 => ?_
          refine tr_sreg fun K18 hK18 => ?_
          try simp +decide only [go_sem, ↓reduceIte, g1, c3a, c3b, hx3a, hx3b, hx3l]
          refine hK18 _ ?_
          refine tr_condS (b := (decide (s1.1 ≥ 0))) rfl (by simp +decide only [go_sem, ↓reduceIte, g1, c3a, c3b, hx3a, hx3b, hx3l]) ?_ ?_
          · intro g2
            replace hI1 := cond_t g2 hI1
            refine tr_skip ?_
            try simp +decide only [Post.andThen, Post.inBlock, rangePost, ↓reduceIte]
            refine hK17 _ ?_
            refine tr_seq_k fun K19 hK19 => ?_
            refine tr_block ?_
            refine tr_reg ?_
            obtain ⟨x4, hx4, hI1⟩ := bind_inv hI1
            have hx4l : (IntKind.i64.wrap (s1.1 + 1)) < ((s1.2.length : Nat) : Int) := by simpa using idx_below hx4
            obtain ⟨hx4a, hx4b⟩ := idx_some hx4; clear hx4
            try simp +decide only [go_sem, ↓reduceIte, g1, c3a, c3b, hx3a, hx3b, hx3l, g2, hx4a, hx4b, hx4l]
            obtain ⟨r3, hr3, hI1⟩ := bind_inv hI1
            refine evl_callS (caps := []) (line_without_pc x4 s1.1 _ hr3) (by simp +decide only [go_sem, ↓reduceIte, g1, c3a, c3b, hx3a, hx3b, hx3l, g2, hx4a, hx4b, hx4l]) ?_
            obtain ⟨x5, hx5, hI1⟩ := bind_inv hI1
            have hx5l : s1.1 < ((s1.2.length : Nat) : Int) := by simpa using idx_below hx5
            obtain ⟨hx5a, hx5b⟩ := idx_some hx5; clear hx5
            try simp +decide only [go_sem, ↓reduceIte, g1, c3a, c3b, hx3a, hx3b, hx3l, g2, hx4a, hx4b, hx4l, hx5a, hx5b, hx5l]
            refine hK19 _ ?_
            refine tr_le (e' := SE 150 [(1, .int .i64 p1), (4, .ep 4 0 2 0 0), (13, .so 59 0 1 0 s1.2.length), (14, .int .i64 s1.1)] [(4, .arr 0 true 2 [.agg [.nil, .int .i64 0]]), (59, .arr 0 true 1 ((s1.2.set s1.1.toNat r3).map e_Lline_row))]) ?_ ?_
            · exact le_se (by simp [go_sem, g1, c3a, c3b, hx3a, hx3b, hx3l, g2, hx4a, hx4b, hx4l, hx5a, hx5b, hx5l]) (by simp [go_sem, g1, c3a, c3b, hx3a, hx3b, hx3l, g2, hx4a, hx4b, hx4l, hx5a, hx5b, hx5l])
            refine tr_reg ?_
            try simp +decide only [go_sem, ↓reduceIte, g1, c3a, c3b, hx3a, hx3b, hx3l, g2, hx4a, hx4b, hx4l, hx5a, hx5b, hx5l]
            obtain rfl := Option.some.inj hI1
            refine st_mk (((IntKind.i64.wrap (s1.1 - 1)), (s1.2.set s1.1.toNat r3)), ()) (by first | rfl | trivial) ?_
            exact le_se (by simp [go_sem, g1, c3a, c3b, hx3a, hx3b, hx3l, g2, hx4a, hx4b, hx4l, hx5a, hx5b, hx5l]) (by simp [go_sem, g1, c3a, c3b, hx3a, hx3b, hx3l, g2, hx4a, hx4b, hx4l, hx5a, hx5b, hx5l])
          · intro g2
            replace hI1 := cond_f g2 hI1
            refine tr_exit ?_
            try simp +decide only [Post.andThen, Post.inBlock, rangePost, ↓reduceIte]
            obtain rfl := Option.some.inj hI1
            refine st_mk ((s1.1, s1.2), ()) (hbk1 _ rfl) ?_
            exact le_se (by simp [go_sem, g1, c3a, c3b, hx3a, hx3b, hx3l, g2]) (by simp [go_sem, g1, c3a, c3b, hx3a, hx3b, hx3l, g2])
      · rintro ⟨u2, m2⟩ e9 ho hle
        try dsimp only at ho hle ⊢
        subst ho
        replace hI0 := elim_l hI0
        refine hK15 _ ?_
        refine tr_le hle ?_
        refine tr_seq_k fun K22 hK22 => ?_
        refine tr_sreg fun K23 hK23 => ?_
        obtain ⟨x6, hx6, hI0⟩ := bind_inv hI0
        have hx6l : 0 < ((u2.2.length : Nat) : Int) := by simpa using idx_below hx6
        obtain ⟨hx6a, hx6b⟩ := idx_some hx6; clear hx6
        try simp +decide only [go_sem, ↓reduceIte, g1, c3a, c3b, hx3a, hx3b, hx3l, hx6a, hx6b, hx6l]
        refine hK23 _ ?_
        obtain ⟨o3, hL3, hI0⟩ := bind_inv hI0
        refine tr_tail_ex (fun (i : Unit × Unit) => o3 = .inl i.1) (fun i => SE 150 ((fun (i : Unit × Unit) => [(1, .int .i64 p1), (4, .ep 4 0 2 0 0), (13, .so 59 0 1 0 u2.2.length), (82, .sl 3 (x6.map e_line_row))]) i) ((fun (i : Unit × Unit) => [(4, .arr 0 true 2 [.agg [.nil, .int .i64 0]]), (59, .arr 0 true 1 (u2.2.map e_Lline_row))]) i)) ?_ ?_
        · refine tr_lim_sl (t := 82) (sz := 3) (l := x6.map e_line_row) (by try simp +decide only [go_sem, ↓reduceIte, g1, c3a, c3b, hx3a, hx3b, hx3l, hx6a, hx6b, hx6l]) rfl fun hlim => ?_
          refine tr_forL 150 (fun i => i.1) (fun (i : Unit × Unit) => [(1, .int .i64 p1), (4, .ep 4 0 2 0 0), (13, .so 59 0 1 0 u2.2.length), (82, .sl 3 (x6.map e_line_row))]) (fun (i : Unit × Unit) => [(4, .arr 0 true 2 [.agg [.nil, .int .i64 0]]), (59, .arr 0 true 1 (u2.2.map e_Lline_row))]) ((), ()) hL3 ?_ ?_ ?_ ?_ ?_ ?_ ?_
          · simpa using hlim
          · first | exact .inl rfl | exact .inr rfl
          · decide
          · decide
          · intro i; simp [aget]
          · exact le_se (by simp [go_sem, g1, c3a, c3b, hx3a, hx3b, hx3l, hx6a, hx6b, hx6l]) (by simp [go_sem, g1, c3a, c3b, hx3a, hx3b, hx3l, hx6a, hx6b, hx6l])
          · rintro k2 x7 ⟨s1, n1⟩ ctl1 hx7 hq2 hI1 hbk1 hrt1
            try dsimp only at hI1 ⊢
            unfold line_Solve_b4 at hI1
            refine tr_sreg fun K24 hK24 => ?_
            try simp +decide only [go_sem, ↓reduceIte, g1, c3a, c3b, hx3a, hx3b, hx3l, hx6a, hx6b, hx6l, hx7]
            refine hK24 _ ?_
            refine tr_sreg fun K25 hK25 => ?_
            try simp +decide only [go_sem, ↓reduceIte, g1, c3a, c3b, hx3a, hx3b, hx3l, hx6a, hx6b, hx6l, hx7]
            refine hK25 _ ?_
            refine tr_condS (b := (decide (x7.f_Row.f_Most < 0))) rfl (by simp +decide only [go_sem, ↓reduceIte, g1, c3a, c3b, hx3a, hx3b, hx3l, hx6a, hx6b, hx6l, hx7]) ?_ ?_
            · intro g3
              replace hI1 := cond_t g3 hI1
              refine drawS mixA (by kernel_rfl) (by kernel_rfl) fun K26 hK26 => ?_
              try simp +decide only [go_sem, ↓reduceIte, g1, c3a, c3b, hx3a, hx3b, hx3l, hx6a, hx6b, hx6l, hx7, g3]
              refine dn_mk (by kernel_rfl) ?_
              refine hK26 _ ?_
              refine tr_le (le_obj 4 0 2 true [.agg [.nil, .int .i64 0]] [.agg [.sl 1 (([] : (List Int)).map (V.int .i64)), .int .i64 0]] (by try simp +decide only [go_sem, ↓reduceIte, g1, c3a, c3b, hx3a, hx3b, hx3l, hx6a, hx6b, hx6l, hx7, g3]) (by simp [go_sem])) ?_
              try simp +decide only [go_sem, ↓reduceIte, g1, c3a, c3b, hx3a, hx3b, hx3l, hx6a, hx6b, hx6l, hx7, g3]
              refine tr_ret ?_
              try simp +decide only [Post.andThen, Post.inBlock, rangePost, ↓reduceIte]
              obtain rfl := Option.some.inj hI1
              have ho := hrt1 _ rfl
              subst ho
              replace hI0 := elim_r hI0
              obtain rfl := Option.some.inj hI0
              simp [PG.Fin, resAll, resOf, resV, Try.results8, go_sem, g1, c3a, c3b, hx3a, hx3b, hx3l, hx6a, hx6b, hx6l, hx7, g3]
            · intro g3
              replace hI1 := cond_f g3 hI1
              refine tr_skip ?_
              try simp +decide only [Post.andThen, Post.inBlock, rangePost, ↓reduceIte]
              obtain rfl := Option.some.inj hI1
              refine st_mk ((), ()) (by first | rfl | trivial) ?_
              exact le_se (by simp [go_sem, g1, c3a, c3b, hx3a, hx3b, hx3l, hx6a, hx6b, hx6l, hx7, g3]) (by simp [go_sem, g1, c3a, c3b, hx3a, hx3b, hx3l, hx6a, hx6b, hx6l, hx7, g3])
        · rintro ⟨u3, m3⟩ e9 ho hle
          try dsimp only at ho hle ⊢
          subst ho
          replace hI0 := elim_l hI0
          refine hK22 _ ?_
          refine tr_le hle ?_
          refine tr_sreg fun K27 hK27 => ?_
          try simp +decide only [go_sem, ↓reduceIte, g1, c3a, c3b, hx3a, hx3b, hx3l, hx6a, hx6b, hx6l]
          refine hK27 _ ?_
          refine tr_seq_k fun K28 hK28 => ?_
          refine tr_sreg fun K29 hK29 => ?_
          try simp +decide only [go_sem, ↓reduceIte, g1, c3a, c3b, hx3a, hx3b, hx3l, hx6a, hx6b, hx6l]
          refine hK29 _ ?_
          obtain ⟨_, cN, hI0⟩ := bind_inv hI0; replace cN := chk_some cN
          obtain ⟨o4, hL4, hI0⟩ := bind_inv hI0
          refine tr_le (le_new_se 1002 0 true 2 (by try simp +decide only [go_sem, ↓reduceIte, g1, c3a, c3b, hx3a, hx3b, hx3l, hx6a, hx6b, hx6l])) ?_
          try simp +decide only [go_sem, ↓reduceIte, g1, c3a, c3b, hx3a, hx3b, hx3l, hx6a, hx6b, hx6l]
          refine tr_tail_ex (fun (i : (List line_frac) × Nat) => o4 = .inl i.1) (fun i => SE 150 ((fun (i : (List line_frac) × Nat) => [(4, .ep 4 0 2 0 0), (13, .so 59 0 1 0 u2.2.length), (17, .so 1002 i.2 2 0 i.1.length)]) i) ((fun (i : (List line_frac) × Nat) => [(4, .arr 0 true 2 [.agg [.nil, .int .i64 0]]), (59, .arr 0 true 1 (u2.2.map e_Lline_row)), (1002, .arr i.2 true 2 (i.1.map e_line_frac))]) i)) ?_ ?_
          · refine tr_forN (N := p1.toNat) (Nz := p1) (by simp) 150 (fun i => i.1) (fun (i : (List line_frac) × Nat) => [(4, .ep 4 0 2 0 0), (13, .so 59 0 1 0 u2.2.length), (17, .so 1002 i.2 2 0 i.1.length)]) (fun (i : (List line_frac) × Nat) => [(4, .arr 0 true 2 [.agg [.nil, .int .i64 0]]), (59, .arr 0 true 1 (u2.2.map e_Lline_row)), (1002, .arr i.2 true 2 (i.1.map e_line_frac))]) (([] : (List line_frac)), 0) hL4 ?_ ?_ ?_ ?_ ?_ ?_ ?_
            · omega
            · first | exact .inl rfl | exact .inr rfl
            · decide
            · decide
            · intro i; simp [aget]
            · exact le_se (by simp [go_sem, g1, c3a, c3b, hx3a, hx3b, hx3l, hx6a, hx6b, hx6l]) (by simp [go_sem, g1, c3a, c3b, hx3a, hx3b, hx3l, hx6a, hx6b, hx6l])
            · rintro k3 ⟨s1, n1⟩ ctl1 hk3 hq3 hI1 hbk1 hrt1
              try dsimp only at hI1 ⊢
              unfold line_Solve_b6 at hI1
              refine tr_sreg fun K30 hK30 => ?_
              try simp +decide only [go_sem, ↓reduceIte, g1, c3a, c3b, hx3a, hx3b, hx3l, hx6a, hx6b, hx6l]
              refine hK30 _ ?_
              refine tr_reg ?_
              obtain ⟨x8, hx8, hI1⟩ := bind_inv hI1
              have hx8l : (IntKind.i64.wrap ((k3 : Int) + 1)) < ((u2.2.length : Nat) : Int) := by simpa using idx_below hx8
              obtain ⟨hx8a, hx8b⟩ := idx_some hx8; clear hx8
              try simp +decide only [go_sem, ↓reduceIte, g1, c3a, c3b, hx3a, hx3b, hx3l, hx6a, hx6b, hx6l, hx8a, hx8b, hx8l]
              obtain ⟨r4, hr4, hI1⟩ := bind_inv hI1
              refine evl_lentS (caps := []) (line_choose_pc fu x8 (k3 : Int) s1 _ hr4) (by simp +decide only [go_sem, ↓reduceIte, g1, c3a, c3b, hx3a, hx3b, hx3l, hx6a, hx6b, hx6l, hx8a, hx8b, hx8l, resV, List.mapM_cons, List.mapM_nil, Option.pure_def, Option.bind_eq_bind, Option.bind_some, V.flat, V.flatL]) ?_
              obtain ⟨_, c4, hI1⟩ := bind_inv hI1; replace c4 := chk_some c4
              try simp +decide only [go_sem, ↓reduceIte, g1, c3a, c3b, hx3a, hx3b, hx3l, hx6a, hx6b, hx6l, hx8a, hx8b, hx8l, c4]
              obtain rfl := Option.some.inj hI1
              refine st_mk ((s1 ++ [r4]), (n1 + 1)) (by first | rfl | trivial) ?_
              exact le_se (by simp [go_sem, g1, c3a, c3b, hx3a, hx3b, hx3l, hx6a, hx6b, hx6l, hx8a, hx8b, hx8l, c4]) (by simp [go_sem, g1, c3a, c3b, hx3a, hx3b, hx3l, hx6a, hx6b, hx6l, hx8a, hx8b, hx8l, c4])
          · rintro ⟨u4, m4⟩ e9 ho hle
            try dsimp only at ho hle ⊢
            subst ho
            replace hI0 := elim_l hI0
            refine hK28 _ ?_
            refine tr_le hle ?_
            refine tr_sreg fun K32 hK32 => ?_
            try simp +decide only [go_sem, ↓reduceIte, g1, c3a, c3b, hx3a, hx3b, hx3l, hx6a, hx6b, hx6l]
            refine hK32 _ ?_
            refine tr_seq_k fun K33 hK33 => ?_
            refine tr_sreg fun K34 hK34 => ?_
            try simp +decide only [go_sem, ↓reduceIte, g1, c3a, c3b, hx3a, hx3b, hx3l, hx6a, hx6b, hx6l]
            refine hK34 _ ?_
            obtain ⟨o5, hL5, hI0⟩ := bind_inv hI0
            refine tr_tail_ex (fun (i : Int × Unit) => o5 = .inl i.1) (fun i => SE 150 ((fun (i : Int × Unit) => [(4, .ep 4 0 2 0 0), (17, .so 1002 m4 2 0 u4.length), (19, .int .i64 i.1), (112, .so 1002 m4 2 0 u4.length)]) i) ((fun (i : Int × Unit) => [(4, .arr 0 true 2 [.agg [.nil, .int .i64 0]]), (1002, .arr m4 true 2 (u4.map e_line_frac))]) i)) ?_ ?_
            · refine tr_lim_ob (m := 1002) (g := m4) (p := true) (sz := 2) (l := u4.map e_line_frac) (by try simp +decide only [go_sem, ↓reduceIte, g1, c3a, c3b, hx3a, hx3b, hx3l, hx6a, hx6b, hx6l]) fun hlim => ?_
              refine tr_forL 150 (fun i => i.1) (fun (i : Int × Unit) => [(4, .ep 4 0 2 0 0), (17, .so 1002 m4 2 0 u4.length), (19, .int .i64 i.1), (112, .so 1002 m4 2 0 u4.length)]) (fun (i : Int × Unit) => [(4, .arr 0 true 2 [.agg [.nil, .int .i64 0]]), (1002, .arr m4 true 2 (u4.map e_line_frac))]) (1, ()) hL5 ?_ ?_ ?_ ?_ ?_ ?_ ?_
              · simpa using hlim
              · first | exact .inl rfl | exact .inr rfl
              · decide
              · decide
              · intro i; simp [aget]
              · exact le_se (by simp [go_sem, g1, c3a, c3b, hx3a, hx3b, hx3l, hx6a, hx6b, hx6l]) (by simp [go_sem, g1, c3a, c3b, hx3a, hx3b, hx3l, hx6a, hx6b, hx6l])
              · rintro k4 x9 ⟨s1, n1⟩ ctl1 hx9 hq4 hI1 hbk1 hrt1
                try dsimp only at hI1 ⊢
                unfold line_Solve_b8 at hI1
                have hx9b : (k4 : Int) < (u4.length : Nat) := by simpa using get_lt hx9
                refine tr_sreg fun K35 hK35 => ?_
                try simp +decide only [go_sem, ↓reduceIte, g1, c3a, c3b, hx3a, hx3b, hx3l, hx6a, hx6b, hx6l, hx9, hx9b]
                refine hK35 _ ?_
                refine drawT mixA (by kernel_rfl) (by kernel_rfl) ?_
                try simp +decide only [go_sem, ↓reduceIte, g1, c3a, c3b, hx3a, hx3b, hx3l, hx6a, hx6b, hx6l, hx9, hx9b]
                obtain ⟨r5, hr5, hI1⟩ := bind_inv hI1
                refine evi_callS (caps := []) (line_common_pc fu s1 x9.f_d _ hr5) (by simp +decide only [go_sem, ↓reduceIte, g1, c3a, c3b, hx3a, hx3b, hx3l, hx6a, hx6b, hx6l, hx9, hx9b]) ?_
                obtain ⟨_, c5, hI1⟩ := bind_inv hI1; replace c5 := chk_some c5
                try simp +decide only [go_sem, ↓reduceIte, g1, c3a, c3b, hx3a, hx3b, hx3l, hx6a, hx6b, hx6l, hx9, hx9b, c5]
                refine dn_mk (by kernel_rfl) ?_
                obtain rfl := Option.some.inj hI1
                refine st_mk ((IntKind.i64.wrap ((IntKind.i64.wrap (s1.tdiv r5)) * x9.f_d)), ()) (by first | rfl | trivial) ?_
                exact le_se (by simp [go_sem, g1, c3a, c3b, hx3a, hx3b, hx3l, hx6a, hx6b, hx6l, hx9, hx9b, c5]) (by simp [go_sem, g1, c3a, c3b, hx3a, hx3b, hx3l, hx6a, hx6b, hx6l, hx9, hx9b, c5])
            · rintro ⟨u5, m5⟩ e9 ho hle
              try dsimp only at ho hle ⊢
              subst ho
              replace hI0 := elim_l hI0
              refine hK33 _ ?_
              refine tr_le hle ?_
              refine tr_sreg fun K37 hK37 => ?_
              try simp +decide only [go_sem, ↓reduceIte, g1, c3a, c3b, hx3a, hx3b, hx3l, hx6a, hx6b, hx6l]
              refine hK37 _ ?_
              refine tr_seq_k fun K38 hK38 => ?_
              refine tr_sreg fun K39 hK39 => ?_
              try simp +decide only [go_sem, ↓reduceIte, g1, c3a, c3b, hx3a, hx3b, hx3l, hx6a, hx6b, hx6l]
              refine hK39 _ ?_
              obtain ⟨o6, hL6, hI0⟩ := bind_inv hI0
              refine tr_le (le_new_se 1003 0 true 1 (by try simp +decide only [go_sem, ↓reduceIte, g1, c3a, c3b, hx3a, hx3b, hx3l, hx6a, hx6b, hx6l])) ?_
              try simp +decide only [go_sem, ↓reduceIte, g1, c3a, c3b, hx3a, hx3b, hx3l, hx6a, hx6b, hx6l]
              refine tr_le (le_obj 22 0 2 true [.agg [.nil, .int .i64 u5]] [.agg [.so 1003 0 1 0 0, .int .i64 u5]] (by try simp +decide only [go_sem, ↓reduceIte, g1, c3a, c3b, hx3a, hx3b, hx3l, hx6a, hx6b, hx6l]) (by simp [objLe, cellsLe, V.cells])) ?_
              try simp +decide only [go_sem, ↓reduceIte, g1, c3a, c3b, hx3a, hx3b, hx3l, hx6a, hx6b, hx6l]
              refine tr_tail_ex (fun (i : (List Int) × Nat) => o6 = .inl i.1) (fun i => SE 150 ((fun (i : (List Int) × Nat) => [(4, .ep 4 0 2 0 0), (19, .int .i64 u5), (22, .ep 22 0 2 0 0), (130, .so 1002 m4 2 0 u4.length)]) i) ((fun (i : (List Int) × Nat) => [(4, .arr 0 true 2 [.agg [.nil, .int .i64 0]]), (22, .arr 0 false 2 [.agg [.so 1003 i.2 1 0 i.1.length, .int .i64 u5]]), (1002, .arr m4 true 2 (u4.map e_line_frac)), (1003, .arr i.2 true 1 (i.1.map (V.int .i64)))]) i)) ?_ ?_
              · refine tr_lim_ob (m := 1002) (g := m4) (p := true) (sz := 2) (l := u4.map e_line_frac) (by try simp +decide only [go_sem, ↓reduceIte, g1, c3a, c3b, hx3a, hx3b, hx3l, hx6a, hx6b, hx6l]) fun hlim => ?_
                refine tr_forL 150 (fun i => i.1) (fun (i : (List Int) × Nat) => [(4, .ep 4 0 2 0 0), (19, .int .i64 u5), (22, .ep 22 0 2 0 0), (130, .so 1002 m4 2 0 u4.length)]) (fun (i : (List Int) × Nat) => [(4, .arr 0 true 2 [.agg [.nil, .int .i64 0]]), (22, .arr 0 false 2 [.agg [.so 1003 i.2 1 0 i.1.length, .int .i64 u5]]), (1002, .arr m4 true 2 (u4.map e_line_frac)), (1003, .arr i.2 true 1 (i.1.map (V.int .i64)))]) (([] : (List Int)), 0) hL6 ?_ ?_ ?_ ?_ ?_ ?_ ?_
                · simpa using hlim
                · first | exact .inl rfl | exact .inr rfl
                · decide
                · decide
                · intro i; simp [aget]
                · exact le_se (by simp [go_sem, g1, c3a, c3b, hx3a, hx3b, hx3l, hx6a, hx6b, hx6l]) (by simp [go_sem, g1, c3a, c3b, hx3a, hx3b, hx3l, hx6a, hx6b, hx6l])
                · rintro k5 x10 ⟨s1, n1⟩ ctl1 hx10 hq5 hI1 hbk1 hrt1
                  try dsimp only at hI1 ⊢
                  unfold line_Solve_b10 at hI1
                  have hx10b : (k5 : Int) < (u4.length : Nat) := by simpa using get_lt hx10
                  refine tr_sreg fun K40 hK40 => ?_
                  try simp +decide only [go_sem, ↓reduceIte, g1, c3a, c3b, hx3a, hx3b, hx3l, hx6a, hx6b, hx6l, hx10, hx10b]
                  refine hK40 _ ?_
                  refine drawT mixA (by kernel_rfl) (by kernel_rfl) ?_
                  obtain ⟨_, c6, hI1⟩ := bind_inv hI1; replace c6 := chk_some c6
                  obtain ⟨_, c7, hI1⟩ := bind_inv hI1; replace c7 := chk_some c7
                  try simp +decide only [go_sem, ↓reduceIte, g1, c3a, c3b, hx3a, hx3b, hx3l, hx6a, hx6b, hx6l, hx10, hx10b, c6, c7]
                  refine dn_mk (by kernel_rfl) ?_
                  obtain rfl := Option.some.inj hI1
                  refine st_mk ((s1 ++ [(IntKind.i64.wrap (x10.f_n * (IntKind.i64.wrap (u5.tdiv x10.f_d))))]), (n1 + 1)) (by first | rfl | trivial) ?_
                  exact le_se (by simp [go_sem, g1, c3a, c3b, hx3a, hx3b, hx3l, hx6a, hx6b, hx6l, hx10, hx10b, c6, c7]) (by simp [go_sem, g1, c3a, c3b, hx3a, hx3b, hx3l, hx6a, hx6b, hx6l, hx10, hx10b, c6, c7])
              · rintro ⟨u6, m6⟩ e9 ho hle
                try dsimp only at ho hle ⊢
                subst ho
                replace hI0 := elim_l hI0
                refine hK38 _ ?_
                refine tr_le hle ?_
                refine tr_sreg fun K42 hK42 => ?_
                try simp +decide only [go_sem, ↓reduceIte, g1, c3a, c3b, hx3a, hx3b, hx3l, hx6a, hx6b, hx6l]
                refine hK42 _ ?_
                refine tr_le (e' := SE 150 [(4, .ep 4 0 2 0 0), (5, .sl 1 (([] : (List Int)).map (V.int .i64))), (6, .bool true), (7, .int .i64 0)] [(4, .arr 0 false 2 [.agg [.so 1003 m6 1 0 u6.length, .int .i64 u5]]), (1003, .arr m6 true 1 (u6.map (V.int .i64)))]) ?_ ?_
                · exact le_se (by simp [go_sem, g1, c3a, c3b, hx3a, hx3b, hx3l, hx6a, hx6b, hx6l]) (by simp [go_sem, g1, c3a, c3b, hx3a, hx3b, hx3l, hx6a, hx6b, hx6l])
                refine tr_ret ?_
                try simp +decide only [Post.andThen, Post.inBlock, rangePost, ↓reduceIte]
                obtain rfl := Option.some.inj hI0
                simp [PG.Fin, resAll, resOf, resV, Try.results8, go_sem, g1, c3a, c3b, hx3a, hx3b, hx3l, hx6a, hx6b, hx6l]

-- moothall/mootlaw3.lined
def mootlaw3_lined (fu : Nat)  : Option Bool :=
  (line_Solve fu ([(line_Row.mk ([1] : (List Int)) 1), (line_Row.mk ([(-1)] : (List Int)) (-2))] : List line_Row) 1).bind fun r1 =>
  some (cond (r1.2.2.2 == 0) (cond (!r1.2.2.1) ((r1.2.1.length : Int) == 2) false) false)
theorem mootlaw3_lined_pc (fu : Nat)  (R : Bool) (hI0 : mootlaw3_lined fu  = some R) : PC Try.prog 10 [] (.bool R) := by
  unfold mootlaw3_lined at hI0
  refine pc_se Try.func10 rfl (by kernel_rfl) 27 rfl (by simp) ?_
  show Tr _ _ (SE 27 [] []) _
  refine tr_sreg fun K1 hK1 => ?_
  try simp +decide only [go_sem, ↓reduceIte]
  refine hK1 _ ?_
  refine tr_sreg fun K2 hK2 => ?_
  try simp +decide only [go_sem, ↓reduceIte]
  obtain ⟨r1, hr1, hI0⟩ := bind_inv hI0
  refine evl_callW (Le.trans (le_sealS 6 0 1 (([1] : (List Int)).map (V.int .i64)) (by try simp +decide only [go_sem, ↓reduceIte])) (Le.trans (le_sealS 8 0 1 (([(-1)] : (List Int)).map (V.int .i64)) (by try simp +decide only [go_sem, ↓reduceIte])) (Le.trans (le_purify 10 0 2 [.agg [.sl 1 (([1] : (List Int)).map (V.int .i64)), .int .i64 1], .agg [.sl 1 (([(-1)] : (List Int)).map (V.int .i64)), .int .i64 (-2)]] (by try simp +decide only [go_sem, ↓reduceIte]) (by simp +decide only [go_sem, ↓reduceIte])) (le_sealS 10 0 2 (([(line_Row.mk ([1] : (List Int)) 1), (line_Row.mk ([(-1)] : (List Int)) (-2))] : List line_Row).map e_line_Row) (by try simp +decide only [go_sem, ↓reduceIte]))))) (caps := []) (line_Solve_pc fu ([(line_Row.mk ([1] : (List Int)) 1), (line_Row.mk ([(-1)] : (List Int)) (-2))] : List line_Row) 1 _ hr1) (by simp +decide only [go_sem, ↓reduceIte]) ?_
  try simp +decide only [go_sem, ↓reduceIte]
  refine hK2 _ ?_
  refine tr_le (e' := SE 27 [(2, .sl 1 (r1.2.1.map (V.int .i64))), (3, .bool r1.2.2.1), (4, .int .i64 r1.2.2.2)] []) ?_ ?_
  · exact le_se (by simp [go_sem]) (by simp [go_sem])
  refine tr_seq_ex (fun _ : Unit => True) (fun _ => SE 27 [(0, .bool (cond (r1.2.2.2 == 0) (cond (!r1.2.2.1) ((r1.2.1.length : Int) == 2) false) false))] []) ?_ ?_
  · refine tr_reg ?_
    try simp +decide only [go_sem, ↓reduceIte]
    refine waysl_if ?_ ?_
    · intro g1
      try simp +decide only [go_sem, ↓reduceIte, g1]
      refine st_mk () trivial ?_
      exact le_se (by simp [go_sem, g1]) (by simp [go_sem, g1])
    · intro g1
      try simp +decide only [go_sem, ↓reduceIte, g1]
      refine waysl_if ?_ ?_
      · intro g2
        try simp +decide only [go_sem, ↓reduceIte, g1, g2]
        refine st_mk () trivial ?_
        exact le_se (by simp [go_sem, g1, g2]) (by simp [go_sem, g1, g2])
      · intro g2
        try simp +decide only [go_sem, ↓reduceIte, g1, g2]
        refine st_mk () trivial ?_
        exact le_se (by simp [go_sem, g1, g2]) (by simp [go_sem, g1, g2])
  · rintro _ _
    refine tr_ret ?_
    try simp +decide only [Post.andThen, Post.inBlock, rangePost, ↓reduceIte]
    obtain rfl := Option.some.inj hI0
    simp [PG.Fin, resAll, resOf, resV, Try.results10, go_sem]

-- moothall/mootref3.RowsFault
def mootref3_RowsFault_b2 (k2 : Nat) (x2 : Int) (s2 : Unit) : Option (Ctl Unit (Ctl Unit Int)) :=
  cond (cond (decide (x2 < (-9))) true (decide (x2 > 9)))
    (some (.rt (.rt 1)))
    (some (.nx ()))
def mootref3_RowsFault_b0 (p1 : Int) (k1 : Nat) (x1 : line_Row) (s1 : Unit) : Option (Ctl Unit Int) :=
  cond ((x1.f_Coef.length : Int) != p1)
    (some (.rt 3))
    ((forL mootref3_RowsFault_b2 0 x1.f_Coef ()).bind (Sum.elim (fun (u1 : Unit) =>
      cond (cond (decide (x1.f_Most < (-99))) true (decide (x1.f_Most > 99)))
        (some (.rt 1))
        (some (.nx ()))) some))
def mootref3_RowsFault (p0 : (List line_Row)) (p1 : Int) : Option Int :=
  cond (cond (decide (p1 ≤ 0)) true (cond (decide (p1 ≥ 4)) true (decide ((p0.length : Int) ≥ 9))))
    (some 2)
    ((forL (mootref3_RowsFault_b0 p1) 0 p0 ()).bind (Sum.elim (fun (u2 : Unit) =>
      some 0) some))
theorem mootref3_RowsFault_pc (p0 : (List line_Row)) (p1 : Int) (R : Int) (hI0 : mootref3_RowsFault p0 p1 = some R) : PC Try.prog 9 [.sl 2 (p0.map e_line_Row), .int .i64 p1] (.int .i64 R) := by
  unfold mootref3_RowsFault at hI0
  refine pc_se Try.func9 rfl (by kernel_rfl) 54 rfl (by simp) ?_
  show Tr _ _ (SE 54 [(0, .sl 2 (p0.map e_line_Row)), (1, .int .i64 p1)] []) _
  refine tr_sreg fun K1 hK1 => ?_
  try simp +decide only [go_sem, ↓reduceIte]
  refine hK1 _ ?_
  refine tr_seq_k fun K2 hK2 => ?_
  refine tr_seq_ex (fun _ : Unit => True) (fun _ => SE 54 [(0, .sl 2 (p0.map e_line_Row)), (1, .int .i64 p1), (19, .bool (cond (decide (p1 ≤ 0)) true (cond (decide (p1 ≥ 4)) true (decide ((p0.length : Int) ≥ 9)))))] []) ?_ ?_
  · refine tr_reg ?_
    try simp +decide only [go_sem, ↓reduceIte]
    refine waysl_not ?_ ?_
    · intro g1
      try simp +decide only [go_sem, ↓reduceIte, g1]
      refine st_mk () trivial ?_
      exact le_se (by simp [go_sem, g1]) (by simp [go_sem, g1])
    · intro g1
      try simp +decide only [go_sem, ↓reduceIte, g1]
      refine waysl_not ?_ ?_
      · intro g2
        try simp +decide only [go_sem, ↓reduceIte, g1, g2]
        refine st_mk () trivial ?_
        exact le_se (by simp [go_sem, g1, g2]) (by simp [go_sem, g1, g2])
      · intro g2
        try simp +decide only [go_sem, ↓reduceIte, g1, g2]
        refine st_mk () trivial ?_
        exact le_se (by simp [go_sem, g1, g2]) (by simp [go_sem, g1, g2])
  · rintro _ _
    refine tr_condS (b := (cond (decide (p1 ≤ 0)) true (cond (decide (p1 ≥ 4)) true (decide ((p0.length : Int) ≥ 9))))) rfl (by simp +decide only [go_sem, ↓reduceIte]) ?_ ?_
    · intro g3
      replace hI0 := cond_t g3 hI0
      refine tr_sreg fun K3 hK3 => ?_
      try simp +decide only [go_sem, ↓reduceIte, g3]
      refine hK3 _ ?_
      refine tr_ret ?_
      try simp +decide only [Post.andThen, Post.inBlock, rangePost, ↓reduceIte]
      obtain rfl := Option.some.inj hI0
      simp [PG.Fin, resAll, resOf, resV, Try.results9, go_sem, g3]
    · intro g3
      replace hI0 := cond_f g3 hI0
      refine tr_skip ?_
      try simp +decide only [Post.andThen, Post.inBlock, rangePost, ↓reduceIte]
      refine hK2 _ ?_
      refine tr_seq_k fun K4 hK4 => ?_
      refine tr_sreg fun K5 hK5 => ?_
      try simp +decide only [go_sem, ↓reduceIte, g3]
      refine hK5 _ ?_
      obtain ⟨o2, hL2, hI0⟩ := bind_inv hI0
      refine tr_tail_ex (fun (i : Unit × Unit) => o2 = .inl i.1) (fun i => SE 54 ((fun (i : Unit × Unit) => [(1, .int .i64 p1), (20, .sl 2 (p0.map e_line_Row))]) i) ((fun (i : Unit × Unit) => []) i)) ?_ ?_
      · refine tr_lim_sl (t := 20) (sz := 2) (l := p0.map e_line_Row) (by try simp +decide only [go_sem, ↓reduceIte, g3]) rfl fun hlim => ?_
        refine tr_forL 54 (fun i => i.1) (fun (i : Unit × Unit) => [(1, .int .i64 p1), (20, .sl 2 (p0.map e_line_Row))]) (fun (i : Unit × Unit) => []) ((), ()) hL2 ?_ ?_ ?_ ?_ ?_ ?_ ?_
        · simpa using hlim
        · first | exact .inl rfl | exact .inr rfl
        · decide
        · decide
        · intro i; simp [aget]
        · exact le_se (by simp [go_sem, g3]) (by simp [go_sem, g3])
        · rintro k1 x1 ⟨s1, n1⟩ ctl1 hx1 hq1 hI1 hbk1 hrt1
          try dsimp only at hI1 ⊢
          unfold mootref3_RowsFault_b0 at hI1
          refine tr_sreg fun K6 hK6 => ?_
          try simp +decide only [go_sem, ↓reduceIte, g3, hx1]
          refine hK6 _ ?_
          refine tr_seq_k fun K7 hK7 => ?_
          refine tr_sreg fun K8 hK8 => ?_
          try simp +decide only [go_sem, ↓reduceIte, g3, hx1]
          refine hK8 _ ?_
          refine tr_condS (b := ((x1.f_Coef.length : Int) != p1)) rfl (by simp +decide only [go_sem, ↓reduceIte, g3, hx1]) ?_ ?_
          · intro g4
            replace hI1 := cond_t g4 hI1
            refine tr_sreg fun K9 hK9 => ?_
            try simp +decide only [go_sem, ↓reduceIte, g3, hx1, g4]
            refine hK9 _ ?_
            refine tr_ret ?_
            try simp +decide only [Post.andThen, Post.inBlock, rangePost, ↓reduceIte]
            obtain rfl := Option.some.inj hI1
            have ho := hrt1 _ rfl
            subst ho
            replace hI0 := elim_r hI0
            obtain rfl := Option.some.inj hI0
            simp [PG.Fin, resAll, resOf, resV, Try.results9, go_sem, g3, hx1, g4]
          · intro g4
            replace hI1 := cond_f g4 hI1
            refine tr_skip ?_
            try simp +decide only [Post.andThen, Post.inBlock, rangePost, ↓reduceIte]
            refine hK7 _ ?_
            refine tr_seq_k fun K10 hK10 => ?_
            refine tr_sreg fun K11 hK11 => ?_
            try simp +decide only [go_sem, ↓reduceIte, g3, hx1, g4]
            refine hK11 _ ?_
            obtain ⟨o1, hL1, hI1⟩ := bind_inv hI1
            refine tr_tail_ex (fun (i : Unit × Unit) => o1 = .inl i.1) (fun i => SE 54 ((fun (i : Unit × Unit) => [(1, .int .i64 p1), (6, .ep 6 0 2 0 0), (20, .sl 2 (p0.map e_line_Row)), (21, .int .i64 (p0.length : Int)), (22, .int .i64 (k1 : Int)), (32, .sl 1 (x1.f_Coef.map (V.int .i64)))]) i) ((fun (i : Unit × Unit) => [(6, .arr 0 true 2 [.agg [.sl 1 (x1.f_Coef.map (V.int .i64)), .int .i64 x1.f_Most]])]) i)) ?_ ?_
            · refine tr_lim_sl (t := 32) (sz := 1) (l := x1.f_Coef.map (V.int .i64)) (by try simp +decide only [go_sem, ↓reduceIte, g3, hx1, g4]) rfl fun hlim => ?_
              refine tr_forL 54 (fun i => i.1) (fun (i : Unit × Unit) => [(1, .int .i64 p1), (6, .ep 6 0 2 0 0), (20, .sl 2 (p0.map e_line_Row)), (21, .int .i64 (p0.length : Int)), (22, .int .i64 (k1 : Int)), (32, .sl 1 (x1.f_Coef.map (V.int .i64)))]) (fun (i : Unit × Unit) => [(6, .arr 0 true 2 [.agg [.sl 1 (x1.f_Coef.map (V.int .i64)), .int .i64 x1.f_Most]])]) ((), ()) hL1 ?_ ?_ ?_ ?_ ?_ ?_ ?_
              · simpa using hlim
              · first | exact .inl rfl | exact .inr rfl
              · decide
              · decide
              · intro i; simp [aget]
              · exact le_se (by simp [go_sem, g3, hx1, g4]) (by simp [go_sem, g3, hx1, g4])
              · rintro k2 x2 ⟨s2, n2⟩ ctl2 hx2 hq2 hI2 hbk2 hrt2
                try dsimp only at hI2 ⊢
                unfold mootref3_RowsFault_b2 at hI2
                refine tr_sreg fun K12 hK12 => ?_
                try simp +decide only [go_sem, ↓reduceIte, g3, hx1, g4, hx2]
                refine hK12 _ ?_
                refine tr_seq_ex (fun _ : Unit => True) (fun _ => SE 54 [(1, .int .i64 p1), (6, .ep 6 0 2 0 0), (20, .sl 2 (p0.map e_line_Row)), (21, .int .i64 (p0.length : Int)), (22, .int .i64 (k1 : Int)), (32, .sl 1 (x1.f_Coef.map (V.int .i64))), (33, .int .i64 (x1.f_Coef.length : Int)), (34, .int .i64 (k2 : Int)), (43, .bool (cond (decide (x2 < (-9))) true (decide (x2 > 9))))] [(6, .arr 0 true 2 [.agg [.sl 1 (x1.f_Coef.map (V.int .i64)), .int .i64 x1.f_Most]])]) ?_ ?_
                · refine tr_reg ?_
                  try simp +decide only [go_sem, ↓reduceIte, g3, hx1, g4, hx2]
                  refine waysl_not ?_ ?_
                  · intro g5
                    try simp +decide only [go_sem, ↓reduceIte, g3, hx1, g4, hx2, g5]
                    refine st_mk () trivial ?_
                    exact le_se (by simp [go_sem, g3, hx1, g4, hx2, g5]) (by simp [go_sem, g3, hx1, g4, hx2, g5])
                  · intro g5
                    try simp +decide only [go_sem, ↓reduceIte, g3, hx1, g4, hx2, g5]
                    refine st_mk () trivial ?_
                    exact le_se (by simp [go_sem, g3, hx1, g4, hx2, g5]) (by simp [go_sem, g3, hx1, g4, hx2, g5])
                · rintro _ _
                  refine tr_condS (b := (cond (decide (x2 < (-9))) true (decide (x2 > 9)))) rfl (by simp +decide only [go_sem, ↓reduceIte, g3, hx1, g4, hx2]) ?_ ?_
                  · intro g6
                    replace hI2 := cond_t g6 hI2
                    refine tr_sreg fun K13 hK13 => ?_
                    try simp +decide only [go_sem, ↓reduceIte, g3, hx1, g4, hx2, g6]
                    refine hK13 _ ?_
                    refine tr_ret ?_
                    try simp +decide only [Post.andThen, Post.inBlock, rangePost, ↓reduceIte]
                    obtain rfl := Option.some.inj hI2
                    have ho := hrt2 _ rfl
                    subst ho
                    replace hI1 := elim_r hI1
                    obtain rfl := Option.some.inj hI1
                    have ho := hrt1 _ rfl
                    subst ho
                    replace hI0 := elim_r hI0
                    obtain rfl := Option.some.inj hI0
                    simp [PG.Fin, resAll, resOf, resV, Try.results9, go_sem, g3, hx1, g4, hx2, g6]
                  · intro g6
                    replace hI2 := cond_f g6 hI2
                    refine tr_skip ?_
                    try simp +decide only [Post.andThen, Post.inBlock, rangePost, ↓reduceIte]
                    obtain rfl := Option.some.inj hI2
                    refine st_mk ((), ()) (by first | rfl | trivial) ?_
                    exact le_se (by simp [go_sem, g3, hx1, g4, hx2, g6]) (by simp [go_sem, g3, hx1, g4, hx2, g6])
            · rintro ⟨u1, m1⟩ e9 ho hle
              try dsimp only at ho hle ⊢
              subst ho
              replace hI1 := elim_l hI1
              refine hK10 _ ?_
              refine tr_le hle ?_
              refine tr_seq_ex (fun _ : Unit => True) (fun _ => SE 54 [(1, .int .i64 p1), (20, .sl 2 (p0.map e_line_Row)), (21, .int .i64 (p0.length : Int)), (22, .int .i64 (k1 : Int)), (52, .bool (cond (decide (x1.f_Most < (-99))) true (decide (x1.f_Most > 99))))] []) ?_ ?_
              · refine tr_reg ?_
                try simp +decide only [go_sem, ↓reduceIte, g3, hx1, g4]
                refine waysl_not ?_ ?_
                · intro g7
                  try simp +decide only [go_sem, ↓reduceIte, g3, hx1, g4, g7]
                  refine st_mk () trivial ?_
                  exact le_se (by simp [go_sem, g3, hx1, g4, g7]) (by simp [go_sem, g3, hx1, g4, g7])
                · intro g7
                  try simp +decide only [go_sem, ↓reduceIte, g3, hx1, g4, g7]
                  refine st_mk () trivial ?_
                  exact le_se (by simp [go_sem, g3, hx1, g4, g7]) (by simp [go_sem, g3, hx1, g4, g7])
              · rintro _ _
                refine tr_condS (b := (cond (decide (x1.f_Most < (-99))) true (decide (x1.f_Most > 99)))) rfl (by simp +decide only [go_sem, ↓reduceIte, g3, hx1, g4]) ?_ ?_
                · intro g8
                  replace hI1 := cond_t g8 hI1
                  refine tr_sreg fun K14 hK14 => ?_
                  try simp +decide only [go_sem, ↓reduceIte, g3, hx1, g4, g8]
                  refine hK14 _ ?_
                  refine tr_ret ?_
                  try simp +decide only [Post.andThen, Post.inBlock, rangePost, ↓reduceIte]
                  obtain rfl := Option.some.inj hI1
                  have ho := hrt1 _ rfl
                  subst ho
                  replace hI0 := elim_r hI0
                  obtain rfl := Option.some.inj hI0
                  simp [PG.Fin, resAll, resOf, resV, Try.results9, go_sem, g3, hx1, g4, g8]
                · intro g8
                  replace hI1 := cond_f g8 hI1
                  refine tr_skip ?_
                  try simp +decide only [Post.andThen, Post.inBlock, rangePost, ↓reduceIte]
                  obtain rfl := Option.some.inj hI1
                  refine st_mk ((), ()) (by first | rfl | trivial) ?_
                  exact le_se (by simp [go_sem, g3, hx1, g4, g8]) (by simp [go_sem, g3, hx1, g4, g8])
      · rintro ⟨u2, m2⟩ e9 ho hle
        try dsimp only at ho hle ⊢
        subst ho
        replace hI0 := elim_l hI0
        refine hK4 _ ?_
        refine tr_le hle ?_
        refine tr_sreg fun K15 hK15 => ?_
        try simp +decide only [go_sem, ↓reduceIte, g3]
        refine hK15 _ ?_
        refine tr_ret ?_
        try simp +decide only [Post.andThen, Post.inBlock, rangePost, ↓reduceIte]
        obtain rfl := Option.some.inj hI0
        simp [PG.Fin, resAll, resOf, resV, Try.results9, go_sem, g3]

-- moothall/line.Holds
def line_Holds_b0 (k1 : Nat) (x1 : Int) (s1 : Unit) : Option (Ctl Unit Bool) :=
  cond (cond (decide (x1 < (-36028797018963968))) true (decide (x1 > 36028797018963968)))
    (some (.rt false))
    (some (.nx ()))
def line_Holds_b4 (p2 : line_Point) (k3 : Nat) (x3 : Int) (s2 : Int) : Option (Ctl Int (Ctl Unit Bool)) :=
  (p2.f_Num[k3]?).bind fun x4 =>
  some (.nx (IntKind.i64.wrap (s2 + (IntKind.i64.wrap (x3 * x4)))))
def line_Holds_b2 (p2 : line_Point) (k2 : Nat) (x2 : line_Row) (s1 : Unit) : Option (Ctl Unit Bool) :=
  (forL (line_Holds_b4 p2) 0 x2.f_Coef 0).bind (Sum.elim (fun (u3 : Int) =>
    cond (decide (u3 > (IntKind.i64.wrap (x2.f_Most * p2.f_Den))))
      (some (.rt false))
      (some (.nx ()))) some)
def line_Holds (p0 : (List line_Row)) (p1 : Int) (p2 : line_Point) : Option Bool :=
  ((
    (line_Check p0 p1).bind fun r1 =>
    cond (r1 != 0)
      (some true)
      (cond ((p2.f_Num.length : Int) != p1)
        (some true)
        (cond (decide (p2.f_Den < 1))
          (some true)
          (some (decide (p2.f_Den > 1125899906842624)))))) : Option Bool).bind fun (u1 : Bool) =>
  cond u1
    (some false)
    ((forL line_Holds_b0 0 p2.f_Num ()).bind (Sum.elim (fun (u2 : Unit) =>
      (forL (line_Holds_b2 p2) 0 p0 ()).bind (Sum.elim (fun (u4 : Unit) =>
        some true) some)) some))
theorem line_Holds_pc (p0 : (List line_Row)) (p1 : Int) (p2 : line_Point) (R : Bool) (hI0 : line_Holds p0 p1 p2 = some R) : PC Try.prog 30 [.sl 2 (p0.map e_line_Row), .int .i64 p1, .agg [.sl 1 (p2.f_Num.map (V.int .i64)), .int .i64 p2.f_Den]] (.bool R) := by
  unfold line_Holds at hI0
  refine pc_se Try.func30 rfl (by kernel_rfl) 81 rfl (by simp) ?_
  show Tr _ _ (SE 81 [(0, .sl 2 (p0.map e_line_Row)), (1, .int .i64 p1), (2, .agg [.sl 1 (p2.f_Num.map (V.int .i64)), .int .i64 p2.f_Den])] []) _
  refine tr_sreg fun K1 hK1 => ?_
  try simp +decide only [go_sem, ↓reduceIte]
  refine hK1 _ ?_
  refine tr_seq_k fun K2 hK2 => ?_
  obtain ⟨u1, hI1, hI0⟩ := bind_inv hI0
  refine tr_seq_ex (fun _ : Unit => True) (fun _ => SE 81 [(0, .sl 2 (p0.map e_line_Row)), (5, .ep 5 0 2 0 0), (34, .bool u1)] [(5, .arr 0 true 2 [.agg [.sl 1 (p2.f_Num.map (V.int .i64)), .int .i64 p2.f_Den]])]) ?_ ?_
  · refine tr_reg ?_
    try simp +decide only [go_sem, ↓reduceIte]
    obtain ⟨r1, hr1, hI1⟩ := bind_inv hI1
    refine evl_callS (caps := []) (line_Check_pc p0 p1 _ hr1) (by simp +decide only [go_sem, ↓reduceIte]) ?_
    try simp +decide only [go_sem, ↓reduceIte]
    refine waysl_not ?_ ?_
    · intro g1
      replace hI1 := cond_t g1 hI1
      try simp +decide only [go_sem, ↓reduceIte, g1]
      obtain rfl := Option.some.inj hI1
      refine st_mk () trivial ?_
      exact le_se (by simp [go_sem, g1]) (by simp [go_sem, g1])
    · intro g1
      replace hI1 := cond_f g1 hI1
      try simp +decide only [go_sem, ↓reduceIte, g1]
      refine waysl_not ?_ ?_
      · intro g2
        replace hI1 := cond_t g2 hI1
        try simp +decide only [go_sem, ↓reduceIte, g1, g2]
        obtain rfl := Option.some.inj hI1
        refine st_mk () trivial ?_
        exact le_se (by simp [go_sem, g1, g2]) (by simp [go_sem, g1, g2])
      · intro g2
        replace hI1 := cond_f g2 hI1
        try simp +decide only [go_sem, ↓reduceIte, g1, g2]
        refine waysl_not ?_ ?_
        · intro g3
          replace hI1 := cond_t g3 hI1
          try simp +decide only [go_sem, ↓reduceIte, g1, g2, g3]
          obtain rfl := Option.some.inj hI1
          refine st_mk () trivial ?_
          exact le_se (by simp [go_sem, g1, g2, g3]) (by simp [go_sem, g1, g2, g3])
        · intro g3
          replace hI1 := cond_f g3 hI1
          try simp +decide only [go_sem, ↓reduceIte, g1, g2, g3]
          obtain rfl := Option.some.inj hI1
          refine st_mk () trivial ?_
          exact le_se (by simp [go_sem, g1, g2, g3]) (by simp [go_sem, g1, g2, g3])
  · rintro _ _
    refine tr_condS (b := u1) rfl (by simp +decide only [go_sem, ↓reduceIte]) ?_ ?_
    · intro g4
      replace hI0 := cond_t g4 hI0
      refine tr_sreg fun K3 hK3 => ?_
      try simp +decide only [go_sem, ↓reduceIte, g4]
      refine hK3 _ ?_
      refine tr_ret ?_
      try simp +decide only [Post.andThen, Post.inBlock, rangePost, ↓reduceIte]
      obtain rfl := Option.some.inj hI0
      simp [PG.Fin, resAll, resOf, resV, Try.results30, go_sem, g4]
    · intro g4
      replace hI0 := cond_f g4 hI0
      refine tr_skip ?_
      try simp +decide only [Post.andThen, Post.inBlock, rangePost, ↓reduceIte]
      refine hK2 _ ?_
      refine tr_seq_k fun K4 hK4 => ?_
      refine tr_sreg fun K5 hK5 => ?_
      try simp +decide only [go_sem, ↓reduceIte, g4]
      refine hK5 _ ?_
      obtain ⟨o1, hL1, hI0⟩ := bind_inv hI0
      refine tr_tail_ex (fun (i : Unit × Unit) => o1 = .inl i.1) (fun i => SE 81 ((fun (i : Unit × Unit) => [(0, .sl 2 (p0.map e_line_Row)), (5, .ep 5 0 2 0 0), (36, .sl 1 (p2.f_Num.map (V.int .i64)))]) i) ((fun (i : Unit × Unit) => [(5, .arr 0 true 2 [.agg [.sl 1 (p2.f_Num.map (V.int .i64)), .int .i64 p2.f_Den]])]) i)) ?_ ?_
      · refine tr_lim_sl (t := 36) (sz := 1) (l := p2.f_Num.map (V.int .i64)) (by try simp +decide only [go_sem, ↓reduceIte, g4]) rfl fun hlim => ?_
        refine tr_forL 81 (fun i => i.1) (fun (i : Unit × Unit) => [(0, .sl 2 (p0.map e_line_Row)), (5, .ep 5 0 2 0 0), (36, .sl 1 (p2.f_Num.map (V.int .i64)))]) (fun (i : Unit × Unit) => [(5, .arr 0 true 2 [.agg [.sl 1 (p2.f_Num.map (V.int .i64)), .int .i64 p2.f_Den]])]) ((), ()) hL1 ?_ ?_ ?_ ?_ ?_ ?_ ?_
        · simpa using hlim
        · first | exact .inl rfl | exact .inr rfl
        · decide
        · decide
        · intro i; simp [aget]
        · exact le_se (by simp [go_sem, g4]) (by simp [go_sem, g4])
        · rintro k1 x1 ⟨s1, n1⟩ ctl1 hx1 hq1 hI1 hbk1 hrt1
          try dsimp only at hI1 ⊢
          unfold line_Holds_b0 at hI1
          refine tr_sreg fun K6 hK6 => ?_
          try simp +decide only [go_sem, ↓reduceIte, g4, hx1]
          refine hK6 _ ?_
          refine tr_seq_ex (fun _ : Unit => True) (fun _ => SE 81 [(0, .sl 2 (p0.map e_line_Row)), (5, .ep 5 0 2 0 0), (36, .sl 1 (p2.f_Num.map (V.int .i64))), (37, .int .i64 (p2.f_Num.length : Int)), (38, .int .i64 (k1 : Int)), (47, .bool (cond (decide (x1 < (-36028797018963968))) true (decide (x1 > 36028797018963968))))] [(5, .arr 0 true 2 [.agg [.sl 1 (p2.f_Num.map (V.int .i64)), .int .i64 p2.f_Den]])]) ?_ ?_
          · refine tr_reg ?_
            try simp +decide only [go_sem, ↓reduceIte, g4, hx1]
            refine waysl_not ?_ ?_
            · intro g5
              try simp +decide only [go_sem, ↓reduceIte, g4, hx1, g5]
              refine st_mk () trivial ?_
              exact le_se (by simp [go_sem, g4, hx1, g5]) (by simp [go_sem, g4, hx1, g5])
            · intro g5
              try simp +decide only [go_sem, ↓reduceIte, g4, hx1, g5]
              refine st_mk () trivial ?_
              exact le_se (by simp [go_sem, g4, hx1, g5]) (by simp [go_sem, g4, hx1, g5])
          · rintro _ _
            refine tr_condS (b := (cond (decide (x1 < (-36028797018963968))) true (decide (x1 > 36028797018963968)))) rfl (by simp +decide only [go_sem, ↓reduceIte, g4, hx1]) ?_ ?_
            · intro g6
              replace hI1 := cond_t g6 hI1
              refine tr_sreg fun K7 hK7 => ?_
              try simp +decide only [go_sem, ↓reduceIte, g4, hx1, g6]
              refine hK7 _ ?_
              refine tr_ret ?_
              try simp +decide only [Post.andThen, Post.inBlock, rangePost, ↓reduceIte]
              obtain rfl := Option.some.inj hI1
              have ho := hrt1 _ rfl
              subst ho
              replace hI0 := elim_r hI0
              obtain rfl := Option.some.inj hI0
              simp [PG.Fin, resAll, resOf, resV, Try.results30, go_sem, g4, hx1, g6]
            · intro g6
              replace hI1 := cond_f g6 hI1
              refine tr_skip ?_
              try simp +decide only [Post.andThen, Post.inBlock, rangePost, ↓reduceIte]
              obtain rfl := Option.some.inj hI1
              refine st_mk ((), ()) (by first | rfl | trivial) ?_
              exact le_se (by simp [go_sem, g4, hx1, g6]) (by simp [go_sem, g4, hx1, g6])
      · rintro ⟨u2, m1⟩ e9 ho hle
        try dsimp only at ho hle ⊢
        subst ho
        replace hI0 := elim_l hI0
        refine hK4 _ ?_
        refine tr_le hle ?_
        refine tr_seq_k fun K8 hK8 => ?_
        refine tr_sreg fun K9 hK9 => ?_
        try simp +decide only [go_sem, ↓reduceIte, g4]
        refine hK9 _ ?_
        obtain ⟨o3, hL3, hI0⟩ := bind_inv hI0
        refine tr_tail_ex (fun (i : Unit × Unit) => o3 = .inl i.1) (fun i => SE 81 ((fun (i : Unit × Unit) => [(5, .ep 5 0 2 0 0), (49, .sl 2 (p0.map e_line_Row))]) i) ((fun (i : Unit × Unit) => [(5, .arr 0 true 2 [.agg [.sl 1 (p2.f_Num.map (V.int .i64)), .int .i64 p2.f_Den]])]) i)) ?_ ?_
        · refine tr_lim_sl (t := 49) (sz := 2) (l := p0.map e_line_Row) (by try simp +decide only [go_sem, ↓reduceIte, g4]) rfl fun hlim => ?_
          refine tr_forL 81 (fun i => i.1) (fun (i : Unit × Unit) => [(5, .ep 5 0 2 0 0), (49, .sl 2 (p0.map e_line_Row))]) (fun (i : Unit × Unit) => [(5, .arr 0 true 2 [.agg [.sl 1 (p2.f_Num.map (V.int .i64)), .int .i64 p2.f_Den]])]) ((), ()) hL3 ?_ ?_ ?_ ?_ ?_ ?_ ?_
          · simpa using hlim
          · first | exact .inl rfl | exact .inr rfl
          · decide
          · decide
          · intro i; simp [aget]
          · exact le_se (by simp [go_sem, g4]) (by simp [go_sem, g4])
          · rintro k2 x2 ⟨s1, n1⟩ ctl1 hx2 hq2 hI1 hbk1 hrt1
            try dsimp only at hI1 ⊢
            unfold line_Holds_b2 at hI1
            refine tr_sreg fun K10 hK10 => ?_
            try simp +decide only [go_sem, ↓reduceIte, g4, hx2]
            refine hK10 _ ?_
            refine tr_sreg fun K11 hK11 => ?_
            try simp +decide only [go_sem, ↓reduceIte, g4, hx2]
            refine hK11 _ ?_
            refine tr_seq_k fun K12 hK12 => ?_
            refine tr_sreg fun K13 hK13 => ?_
            try simp +decide only [go_sem, ↓reduceIte, g4, hx2]
            refine hK13 _ ?_
            obtain ⟨o2, hL2, hI1⟩ := bind_inv hI1
            refine tr_tail_ex (fun (i : Int × Unit) => o2 = .inl i.1) (fun i => SE 81 ((fun (i : Int × Unit) => [(5, .ep 5 0 2 0 0), (10, .ep 10 0 2 0 0), (11, .int .i64 i.1), (49, .sl 2 (p0.map e_line_Row)), (50, .int .i64 (p0.length : Int)), (51, .int .i64 (k2 : Int)), (56, .sl 1 (x2.f_Coef.map (V.int .i64)))]) i) ((fun (i : Int × Unit) => [(5, .arr 0 true 2 [.agg [.sl 1 (p2.f_Num.map (V.int .i64)), .int .i64 p2.f_Den]]), (10, .arr 0 true 2 [.agg [.sl 1 (x2.f_Coef.map (V.int .i64)), .int .i64 x2.f_Most]])]) i)) ?_ ?_
            · refine tr_lim_sl (t := 56) (sz := 1) (l := x2.f_Coef.map (V.int .i64)) (by try simp +decide only [go_sem, ↓reduceIte, g4, hx2]) rfl fun hlim => ?_
              refine tr_forL 81 (fun i => i.1) (fun (i : Int × Unit) => [(5, .ep 5 0 2 0 0), (10, .ep 10 0 2 0 0), (11, .int .i64 i.1), (49, .sl 2 (p0.map e_line_Row)), (50, .int .i64 (p0.length : Int)), (51, .int .i64 (k2 : Int)), (56, .sl 1 (x2.f_Coef.map (V.int .i64)))]) (fun (i : Int × Unit) => [(5, .arr 0 true 2 [.agg [.sl 1 (p2.f_Num.map (V.int .i64)), .int .i64 p2.f_Den]]), (10, .arr 0 true 2 [.agg [.sl 1 (x2.f_Coef.map (V.int .i64)), .int .i64 x2.f_Most]])]) (0, ()) hL2 ?_ ?_ ?_ ?_ ?_ ?_ ?_
              · simpa using hlim
              · first | exact .inl rfl | exact .inr rfl
              · decide
              · decide
              · intro i; simp [aget]
              · exact le_se (by simp [go_sem, g4, hx2]) (by simp [go_sem, g4, hx2])
              · rintro k3 x3 ⟨s2, n2⟩ ctl2 hx3 hq3 hI2 hbk2 hrt2
                try dsimp only at hI2 ⊢
                unfold line_Holds_b4 at hI2
                refine tr_sreg fun K14 hK14 => ?_
                try simp +decide only [go_sem, ↓reduceIte, g4, hx2, hx3]
                refine hK14 _ ?_
                refine tr_reg ?_
                obtain ⟨x4, hx4, hI2⟩ := bind_inv hI2
                have hx4b : (k3 : Int) < (p2.f_Num.length : Nat) := by simpa using get_lt hx4
                try simp +decide only [go_sem, ↓reduceIte, g4, hx2, hx3, hx4, hx4b]
                obtain rfl := Option.some.inj hI2
                refine st_mk ((IntKind.i64.wrap (s2 + (IntKind.i64.wrap (x3 * x4)))), ()) (by first | rfl | trivial) ?_
                exact le_se (by simp [go_sem, g4, hx2, hx3, hx4, hx4b]) (by simp [go_sem, g4, hx2, hx3, hx4, hx4b])
            · rintro ⟨u3, m2⟩ e9 ho hle
              try dsimp only at ho hle ⊢
              subst ho
              replace hI1 := elim_l hI1
              refine hK12 _ ?_
              refine tr_le hle ?_
              refine tr_sreg fun K16 hK16 => ?_
              try simp +decide only [go_sem, ↓reduceIte, g4, hx2]
              refine hK16 _ ?_
              refine tr_condS (b := (decide (u3 > (IntKind.i64.wrap (x2.f_Most * p2.f_Den))))) rfl (by simp +decide only [go_sem, ↓reduceIte, g4, hx2]) ?_ ?_
              · intro g7
                replace hI1 := cond_t g7 hI1
                refine tr_sreg fun K17 hK17 => ?_
                try simp +decide only [go_sem, ↓reduceIte, g4, hx2, g7]
                refine hK17 _ ?_
                refine tr_ret ?_
                try simp +decide only [Post.andThen, Post.inBlock, rangePost, ↓reduceIte]
                obtain rfl := Option.some.inj hI1
                have ho := hrt1 _ rfl
                subst ho
                replace hI0 := elim_r hI0
                obtain rfl := Option.some.inj hI0
                simp [PG.Fin, resAll, resOf, resV, Try.results30, go_sem, g4, hx2, g7]
              · intro g7
                replace hI1 := cond_f g7 hI1
                refine tr_skip ?_
                try simp +decide only [Post.andThen, Post.inBlock, rangePost, ↓reduceIte]
                obtain rfl := Option.some.inj hI1
                refine st_mk ((), ()) (by first | rfl | trivial) ?_
                exact le_se (by simp [go_sem, g4, hx2, g7]) (by simp [go_sem, g4, hx2, g7])
        · rintro ⟨u4, m3⟩ e9 ho hle
          try dsimp only at ho hle ⊢
          subst ho
          replace hI0 := elim_l hI0
          refine hK8 _ ?_
          refine tr_le hle ?_
          refine tr_sreg fun K18 hK18 => ?_
          try simp +decide only [go_sem, ↓reduceIte, g4]
          refine hK18 _ ?_
          refine tr_ret ?_
          try simp +decide only [Post.andThen, Post.inBlock, rangePost, ↓reduceIte]
          obtain rfl := Option.some.inj hI0
          simp [PG.Fin, resAll, resOf, resV, Try.results30, go_sem, g4]

-- moothall/mootref3.Solves
def mootref3_Solves_b0 (k1 : Nat) (x1 : Int) (s1 : Unit) : Option (Ctl Unit Bool) :=
  cond (cond (decide (x1 > 36028797018963968)) true (decide (x1 < (-36028797018963968))))
    (some (.rt false))
    (some (.nx ()))
def mootref3_Solves_b4 (p2 : line_Point) (x2 : line_Row) (k3 : Nat) (s2 : Int) : Option (Ctl Int (Ctl Unit Bool)) :=
  (x2.f_Coef[k3]?).bind fun x3 =>
  (p2.f_Num[k3]?).bind fun x4 =>
  some (.nx (IntKind.i64.wrap (s2 - (IntKind.i64.wrap (x3 * x4)))))
def mootref3_Solves_b2 (p1 : Int) (p2 : line_Point) (k2 : Nat) (x2 : line_Row) (s1 : Unit) : Option (Ctl Unit Bool) :=
  (chk (p1 ≤ (LIM : Int))).bind fun _ =>
  (forN (mootref3_Solves_b4 p2 x2) 0 p1.toNat (IntKind.i64.wrap (x2.f_Most * p2.f_Den))).bind (Sum.elim (fun (u3 : Int) =>
    cond (decide (u3 < 0))
      (some (.rt false))
      (some (.nx ()))) some)
def mootref3_Solves (p0 : (List line_Row)) (p1 : Int) (p2 : line_Point) : Option Bool :=
  ((
    (mootref3_RowsFault p0 p1).bind fun r1 =>
    cond (r1 != 0)
      (some true)
      (cond ((p2.f_Num.length : Int) != p1)
        (some true)
        (cond (decide (p2.f_Den ≤ 0))
          (some true)
          (some (decide (p2.f_Den > 1125899906842624)))))) : Option Bool).bind fun (u1 : Bool) =>
  cond u1
    (some false)
    ((forL mootref3_Solves_b0 0 p2.f_Num ()).bind (Sum.elim (fun (u2 : Unit) =>
      (forL (mootref3_Solves_b2 p1 p2) 0 p0 ()).bind (Sum.elim (fun (u4 : Unit) =>
        some true) some)) some))
theorem mootref3_Solves_pc (p0 : (List line_Row)) (p1 : Int) (p2 : line_Point) (R : Bool) (hI0 : mootref3_Solves p0 p1 p2 = some R) : PC Try.prog 12 [.sl 2 (p0.map e_line_Row), .int .i64 p1, .agg [.sl 1 (p2.f_Num.map (V.int .i64)), .int .i64 p2.f_Den]] (.bool R) := by
  unfold mootref3_Solves at hI0
  refine pc_se Try.func12 rfl (by kernel_rfl) 80 rfl (by simp) ?_
  show Tr _ _ (SE 80 [(0, .sl 2 (p0.map e_line_Row)), (1, .int .i64 p1), (2, .agg [.sl 1 (p2.f_Num.map (V.int .i64)), .int .i64 p2.f_Den])] []) _
  refine tr_sreg fun K1 hK1 => ?_
  try simp +decide only [go_sem, ↓reduceIte]
  refine hK1 _ ?_
  refine tr_seq_k fun K2 hK2 => ?_
  obtain ⟨u1, hI1, hI0⟩ := bind_inv hI0
  refine tr_seq_ex (fun _ : Unit => True) (fun _ => SE 80 [(0, .sl 2 (p0.map e_line_Row)), (1, .int .i64 p1), (5, .ep 5 0 2 0 0), (33, .bool u1)] [(5, .arr 0 true 2 [.agg [.sl 1 (p2.f_Num.map (V.int .i64)), .int .i64 p2.f_Den]])]) ?_ ?_
  · refine tr_reg ?_
    try simp +decide only [go_sem, ↓reduceIte]
    obtain ⟨r1, hr1, hI1⟩ := bind_inv hI1
    refine evl_callS (caps := []) (mootref3_RowsFault_pc p0 p1 _ hr1) (by simp +decide only [go_sem, ↓reduceIte]) ?_
    try simp +decide only [go_sem, ↓reduceIte]
    refine waysl_not ?_ ?_
    · intro g1
      replace hI1 := cond_t g1 hI1
      try simp +decide only [go_sem, ↓reduceIte, g1]
      obtain rfl := Option.some.inj hI1
      refine st_mk () trivial ?_
      exact le_se (by simp [go_sem, g1]) (by simp [go_sem, g1])
    · intro g1
      replace hI1 := cond_f g1 hI1
      try simp +decide only [go_sem, ↓reduceIte, g1]
      refine waysl_not ?_ ?_
      · intro g2
        replace hI1 := cond_t g2 hI1
        try simp +decide only [go_sem, ↓reduceIte, g1, g2]
        obtain rfl := Option.some.inj hI1
        refine st_mk () trivial ?_
        exact le_se (by simp [go_sem, g1, g2]) (by simp [go_sem, g1, g2])
      · intro g2
        replace hI1 := cond_f g2 hI1
        try simp +decide only [go_sem, ↓reduceIte, g1, g2]
        refine waysl_not ?_ ?_
        · intro g3
          replace hI1 := cond_t g3 hI1
          try simp +decide only [go_sem, ↓reduceIte, g1, g2, g3]
          obtain rfl := Option.some.inj hI1
          refine st_mk () trivial ?_
          exact le_se (by simp [go_sem, g1, g2, g3]) (by simp [go_sem, g1, g2, g3])
        · intro g3
          replace hI1 := cond_f g3 hI1
          try simp +decide only [go_sem, ↓reduceIte, g1, g2, g3]
          obtain rfl := Option.some.inj hI1
          refine st_mk () trivial ?_
          exact le_se (by simp [go_sem, g1, g2, g3]) (by simp [go_sem, g1, g2, g3])
  · rintro _ _
    refine tr_condS (b := u1) rfl (by simp +decide only [go_sem, ↓reduceIte]) ?_ ?_
    · intro g4
      replace hI0 := cond_t g4 hI0
      refine tr_sreg fun K3 hK3 => ?_
      try simp +decide only [go_sem, ↓reduceIte, g4]
      refine hK3 _ ?_
      refine tr_ret ?_
      try simp +decide only [Post.andThen, Post.inBlock, rangePost, ↓reduceIte]
      obtain rfl := Option.some.inj hI0
      simp [PG.Fin, resAll, resOf, resV, Try.results12, go_sem, g4]
    · intro g4
      replace hI0 := cond_f g4 hI0
      refine tr_skip ?_
      try simp +decide only [Post.andThen, Post.inBlock, rangePost, ↓reduceIte]
      refine hK2 _ ?_
      refine tr_seq_k fun K4 hK4 => ?_
      refine tr_sreg fun K5 hK5 => ?_
      try simp +decide only [go_sem, ↓reduceIte, g4]
      refine hK5 _ ?_
      obtain ⟨o1, hL1, hI0⟩ := bind_inv hI0
      refine tr_tail_ex (fun (i : Unit × Unit) => o1 = .inl i.1) (fun i => SE 80 ((fun (i : Unit × Unit) => [(0, .sl 2 (p0.map e_line_Row)), (1, .int .i64 p1), (5, .ep 5 0 2 0 0), (35, .sl 1 (p2.f_Num.map (V.int .i64)))]) i) ((fun (i : Unit × Unit) => [(5, .arr 0 true 2 [.agg [.sl 1 (p2.f_Num.map (V.int .i64)), .int .i64 p2.f_Den]])]) i)) ?_ ?_
      · refine tr_lim_sl (t := 35) (sz := 1) (l := p2.f_Num.map (V.int .i64)) (by try simp +decide only [go_sem, ↓reduceIte, g4]) rfl fun hlim => ?_
        refine tr_forL 80 (fun i => i.1) (fun (i : Unit × Unit) => [(0, .sl 2 (p0.map e_line_Row)), (1, .int .i64 p1), (5, .ep 5 0 2 0 0), (35, .sl 1 (p2.f_Num.map (V.int .i64)))]) (fun (i : Unit × Unit) => [(5, .arr 0 true 2 [.agg [.sl 1 (p2.f_Num.map (V.int .i64)), .int .i64 p2.f_Den]])]) ((), ()) hL1 ?_ ?_ ?_ ?_ ?_ ?_ ?_
        · simpa using hlim
        · first | exact .inl rfl | exact .inr rfl
        · decide
        · decide
        · intro i; simp [aget]
        · exact le_se (by simp [go_sem, g4]) (by simp [go_sem, g4])
        · rintro k1 x1 ⟨s1, n1⟩ ctl1 hx1 hq1 hI1 hbk1 hrt1
          try dsimp only at hI1 ⊢
          unfold mootref3_Solves_b0 at hI1
          refine tr_sreg fun K6 hK6 => ?_
          try simp +decide only [go_sem, ↓reduceIte, g4, hx1]
          refine hK6 _ ?_
          refine tr_seq_ex (fun _ : Unit => True) (fun _ => SE 80 [(0, .sl 2 (p0.map e_line_Row)), (1, .int .i64 p1), (5, .ep 5 0 2 0 0), (35, .sl 1 (p2.f_Num.map (V.int .i64))), (36, .int .i64 (p2.f_Num.length : Int)), (37, .int .i64 (k1 : Int)), (46, .bool (cond (decide (x1 > 36028797018963968)) true (decide (x1 < (-36028797018963968)))))] [(5, .arr 0 true 2 [.agg [.sl 1 (p2.f_Num.map (V.int .i64)), .int .i64 p2.f_Den]])]) ?_ ?_
          · refine tr_reg ?_
            try simp +decide only [go_sem, ↓reduceIte, g4, hx1]
            refine waysl_not ?_ ?_
            · intro g5
              try simp +decide only [go_sem, ↓reduceIte, g4, hx1, g5]
              refine st_mk () trivial ?_
              exact le_se (by simp [go_sem, g4, hx1, g5]) (by simp [go_sem, g4, hx1, g5])
            · intro g5
              try simp +decide only [go_sem, ↓reduceIte, g4, hx1, g5]
              refine st_mk () trivial ?_
              exact le_se (by simp [go_sem, g4, hx1, g5]) (by simp [go_sem, g4, hx1, g5])
          · rintro _ _
            refine tr_condS (b := (cond (decide (x1 > 36028797018963968)) true (decide (x1 < (-36028797018963968))))) rfl (by simp +decide only [go_sem, ↓reduceIte, g4, hx1]) ?_ ?_
            · intro g6
              replace hI1 := cond_t g6 hI1
              refine tr_sreg fun K7 hK7 => ?_
              try simp +decide only [go_sem, ↓reduceIte, g4, hx1, g6]
              refine hK7 _ ?_
              refine tr_ret ?_
              try simp +decide only [Post.andThen, Post.inBlock, rangePost, ↓reduceIte]
              obtain rfl := Option.some.inj hI1
              have ho := hrt1 _ rfl
              subst ho
              replace hI0 := elim_r hI0
              obtain rfl := Option.some.inj hI0
              simp [PG.Fin, resAll, resOf, resV, Try.results12, go_sem, g4, hx1, g6]
            · intro g6
              replace hI1 := cond_f g6 hI1
              refine tr_skip ?_
              try simp +decide only [Post.andThen, Post.inBlock, rangePost, ↓reduceIte]
              obtain rfl := Option.some.inj hI1
              refine st_mk ((), ()) (by first | rfl | trivial) ?_
              exact le_se (by simp [go_sem, g4, hx1, g6]) (by simp [go_sem, g4, hx1, g6])
      · rintro ⟨u2, m1⟩ e9 ho hle
        try dsimp only at ho hle ⊢
        subst ho
        replace hI0 := elim_l hI0
        refine hK4 _ ?_
        refine tr_le hle ?_
        refine tr_seq_k fun K8 hK8 => ?_
        refine tr_sreg fun K9 hK9 => ?_
        try simp +decide only [go_sem, ↓reduceIte, g4]
        refine hK9 _ ?_
        obtain ⟨o3, hL3, hI0⟩ := bind_inv hI0
        refine tr_tail_ex (fun (i : Unit × Unit) => o3 = .inl i.1) (fun i => SE 80 ((fun (i : Unit × Unit) => [(1, .int .i64 p1), (5, .ep 5 0 2 0 0), (48, .sl 2 (p0.map e_line_Row))]) i) ((fun (i : Unit × Unit) => [(5, .arr 0 true 2 [.agg [.sl 1 (p2.f_Num.map (V.int .i64)), .int .i64 p2.f_Den]])]) i)) ?_ ?_
        · refine tr_lim_sl (t := 48) (sz := 2) (l := p0.map e_line_Row) (by try simp +decide only [go_sem, ↓reduceIte, g4]) rfl fun hlim => ?_
          refine tr_forL 80 (fun i => i.1) (fun (i : Unit × Unit) => [(1, .int .i64 p1), (5, .ep 5 0 2 0 0), (48, .sl 2 (p0.map e_line_Row))]) (fun (i : Unit × Unit) => [(5, .arr 0 true 2 [.agg [.sl 1 (p2.f_Num.map (V.int .i64)), .int .i64 p2.f_Den]])]) ((), ()) hL3 ?_ ?_ ?_ ?_ ?_ ?_ ?_
          · simpa using hlim
          · first | exact .inl rfl | exact .inr rfl
          · decide
          · decide
          · intro i; simp [aget]
          · exact le_se (by simp [go_sem, g4]) (by simp [go_sem, g4])
          · rintro k2 x2 ⟨s1, n1⟩ ctl1 hx2 hq2 hI1 hbk1 hrt1
            try dsimp only at hI1 ⊢
            unfold mootref3_Solves_b2 at hI1
            refine tr_sreg fun K10 hK10 => ?_
            try simp +decide only [go_sem, ↓reduceIte, g4, hx2]
            refine hK10 _ ?_
            refine tr_sreg fun K11 hK11 => ?_
            try simp +decide only [go_sem, ↓reduceIte, g4, hx2]
            refine hK11 _ ?_
            refine tr_seq_k fun K12 hK12 => ?_
            refine tr_sreg fun K13 hK13 => ?_
            try simp +decide only [go_sem, ↓reduceIte, g4, hx2]
            refine hK13 _ ?_
            obtain ⟨_, cN, hI1⟩ := bind_inv hI1; replace cN := chk_some cN
            obtain ⟨o2, hL2, hI1⟩ := bind_inv hI1
            refine tr_tail_ex (fun (i : Int × Unit) => o2 = .inl i.1) (fun i => SE 80 ((fun (i : Int × Unit) => [(1, .int .i64 p1), (5, .ep 5 0 2 0 0), (10, .ep 10 0 2 0 0), (11, .int .i64 i.1), (48, .sl 2 (p0.map e_line_Row)), (49, .int .i64 (p0.length : Int)), (50, .int .i64 (k2 : Int))]) i) ((fun (i : Int × Unit) => [(5, .arr 0 true 2 [.agg [.sl 1 (p2.f_Num.map (V.int .i64)), .int .i64 p2.f_Den]]), (10, .arr 0 true 2 [.agg [.sl 1 (x2.f_Coef.map (V.int .i64)), .int .i64 x2.f_Most]])]) i)) ?_ ?_
            · refine tr_forN (N := p1.toNat) (Nz := p1) (by simp) 80 (fun i => i.1) (fun (i : Int × Unit) => [(1, .int .i64 p1), (5, .ep 5 0 2 0 0), (10, .ep 10 0 2 0 0), (11, .int .i64 i.1), (48, .sl 2 (p0.map e_line_Row)), (49, .int .i64 (p0.length : Int)), (50, .int .i64 (k2 : Int))]) (fun (i : Int × Unit) => [(5, .arr 0 true 2 [.agg [.sl 1 (p2.f_Num.map (V.int .i64)), .int .i64 p2.f_Den]]), (10, .arr 0 true 2 [.agg [.sl 1 (x2.f_Coef.map (V.int .i64)), .int .i64 x2.f_Most]])]) ((IntKind.i64.wrap (x2.f_Most * p2.f_Den)), ()) hL2 ?_ ?_ ?_ ?_ ?_ ?_ ?_
              · omega
              · first | exact .inl rfl | exact .inr rfl
              · decide
              · decide
              · intro i; simp [aget]
              · exact le_se (by simp [go_sem, g4, hx2]) (by simp [go_sem, g4, hx2])
              · rintro k3 ⟨s2, n2⟩ ctl2 hk3 hq3 hI2 hbk2 hrt2
                try dsimp only at hI2 ⊢
                unfold mootref3_Solves_b4 at hI2
                refine tr_sreg fun K14 hK14 => ?_
                try simp +decide only [go_sem, ↓reduceIte, g4, hx2]
                refine hK14 _ ?_
                refine drawT mixA (by kernel_rfl) (by kernel_rfl) ?_
                obtain ⟨x3, hx3, hI2⟩ := bind_inv hI2
                have hx3b : (k3 : Int) < (x2.f_Coef.length : Nat) := by simpa using get_lt hx3
                obtain ⟨x4, hx4, hI2⟩ := bind_inv hI2
                have hx4b : (k3 : Int) < (p2.f_Num.length : Nat) := by simpa using get_lt hx4
                try simp +decide only [go_sem, ↓reduceIte, g4, hx2, hx3, hx3b, hx4, hx4b]
                refine dn_mk (by kernel_rfl) ?_
                obtain rfl := Option.some.inj hI2
                refine st_mk ((IntKind.i64.wrap (s2 - (IntKind.i64.wrap (x3 * x4)))), ()) (by first | rfl | trivial) ?_
                exact le_se (by simp [go_sem, g4, hx2, hx3, hx3b, hx4, hx4b]) (by simp [go_sem, g4, hx2, hx3, hx3b, hx4, hx4b])
            · rintro ⟨u3, m2⟩ e9 ho hle
              try dsimp only at ho hle ⊢
              subst ho
              replace hI1 := elim_l hI1
              refine hK12 _ ?_
              refine tr_le hle ?_
              refine tr_sreg fun K16 hK16 => ?_
              try simp +decide only [go_sem, ↓reduceIte, g4, hx2]
              refine hK16 _ ?_
              refine tr_condS (b := (decide (u3 < 0))) rfl (by simp +decide only [go_sem, ↓reduceIte, g4, hx2]) ?_ ?_
              · intro g7
                replace hI1 := cond_t g7 hI1
                refine tr_sreg fun K17 hK17 => ?_
                try simp +decide only [go_sem, ↓reduceIte, g4, hx2, g7]
                refine hK17 _ ?_
                refine tr_ret ?_
                try simp +decide only [Post.andThen, Post.inBlock, rangePost, ↓reduceIte]
                obtain rfl := Option.some.inj hI1
                have ho := hrt1 _ rfl
                subst ho
                replace hI0 := elim_r hI0
                obtain rfl := Option.some.inj hI0
                simp [PG.Fin, resAll, resOf, resV, Try.results12, go_sem, g4, hx2, g7]
              · intro g7
                replace hI1 := cond_f g7 hI1
                refine tr_skip ?_
                try simp +decide only [Post.andThen, Post.inBlock, rangePost, ↓reduceIte]
                obtain rfl := Option.some.inj hI1
                refine st_mk ((), ()) (by first | rfl | trivial) ?_
                exact le_se (by simp [go_sem, g4, hx2, g7]) (by simp [go_sem, g4, hx2, g7])
        · rintro ⟨u4, m3⟩ e9 ho hle
          try dsimp only at ho hle ⊢
          subst ho
          replace hI0 := elim_l hI0
          refine hK8 _ ?_
          refine tr_le hle ?_
          refine tr_sreg fun K18 hK18 => ?_
          try simp +decide only [go_sem, ↓reduceIte, g4]
          refine hK18 _ ?_
          refine tr_ret ?_
          try simp +decide only [Post.andThen, Post.inBlock, rangePost, ↓reduceIte]
          obtain rfl := Option.some.inj hI0
          simp [PG.Fin, resAll, resOf, resV, Try.results12, go_sem, g4]

-- moothall/line.Refutes
def line_Refutes_b2 (p2 : (List Int)) (k1 : Nat) (k2 : Nat) (x3 : Int) (s2 : (List Int)) : Option (Ctl (List Int) (Ctl (List Int) Bool)) :=
  (s2[k2]?).bind fun x4 =>
  (p2[k1]?).bind fun x5 =>
  some (.nx (s2.set k2 (IntKind.i64.wrap (x4 + (IntKind.i64.wrap (x5 * x3))))))
def line_Refutes_b0 (p1 : Int) (p2 : (List Int)) (k1 : Nat) (x1 : line_Row) (s1 : (List Int)) : Option (Ctl (List Int) Bool) :=
  ((
    (p2[k1]?).bind fun x2 =>
    cond (decide (x2 < 0))
      (some true)
      (some (decide (x2 > 1125899906842624)))) : Option Bool).bind fun (u2 : Bool) =>
  cond u2
    (some (.rt false))
    ((forL (line_Refutes_b2 p2 k1) 0 x1.f_Coef s1).bind (Sum.elim (fun (u3 : (List Int)) =>
      (idx u3 p1).bind fun x6 =>
      (p2[k1]?).bind fun x7 =>
      some (.nx (u3.set p1.toNat (IntKind.i64.wrap (x6 + (IntKind.i64.wrap (x7 * x1.f_Most))))))) some))
def line_Refutes_b4 (k3 : Nat) (x8 : Int) (s1 : Unit) : Option (Ctl Unit Bool) :=
  cond (x8 != 0)
    (some (.rt false))
    (some (.nx ()))
def line_Refutes (p0 : (List line_Row)) (p1 : Int) (p2 : (List Int)) : Option Bool :=
  ((
    (line_Check p0 p1).bind fun r1 =>
    cond (r1 != 0)
      (some true)
      (some ((p2.length : Int) != (p0.length : Int)))) : Option Bool).bind fun (u1 : Bool) =>
  cond u1
    (some false)
    ((chk (0 ≤ (IntKind.i64.wrap (p1 + 1)) ∧ (IntKind.i64.wrap (p1 + 1)) ≤ (LIM : Int))).bind fun _ =>
    (forL (line_Refutes_b0 p1 p2) 0 p0 (List.replicate ((IntKind.i64.wrap (p1 + 1)).toNat) (0 : Int))).bind (Sum.elim (fun (u4 : (List Int)) =>
      (chk (0 ≤ p1 ∧ p1.toNat ≤ u4.length)).bind fun _ =>
      (forL line_Refutes_b4 0 (u4.take p1.toNat) ()).bind (Sum.elim (fun (u5 : Unit) =>
        (idx u4 p1).bind fun x9 =>
        some (decide (x9 < 0))) some)) some))
theorem line_Refutes_pc (p0 : (List line_Row)) (p1 : Int) (p2 : (List Int)) (R : Bool) (hI0 : line_Refutes p0 p1 p2 = some R) : PC Try.prog 31 [.sl 2 (p0.map e_line_Row), .int .i64 p1, .sl 1 (p2.map (V.int .i64))] (.bool R) := by
  unfold line_Refutes at hI0
  refine pc_se Try.func31 rfl (by kernel_rfl) 98 rfl (by simp) ?_
  show Tr _ _ (SE 98 [(0, .sl 2 (p0.map e_line_Row)), (1, .int .i64 p1), (2, .sl 1 (p2.map (V.int .i64)))] []) _
  refine tr_sreg fun K1 hK1 => ?_
  try simp +decide only [go_sem, ↓reduceIte]
  refine hK1 _ ?_
  refine tr_seq_k fun K2 hK2 => ?_
  obtain ⟨u1, hI1, hI0⟩ := bind_inv hI0
  refine tr_seq_ex (fun _ : Unit => True) (fun _ => SE 98 [(0, .sl 2 (p0.map e_line_Row)), (1, .int .i64 p1), (2, .sl 1 (p2.map (V.int .i64))), (24, .bool u1)] []) ?_ ?_
  · refine tr_reg ?_
    try simp +decide only [go_sem, ↓reduceIte]
    obtain ⟨r1, hr1, hI1⟩ := bind_inv hI1
    refine evl_callS (caps := []) (line_Check_pc p0 p1 _ hr1) (by simp +decide only [go_sem, ↓reduceIte]) ?_
    try simp +decide only [go_sem, ↓reduceIte]
    refine waysl_not ?_ ?_
    · intro g1
      replace hI1 := cond_t g1 hI1
      try simp +decide only [go_sem, ↓reduceIte, g1]
      obtain rfl := Option.some.inj hI1
      refine st_mk () trivial ?_
      exact le_se (by simp [go_sem, g1]) (by simp [go_sem, g1])
    · intro g1
      replace hI1 := cond_f g1 hI1
      try simp +decide only [go_sem, ↓reduceIte, g1]
      obtain rfl := Option.some.inj hI1
      refine st_mk () trivial ?_
      exact le_se (by simp [go_sem, g1]) (by simp [go_sem, g1])
  · rintro _ _
    refine tr_condS (b := u1) rfl (by simp +decide only [go_sem, ↓reduceIte]) ?_ ?_
    · intro g2
      replace hI0 := cond_t g2 hI0
      refine tr_sreg fun K3 hK3 => ?_
      try simp +decide only [go_sem, ↓reduceIte, g2]
      refine hK3 _ ?_
      refine tr_ret ?_
      try simp +decide only [Post.andThen, Post.inBlock, rangePost, ↓reduceIte]
      obtain rfl := Option.some.inj hI0
      simp [PG.Fin, resAll, resOf, resV, Try.results31, go_sem, g2]
    · intro g2
      replace hI0 := cond_f g2 hI0
      refine tr_skip ?_
      try simp +decide only [Post.andThen, Post.inBlock, rangePost, ↓reduceIte]
      refine hK2 _ ?_
      refine tr_sreg fun K4 hK4 => ?_
      obtain ⟨_, c1, hI0⟩ := bind_inv hI0; replace c1 := chk_some c1
      obtain ⟨c1a, c1b⟩ := c1
      try simp +decide only [go_sem, ↓reduceIte, g2, c1a, c1b]
      refine hK4 _ ?_
      refine tr_le (e' := SE 98 [(0, .sl 2 (p0.map e_line_Row)), (1, .int .i64 p1), (2, .sl 1 (p2.map (V.int .i64))), (7, .so 27 0 1 0 ((IntKind.i64.wrap (p1 + 1)).toNat))] [(27, .arr 0 true 1 ((List.replicate ((IntKind.i64.wrap (p1 + 1)).toNat) (0 : Int)).map (V.int .i64)))]) ?_ ?_
      · exact le_se (by simp [go_sem, g2, c1a, c1b]) (by simp [go_sem, g2, c1a, c1b])
      refine tr_seq_k fun K5 hK5 => ?_
      refine tr_sreg fun K6 hK6 => ?_
      try simp +decide only [go_sem, ↓reduceIte, g2, c1a, c1b]
      refine hK6 _ ?_
      obtain ⟨o2, hL2, hI0⟩ := bind_inv hI0
      refine tr_tail_ex (fun (i : (List Int) × Unit) => o2 = .inl i.1) (fun i => SE 98 ((fun (i : (List Int) × Unit) => [(1, .int .i64 p1), (2, .sl 1 (p2.map (V.int .i64))), (7, .so 27 0 1 0 i.1.length), (28, .sl 2 (p0.map e_line_Row))]) i) ((fun (i : (List Int) × Unit) => [(27, .arr 0 true 1 (i.1.map (V.int .i64)))]) i)) ?_ ?_
      · refine tr_lim_sl (t := 28) (sz := 2) (l := p0.map e_line_Row) (by try simp +decide only [go_sem, ↓reduceIte, g2, c1a, c1b]) rfl fun hlim => ?_
        refine tr_forL 98 (fun i => i.1) (fun (i : (List Int) × Unit) => [(1, .int .i64 p1), (2, .sl 1 (p2.map (V.int .i64))), (7, .so 27 0 1 0 i.1.length), (28, .sl 2 (p0.map e_line_Row))]) (fun (i : (List Int) × Unit) => [(27, .arr 0 true 1 (i.1.map (V.int .i64)))]) ((List.replicate ((IntKind.i64.wrap (p1 + 1)).toNat) (0 : Int)), ()) hL2 ?_ ?_ ?_ ?_ ?_ ?_ ?_
        · simpa using hlim
        · first | exact .inl rfl | exact .inr rfl
        · decide
        · decide
        · intro i; simp [aget]
        · exact le_se (by simp [go_sem, g2, c1a, c1b]) (by simp [go_sem, g2, c1a, c1b])
        · rintro k1 x1 ⟨s1, n1⟩ ctl1 hx1 hq1 hI1 hbk1 hrt1
          try dsimp only at hI1 ⊢
          unfold line_Refutes_b0 at hI1
          refine tr_sreg fun K7 hK7 => ?_
          try simp +decide only [go_sem, ↓reduceIte, g2, c1a, c1b, hx1]
          refine hK7 _ ?_
          refine tr_seq_k fun K8 hK8 => ?_
          obtain ⟨u2, hI2, hI1⟩ := bind_inv hI1
          refine tr_seq_ex (fun _ : Unit => True) (fun _ => SE 98 [(1, .int .i64 p1), (2, .sl 1 (p2.map (V.int .i64))), (7, .so 27 0 1 0 s1.length), (8, .int .i64 (k1 : Int)), (9, .ep 9 0 2 0 0), (28, .sl 2 (p0.map e_line_Row)), (29, .int .i64 (p0.length : Int)), (30, .int .i64 (k1 : Int)), (46, .bool u2)] [(9, .arr 0 true 2 [.agg [.sl 1 (x1.f_Coef.map (V.int .i64)), .int .i64 x1.f_Most]]), (27, .arr 0 true 1 (s1.map (V.int .i64)))]) ?_ ?_
          · refine tr_reg ?_
            obtain ⟨x2, hx2, hI2⟩ := bind_inv hI2
            have hx2b : (k1 : Int) < (p2.length : Nat) := by simpa using get_lt hx2
            try simp +decide only [go_sem, ↓reduceIte, g2, c1a, c1b, hx1, hx2, hx2b]
            refine waysl_not ?_ ?_
            · intro g3
              replace hI2 := cond_t g3 hI2
              try simp +decide only [go_sem, ↓reduceIte, g2, c1a, c1b, hx1, hx2, hx2b, g3]
              obtain rfl := Option.some.inj hI2
              refine st_mk () trivial ?_
              exact le_se (by simp [go_sem, g2, c1a, c1b, hx1, hx2, hx2b, g3]) (by simp [go_sem, g2, c1a, c1b, hx1, hx2, hx2b, g3])
            · intro g3
              replace hI2 := cond_f g3 hI2
              try simp +decide only [go_sem, ↓reduceIte, g2, c1a, c1b, hx1, hx2, hx2b, g3]
              obtain rfl := Option.some.inj hI2
              refine st_mk () trivial ?_
              exact le_se (by simp [go_sem, g2, c1a, c1b, hx1, hx2, hx2b, g3]) (by simp [go_sem, g2, c1a, c1b, hx1, hx2, hx2b, g3])
          · rintro _ _
            refine tr_condS (b := u2) rfl (by simp +decide only [go_sem, ↓reduceIte, g2, c1a, c1b, hx1]) ?_ ?_
            · intro g4
              replace hI1 := cond_t g4 hI1
              refine tr_sreg fun K9 hK9 => ?_
              try simp +decide only [go_sem, ↓reduceIte, g2, c1a, c1b, hx1, g4]
              refine hK9 _ ?_
              refine tr_ret ?_
              try simp +decide only [Post.andThen, Post.inBlock, rangePost, ↓reduceIte]
              obtain rfl := Option.some.inj hI1
              have ho := hrt1 _ rfl
              subst ho
              replace hI0 := elim_r hI0
              obtain rfl := Option.some.inj hI0
              simp [PG.Fin, resAll, resOf, resV, Try.results31, go_sem, g2, c1a, c1b, hx1, g4]
            · intro g4
              replace hI1 := cond_f g4 hI1
              refine tr_skip ?_
              try simp +decide only [Post.andThen, Post.inBlock, rangePost, ↓reduceIte]
              refine hK8 _ ?_
              refine tr_seq_k fun K10 hK10 => ?_
              refine tr_sreg fun K11 hK11 => ?_
              try simp +decide only [go_sem, ↓reduceIte, g2, c1a, c1b, hx1, g4]
              refine hK11 _ ?_
              obtain ⟨o1, hL1, hI1⟩ := bind_inv hI1
              refine tr_tail_ex (fun (i : (List Int) × Unit) => o1 = .inl i.1) (fun i => SE 98 ((fun (i : (List Int) × Unit) => [(1, .int .i64 p1), (2, .sl 1 (p2.map (V.int .i64))), (7, .so 27 0 1 0 i.1.length), (8, .int .i64 (k1 : Int)), (9, .ep 9 0 2 0 0), (28, .sl 2 (p0.map e_line_Row)), (29, .int .i64 (p0.length : Int)), (30, .int .i64 (k1 : Int)), (48, .sl 1 (x1.f_Coef.map (V.int .i64)))]) i) ((fun (i : (List Int) × Unit) => [(9, .arr 0 true 2 [.agg [.sl 1 (x1.f_Coef.map (V.int .i64)), .int .i64 x1.f_Most]]), (27, .arr 0 true 1 (i.1.map (V.int .i64)))]) i)) ?_ ?_
              · refine tr_lim_sl (t := 48) (sz := 1) (l := x1.f_Coef.map (V.int .i64)) (by try simp +decide only [go_sem, ↓reduceIte, g2, c1a, c1b, hx1, g4]) rfl fun hlim => ?_
                refine tr_forL 98 (fun i => i.1) (fun (i : (List Int) × Unit) => [(1, .int .i64 p1), (2, .sl 1 (p2.map (V.int .i64))), (7, .so 27 0 1 0 i.1.length), (8, .int .i64 (k1 : Int)), (9, .ep 9 0 2 0 0), (28, .sl 2 (p0.map e_line_Row)), (29, .int .i64 (p0.length : Int)), (30, .int .i64 (k1 : Int)), (48, .sl 1 (x1.f_Coef.map (V.int .i64)))]) (fun (i : (List Int) × Unit) => [(9, .arr 0 true 2 [.agg [.sl 1 (x1.f_Coef.map (V.int .i64)), .int .i64 x1.f_Most]]), (27, .arr 0 true 1 (i.1.map (V.int .i64)))]) (s1, ()) hL1 ?_ ?_ ?_ ?_ ?_ ?_ ?_
                · simpa using hlim
                · first | exact .inl rfl | exact .inr rfl
                · decide
                · decide
                · intro i; simp [aget]
                · exact le_se (by simp [go_sem, g2, c1a, c1b, hx1, g4]) (by simp [go_sem, g2, c1a, c1b, hx1, g4])
                · rintro k2 x3 ⟨s2, n2⟩ ctl2 hx3 hq2 hI2 hbk2 hrt2
                  try dsimp only at hI2 ⊢
                  unfold line_Refutes_b2 at hI2
                  refine tr_sreg fun K12 hK12 => ?_
                  try simp +decide only [go_sem, ↓reduceIte, g2, c1a, c1b, hx1, g4, hx3]
                  refine hK12 _ ?_
                  refine drawT mixA (by kernel_rfl) (by kernel_rfl) ?_
                  obtain ⟨x4, hx4, hI2⟩ := bind_inv hI2
                  have hx4b : (k2 : Int) < (s2.length : Nat) := by simpa using get_lt hx4
                  obtain ⟨x5, hx5, hI2⟩ := bind_inv hI2
                  have hx5b : (k1 : Int) < (p2.length : Nat) := by simpa using get_lt hx5
                  try simp +decide only [go_sem, ↓reduceIte, g2, c1a, c1b, hx1, g4, hx3, hx4, hx4b, hx5, hx5b]
                  refine dn_mk (by kernel_rfl) ?_
                  obtain rfl := Option.some.inj hI2
                  refine st_mk ((s2.set k2 (IntKind.i64.wrap (x4 + (IntKind.i64.wrap (x5 * x3))))), ()) (by first | rfl | trivial) ?_
                  exact le_se (by simp [go_sem, g2, c1a, c1b, hx1, g4, hx3, hx4, hx4b, hx5, hx5b]) (by simp [go_sem, g2, c1a, c1b, hx1, g4, hx3, hx4, hx4b, hx5, hx5b])
              · rintro ⟨u3, m1⟩ e9 ho hle
                try dsimp only at ho hle ⊢
                subst ho
                replace hI1 := elim_l hI1
                refine hK10 _ ?_
                refine tr_le hle ?_
                refine drawT mixA (by kernel_rfl) (by kernel_rfl) ?_
                obtain ⟨x6, hx6, hI1⟩ := bind_inv hI1
                have hx6l : p1 < ((u3.length : Nat) : Int) := by simpa using idx_below hx6
                obtain ⟨hx6a, hx6b⟩ := idx_some hx6; clear hx6
                obtain ⟨x7, hx7, hI1⟩ := bind_inv hI1
                have hx7b : (k1 : Int) < (p2.length : Nat) := by simpa using get_lt hx7
                try simp +decide only [go_sem, ↓reduceIte, g2, c1a, c1b, hx1, g4, hx6a, hx6b, hx6l, hx7, hx7b]
                refine dn_mk (by kernel_rfl) ?_
                obtain rfl := Option.some.inj hI1
                refine st_mk ((u3.set p1.toNat (IntKind.i64.wrap (x6 + (IntKind.i64.wrap (x7 * x1.f_Most))))), ()) (by first | rfl | trivial) ?_
                exact le_se (by simp [go_sem, g2, c1a, c1b, hx1, g4, hx6a, hx6b, hx6l, hx7, hx7b]) (by simp [go_sem, g2, c1a, c1b, hx1, g4, hx6a, hx6b, hx6l, hx7, hx7b])
      · rintro ⟨u4, m2⟩ e9 ho hle
        try dsimp only at ho hle ⊢
        subst ho
        replace hI0 := elim_l hI0
        refine hK5 _ ?_
        refine tr_le hle ?_
        refine tr_seq_k fun K15 hK15 => ?_
        refine tr_sreg fun K16 hK16 => ?_
        obtain ⟨_, c2, hI0⟩ := bind_inv hI0; replace c2 := chk_some c2
        obtain ⟨c2a, c2b⟩ := c2
        try simp +decide only [go_sem, ↓reduceIte, g2, c1a, c1b, c2a, c2b]
        refine hK16 _ ?_
        refine tr_le (e' := SE 98 [(1, .int .i64 p1), (7, .so 27 0 1 0 u4.length), (84, .so 27 0 1 0 p1.toNat), (85, .int .i64 (p1.toNat : Int)), (86, .int .i64 0)] [(27, .arr 0 true 1 (u4.map (V.int .i64)))]) ?_ ?_
        · exact le_se (by simp [go_sem, g2, c1a, c1b, c2a, c2b]) (by simp [go_sem, g2, c1a, c1b, c2a, c2b])
        obtain ⟨o3, hL3, hI0⟩ := bind_inv hI0
        refine tr_tail_ex (fun (i : Unit × Unit) => o3 = .inl i.1) (fun i => SE 98 ((fun (i : Unit × Unit) => [(1, .int .i64 p1), (7, .so 27 0 1 0 u4.length), (84, .so 27 0 1 0 p1.toNat)]) i) ((fun (i : Unit × Unit) => [(27, .arr 0 true 1 (u4.map (V.int .i64)))]) i)) ?_ ?_
        · refine tr_lim_ob (m := 27) (g := 0) (p := true) (sz := 1) (l := u4.map (V.int .i64)) (by try simp +decide only [go_sem, ↓reduceIte, g2, c1a, c1b, c2a, c2b]) fun hlim => ?_
          refine tr_forL 98 (fun i => i.1) (fun (i : Unit × Unit) => [(1, .int .i64 p1), (7, .so 27 0 1 0 u4.length), (84, .so 27 0 1 0 p1.toNat)]) (fun (i : Unit × Unit) => [(27, .arr 0 true 1 (u4.map (V.int .i64)))]) ((), ()) hL3 ?_ ?_ ?_ ?_ ?_ ?_ ?_
          · have := List.length_take_le p1.toNat u4; simp at hlim; omega
          · first | exact .inl rfl | exact .inr rfl
          · decide
          · decide
          · intro i; simp [aget]
          · exact le_se (by simp [go_sem, g2, c1a, c1b, c2a, c2b]) (by simp [go_sem, g2, c1a, c1b, c2a, c2b])
          · rintro k3 x8 ⟨s1, n1⟩ ctl1 hx8 hq3 hI1 hbk1 hrt1
            try dsimp only at hI1 ⊢
            unfold line_Refutes_b4 at hI1
            refine tr_sreg fun K17 hK17 => ?_
            obtain ⟨hw1a, hw1b⟩ := take_get hx8
            try simp +decide only [go_sem, ↓reduceIte, g2, c1a, c1b, c2a, c2b, hx8, hw1a, hw1b]
            refine hK17 _ ?_
            refine tr_sreg fun K18 hK18 => ?_
            try simp +decide only [go_sem, ↓reduceIte, g2, c1a, c1b, c2a, c2b, hx8, hw1a, hw1b]
            refine hK18 _ ?_
            refine tr_condS (b := (x8 != 0)) rfl (by simp +decide only [go_sem, ↓reduceIte, g2, c1a, c1b, c2a, c2b, hx8, hw1a, hw1b]) ?_ ?_
            · intro g5
              replace hI1 := cond_t g5 hI1
              refine tr_sreg fun K19 hK19 => ?_
              try simp +decide only [go_sem, ↓reduceIte, g2, c1a, c1b, c2a, c2b, hx8, hw1a, hw1b, g5]
              refine hK19 _ ?_
              refine tr_ret ?_
              try simp +decide only [Post.andThen, Post.inBlock, rangePost, ↓reduceIte]
              obtain rfl := Option.some.inj hI1
              have ho := hrt1 _ rfl
              subst ho
              replace hI0 := elim_r hI0
              obtain rfl := Option.some.inj hI0
              simp [PG.Fin, resAll, resOf, resV, Try.results31, go_sem, g2, c1a, c1b, c2a, c2b, hx8, hw1a, hw1b, g5]
            · intro g5
              replace hI1 := cond_f g5 hI1
              refine tr_skip ?_
              try simp +decide only [Post.andThen, Post.inBlock, rangePost, ↓reduceIte]
              obtain rfl := Option.some.inj hI1
              refine st_mk ((), ()) (by first | rfl | trivial) ?_
              exact le_se (by simp [go_sem, g2, c1a, c1b, c2a, c2b, hx8, hw1a, hw1b, g5]) (by simp [go_sem, g2, c1a, c1b, c2a, c2b, hx8, hw1a, hw1b, g5])
        · rintro ⟨u5, m3⟩ e9 ho hle
          try dsimp only at ho hle ⊢
          subst ho
          replace hI0 := elim_l hI0
          refine hK15 _ ?_
          refine tr_le hle ?_
          refine tr_sreg fun K20 hK20 => ?_
          obtain ⟨x9, hx9, hI0⟩ := bind_inv hI0
          have hx9l : p1 < ((u4.length : Nat) : Int) := by simpa using idx_below hx9
          obtain ⟨hx9a, hx9b⟩ := idx_some hx9; clear hx9
          try simp +decide only [go_sem, ↓reduceIte, g2, c1a, c1b, c2a, c2b, hx9a, hx9b, hx9l]
          refine hK20 _ ?_
          refine tr_ret ?_
          try simp +decide only [Post.andThen, Post.inBlock, rangePost, ↓reduceIte]
          obtain rfl := Option.some.inj hI0
          simp [PG.Fin, resAll, resOf, resV, Try.results31, go_sem, g2, c1a, c1b, c2a, c2b, hx9a, hx9b, hx9l]

-- moothall/mootref3.Disproves
def mootref3_Disproves_b0 (k1 : Nat) (x1 : Int) (s1 : Unit) : Option (Ctl Unit Bool) :=
  cond (cond (decide (x1 < 0)) true (decide (x1 > 1125899906842624)))
    (some (.rt false))
    (some (.nx ()))
def mootref3_Disproves_b4 (p2 : (List Int)) (k2 : Nat) (k3 : Nat) (x2 : line_Row) (s2 : Int) : Option (Ctl Int (Ctl Unit Bool)) :=
  (x2.f_Coef[k2]?).bind fun x3 =>
  (p2[k3]?).bind fun x4 =>
  some (.nx (IntKind.i64.wrap (s2 + (IntKind.i64.wrap (x3 * x4)))))
def mootref3_Disproves_b2 (p0 : (List line_Row)) (p2 : (List Int)) (k2 : Nat) (s1 : Unit) : Option (Ctl Unit Bool) :=
  (forL (mootref3_Disproves_b4 p2 k2) 0 p0 0).bind (Sum.elim (fun (u3 : Int) =>
    cond (u3 != 0)
      (some (.rt false))
      (some (.nx ()))) some)
def mootref3_Disproves_b6 (p2 : (List Int)) (k4 : Nat) (x5 : line_Row) (s1 : Int) : Option (Ctl Int Bool) :=
  (p2[k4]?).bind fun x6 =>
  some (.nx (IntKind.i64.wrap (s1 + (IntKind.i64.wrap (x5.f_Most * x6)))))
def mootref3_Disproves (p0 : (List line_Row)) (p1 : Int) (p2 : (List Int)) : Option Bool :=
  ((
    (mootref3_RowsFault p0 p1).bind fun r1 =>
    cond (r1 != 0)
      (some true)
      (some ((p2.length : Int) != (p0.length : Int)))) : Option Bool).bind fun (u1 : Bool) =>
  cond u1
    (some false)
    ((forL mootref3_Disproves_b0 0 p2 ()).bind (Sum.elim (fun (u2 : Unit) =>
      (chk (p1 ≤ (LIM : Int))).bind fun _ =>
      (forN (mootref3_Disproves_b2 p0 p2) 0 p1.toNat ()).bind (Sum.elim (fun (u4 : Unit) =>
        (forL (mootref3_Disproves_b6 p2) 0 p0 0).bind (Sum.elim (fun (u5 : Int) =>
          some (decide (u5 < 0))) some)) some)) some))
theorem mootref3_Disproves_pc (p0 : (List line_Row)) (p1 : Int) (p2 : (List Int)) (R : Bool) (hI0 : mootref3_Disproves p0 p1 p2 = some R) : PC Try.prog 11 [.sl 2 (p0.map e_line_Row), .int .i64 p1, .sl 1 (p2.map (V.int .i64))] (.bool R) := by
  unfold mootref3_Disproves at hI0
  refine pc_se Try.func11 rfl (by kernel_rfl) 86 rfl (by simp) ?_
  show Tr _ _ (SE 86 [(0, .sl 2 (p0.map e_line_Row)), (1, .int .i64 p1), (2, .sl 1 (p2.map (V.int .i64)))] []) _
  refine tr_sreg fun K1 hK1 => ?_
  try simp +decide only [go_sem, ↓reduceIte]
  refine hK1 _ ?_
  refine tr_seq_k fun K2 hK2 => ?_
  obtain ⟨u1, hI1, hI0⟩ := bind_inv hI0
  refine tr_seq_ex (fun _ : Unit => True) (fun _ => SE 86 [(0, .sl 2 (p0.map e_line_Row)), (1, .int .i64 p1), (2, .sl 1 (p2.map (V.int .i64))), (26, .bool u1)] []) ?_ ?_
  · refine tr_reg ?_
    try simp +decide only [go_sem, ↓reduceIte]
    obtain ⟨r1, hr1, hI1⟩ := bind_inv hI1
    refine evl_callS (caps := []) (mootref3_RowsFault_pc p0 p1 _ hr1) (by simp +decide only [go_sem, ↓reduceIte]) ?_
    try simp +decide only [go_sem, ↓reduceIte]
    refine waysl_not ?_ ?_
    · intro g1
      replace hI1 := cond_t g1 hI1
      try simp +decide only [go_sem, ↓reduceIte, g1]
      obtain rfl := Option.some.inj hI1
      refine st_mk () trivial ?_
      exact le_se (by simp [go_sem, g1]) (by simp [go_sem, g1])
    · intro g1
      replace hI1 := cond_f g1 hI1
      try simp +decide only [go_sem, ↓reduceIte, g1]
      obtain rfl := Option.some.inj hI1
      refine st_mk () trivial ?_
      exact le_se (by simp [go_sem, g1]) (by simp [go_sem, g1])
  · rintro _ _
    refine tr_condS (b := u1) rfl (by simp +decide only [go_sem, ↓reduceIte]) ?_ ?_
    · intro g2
      replace hI0 := cond_t g2 hI0
      refine tr_sreg fun K3 hK3 => ?_
      try simp +decide only [go_sem, ↓reduceIte, g2]
      refine hK3 _ ?_
      refine tr_ret ?_
      try simp +decide only [Post.andThen, Post.inBlock, rangePost, ↓reduceIte]
      obtain rfl := Option.some.inj hI0
      simp [PG.Fin, resAll, resOf, resV, Try.results11, go_sem, g2]
    · intro g2
      replace hI0 := cond_f g2 hI0
      refine tr_skip ?_
      try simp +decide only [Post.andThen, Post.inBlock, rangePost, ↓reduceIte]
      refine hK2 _ ?_
      refine tr_seq_k fun K4 hK4 => ?_
      refine tr_sreg fun K5 hK5 => ?_
      try simp +decide only [go_sem, ↓reduceIte, g2]
      refine hK5 _ ?_
      obtain ⟨o1, hL1, hI0⟩ := bind_inv hI0
      refine tr_tail_ex (fun (i : Unit × Unit) => o1 = .inl i.1) (fun i => SE 86 ((fun (i : Unit × Unit) => [(0, .sl 2 (p0.map e_line_Row)), (1, .int .i64 p1), (2, .sl 1 (p2.map (V.int .i64))), (27, .sl 1 (p2.map (V.int .i64)))]) i) ((fun (i : Unit × Unit) => []) i)) ?_ ?_
      · refine tr_lim_sl (t := 2) (sz := 1) (l := p2.map (V.int .i64)) (by try simp +decide only [go_sem, ↓reduceIte, g2]) rfl fun hlim => ?_
        refine tr_forL 86 (fun i => i.1) (fun (i : Unit × Unit) => [(0, .sl 2 (p0.map e_line_Row)), (1, .int .i64 p1), (2, .sl 1 (p2.map (V.int .i64))), (27, .sl 1 (p2.map (V.int .i64)))]) (fun (i : Unit × Unit) => []) ((), ()) hL1 ?_ ?_ ?_ ?_ ?_ ?_ ?_
        · simpa using hlim
        · first | exact .inl rfl | exact .inr rfl
        · decide
        · decide
        · intro i; simp [aget]
        · exact le_se (by simp [go_sem, g2]) (by simp [go_sem, g2])
        · rintro k1 x1 ⟨s1, n1⟩ ctl1 hx1 hq1 hI1 hbk1 hrt1
          try dsimp only at hI1 ⊢
          unfold mootref3_Disproves_b0 at hI1
          refine tr_sreg fun K6 hK6 => ?_
          try simp +decide only [go_sem, ↓reduceIte, g2, hx1]
          refine hK6 _ ?_
          refine tr_seq_ex (fun _ : Unit => True) (fun _ => SE 86 [(0, .sl 2 (p0.map e_line_Row)), (1, .int .i64 p1), (2, .sl 1 (p2.map (V.int .i64))), (27, .sl 1 (p2.map (V.int .i64))), (28, .int .i64 (p2.length : Int)), (29, .int .i64 (k1 : Int)), (38, .bool (cond (decide (x1 < 0)) true (decide (x1 > 1125899906842624))))] []) ?_ ?_
          · refine tr_reg ?_
            try simp +decide only [go_sem, ↓reduceIte, g2, hx1]
            refine waysl_not ?_ ?_
            · intro g3
              try simp +decide only [go_sem, ↓reduceIte, g2, hx1, g3]
              refine st_mk () trivial ?_
              exact le_se (by simp [go_sem, g2, hx1, g3]) (by simp [go_sem, g2, hx1, g3])
            · intro g3
              try simp +decide only [go_sem, ↓reduceIte, g2, hx1, g3]
              refine st_mk () trivial ?_
              exact le_se (by simp [go_sem, g2, hx1, g3]) (by simp [go_sem, g2, hx1, g3])
          · rintro _ _
            refine tr_condS (b := (cond (decide (x1 < 0)) true (decide (x1 > 1125899906842624)))) rfl (by simp +decide only [go_sem, ↓reduceIte, g2, hx1]) ?_ ?_
            · intro g4
              replace hI1 := cond_t g4 hI1
              refine tr_sreg fun K7 hK7 => ?_
              try simp +decide only [go_sem, ↓reduceIte, g2, hx1, g4]
              refine hK7 _ ?_
              refine tr_ret ?_
              try simp +decide only [Post.andThen, Post.inBlock, rangePost, ↓reduceIte]
              obtain rfl := Option.some.inj hI1
              have ho := hrt1 _ rfl
              subst ho
              replace hI0 := elim_r hI0
              obtain rfl := Option.some.inj hI0
              simp [PG.Fin, resAll, resOf, resV, Try.results11, go_sem, g2, hx1, g4]
            · intro g4
              replace hI1 := cond_f g4 hI1
              refine tr_skip ?_
              try simp +decide only [Post.andThen, Post.inBlock, rangePost, ↓reduceIte]
              obtain rfl := Option.some.inj hI1
              refine st_mk ((), ()) (by first | rfl | trivial) ?_
              exact le_se (by simp [go_sem, g2, hx1, g4]) (by simp [go_sem, g2, hx1, g4])
      · rintro ⟨u2, m1⟩ e9 ho hle
        try dsimp only at ho hle ⊢
        subst ho
        replace hI0 := elim_l hI0
        refine hK4 _ ?_
        refine tr_le hle ?_
        refine tr_seq_k fun K8 hK8 => ?_
        refine tr_sreg fun K9 hK9 => ?_
        try simp +decide only [go_sem, ↓reduceIte, g2]
        refine hK9 _ ?_
        obtain ⟨_, cN, hI0⟩ := bind_inv hI0; replace cN := chk_some cN
        obtain ⟨o3, hL3, hI0⟩ := bind_inv hI0
        refine tr_tail_ex (fun (i : Unit × Unit) => o3 = .inl i.1) (fun i => SE 86 ((fun (i : Unit × Unit) => [(0, .sl 2 (p0.map e_line_Row)), (2, .sl 1 (p2.map (V.int .i64)))]) i) ((fun (i : Unit × Unit) => []) i)) ?_ ?_
        · refine tr_forN (N := p1.toNat) (Nz := p1) (by simp) 86 (fun i => i.1) (fun (i : Unit × Unit) => [(0, .sl 2 (p0.map e_line_Row)), (2, .sl 1 (p2.map (V.int .i64)))]) (fun (i : Unit × Unit) => []) ((), ()) hL3 ?_ ?_ ?_ ?_ ?_ ?_ ?_
          · omega
          · first | exact .inl rfl | exact .inr rfl
          · decide
          · decide
          · intro i; simp [aget]
          · exact le_se (by simp [go_sem, g2]) (by simp [go_sem, g2])
          · rintro k2 ⟨s1, n1⟩ ctl1 hk2 hq2 hI1 hbk1 hrt1
            try dsimp only at hI1 ⊢
            unfold mootref3_Disproves_b2 at hI1
            refine tr_sreg fun K10 hK10 => ?_
            try simp +decide only [go_sem, ↓reduceIte, g2]
            refine hK10 _ ?_
            refine tr_sreg fun K11 hK11 => ?_
            try simp +decide only [go_sem, ↓reduceIte, g2]
            refine hK11 _ ?_
            refine tr_seq_k fun K12 hK12 => ?_
            refine tr_sreg fun K13 hK13 => ?_
            try simp +decide only [go_sem, ↓reduceIte, g2]
            refine hK13 _ ?_
            obtain ⟨o2, hL2, hI1⟩ := bind_inv hI1
            refine tr_tail_ex (fun (i : Int × Unit) => o2 = .inl i.1) (fun i => SE 86 ((fun (i : Int × Unit) => [(0, .sl 2 (p0.map e_line_Row)), (2, .sl 1 (p2.map (V.int .i64))), (9, .int .i64 (k2 : Int)), (10, .int .i64 i.1), (40, .int .i64 p1), (41, .int .i64 (k2 : Int)), (44, .sl 2 (p0.map e_line_Row))]) i) ((fun (i : Int × Unit) => []) i)) ?_ ?_
            · refine tr_lim_sl (t := 0) (sz := 2) (l := p0.map e_line_Row) (by try simp +decide only [go_sem, ↓reduceIte, g2]) rfl fun hlim => ?_
              refine tr_forL 86 (fun i => i.1) (fun (i : Int × Unit) => [(0, .sl 2 (p0.map e_line_Row)), (2, .sl 1 (p2.map (V.int .i64))), (9, .int .i64 (k2 : Int)), (10, .int .i64 i.1), (40, .int .i64 p1), (41, .int .i64 (k2 : Int)), (44, .sl 2 (p0.map e_line_Row))]) (fun (i : Int × Unit) => []) (0, ()) hL2 ?_ ?_ ?_ ?_ ?_ ?_ ?_
              · simpa using hlim
              · first | exact .inl rfl | exact .inr rfl
              · decide
              · decide
              · intro i; simp [aget]
              · exact le_se (by simp [go_sem, g2]) (by simp [go_sem, g2])
              · rintro k3 x2 ⟨s2, n2⟩ ctl2 hx2 hq3 hI2 hbk2 hrt2
                try dsimp only at hI2 ⊢
                unfold mootref3_Disproves_b4 at hI2
                refine tr_sreg fun K14 hK14 => ?_
                try simp +decide only [go_sem, ↓reduceIte, g2, hx2]
                refine hK14 _ ?_
                refine drawT mixA (by kernel_rfl) (by kernel_rfl) ?_
                obtain ⟨x3, hx3, hI2⟩ := bind_inv hI2
                have hx3b : (k2 : Int) < (x2.f_Coef.length : Nat) := by simpa using get_lt hx3
                obtain ⟨x4, hx4, hI2⟩ := bind_inv hI2
                have hx4b : (k3 : Int) < (p2.length : Nat) := by simpa using get_lt hx4
                try simp +decide only [go_sem, ↓reduceIte, g2, hx2, hx3, hx3b, hx4, hx4b]
                refine dn_mk (by kernel_rfl) ?_
                obtain rfl := Option.some.inj hI2
                refine st_mk ((IntKind.i64.wrap (s2 + (IntKind.i64.wrap (x3 * x4)))), ()) (by first | rfl | trivial) ?_
                exact le_se (by simp [go_sem, g2, hx2, hx3, hx3b, hx4, hx4b]) (by simp [go_sem, g2, hx2, hx3, hx3b, hx4, hx4b])
            · rintro ⟨u3, m2⟩ e9 ho hle
              try dsimp only at ho hle ⊢
              subst ho
              replace hI1 := elim_l hI1
              refine hK12 _ ?_
              refine tr_le hle ?_
              refine tr_sreg fun K16 hK16 => ?_
              try simp +decide only [go_sem, ↓reduceIte, g2]
              refine hK16 _ ?_
              refine tr_condS (b := (u3 != 0)) rfl (by simp +decide only [go_sem, ↓reduceIte, g2]) ?_ ?_
              · intro g5
                replace hI1 := cond_t g5 hI1
                refine tr_sreg fun K17 hK17 => ?_
                try simp +decide only [go_sem, ↓reduceIte, g2, g5]
                refine hK17 _ ?_
                refine tr_ret ?_
                try simp +decide only [Post.andThen, Post.inBlock, rangePost, ↓reduceIte]
                obtain rfl := Option.some.inj hI1
                have ho := hrt1 _ rfl
                subst ho
                replace hI0 := elim_r hI0
                obtain rfl := Option.some.inj hI0
                simp [PG.Fin, resAll, resOf, resV, Try.results11, go_sem, g2, g5]
              · intro g5
                replace hI1 := cond_f g5 hI1
                refine tr_skip ?_
                try simp +decide only [Post.andThen, Post.inBlock, rangePost, ↓reduceIte]
                obtain rfl := Option.some.inj hI1
                refine st_mk ((), ()) (by first | rfl | trivial) ?_
                exact le_se (by simp [go_sem, g2, g5]) (by simp [go_sem, g2, g5])
        · rintro ⟨u4, m3⟩ e9 ho hle
          try dsimp only at ho hle ⊢
          subst ho
          replace hI0 := elim_l hI0
          refine hK8 _ ?_
          refine tr_le hle ?_
          refine tr_sreg fun K18 hK18 => ?_
          try simp +decide only [go_sem, ↓reduceIte, g2]
          refine hK18 _ ?_
          refine tr_seq_k fun K19 hK19 => ?_
          refine tr_sreg fun K20 hK20 => ?_
          try simp +decide only [go_sem, ↓reduceIte, g2]
          refine hK20 _ ?_
          obtain ⟨o4, hL4, hI0⟩ := bind_inv hI0
          refine tr_tail_ex (fun (i : Int × Unit) => o4 = .inl i.1) (fun i => SE 86 ((fun (i : Int × Unit) => [(2, .sl 1 (p2.map (V.int .i64))), (13, .int .i64 i.1), (67, .sl 2 (p0.map e_line_Row))]) i) ((fun (i : Int × Unit) => []) i)) ?_ ?_
          · refine tr_lim_sl (t := 67) (sz := 2) (l := p0.map e_line_Row) (by try simp +decide only [go_sem, ↓reduceIte, g2]) rfl fun hlim => ?_
            refine tr_forL 86 (fun i => i.1) (fun (i : Int × Unit) => [(2, .sl 1 (p2.map (V.int .i64))), (13, .int .i64 i.1), (67, .sl 2 (p0.map e_line_Row))]) (fun (i : Int × Unit) => []) (0, ()) hL4 ?_ ?_ ?_ ?_ ?_ ?_ ?_
            · simpa using hlim
            · first | exact .inl rfl | exact .inr rfl
            · decide
            · decide
            · intro i; simp [aget]
            · exact le_se (by simp [go_sem, g2]) (by simp [go_sem, g2])
            · rintro k4 x5 ⟨s1, n1⟩ ctl1 hx5 hq4 hI1 hbk1 hrt1
              try dsimp only at hI1 ⊢
              unfold mootref3_Disproves_b6 at hI1
              refine tr_sreg fun K21 hK21 => ?_
              try simp +decide only [go_sem, ↓reduceIte, g2, hx5]
              refine hK21 _ ?_
              refine drawT mixA (by kernel_rfl) (by kernel_rfl) ?_
              obtain ⟨x6, hx6, hI1⟩ := bind_inv hI1
              have hx6b : (k4 : Int) < (p2.length : Nat) := by simpa using get_lt hx6
              try simp +decide only [go_sem, ↓reduceIte, g2, hx5, hx6, hx6b]
              refine dn_mk (by kernel_rfl) ?_
              obtain rfl := Option.some.inj hI1
              refine st_mk ((IntKind.i64.wrap (s1 + (IntKind.i64.wrap (x5.f_Most * x6)))), ()) (by first | rfl | trivial) ?_
              exact le_se (by simp [go_sem, g2, hx5, hx6, hx6b]) (by simp [go_sem, g2, hx5, hx6, hx6b])
          · rintro ⟨u5, m4⟩ e9 ho hle
            try dsimp only at ho hle ⊢
            subst ho
            replace hI0 := elim_l hI0
            refine hK19 _ ?_
            refine tr_le hle ?_
            refine tr_sreg fun K23 hK23 => ?_
            try simp +decide only [go_sem, ↓reduceIte, g2]
            refine hK23 _ ?_
            refine tr_ret ?_
            try simp +decide only [Post.andThen, Post.inBlock, rangePost, ↓reduceIte]
            obtain rfl := Option.some.inj hI0
            simp [PG.Fin, resAll, resOf, resV, Try.results11, go_sem, g2]

-- moothall/mootlaw3.LineSolves
def mootlaw3_LineSolves (fu : Nat) (p0 : (List line_Row)) (p1 : Int) : Option Bool :=
  (line_Solve fu p0 p1).bind fun r1 =>
  (mootref3_RowsFault p0 p1).bind fun r2 =>
  ((
    (mootlaw3_lined fu).bind fun r3 =>
    cond (!r3)
      (some true)
      (some (r1.2.2.2 != r2))) : Option Bool).bind fun (u1 : Bool) =>
  cond u1
    (some false)
    (cond (cond (r2 != 0) true (!r1.2.2.1))
      (((
        cond (r2 != 0)
          (cond (!r1.2.2.1)
            (cond ((r1.1.f_Num.length : Int) == 0)
              (cond (r1.1.f_Den == 0)
                (cond ((r1.2.1.length : Int) == 0)
                  (some true)
                  (cond (r2 == 0)
                    ((mootref3_Disproves p0 p1 r1.2.1).bind fun r4 =>
                    some r4)
                    (some false)))
                (some false))
              (some false))
            (some false))
          (cond ((r1.1.f_Num.length : Int) == 0)
            (cond (r1.1.f_Den == 0)
              (cond (r2 == 0)
                ((mootref3_Disproves p0 p1 r1.2.1).bind fun r5 =>
                some r5)
                (some false))
              (some false))
            (some false))) : Option Bool).bind fun (u2 : Bool) =>
      some u2)
      (((
        cond ((r1.2.1.length : Int) == 0)
          ((mootref3_Solves p0 p1 r1.1).bind fun r6 =>
          some r6)
          (some false)) : Option Bool).bind fun (u3 : Bool) =>
      some u3))
theorem mootlaw3_LineSolves_pc (fu : Nat) (p0 : (List line_Row)) (p1 : Int) (R : Bool) (hI0 : mootlaw3_LineSolves fu p0 p1 = some R) : PC Try.prog 3 [.sl 2 (p0.map e_line_Row), .int .i64 p1] (.bool R) := by
  unfold mootlaw3_LineSolves at hI0
  refine pc_se Try.func3 rfl (by kernel_rfl) 79 rfl (by simp) ?_
  show Tr _ _ (SE 79 [(0, .sl 2 (p0.map e_line_Row)), (1, .int .i64 p1)] []) _
  refine tr_sreg fun K1 hK1 => ?_
  try simp +decide only [go_sem, ↓reduceIte]
  refine hK1 _ ?_
  refine tr_sreg fun K2 hK2 => ?_
  try simp +decide only [go_sem, ↓reduceIte]
  obtain ⟨r1, hr1, hI0⟩ := bind_inv hI0
  refine evl_callS (caps := []) (line_Solve_pc fu p0 p1 _ hr1) (by simp +decide only [go_sem, ↓reduceIte]) ?_
  try simp +decide only [go_sem, ↓reduceIte]
  refine hK2 _ ?_
  refine tr_sreg fun K3 hK3 => ?_
  try simp +decide only [go_sem, ↓reduceIte]
  obtain ⟨r2, hr2, hI0⟩ := bind_inv hI0
  refine evl_callS (caps := []) (mootref3_RowsFault_pc p0 p1 _ hr2) (by simp +decide only [go_sem, ↓reduceIte]) ?_
  try simp +decide only [go_sem, ↓reduceIte]
  refine hK3 _ ?_
  refine tr_seq_k fun K4 hK4 => ?_
  obtain ⟨u1, hI1, hI0⟩ := bind_inv hI0
  refine tr_seq_ex (fun _ : Unit => True) (fun _ => SE 79 [(0, .sl 2 (p0.map e_line_Row)), (1, .int .i64 p1), (5, .ep 5 0 2 0 0), (6, .sl 1 (r1.2.1.map (V.int .i64))), (7, .bool r1.2.2.1), (9, .int .i64 r2), (27, .bool u1)] [(5, .arr 0 true 2 [.agg [.sl 1 (r1.1.f_Num.map (V.int .i64)), .int .i64 r1.1.f_Den]])]) ?_ ?_
  · refine tr_reg ?_
    try simp +decide only [go_sem, ↓reduceIte]
    obtain ⟨r3, hr3, hI1⟩ := bind_inv hI1
    refine evl_callS (caps := []) (mootlaw3_lined_pc fu _ hr3) (by simp +decide only [go_sem, ↓reduceIte]) ?_
    try simp +decide only [go_sem, ↓reduceIte]
    refine waysl_not ?_ ?_
    · intro g1
      replace hI1 := cond_t g1 hI1
      try simp +decide only [go_sem, ↓reduceIte, g1]
      obtain rfl := Option.some.inj hI1
      refine st_mk () trivial ?_
      exact le_se (by simp [go_sem, g1]) (by simp [go_sem, g1])
    · intro g1
      replace hI1 := cond_f g1 hI1
      try simp +decide only [go_sem, ↓reduceIte, g1]
      obtain rfl := Option.some.inj hI1
      refine st_mk () trivial ?_
      exact le_se (by simp [go_sem, g1]) (by simp [go_sem, g1])
  · rintro _ _
    refine tr_condS (b := u1) rfl (by simp +decide only [go_sem, ↓reduceIte]) ?_ ?_
    · intro g2
      replace hI0 := cond_t g2 hI0
      refine tr_sreg fun K5 hK5 => ?_
      try simp +decide only [go_sem, ↓reduceIte, g2]
      refine hK5 _ ?_
      refine tr_ret ?_
      try simp +decide only [Post.andThen, Post.inBlock, rangePost, ↓reduceIte]
      obtain rfl := Option.some.inj hI0
      simp [PG.Fin, resAll, resOf, resV, Try.results3, go_sem, g2]
    · intro g2
      replace hI0 := cond_f g2 hI0
      refine tr_skip ?_
      try simp +decide only [Post.andThen, Post.inBlock, rangePost, ↓reduceIte]
      refine hK4 _ ?_
      refine tr_seq_k fun K6 hK6 => ?_
      refine tr_seq_ex (fun _ : Unit => True) (fun _ => SE 79 [(0, .sl 2 (p0.map e_line_Row)), (1, .int .i64 p1), (5, .ep 5 0 2 0 0), (6, .sl 1 (r1.2.1.map (V.int .i64))), (7, .bool r1.2.2.1), (9, .int .i64 r2), (33, .bool (cond (r2 != 0) true (!r1.2.2.1)))] [(5, .arr 0 true 2 [.agg [.sl 1 (r1.1.f_Num.map (V.int .i64)), .int .i64 r1.1.f_Den]])]) ?_ ?_
      · refine tr_reg ?_
        try simp +decide only [go_sem, ↓reduceIte, g2]
        refine waysl_not ?_ ?_
        · intro g3
          try simp +decide only [go_sem, ↓reduceIte, g2, g3]
          refine st_mk () trivial ?_
          exact le_se (by simp [go_sem, g2, g3]) (by simp [go_sem, g2, g3])
        · intro g3
          try simp +decide only [go_sem, ↓reduceIte, g2, g3]
          refine st_mk () trivial ?_
          exact le_se (by simp [go_sem, g2, g3]) (by simp [go_sem, g2, g3])
      · rintro _ _
        refine tr_condS (b := (cond (r2 != 0) true (!r1.2.2.1))) rfl (by simp +decide only [go_sem, ↓reduceIte, g2]) ?_ ?_
        · intro g4
          replace hI0 := cond_t g4 hI0
          obtain ⟨u2, hI1, hI0⟩ := bind_inv hI0
          refine tr_seq_ex (fun _ : Unit => True) (fun _ => SE 79 [(4, .bool u2)] []) ?_ ?_
          · refine tr_reg ?_
            try simp +decide only [go_sem, ↓reduceIte, g2, g4]
            refine waysl_if ?_ ?_
            · intro g5
              replace hI1 := cond_f g5 hI1
              try simp +decide only [go_sem, ↓reduceIte, g2, g4, g5]
              refine waysl_if ?_ ?_
              · intro g11
                replace hI1 := cond_f g11 hI1
                try simp +decide only [go_sem, ↓reduceIte, g2, g4, g5, g11]
                obtain rfl := Option.some.inj hI1
                refine st_mk () trivial ?_
                exact le_se (by simp [go_sem, g2, g4, g5, g11]) (by simp [go_sem, g2, g4, g5, g11])
              · intro g11
                replace hI1 := cond_t g11 hI1
                try simp +decide only [go_sem, ↓reduceIte, g2, g4, g5, g11]
                refine waysl_if ?_ ?_
                · intro g12
                  replace hI1 := cond_f g12 hI1
                  try simp +decide only [go_sem, ↓reduceIte, g2, g4, g5, g11, g12]
                  obtain rfl := Option.some.inj hI1
                  refine st_mk () trivial ?_
                  exact le_se (by simp [go_sem, g2, g4, g5, g11, g12]) (by simp [go_sem, g2, g4, g5, g11, g12])
                · intro g12
                  replace hI1 := cond_t g12 hI1
                  try simp +decide only [go_sem, ↓reduceIte, g2, g4, g5, g11, g12]
                  refine waysl_if ?_ ?_
                  · intro g13
                    replace hI1 := cond_f g13 hI1
                    try simp +decide only [go_sem, ↓reduceIte, g2, g4, g5, g11, g12, g13]
                    obtain rfl := Option.some.inj hI1
                    refine st_mk () trivial ?_
                    exact le_se (by simp [go_sem, g2, g4, g5, g11, g12, g13]) (by simp [go_sem, g2, g4, g5, g11, g12, g13])
                  · intro g13
                    replace hI1 := cond_t g13 hI1
                    try simp +decide only [go_sem, ↓reduceIte, g2, g4, g5, g11, g12, g13]
                    obtain ⟨r5, hr5, hI1⟩ := bind_inv hI1
                    refine evl_callS (caps := []) (mootref3_Disproves_pc p0 p1 r1.2.1 _ hr5) (by simp +decide only [go_sem, ↓reduceIte, g2, g4, g5, g11, g12, g13]) ?_
                    try simp +decide only [go_sem, ↓reduceIte, g2, g4, g5, g11, g12, g13]
                    obtain rfl := Option.some.inj hI1
                    refine st_mk () trivial ?_
                    exact le_se (by simp [go_sem, g2, g4, g5, g11, g12, g13]) (by simp [go_sem, g2, g4, g5, g11, g12, g13])
            · intro g5
              replace hI1 := cond_t g5 hI1
              try simp +decide only [go_sem, ↓reduceIte, g2, g4, g5]
              refine waysl_if ?_ ?_
              · intro g6
                replace hI1 := cond_f g6 hI1
                try simp +decide only [go_sem, ↓reduceIte, g2, g4, g5, g6]
                obtain rfl := Option.some.inj hI1
                refine st_mk () trivial ?_
                exact le_se (by simp [go_sem, g2, g4, g5, g6]) (by simp [go_sem, g2, g4, g5, g6])
              · intro g6
                replace hI1 := cond_t g6 hI1
                try simp +decide only [go_sem, ↓reduceIte, g2, g4, g5, g6]
                refine waysl_if ?_ ?_
                · intro g7
                  replace hI1 := cond_f g7 hI1
                  try simp +decide only [go_sem, ↓reduceIte, g2, g4, g5, g6, g7]
                  obtain rfl := Option.some.inj hI1
                  refine st_mk () trivial ?_
                  exact le_se (by simp [go_sem, g2, g4, g5, g6, g7]) (by simp [go_sem, g2, g4, g5, g6, g7])
                · intro g7
                  replace hI1 := cond_t g7 hI1
                  try simp +decide only [go_sem, ↓reduceIte, g2, g4, g5, g6, g7]
                  refine waysl_if ?_ ?_
                  · intro g8
                    replace hI1 := cond_f g8 hI1
                    try simp +decide only [go_sem, ↓reduceIte, g2, g4, g5, g6, g7, g8]
                    obtain rfl := Option.some.inj hI1
                    refine st_mk () trivial ?_
                    exact le_se (by simp [go_sem, g2, g4, g5, g6, g7, g8]) (by simp [go_sem, g2, g4, g5, g6, g7, g8])
                  · intro g8
                    replace hI1 := cond_t g8 hI1
                    try simp +decide only [go_sem, ↓reduceIte, g2, g4, g5, g6, g7, g8]
                    refine waysl_not ?_ ?_
                    · intro g9
                      replace hI1 := cond_t g9 hI1
                      try simp +decide only [go_sem, ↓reduceIte, g2, g4, g5, g6, g7, g8, g9]
                      obtain rfl := Option.some.inj hI1
                      refine st_mk () trivial ?_
                      exact le_se (by simp [go_sem, g2, g4, g5, g6, g7, g8, g9]) (by simp [go_sem, g2, g4, g5, g6, g7, g8, g9])
                    · intro g9
                      replace hI1 := cond_f g9 hI1
                      try simp +decide only [go_sem, ↓reduceIte, g2, g4, g5, g6, g7, g8, g9]
                      refine waysl_if ?_ ?_
                      · intro g10
                        replace hI1 := cond_f g10 hI1
                        try simp +decide only [go_sem, ↓reduceIte, g2, g4, g5, g6, g7, g8, g9, g10]
                        obtain rfl := Option.some.inj hI1
                        refine st_mk () trivial ?_
                        exact le_se (by simp [go_sem, g2, g4, g5, g6, g7, g8, g9, g10]) (by simp [go_sem, g2, g4, g5, g6, g7, g8, g9, g10])
                      · intro g10
                        replace hI1 := cond_t g10 hI1
                        try simp +decide only [go_sem, ↓reduceIte, g2, g4, g5, g6, g7, g8, g9, g10]
                        obtain ⟨r4, hr4, hI1⟩ := bind_inv hI1
                        refine evl_callS (caps := []) (mootref3_Disproves_pc p0 p1 r1.2.1 _ hr4) (by simp +decide only [go_sem, ↓reduceIte, g2, g4, g5, g6, g7, g8, g9, g10]) ?_
                        try simp +decide only [go_sem, ↓reduceIte, g2, g4, g5, g6, g7, g8, g9, g10]
                        obtain rfl := Option.some.inj hI1
                        refine st_mk () trivial ?_
                        exact le_se (by simp [go_sem, g2, g4, g5, g6, g7, g8, g9, g10]) (by simp [go_sem, g2, g4, g5, g6, g7, g8, g9, g10])
          · rintro _ _
            refine tr_ret ?_
            try simp +decide only [Post.andThen, Post.inBlock, rangePost, ↓reduceIte]
            obtain rfl := Option.some.inj hI0
            simp [PG.Fin, resAll, resOf, resV, Try.results3, go_sem, g2, g4]
        · intro g4
          replace hI0 := cond_f g4 hI0
          refine tr_skip ?_
          try simp +decide only [Post.andThen, Post.inBlock, rangePost, ↓reduceIte]
          refine hK6 _ ?_
          obtain ⟨u3, hI1, hI0⟩ := bind_inv hI0
          refine tr_seq_ex (fun _ : Unit => True) (fun _ => SE 79 [(4, .bool u3)] []) ?_ ?_
          · refine tr_reg ?_
            try simp +decide only [go_sem, ↓reduceIte, g2, g4]
            refine waysl_if ?_ ?_
            · intro g14
              replace hI1 := cond_f g14 hI1
              try simp +decide only [go_sem, ↓reduceIte, g2, g4, g14]
              obtain rfl := Option.some.inj hI1
              refine st_mk () trivial ?_
              exact le_se (by simp [go_sem, g2, g4, g14]) (by simp [go_sem, g2, g4, g14])
            · intro g14
              replace hI1 := cond_t g14 hI1
              try simp +decide only [go_sem, ↓reduceIte, g2, g4, g14]
              obtain ⟨r6, hr6, hI1⟩ := bind_inv hI1
              refine evl_callS (caps := []) (mootref3_Solves_pc p0 p1 r1.1 _ hr6) (by simp +decide only [go_sem, ↓reduceIte, g2, g4, g14]) ?_
              try simp +decide only [go_sem, ↓reduceIte, g2, g4, g14]
              obtain rfl := Option.some.inj hI1
              refine st_mk () trivial ?_
              exact le_se (by simp [go_sem, g2, g4, g14]) (by simp [go_sem, g2, g4, g14])
          · rintro _ _
            refine tr_ret ?_
            try simp +decide only [Post.andThen, Post.inBlock, rangePost, ↓reduceIte]
            obtain rfl := Option.some.inj hI0
            simp [PG.Fin, resAll, resOf, resV, Try.results3, go_sem, g2, g4]
end Go.Proofs.Ytfhddbnacbcppaa
