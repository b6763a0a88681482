import Derived.Test.YtgpioploehgpdaaGreatKPartf
import Derived.Shelf.SlSortCmp.NoneTotal
set_option linter.unusedSimpArgs false
set_option linter.unusedVariables false
set_option linter.unnecessarySimpa false
set_option linter.unusedSectionVars false

set_option linter.unusedVariables false
set_option linter.unusedSimpArgs false
set_option maxRecDepth 100000
set_option maxHeartbeats 2000000
namespace Go.Proofs.YtgpioploehgpdaaGreat
open Go.PG Go.PG.PH
abbrev Nd := Int × List Int × Int × Int × ByteArray
abbrev At := ByteArray × Int × Bool × Int × Int × Int × Int
abbrev Tb := ByteArray × Int × Int × Bool × List (Int × Int)
abbrev Rf := ByteArray × ByteArray
abbrev Ar := ByteArray × ByteArray × List Nd × List Nd × List Rf × Int
abbrev Act := ByteArray × Int × Int × List At × List Tb × List Ar
class Big (fu : Nat) : Prop where
 h : LIM < fu
class Fact' (p : Prop) : Prop where
 h : p
theorem lim_eq : LIM = 4294967296 := by rfl
instance (p : Int) : Tot (word_letter p) (fun _ => True) := ⟨by unfold word_letter; (repeat' (with_reducible (first | exact q0 trivial | apply q1 | apply q2 | apply q3 | (apply q4; assumption) | apply q5 | apply q6 | apply q7 | apply q8 | apply q9 | intro _)))⟩
instance (p : Int) : Tot (word_digit p) (fun _ => True) := ⟨by unfold word_digit; (repeat' (with_reducible (first | exact q0 trivial | apply q1 | apply q2 | apply q3 | (apply q4; assumption) | apply q5 | apply q6 | apply q7 | apply q8 | apply q9 | intro _)))⟩
instance (p : Int) : Tot (word_inner p) (fun _ => True) := ⟨by unfold word_inner; (repeat' (with_reducible (first | exact q0 trivial | apply q1 | apply q2 | apply q3 | (apply q4; assumption) | apply q5 | apply q6 | apply q7 | apply q8 | apply q9 | intro _)))⟩
instance (p : ByteArray) : Tot (zq15 p) (fun _ => True) := ⟨by unfold zq15; (repeat' (with_reducible (first | exact q0 trivial | apply q1 | apply q2 | apply q3 | (apply q4; assumption) | apply q5 | apply q6 | apply q7 | apply q8 | apply q9 | intro _)))⟩
instance (p q : ByteArray) : Tot (zq13 p q) (fun _ => True) := ⟨by unfold zq13; (repeat' (with_reducible (first | exact q0 trivial | apply q1 | apply q2 | apply q3 | (apply q4; assumption) | apply q5 | apply q6 | apply q7 | apply q8 | apply q9 | intro _)))⟩
instance (p : ByteArray) : Tot (zq78 p) (fun _ => True) := ⟨by unfold zq78; (repeat' (with_reducible (first | exact q0 trivial | apply q1 | apply q2 | apply q3 | (apply q4; assumption) | apply q5 | apply q6 | apply q7 | apply q8 | apply q9 | intro _)))⟩
instance : Tot word_Keys (fun r => r.length <= 1000) := ⟨by unfold word_Keys; exact Sm.some (by simp)⟩
theorem mid_eq {a b : Int} (h0 : 0 <= a) (h1 : a < b) (h2 : b <= 4294967296) :
  IntKind.i64.wrap ((IntKind.u64.wrap (IntKind.i64.wrap (a + b))).fdiv ((2 : Int) ^ min (Int.toNat (1 : Int)) IntKind.u64.bits)) = (a + b) / 2 := by
 rw [wrap64 (x := a + b) (by omega) (by omega)]
 have e1 : IntKind.u64.wrap (a + b) = a + b := by
  simp only [IntKind.wrap, IntKind.signed, IntKind.bits];simp;omega
 have e2 : ((2 : Int) ^ min (Int.toNat (1 : Int)) IntKind.u64.bits) = 2 := by decide
 rw [e1, e2, Int.fdiv_eq_ediv_of_nonneg _ (by omega), wrap64 (by omega) (by omega)]
instance (fu : Nat) [hf : Big fu] (p0 : List ByteArray) (p1 : ByteArray) [hp : Fact' (p0.length <= LIM)] : Tot (zq53 fu p0 p1) (fun _ => True) := ⟨by
 have hl := hp.h;have hf := hf.h;have := lim_eq;unfold zq53;refine Sm.whK (fun s => 0 <= s.1 /\ s.1 <= s.2 /\ s.2 <= (p0.length : Int)) (fun s => (s.2 - s.1).toNat) (fun s self hI hself => ?_) fu _ ⟨by simp, by simp, by simp⟩ (by simp; omega);obtain ⟨lo, hi⟩ := s;obtain ⟨h0, h1, h2⟩ := hI;simp only at h0 h1 h2 ⊢;refine Sm.cond (fun c => ?_) (fun c => ?_)
 ·have c := of_decide_eq_true c;rw [mid_eq h0 c (by omega)];refine Sm.idx (by omega) (by omega) fun y _ => ?_
  refine Sm.bindT fun r _ => ?_
  refine Sm.cond (fun _ => hself _ ?_ ?_) (fun _ => hself _ ?_ ?_)
  ·rw [wrap64 (by omega) (by omega)]; exact ⟨by simp only; omega, by simp only; omega, h2⟩
  ·rw [wrap64 (by omega) (by omega)]; simp only; omega
  ·exact ⟨h0, by simp only; omega, by simp only; omega⟩
  ·simp only; omega
 ·refine Sm.joinT (fun d => Sm.some trivial) fun K hK => ?_
  refine Sm.cond (fun c => ?_) (fun c => hK _);have c := of_decide_eq_true c;refine Sm.idx (by omega) (by omega) fun y _ => ?_
  refine Sm.cond (fun _ => hK _) fun _ => ?_
  refine Sm.idx (by omega) (by omega) fun y _ => ?_
  refine Sm.bindT fun r _ => ?_
  refine Sm.cond (fun _ => Sm.bindT fun _ _ => hK _) fun _ => hK _⟩
theorem Sm.bidx {R : Type} {Q : R -> Prop} {l : ByteArray} {i : Int} {g : Int -> Option R} (h0 : 0 <= i) (h1 : i.toNat < l.size) (hg : ∀ x, Sm Q (g x)) : Sm Q ((PG.bidx l i).bind g) := by
 unfold PG.bidx;rw [if_pos h0, getElem?_pos l i.toNat h1];exact hg _
theorem size_pos {b : ByteArray} (h : (b.toList == (ByteArray.mk #[]).toList) = false) : 0 < b.size := by
 rcases Nat.eq_zero_or_pos b.size with e | e
 ·have : b = ByteArray.mk #[] := by
   obtain ⟨⟨l⟩⟩ := b;have : l.length = 0 := e;rw [List.eq_nil_of_length_eq_zero this]
  rw [this] at h;simp at h
 ·exact e
instance (fu : Nat) [hf : Big fu] (p0 : ByteArray) : Tot (word_Name fu p0) (fun _ => True) := ⟨by
 unfold word_Name;refine Sm.join (fun d => d = false -> p0.size <= 20) (fun d hd => ?_) fun K hK => ?_
 ·refine Sm.cond (fun _ => Sm.some trivial) fun e => ?_
  have hl := hd e;refine Sm.chk (by have := lim_eq; omega) ?_;refine Sm.cntT (fun i s K hi hK => ?_) fun _ => ?_
  ·refine Sm.bidx (by omega) (by omega) fun b => ?_
   (repeat' (with_reducible (first | exact q0 trivial | apply q1 | apply q2 | apply q3 | (apply q4; assumption) | apply q5 | apply q6 | apply q7 | apply q8 | apply q9 | intro _)))
  ·refine Sm.bindT fun r hr => ?_
   haveI : Fact' (r.length <= LIM) := ⟨by have := lim_eq; omega⟩
   (repeat' (with_reducible (first | exact q0 trivial | apply q1 | apply q2 | apply q3 | (apply q4; assumption) | apply q5 | apply q6 | apply q7 | apply q8 | apply q9 | intro _)))
 ·refine Sm.cond (fun _ => hK _ (by simp)) fun e => ?_
  refine Sm.cond (fun _ => hK _ (by simp)) fun e2 => ?_
  have hl : p0.size <= 20 := by have := of_decide_eq_false e2; omega
  refine Sm.bidx (by omega) (by have := size_pos e; simpa using this) fun b => ?_
  refine Sm.bindT fun r _ => hK _ fun _ => hl⟩
instance (p : Int) : Tot (unit_Range p) (fun _ => True) := ⟨by unfold unit_Range; (repeat' (with_reducible (first | exact q0 trivial | apply q1 | apply q2 | apply q3 | (apply q4; assumption) | apply q5 | apply q6 | apply q7 | apply q8 | apply q9 | intro _)))⟩
instance (p : Int) : Tot (unit_known p) (fun _ => True) := ⟨by unfold unit_known; (repeat' (with_reducible (first | exact q0 trivial | apply q1 | apply q2 | apply q3 | (apply q4; assumption) | apply q5 | apply q6 | apply q7 | apply q8 | apply q9 | intro _)))⟩
instance (p : Int × Int) : Tot (unit_Check p) (fun _ => True) := ⟨by unfold unit_Check; (repeat' (with_reducible (first | exact q0 trivial | apply q1 | apply q2 | apply q3 | (apply q4; assumption) | apply q5 | apply q6 | apply q7 | apply q8 | apply q9 | intro _)))⟩
instance (p : At) : Tot (body_attr p) (fun _ => True) := ⟨by
 unfold body_attr
 (repeat' (with_reducible (first | exact q0 trivial | apply q1 | apply q2 | apply q3 | (apply q4; assumption) | apply q5 | apply q6 | apply q7 | apply q8 | apply q9 | intro _)))
 ·omega
 ·refine Sm.get (by simp; omega) fun x _ => ?_
  (repeat' (with_reducible (first | exact q0 trivial | apply q1 | apply q2 | apply q3 | (apply q4; assumption) | apply q5 | apply q6 | apply q7 | apply q8 | apply q9 | intro _)))⟩
instance (p : ByteArray) : Tot (fact_Name p) (fun _ => True) := ⟨by
 unfold fact_Name;refine Sm.joinT (fun d => ?_) fun K hK => ?_
 ·(repeat' (with_reducible (first | exact q0 trivial | apply q1 | apply q2 | apply q3 | (apply q4; assumption) | apply q5 | apply q6 | apply q7 | apply q8 | apply q9 | intro _)))
 ·refine Sm.cond (fun _ => hK _) fun e => ?_
  refine Sm.cond (fun _ => hK _) fun e2 => ?_
  exact Sm.bidx (by omega) (by have := size_pos e; simpa using this) fun b => hK _⟩
instance (p : Tb) : Tot (table_kinds p) (fun _ => True) := ⟨by unfold table_kinds; (repeat' (with_reducible (first | exact q0 trivial | apply q1 | apply q2 | apply q3 | (apply q4; assumption) | apply q5 | apply q6 | apply q7 | apply q8 | apply q9 | intro _)))⟩
instance (p : Tb) : Tot (table_Check p) (fun _ => True) := ⟨by
 unfold table_Check;refine Sm.bindT fun r _ => ?_
 refine Sm.cond (fun _ => Sm.some trivial) fun _ => ?_
 refine Sm.bindT fun r _ => ?_
 refine Sm.cond (fun _ => Sm.some trivial) fun _ => ?_
 refine Sm.cond (fun _ => Sm.some trivial) fun _ => ?_
 refine Sm.cond (fun _ => Sm.some trivial) fun e => ?_
 have e := of_decide_eq_false e;refine Sm.bindT fun r _ => ?_
 refine Sm.bindT fun r1 _ => ?_
 refine Sm.joinT (fun d => ?_) fun K hK => ?_
 ·refine Sm.forT (fun i x s K hi hx hK => ?_) fun _ => Sm.some trivial
  refine Sm.joinT (fun d => ?_) fun K hK => ?_
  ·refine Sm.cond (fun _ => Sm.some trivial) fun _ => ?_
   refine Sm.joinT (fun d => ?_) fun K hK => ?_
   ·(repeat' (with_reducible (first | exact q0 trivial | apply q1 | apply q2 | apply q3 | (apply q4; assumption) | apply q5 | apply q6 | apply q7 | apply q8 | apply q9 | intro _)))
   ·refine Sm.cond (fun e1 => ?_) fun _ => hK _
    have e1 := of_decide_eq_true e1;rw [wrap64 (by omega) (by omega)];exact Sm.idx (by omega) (by omega) fun y _ => hK _
  ·(repeat' (with_reducible (first | exact q0 trivial | apply q1 | apply q2 | apply q3 | (apply q4; assumption) | apply q5 | apply q6 | apply q7 | apply q8 | apply q9 | intro _)))
 ·(repeat' (with_reducible (first | exact q0 trivial | apply q1 | apply q2 | apply q3 | (apply q4; assumption) | apply q5 | apply q6 | apply q7 | apply q8 | apply q9 | intro _)))⟩
def M20 : Nat := 1048576
theorem M20_eq : M20 = 1048576 := by rfl
def FitX (x : List Nd) : Prop := x.length <= M20 /\ ∀ n ∈ x, n.2.1.length <= M20
def FitA (a : Act) : Prop := a.2.2.2.1.length <= M20 /\ a.2.2.2.2.1.length <= M20 /\ a.2.2.2.2.2.length <= M20 /\
 (∀ t ∈ a.2.2.2.2.1, t.2.2.2.2.length <= M20) /\ ∀ x ∈ a.2.2.2.2.2, FitX x.2.2.1 /\ FitX x.2.2.2.1 /\ x.2.2.2.2.1.length <= M20
class Fit (b : List Act) : Prop where
 len : b.length <= M20
 tot : (b.flatMap fun a => a.2.2.2.1).length <= M20
 act : ∀ a ∈ b, FitA a
def Lim (b : List Act) : Prop := b.length <= 8 /\ ∀ a ∈ b, a.2.2.2.2.2.length <= 60 /\ a.2.2.2.2.1.length <= 8
instance (b : List Act) : Tot (body_limits b) (fun r => r = 0 -> Lim b) := ⟨by
 unfold body_limits;refine Sm.for0 (fun k _ => ∀ i a, i < k -> b[i]? = some a -> a.2.2.2.2.2.length <= 60 /\ a.2.2.2.2.1.length <= 8) (by intro i a h; omega) (fun i x s K hi hx hI hK => ?_) fun s hI => ?_
 ·refine Sm.join (fun d => d = false -> x.2.2.2.2.2.length <= 60 /\ x.2.2.2.2.1.length <= 8) (fun d hd => ?_) fun K hK => ?_
  ·refine Sm.cond (fun _ => Sm.some (by intro h; cases h)) fun e => hK _ fun j a hj ha => ?_
   by_cases hji : j < i
   ·exact hI j a hji ha
   ·have : j = i := by omega
    subst this;rw [hx] at ha;cases ha;exact hd e
  ·refine Sm.cond (fun _ => hK _ (by simp)) fun e => hK _ fun e2 => ?_
   have e := of_decide_eq_false e;have e2 := of_decide_eq_false e2;exact ⟨by omega, by omega⟩
 ·have hall : ∀ a ∈ b, a.2.2.2.2.2.length <= 60 /\ a.2.2.2.2.1.length <= 8 := fun a ha => by
   obtain ⟨i, hi, rfl⟩ := List.getElem_of_mem ha;exact hI i _ hi (List.getElem?_eq_getElem hi)
  refine Sm.join (fun d => d = false -> b.length <= 8) (fun d hd => ?_) fun K hK => ?_
  ·refine Sm.cond (fun _ => Sm.some (by intro h; cases h)) fun e => Sm.some fun _ => ⟨hd e, hall⟩
  ·refine Sm.cond (fun _ => hK _ (by simp)) fun e => hK _ fun e2 => ?_
   have e := of_decide_eq_false e;omega⟩
theorem add_ok {fu : Nat} [Big fu] (x : ByteArray) (d : List (ByteArray × Bool)) (m : Nat) (hd : d.length <= m) (hm : m < LIM) :
  Sm (fun r => r.1 = 0 -> r.2.length <= m + 1) ((word_Name fu x).bind fun r =>
   bif !r then some ((15 : Int), d)
   else bif (mget Ty.str.beq x d).getD false then some ((5 : Int), d) else (chk (d.length + (1 : Nat) <= LIM)).bind fun _ => some ((0 : Int), mset Ty.str.beq x true d)) := by
 refine Sm.bindT fun r _ => ?_
 refine Sm.cond (fun _ => Sm.some (by intro h; cases h)) fun _ => ?_
 refine Sm.cond (fun _ => Sm.some (by intro h; cases h)) fun _ => ?_
 refine Sm.chk (by omega) (Sm.some fun _ => ?_)
 have := mset_le (eq := Ty.str.beq) x true d
 simp only
 omega
theorem not_ne0 {r : Int} (h : (r != (0 : Int)) = false) : r = 0 := by simpa using h
theorem parts_ok (fu : Nat) [Big fu] (b : List Act) [hb : Fit b] (hl : Lim b) : Sm (fun _ => True) (body_parts fu b) := by
 have hlim := lim_eq;have hM := M20_eq;obtain ⟨l1, l2⟩ := hl;unfold body_parts;refine Sm.for0 (fun k d => d.1.length <= k /\ d.2.1.length <= k * M20 /\ d.2.2.length <= k * M20) ⟨by simp, by simp, by simp⟩ (fun i x d K hi hx hI hK => ?_) fun _ _ => Sm.some trivial
 obtain ⟨i1, i2, i3⟩ := hI;have hxm : x ∈ b := List.mem_of_getElem? hx;obtain ⟨f1, f2, f3, f4, f5⟩ := hb.act x hxm;refine Sm.bind (add_ok (fu := fu) x.1 d.1 i i1 (by omega)) fun r hr => ?_
 refine Sm.cond (fun _ => Sm.some trivial) fun e => ?_
 have hr := hr (not_ne0 e);refine Sm.joinT (fun d1 => ?_) fun K hK => by (repeat' (with_reducible (first | exact q0 trivial | apply q1 | apply q2 | apply q3 | (apply q4; assumption) | apply q5 | apply q6 | apply q7 | apply q8 | apply q9 | intro _)))
 refine Sm.cond (fun _ => Sm.some trivial) fun _ => ?_
 refine Sm.for0 (fun k d2 => d2.length <= i * M20 + k) (by simpa using i2) (fun j y d2 K2 hj hy hI2 hK2 => ?_) fun d2 hd2 => ?_
 ·refine Sm.bind (add_ok (fu := fu) y.1 d2 (i * M20 + j) hI2 (by rw [hM] at *; omega)) fun r2 hr2 => ?_
  refine Sm.cond (fun _ => Sm.some trivial) fun e2 => ?_
  have hr2 := hr2 (not_ne0 e2);refine Sm.bindT fun r3 _ => ?_
  refine Sm.cond (fun _ => Sm.some trivial) fun _ => ?_
  exact hK2 _ (by omega)
 ·refine Sm.for0 (fun k d3 => d3.length <= i * M20 + k) (by simpa using i3) (fun j y d3 K3 hj hy hI3 hK3 => ?_) fun d3 hd3 => ?_
  ·refine Sm.bind (add_ok (fu := fu) y.1 d3 (i * M20 + j) hI3 (by rw [hM] at *; omega)) fun r2 hr2 => ?_
   refine Sm.cond (fun _ => Sm.some trivial) fun e2 => ?_
   have hr2 := hr2 (not_ne0 e2);refine Sm.bindT fun r3 _ => ?_
   refine Sm.cond (fun _ => Sm.some trivial) fun _ => ?_
   exact hK3 _ (by omega)
  ·refine hK _ ⟨?_, ?_, ?_⟩
   ·simpa using hr
   ·show d2.length <= (i + 1) * M20
    rw [hM] at *; omega
   ·show d3.length <= (i + 1) * M20
    rw [hM] at *; omega
instance (b : List Act) (p : ByteArray) : Tot (body_Attr b p) (fun _ => True) := ⟨by unfold body_Attr; (repeat' (with_reducible (first | exact q0 trivial | apply q1 | apply q2 | apply q3 | (apply q4; assumption) | apply q5 | apply q6 | apply q7 | apply q8 | apply q9 | intro _)))⟩
def kidsN (p : Int) : Int := if p = 0 \/ p = 1 \/ p = 2 \/ p = 3 then 0 else if p = 4 \/ p = 16 \/ p = 17 then 1 else if p = 15 then 3 else if 4 < p /\ p < 19 then 2 else -1
theorem kids_eq (p : Int) : tree_Kids p = some (kidsN p) := by
 by_cases h0 : p = 0
 ·subst h0; rfl
 by_cases h1 : p = 1
 ·subst h1; rfl
 by_cases h2 : p = 2
 ·subst h2; rfl
 by_cases h3 : p = 3
 ·subst h3; rfl
 by_cases h4 : p = 4
 ·subst h4; rfl
 by_cases h16 : p = 16
 ·subst h16; rfl
 by_cases h17 : p = 17
 ·subst h17; rfl
 by_cases h15 : p = 15
 ·subst h15; rfl
 have bf : ∀ q, ¬ p = q -> (p == q) = false := fun q h => by simpa using h
 unfold tree_Kids kidsN PH.join;rw [if_neg (by simp [h0, h1, h2, h3]), if_neg (by simp [h4, h16, h17]), if_neg h15];simp only [bf _ h0, bf _ h1, bf _ h2, bf _ h3, bf _ h4, bf _ h16, bf _ h17, bf _ h15, cond_false];by_cases h5 : 4 < p
 ·by_cases h6 : p < 19
  ·rw [if_pos ⟨h5, h6⟩]; simp [h5, h6]
  ·rw [if_neg (fun h => h6 h.2)]; simp [h5, h6]
 ·rw [if_neg (fun h => h5 h.1)]; simp [h5]
instance (p : Int) : Tot (tree_Kids p) (fun r => r = kidsN p) := ⟨by rw [kids_eq]; exact Sm.some rfl⟩
instance (p : Int) : Tot (tree_named p) (fun _ => True) := ⟨by unfold tree_named; (repeat' (with_reducible (first | exact q0 trivial | apply q1 | apply q2 | apply q3 | (apply q4; assumption) | apply q5 | apply q6 | apply q7 | apply q8 | apply q9 | intro _)))⟩
instance (p q : Int) : Tot (tree_one_1 p q) (fun r => r.2 = q /\ (r.1 = false -> 0 <= p /\ p < q)) := ⟨by
 unfold tree_one_1;refine Sm.cond (fun _ => Sm.some ⟨rfl, by simp⟩) fun e => Sm.some ⟨rfl, fun e2 => ?_⟩
 have e := of_decide_eq_false e;have e2 := of_decide_eq_false e2;exact ⟨by omega, by omega⟩⟩
instance (l : List Int) (q : Int) : Tot (zq72 l q) (fun r => r.1 < 0 -> ∀ k ∈ l, 0 <= k /\ k < q) := ⟨by
 unfold zq72;refine Sm.for0 (fun k d => d = q /\ ∀ i x, i < k -> l[i]? = some x -> 0 <= x /\ x < q) ⟨rfl, by intro i x h; omega⟩ (fun i x d K hi hx hI hK => ?_) fun d hI => Sm.some fun _ k hk => ?_
 ·obtain ⟨rfl, hI⟩ := hI;refine Sm.idx (by omega) (by simpa using hi) fun y hy => ?_
  have hyx : y = x := by simpa [hx] using hy.symm
  subst hyx;refine Sm.bindT fun r hr => ?_
  refine Sm.cond (fun _ => Sm.some (by simp only; intro h; omega)) fun e => hK _ ⟨hr.1, fun j z hj hz => ?_⟩
  by_cases hji : j < i
  ·exact hI j z hji hz
  ·have : j = i := by omega
   subst this;rw [hx] at hz;cases hz;exact hr.2 e
 ·obtain ⟨i, hi, rfl⟩ := List.getElem_of_mem hk;exact hI.2 i _ hi (List.getElem?_eq_getElem hi)⟩
instance (l : List Int) (q : Int) : Tot (zq60 l q) (fun r => r.1 = false -> ∀ k ∈ l, 0 <= k /\ k < q) := ⟨by
 unfold zq60;refine Sm.bindT fun r hr => Sm.some fun e => hr ?_
 have e := of_decide_eq_false e;omega⟩
def OneOk (n : Nd) (q : Int) : Prop := 0 <= kidsN n.1 /\ (n.2.1.length : Int) = kidsN n.1 /\ ∀ k ∈ n.2.1, 0 <= k /\ k < q
instance (fu : Nat) [Big fu] (n : Nd) (q : Int) : Tot (tree_one fu n q) (fun r => r = 0 -> OneOk n q) := ⟨by
 unfold tree_one;refine Sm.bindT fun r hr => ?_
 subst hr;refine Sm.cond (fun _ => Sm.some (by simp)) fun e => ?_
 have e := of_decide_eq_false e;refine Sm.join (fun d => d = false -> OneOk n q) (fun d hd => ?_) fun K hK => ?_
 ·refine Sm.cond (fun _ => Sm.some (by simp)) fun e => ?_
  have ok := hd e;refine Sm.weak (Q := fun _ => True) ?_ fun _ _ _ => ok
  (repeat' (with_reducible (first | exact q0 trivial | apply q1 | apply q2 | apply q3 | (apply q4; assumption) | apply q5 | apply q6 | apply q7 | apply q8 | apply q9 | intro _)))
 ·refine Sm.bindT fun r hr => ?_
  subst hr;refine Sm.cond (fun _ => hK _ (by simp)) fun e1 => ?_
  refine Sm.bindT fun r2 hr2 => hK _ fun e2 => ⟨by omega, by simpa using e1, hr2 e2⟩⟩
instance (l : List Int) (x : Int) : Tot (zq75 l x) (fun _ => True) := ⟨by
 unfold zq75;refine Sm.forT (fun i x s K hi hx hK => ?_) fun _ => Sm.some trivial
 refine Sm.idx (by omega) (by simpa using hi) fun y hy => ?_
 (repeat' (with_reducible (first | exact q0 trivial | apply q1 | apply q2 | apply q3 | (apply q4; assumption) | apply q5 | apply q6 | apply q7 | apply q8 | apply q9 | intro _)))⟩
instance (l : List Int) (x : Int) : Tot (zq63 l x) (fun _ => True) := ⟨by unfold zq63; (repeat' (with_reducible (first | exact q0 trivial | apply q1 | apply q2 | apply q3 | (apply q4; assumption) | apply q5 | apply q6 | apply q7 | apply q8 | apply q9 | intro _)))⟩
def TreeOk (l : List Nd) : Prop := 0 < l.length /\ l.length <= 100 /\ ∀ (i : Nat) n, l[i]? = some n -> OneOk n i
instance (fu : Nat) [Big fu] (l : List Nd) : Tot (tree_Check fu l) (fun r => r = 0 -> TreeOk l) := ⟨by
 have hlim := lim_eq;unfold tree_Check;refine Sm.cond (fun _ => Sm.some (by simp)) fun e1 => ?_
 have e1 := of_decide_eq_false e1;refine Sm.cond (fun _ => Sm.some (by simp)) fun e2 => ?_
 have e2 : l.length ≠ 0 := by simpa using e2
 refine Sm.chk ⟨by omega, by omega, by omega⟩ ?_;refine Sm.for0 (fun k d => d.length = l.length /\ ∀ i n, i < k -> l[i]? = some n -> OneOk n i) ⟨by simp, by intro i x h; omega⟩ (fun i x d K hi hx hI hK => ?_) fun d hI => ?_
 ·obtain ⟨hd, hI⟩ := hI;refine Sm.bindT fun r hr => ?_
  refine Sm.cond (fun e => Sm.some fun h => by rw [h] at e; simp at e) fun e => ?_
  have ok := hr (not_ne0 e);refine Sm.for0 (fun _ d => d.length = l.length) hd (fun j y d2 K2 hj hy hI2 hK2 => ?_) fun d2 hd2 => ?_
  ·obtain ⟨y0, y1⟩ := ok.2.2 y (List.mem_of_getElem? hy);refine Sm.chk ⟨by omega, by omega⟩ ?_;refine Sm.get (by omega) fun z _ => ?_
   refine Sm.chk ⟨by omega, by omega⟩ ?_;refine Sm.chk (by omega) ?_;refine Sm.chk ⟨by omega, by rw [List.length_set]; omega⟩ ?_;refine Sm.get (by rw [List.length_set]; omega) fun z2 _ => ?_
   refine Sm.cond (fun _ => Sm.some (by simp)) fun _ => hK2 _ (by rw [List.length_set]; exact hI2)
  ·refine hK _ ⟨hd2, fun j n hj hn => ?_⟩;by_cases hji : j < i
   ·exact hI j n hji hn
   ·have : j = i := by omega
    subst this;rw [hx] at hn;cases hn;exact ok
 ·obtain ⟨hd, hI⟩ := hI;rw [wrap64 (by omega) (by omega)];refine Sm.chk ⟨by omega, by omega⟩ ?_;refine Sm.chk (by simp only [decide_eq_true_eq]; omega) ?_;refine Sm.bindT fun r _ => ?_
  exact Sm.cond (fun _ => Sm.some (by simp)) fun _ => Sm.some fun _ => ⟨by omega, by omega, fun i n hn => hI i n (List.getElem?_eq_some_iff.1 hn).1 hn⟩⟩
instance (b : List Act) (x : ByteArray) : Tot (types_attr b x) (fun _ => True) := ⟨by unfold types_attr; (repeat' (with_reducible (first | exact q0 trivial | apply q1 | apply q2 | apply q3 | (apply q4; assumption) | apply q5 | apply q6 | apply q7 | apply q8 | apply q9 | intro _)))⟩
instance (k : Int) : Tot (zq86 k) (fun _ => True) := ⟨by unfold zq86; (repeat' (with_reducible (first | exact q0 trivial | apply q1 | apply q2 | apply q3 | (apply q4; assumption) | apply q5 | apply q6 | apply q7 | apply q8 | apply q9 | intro _)))⟩
instance (b : List Act) (n : Nd) : Tot (types_looked b n) (fun _ => True) := ⟨by unfold types_looked; (repeat' (with_reducible (first | exact q0 trivial | apply q1 | apply q2 | apply q3 | (apply q4; assumption) | apply q5 | apply q6 | apply q7 | apply q8 | apply q9 | intro _)))⟩
instance (l : List Tb) (x : ByteArray) : Tot (types_find l x) (fun _ => True) := ⟨by unfold types_find; (repeat' (with_reducible (first | exact q0 trivial | apply q1 | apply q2 | apply q3 | (apply q4; assumption) | apply q5 | apply q6 | apply q7 | apply q8 | apply q9 | intro _)))⟩
instance (k : Int) (l : List Int) : Tot (types_either k l) (fun _ => True) := ⟨by unfold types_either; (repeat' (with_reducible (first | exact q0 trivial | apply q1 | apply q2 | apply q3 | (apply q4; assumption) | apply q5 | apply q6 | apply q7 | apply q8 | apply q9 | intro _)))⟩
instance (a b : Int) : Tot (types_join a b) (fun _ => True) := ⟨by unfold types_join; (repeat' (with_reducible (first | exact q0 trivial | apply q1 | apply q2 | apply q3 | (apply q4; assumption) | apply q5 | apply q6 | apply q7 | apply q8 | apply q9 | intro _)))⟩
instance (o a b : Int) : Tot (types_sum o a b) (fun _ => True) := ⟨by unfold types_sum; (repeat' (with_reducible (first | exact q0 trivial | apply q1 | apply q2 | apply q3 | (apply q4; assumption) | apply q5 | apply q6 | apply q7 | apply q8 | apply q9 | intro _)))⟩
instance (a b : Int) : Tot (zq85 a b) (fun _ => True) := ⟨by unfold zq85; (repeat' (with_reducible (first | exact q0 trivial | apply q1 | apply q2 | apply q3 | (apply q4; assumption) | apply q5 | apply q6 | apply q7 | apply q8 | apply q9 | intro _)))⟩
theorem kids_facts {op : Int} {len : Nat} (h : (len : Int) = kidsN op) (h1 : op ≠ 1) (h2 : op ≠ 2) (h3 : op ≠ 3) :
  (op = 4 -> len = 1) /\ (op = 16 -> len = 1) /\ (op = 17 -> len = 1) /\ (op = 15 -> len = 3) /\ (op ≠ 0 -> op ≠ 4 -> op ≠ 15 -> op ≠ 16 -> op ≠ 17 -> len = 2) := by
 unfold kidsN at h
 split at h
 ·refine ⟨?_, ?_, ?_, ?_, ?_⟩ <;> intros <;> omega
 ·split at h
  ·refine ⟨?_, ?_, ?_, ?_, ?_⟩ <;> intros <;> omega
  ·split at h
   ·refine ⟨?_, ?_, ?_, ?_, ?_⟩ <;> intros <;> omega
   ·split at h
    ·refine ⟨?_, ?_, ?_, ?_, ?_⟩ <;> intros <;> omega
    ·omega
theorem kind_ok (n : Nd) (l : List Int) (t : Tb) (h : (l.length : Int) = kidsN n.1) (h1 : n.1 ≠ 1) (h2 : n.1 ≠ 2) (h3 : n.1 ≠ 3) : Sm (fun _ => True) (types_kind n l t) := by
 obtain ⟨f4, f16, f17, f15, f2⟩ := kids_facts h h1 h2 h3;unfold types_kind;generalize n.1 = op at *;refine Sm.cond (fun _ => Sm.some trivial) fun e0 => ?_
 have e0 : op ≠ 0 := by simpa using e0
 refine Sm.cond (fun e => ?_) fun e4 => ?_
 ·have e : op = 4 := by simpa using e
  have := f4 e;refine Sm.idx (by omega) (by simp only [Int.toNat_zero]; omega) fun y _ => ?_
  (repeat' (with_reducible (first | exact q0 trivial | apply q1 | apply q2 | apply q3 | (apply q4; assumption) | apply q5 | apply q6 | apply q7 | apply q8 | apply q9 | intro _)))
 have e4 : op ≠ 4 := by simpa using e4
 have i0 : ∀ {R : Type} {Q : R -> Prop} {g : Int -> Option R}, 1 <= l.length -> (∀ x, Sm Q (g x)) -> Sm Q ((idx l 0).bind g) := fun hl hg => Sm.idx (by omega) (by simp only [Int.toNat_zero]; omega) fun x _ => hg x
 have i1 : ∀ {R : Type} {Q : R -> Prop} {g : Int -> Option R}, 2 <= l.length -> (∀ x, Sm Q (g x)) -> Sm Q ((idx l 1).bind g) := fun hl hg => Sm.idx (by omega) (by show 1 < l.length; omega) fun x _ => hg x
 have i2 : ∀ {R : Type} {Q : R -> Prop} {g : Int -> Option R}, 3 <= l.length -> (∀ x, Sm Q (g x)) -> Sm Q ((idx l 2).bind g) := fun hl hg => Sm.idx (by omega) (by show 2 < l.length; omega) fun x _ => hg x
 refine Sm.join (fun d => d = true -> l.length = 2) (fun d hd => ?_) fun K hK => ?_
 ·refine Sm.cond (fun e => ?_) fun _ => ?_
  ·have := hd e;refine i0 (by omega) fun y => Sm.bindT fun r _ => Sm.cond (fun _ => i1 (by omega) fun y => ?_) fun _ => Sm.some trivial
   (repeat' (with_reducible (first | exact q0 trivial | apply q1 | apply q2 | apply q3 | (apply q4; assumption) | apply q5 | apply q6 | apply q7 | apply q8 | apply q9 | intro _)))
  refine Sm.cond (fun e => ?_) fun e9 => ?_
  ·have e : op = 9 := by simpa using e
   have := f2 e0 e4 (by omega) (by omega) (by omega);refine i0 (by omega) fun y => i1 (by omega) fun y => ?_
   (repeat' (with_reducible (first | exact q0 trivial | apply q1 | apply q2 | apply q3 | (apply q4; assumption) | apply q5 | apply q6 | apply q7 | apply q8 | apply q9 | intro _)))
  refine Sm.join (fun d => d = true -> l.length = 2) (fun d hd => ?_) fun K hK => ?_
  ·refine Sm.cond (fun e => ?_) fun _ => ?_
   ·have := hd e;refine i0 (by omega) fun y => i1 (by omega) fun y => ?_
    (repeat' (with_reducible (first | exact q0 trivial | apply q1 | apply q2 | apply q3 | (apply q4; assumption) | apply q5 | apply q6 | apply q7 | apply q8 | apply q9 | intro _)))
   refine Sm.join (fun d => d = true -> l.length = 2) (fun d hd => ?_) fun K hK => ?_
   ·refine Sm.cond (fun e => ?_) fun _ => ?_
    ·have := hd e;refine i0 (by omega) fun y => i1 (by omega) fun y => ?_
     (repeat' (with_reducible (first | exact q0 trivial | apply q1 | apply q2 | apply q3 | (apply q4; assumption) | apply q5 | apply q6 | apply q7 | apply q8 | apply q9 | intro _)))
    refine Sm.join (fun d => d = true -> l.length = 2) (fun d hd => ?_) fun K hK => ?_
    ·refine Sm.cond (fun e => ?_) fun _ => ?_
     ·have := hd e;refine i0 (by omega) fun y => i1 (by omega) fun y => ?_
      (repeat' (with_reducible (first | exact q0 trivial | apply q1 | apply q2 | apply q3 | (apply q4; assumption) | apply q5 | apply q6 | apply q7 | apply q8 | apply q9 | intro _)))
     refine Sm.cond (fun e => ?_) fun e12 => ?_
     ·have e : op = 12 := by simpa using e
      have := f2 e0 e4 (by omega) (by omega) (by omega);refine i0 (by omega) fun y => i1 (by omega) fun y => ?_
      (repeat' (with_reducible (first | exact q0 trivial | apply q1 | apply q2 | apply q3 | (apply q4; assumption) | apply q5 | apply q6 | apply q7 | apply q8 | apply q9 | intro _)))
     refine Sm.cond (fun e => ?_) fun e15 => ?_
     ·have e : op = 15 := by simpa using e
      have := f15 e;refine i1 (by omega) fun y => i2 (by omega) fun y => Sm.bindT fun r _ => Sm.cond (fun _ => i0 (by omega) fun y => ?_) fun _ => Sm.some trivial
      (repeat' (with_reducible (first | exact q0 trivial | apply q1 | apply q2 | apply q3 | (apply q4; assumption) | apply q5 | apply q6 | apply q7 | apply q8 | apply q9 | intro _)))
     have e15 : op ≠ 15 := by simpa using e15
     refine Sm.cond (fun e => ?_) fun e16 => ?_
     ·have e : op = 16 := by simpa using e
      have := f16 e;refine i0 (by omega) fun y => ?_
      (repeat' (with_reducible (first | exact q0 trivial | apply q1 | apply q2 | apply q3 | (apply q4; assumption) | apply q5 | apply q6 | apply q7 | apply q8 | apply q9 | intro _)))
     have e16 : op ≠ 16 := by simpa using e16
     refine Sm.cond (fun e => ?_) fun e17 => ?_
     ·have e : op = 17 := by simpa using e
      have := f17 e;refine i0 (by omega) fun y => ?_
      (repeat' (with_reducible (first | exact q0 trivial | apply q1 | apply q2 | apply q3 | (apply q4; assumption) | apply q5 | apply q6 | apply q7 | apply q8 | apply q9 | intro _)))
     have e17 : op ≠ 17 := by simpa using e17
     have := f2 e0 e4 e15 e16 e17;refine i0 (by omega) fun y => Sm.bindT fun r _ => Sm.cond (fun _ => i1 (by omega) fun y => ?_) fun _ => Sm.some trivial
     (repeat' (with_reducible (first | exact q0 trivial | apply q1 | apply q2 | apply q3 | (apply q4; assumption) | apply q5 | apply q6 | apply q7 | apply q8 | apply q9 | intro _)))
    ·refine Sm.cond (fun e => hK _ fun _ => ?_) fun _ => hK _ fun e => ?_
     ·have e : op = 10 := by simpa using e
      exact f2 e0 e4 (by omega) (by omega) (by omega)
     ·have e : op = 11 := by simpa using e
      exact f2 e0 e4 (by omega) (by omega) (by omega)
   ·refine Sm.cond (fun e => hK _ fun _ => ?_) fun _ => hK _ fun e => ?_
    ·have e : op = 13 := by simpa using e
     exact f2 e0 e4 (by omega) (by omega) (by omega)
    ·have e : op = 14 := by simpa using e
     exact f2 e0 e4 (by omega) (by omega) (by omega)
  ·refine Sm.cond (fun e => hK _ fun _ => ?_) fun _ => hK _ fun e => ?_
   ·have e : op = 7 := by simpa using e
    exact f2 e0 e4 (by omega) (by omega) (by omega)
   ·have e : op = 8 := by simpa using e
    exact f2 e0 e4 (by omega) (by omega) (by omega)
 ·refine Sm.cond (fun e => hK _ fun _ => ?_) fun _ => hK _ fun e => ?_
  ·have e : op = 5 := by simpa using e
   exact f2 e0 e4 (by omega) (by omega) (by omega)
  ·have e : op = 6 := by simpa using e
   exact f2 e0 e4 (by omega) (by omega) (by omega)
instance (b : List Act) [hb : Fit b] [hl : Fact' (Lim b)] : Tot (types_Tables b) (fun _ => True) := ⟨by
 have hlim := lim_eq;have hM := M20_eq;obtain ⟨l1, l2⟩ := hl.h;unfold types_Tables;refine Sm.for0 (fun k d => d.length <= k * M20) (by simp) (fun i x d K hi hx hI hK => ?_) fun _ _ => Sm.some trivial
 have hxm : x ∈ b := List.mem_of_getElem? hx;obtain ⟨f1, f2, f3, f4, f5⟩ := hb.act x hxm;refine Sm.for0 (fun k d2 => d2.length <= i * M20 + k) (by simpa using hI) (fun j y d2 K2 hj hy hI2 hK2 => ?_) fun d2 hd2 => hK _ (by rw [hM] at *; omega)
 have hy4 := f4 y (List.mem_of_getElem? hy);refine Sm.chk (by omega) (Sm.chk (by rw [hM] at *; omega) ?_);exact hK2 _ (by simp only [List.length_append, List.length_cons, List.length_nil]; omega)⟩
instance (fu : Nat) [Big fu] (b : List Act) [hb : Fit b] [hl : Fact' (Lim b)] (l : List Nd) : Tot (types_Of fu b l) (fun _ => True) := ⟨by
 have hlim := lim_eq;unfold types_Of;refine Sm.bindT fun r hr => ?_
 refine Sm.cond (fun _ => Sm.some trivial) fun e => ?_
 obtain ⟨t1, t2, t3⟩ := hr (not_ne0 e);refine Sm.chk ⟨by omega, by omega, by omega⟩ ?_;refine Sm.for0 (fun _ d => d.length = l.length) (by simp) (fun i x d K hi hx hI hK => ?_) fun d hI => ?_
 ·obtain ⟨o1, o2, o3⟩ := t3 i x hx;refine Sm.join (fun f => f = false -> x.1 ≠ 1 /\ x.1 ≠ 2 /\ x.1 ≠ 3) (fun f hf => ?_) fun K hK => ?_
  ·refine Sm.cond (fun _ => ?_) fun ef => ?_
   ·refine Sm.bindT fun r _ => Sm.cond (fun _ => Sm.some trivial) fun _ => ?_
    exact Sm.chk ⟨by omega, by omega⟩ (Sm.chk (by omega) (hK _ (by rw [List.length_set]; exact hI)))
   ·obtain ⟨n1, n2, n3⟩ := hf ef;refine Sm.for0 (fun k d2 => d2.length = k) rfl (fun j y d2 K2 hj hy hI2 hK2 => ?_) fun d2 hd2 => ?_
    ·obtain ⟨y0, y1⟩ := o3 y (List.mem_of_getElem? hy);refine Sm.chk ⟨by omega, by omega⟩ (Sm.get (by omega) fun z _ => Sm.chk ?_ (hK2 _ (by simp [hI2])));have : (x.2.1.length : Int) <= 3 := by
      rw [o2]; unfold kidsN; repeat' split
      all_goals omega
     omega
    ·refine Sm.joinT (fun d3 => ?_) fun K3 hK3 => ?_
     ·refine Sm.bind (kind_ok _ d2 _ (by rw [hd2]; exact o2) n1 n2 n3) fun r _ => Sm.cond (fun _ => Sm.some trivial) fun _ => ?_
      exact Sm.chk ⟨by omega, by omega⟩ (Sm.chk (by omega) (hK _ (by rw [List.length_set]; exact hI)))
     ·(repeat' (with_reducible (first | exact q0 trivial | apply q1 | apply q2 | apply q3 | (apply q4; assumption) | apply q5 | apply q6 | apply q7 | apply q8 | apply q9 | intro _)))
  ·refine Sm.cond (fun _ => hK _ (by simp)) fun e1 => Sm.cond (fun _ => hK _ (by simp)) fun e2 => hK _ fun e3 => ⟨by simpa using e1, by simpa using e2, by simpa using e3⟩
 ·rw [wrap64 (by omega) (by omega)];exact Sm.chk ⟨by omega, by omega⟩ (Sm.get (by omega) fun z _ => Sm.some trivial)⟩
instance (fu : Nat) [Big fu] (b : List Act) [hb : Fit b] [hl : Fact' (Lim b)] (x : Ar) : Tot (body_article fu b x) (fun _ => True) := ⟨by unfold body_article; (repeat' (with_reducible (first | exact q0 trivial | apply q1 | apply q2 | apply q3 | (apply q4; assumption) | apply q5 | apply q6 | apply q7 | apply q8 | apply q9 | intro _)))⟩
theorem chk_eq' {p : Prop} [Decidable p] (h : p) : chk p = some () := by unfold chk; rw [if_pos h]
theorem cloneI (l : List Int) (h : l.length <= LIM) : zq56 l = some l := by
 unfold zq56 PH.join lcase;cases l with
 | nil => simp [both, chk_eq']
 | cons x xs => simp only [cond_false, Nat.zero_add, chk_eq' h, Option.bind_some]
theorem cloneR (l : List Rf) (h : l.length <= LIM) : zq55 l = some l := by
 unfold zq55 PH.join lcase;cases l with
 | nil => simp [both, chk_eq']
 | cons x xs => simp only [cond_false, Nat.zero_add, chk_eq' h, Option.bind_some]
theorem copy_ok (l : List Nd) (h : FitX l) : Sm (fun r => r = l) (tree_Copy l) := by
 have hlim := lim_eq;have hM := M20_eq;obtain ⟨h1, h2⟩ := h;unfold tree_Copy;refine Sm.for0 (fun k d => d = l.take k) (by simp) (fun i x d K hi hx hI hK => ?_) fun d hd => Sm.some (by rw [hd, List.take_length])
 rw [cloneI _ (by have := h2 x (List.mem_of_getElem? hx); omega), Option.bind_some];subst hI;refine Sm.chk (by rw [List.length_take]; omega) (hK _ ?_);rw [List.take_add_one, hx];rfl
theorem copyA_ok (x : Ar) (h : FitX x.2.2.1 /\ FitX x.2.2.2.1 /\ x.2.2.2.2.1.length <= M20) : Sm (fun r => r = x) (zq52 x) := by
 have hlim := lim_eq;have hM := M20_eq;obtain ⟨h1, h2, h3⟩ := h;unfold zq52;refine Sm.bind (copy_ok _ h1) fun a ha => Sm.bind (copy_ok _ h2) fun b hb => ?_
 subst ha hb;rw [cloneR _ (by omega), Option.bind_some];exact Sm.some rfl
instance (b : List Act) [hb : Fit b] (r : Rf) : Tot (body_Article b r) (fun _ => True) := ⟨by
 unfold body_Article;refine Sm.forT (fun i x d K hi hx hK => ?_) fun _ => Sm.some trivial
 refine Sm.forT (fun j y d2 K2 hj hy hK2 => ?_) fun _ => hK _
 refine Sm.joinT (fun d => ?_) fun K3 hK3 => ?_
 ·refine Sm.cond (fun _ => ?_) fun _ => hK2 _
  refine Sm.bind (copyA_ok _ ?_) fun _ _ => Sm.some trivial
  exact (hb.act x (List.mem_of_getElem? hx)).2.2.2.2 y (List.mem_of_getElem? hy)
 ·(repeat' (with_reducible (first | exact q0 trivial | apply q1 | apply q2 | apply q3 | (apply q4; assumption) | apply q5 | apply q6 | apply q7 | apply q8 | apply q9 | intro _)))⟩
instance (l : List Rf) (x : Rf) : Tot (zq74 l x) (fun _ => True) := ⟨by
 unfold zq74;refine Sm.forT (fun i x s K hi hx hK => ?_) fun _ => Sm.some trivial
 refine Sm.idx (by omega) (by simpa using hi) fun y hy => ?_
 (repeat' (with_reducible (first | exact q0 trivial | apply q1 | apply q2 | apply q3 | (apply q4; assumption) | apply q5 | apply q6 | apply q7 | apply q8 | apply q9 | intro _)))⟩
instance (l : List Rf) (x : Rf) : Tot (zq62 l x) (fun _ => True) := ⟨by unfold zq62; (repeat' (with_reducible (first | exact q0 trivial | apply q1 | apply q2 | apply q3 | (apply q4; assumption) | apply q5 | apply q6 | apply q7 | apply q8 | apply q9 | intro _)))⟩
instance (b : List Act) [hb : Fit b] (r : Rf) (x : Ar) : Tot (body_over b r x) (fun _ => True) := ⟨by
 unfold body_over;refine Sm.forT (fun i y d K hi hx hK => ?_) fun _ => Sm.some trivial
 refine Sm.bindT fun r _ => Sm.cond (fun _ => Sm.some trivial) fun _ => ?_
 refine Sm.joinT (fun d => ?_) fun K3 hK3 => ?_
 ·refine Sm.cond (fun _ => Sm.some trivial) fun _ => Sm.chk ⟨by omega, by omega⟩ ?_
  (repeat' (with_reducible (first | exact q0 trivial | apply q1 | apply q2 | apply q3 | (apply q4; assumption) | apply q5 | apply q6 | apply q7 | apply q8 | apply q9 | intro _)))
 ·(repeat' (with_reducible (first | exact q0 trivial | apply q1 | apply q2 | apply q3 | (apply q4; assumption) | apply q5 | apply q6 | apply q7 | apply q8 | apply q9 | intro _)))⟩
theorem compact_ok (fu : Nat) [hf : Big fu] (l : List ByteArray) (hl : l.length <= LIM) : Sm (fun r => r.length <= l.length) (zq57 fu l) := by
 have hlim := lim_eq;have hf := hf.h;unfold zq57;refine Sm.cond (fun _ => Sm.some (Nat.le_refl _)) fun e => ?_
 have e := of_decide_eq_false e;refine Sm.whK (fun d => 1 <= d /\ d <= (l.length : Int)) (fun d => ((l.length : Int) - d).toNat) (fun d self hI hself => ?_) fu _ ⟨by omega, by omega⟩ (by omega);obtain ⟨d1, d2⟩ := hI;refine Sm.cond (fun c => ?_) fun _ => Sm.some (Nat.le_refl _)
 have c := of_decide_eq_true c;refine Sm.chk ⟨by omega, by omega⟩ (Sm.get (by omega) fun x _ => ?_);rw [wrap64 (x := d - 1) (by omega) (by omega)];refine Sm.chk ⟨by omega, by omega⟩ (Sm.get (by omega) fun x _ => ?_);refine Sm.cond (fun _ => ?_) fun _ => ?_
 ·refine Sm.chk ⟨by omega, by omega⟩ ?_;refine Sm.whK (fun s => s.2.2.length = l.length /\ 1 <= s.2.1 /\ s.2.1 <= ((l.length - d.toNat : Nat) : Int) /\ 0 <= s.1 /\ s.1 < d + s.2.1) (fun s => (((l.length - d.toNat : Nat) : Int) - s.2.1).toNat) (fun s self2 hI2 hself2 => ?_) fu _ ⟨rfl, by simp, by simp only; omega, by simp only; omega, by simp only; omega⟩ (by simp only; omega);obtain ⟨a, k, t⟩ := s;obtain ⟨j1, j2, j3, j4, j5⟩ := hI2;simp only at j1 j2 j3 j4 j5 ⊢;refine Sm.cond (fun c2 => ?_) fun c2 => ?_
  ·have c2 := of_decide_eq_true c2;refine Sm.join (fun s : Int × List ByteArray => s.2.length = l.length /\ 0 <= s.1 /\ s.1 < d + k + 1) (fun s hs => ?_) fun K hK => ?_
   ·obtain ⟨s1, s2, s3⟩ := hs;rw [wrap64 (by omega) (by omega)];exact hself2 _ ⟨s1, by simp only; omega, by simp only; omega, s2, by simp only; omega⟩ (by simp only; omega)
   ·refine Sm.chk ⟨by omega, by omega⟩ (Sm.get (by omega) fun x _ => ?_);rw [wrap64 (x := k - 1) (by omega) (by omega)];refine Sm.chk ⟨by omega, by omega⟩ (Sm.get (by omega) fun x _ => ?_);refine Sm.cond (fun _ => ?_) fun _ => hK _ ⟨j1, j4, by simp only; omega⟩
    refine Sm.chk ⟨by omega, by omega⟩ (Sm.get (by omega) fun x _ => ?_);refine Sm.chk ⟨by omega, by omega⟩ (Sm.chk (by omega) (hK _ ⟨?_, ?_, ?_⟩))
    ·simpa using j1
    ·simp only; rw [wrap64 (by omega) (by omega)]; omega
    ·simp only; rw [wrap64 (by omega) (by omega)]; omega
  ·have c2 := of_decide_eq_false c2;refine Sm.chk ⟨by omega, by omega⟩ (Sm.chk (by omega) ?_);have hlen : (List.take a.toNat t ++ (List.replicate (t.length - a.toNat) (ByteArray.mk (Array.mk (@List.nil UInt8))) ++ List.drop (a.toNat + (List.replicate (t.length - a.toNat) (ByteArray.mk (Array.mk (@List.nil UInt8)))).length) t)).length = t.length := by
    simp only [List.length_append, List.length_take, List.length_replicate, List.length_drop]; omega
   rw [hlen];refine Sm.chk ⟨by omega, by omega⟩ (Sm.chk (by omega) (Sm.some ?_));rw [List.length_take, hlen]; omega
 ·rw [wrap64 (by omega) (by omega)];exact hself _ ⟨by omega, by omega⟩ (by omega)
theorem names_ok (fu : Nat) [hf : Big fu] (l : List Nd) (hl : l.length <= M20) : Sm (fun r => r.1.length <= l.length /\ r.2.length <= l.length) (tree_Names fu l) := by
 have hlim := lim_eq;have hM := M20_eq;unfold tree_Names;refine Sm.for0 (fun k d => d.1.length <= k /\ d.2.length <= k) ⟨by simp, by simp⟩ (fun i x d K hi hx hI hK => ?_) fun d hd => ?_
 ·obtain ⟨i1, i2⟩ := hI;refine Sm.joinT (fun f => ?_) fun K hK => ?_
  ·refine Sm.cond (fun _ => Sm.chk (by omega) (hK _ ⟨by simpa using i1, by simp only; omega⟩)) fun _ => ?_
   exact Sm.cond (fun _ => Sm.chk (by omega) (hK _ ⟨by simp only; omega, by simpa using i2⟩)) fun _ => hK _ ⟨by simp only; omega, by simp only; omega⟩
  ·(repeat' (with_reducible (first | exact q0 trivial | apply q1 | apply q2 | apply q3 | (apply q4; assumption) | apply q5 | apply q6 | apply q7 | apply q8 | apply q9 | intro _)))
 ·obtain ⟨d1, d2⟩ := hd;have srt : ∀ l : List ByteArray, l.length <= LIM -> Sm (fun r : List ByteArray => r.length = l.length) ((chk (l.length <= LIM)).bind fun x => some (List.map (fun b : List UInt8 => ByteArray.mk b.toArray) ((List.map ByteArray.toList l).mergeSort fun x y => decide (x <= y)))) := fun l h => Sm.chk h (Sm.some (by simp))
  refine Sm.bind (srt _ (by omega)) fun r hr => Sm.chk hr ?_
  refine Sm.bind (srt _ (by omega)) fun r2 hr2 => Sm.chk hr2 ?_
  refine Sm.bind (compact_ok fu _ (by omega)) fun r3 hr3 => Sm.bind (compact_ok fu _ (by omega)) fun r4 hr4 => Sm.some ⟨by simp only; omega, by simp only; omega⟩
theorem beq_str (a b : ByteArray) : Ty.str.beq a b = true ↔ a = b := ⟨Ty.beq_eq .str a b, fun h => by subst h; simp [Ty.beq]⟩
theorem beq_ref (a b : Rf) : (Ty.str.pair Ty.str).beq a b = true ↔ a = b := ⟨Ty.beq_eq (.pair .str .str) a b, fun h => by subst h; simp [Ty.beq]⟩
theorem looks_ok (fu : Nat) [hf : Big fu] (b : List Act) [hb : Fit b] (hl : Lim b) : Sm (fun r => r.length <= 480 /\ vsum r <= 480 * (2 * M20)) (body_looks fu b) := by
 have hlim := lim_eq;have hM := M20_eq;obtain ⟨l1, l2⟩ := hl;unfold body_looks;refine Sm.for0 (fun k d => d.length <= k * 60 /\ vsum d <= k * 60 * (2 * M20)) ⟨by simp, by simp [vsum]⟩ (fun i x d K hi hx hI hK => ?_) fun d hd => Sm.some ⟨by omega, by rw [hM] at *; omega⟩
 have hxm : x ∈ b := List.mem_of_getElem? hx;obtain ⟨f1, f2, f3, f4, f5⟩ := hb.act x hxm;obtain ⟨m1, m2⟩ := l2 x hxm;refine Sm.for0 (fun k d2 => d2.length <= i * 60 + k /\ vsum d2 <= (i * 60 + k) * (2 * M20)) (by simpa using hI) (fun j y d2 K2 hj hy hI2 hK2 => ?_) fun d2 hd2 => hK _ ⟨by omega, by rw [hM] at *; omega⟩
 obtain ⟨g1, g2, g3⟩ := f5 y (List.mem_of_getElem? hy);obtain ⟨i1, i2⟩ := hI2;refine Sm.bind (names_ok fu _ g1.1) fun r hr => Sm.bind (names_ok fu _ g2.1) fun r2 hr2 => ?_
 have q1 := hr.1;have q2 := hr2.1;have q3 := g1.1;have q4 := g2.1;have hs := vsum_set Ty.str.beq y.2.1 ((mget Ty.str.beq y.2.1 d2).getD [] ++ r.1 ++ r2.1) d2;have hle : ((mget Ty.str.beq y.2.1 d2).getD []).length <= vsum d2 := by
  cases e : mget Ty.str.beq y.2.1 d2 with
  | none => simp
  | some v =>
   obtain ⟨a, ha⟩ := mget_mem e;rw [<- vsum_flat];simp only [Option.getD_some];have : ∀ (z : List (ByteArray × List ByteArray)), (a, v) ∈ z -> v.length <= (z.flatMap (·.2)).length := by
    intro z;induction z with
    | nil => intro h; cases h
    | cons p z ih =>
     intro h;rw [List.flatMap_cons, List.length_append];rcases List.mem_cons.1 h with rfl | h
     ·simp only; omega
     ·have := ih h; omega
   exact this _ ha
 have hb1 : Ty.str.beq y.2.1 y.2.1 = true := (beq_str _ _).2 rfl;refine Sm.chk ⟨hb1, ?_⟩ (Sm.chk (by rw [hM] at *; omega) (Sm.chk (by rw [List.length_append, hM] at *; omega) (Sm.chk ⟨hb1, by omega⟩ (hK2 _ ⟨?_, ?_⟩))))
 ·cases mget Ty.str.beq y.2.1 d2 with
  | none => exact .inr rfl
  | some v => exact .inl rfl
 ·have := mset_le (eq := Ty.str.beq) y.2.1 ((mget Ty.str.beq y.2.1 d2).getD [] ++ r.1 ++ r2.1) d2;omega
 ·simp only [List.length_append] at hs;rw [hM] at *;omega
theorem walkR_eq (fu : Nat) : ∀ n, famO (js := zq27) (jh := zq24) (rs := zq49) (rh := zq46) (fun F0 d => zq5 F0 fu d.1 d.2.1 d.2.2) n =
  walkG (Ty.str.pair Ty.str).beq (fun x (m : List (Rf × List Rf)) => (mget (Ty.str.pair Ty.str).beq x m).getD []) n
 | 0 => rfl
 | n + 1 => by
  have ih := walkR_eq fu n;funext d;simp only [famO, walkG];rw [ih];rfl
theorem walkS_eq (fu : Nat) : ∀ n, famO (js := zq28) (jh := zq25) (rs := zq50) (rh := zq47) (fun F0 d => zq9 F0 fu d.1 d.2.1 d.2.2) n =
  walkG Ty.str.beq (fun x (m : List (ByteArray × List ByteArray)) => (mget Ty.str.beq x m).getD []) n
 | 0 => rfl
 | n + 1 => by
  have ih := walkS_eq fu n;funext d;simp only [famO, walkG];rw [ih];rfl
def nxM {K : Type} (eq : K -> K -> Bool) (m : List (K × List K)) (x : K) : List K := (mget eq x m).getD []
theorem nx_mem {K : Type} {eq : K -> K -> Bool} {m : List (K × List K)} {x y : K} (h : y ∈ nxM eq m x) : y ∈ m.flatMap (·.2) := by
 unfold nxM at h;cases e : mget eq x m with
 | none => rw [e] at h; cases h
 | some v =>
  rw [e] at h;obtain ⟨a, ha⟩ := mget_mem e;exact List.mem_flatMap.2 ⟨_, ha, h⟩
theorem circR_ok (fu : Nat) [hf : Big fu] (all : List Rf) (m : List (Rf × List Rf)) (h : all.length + vsum m < LIM) :
  ∃ r, circle_Ref fu all m = some (r, m) := by
 have hf := hf.h
 obtain ⟨i, h1, _⟩ := walks_ok (eq := (Ty.str.pair Ty.str).beq) (nxm := fun x (m : List (Rf × List Rf)) => (mget (Ty.str.pair Ty.str).beq x m).getD []) m beq_ref (nx := nxM (Ty.str.pair Ty.str).beq m) (fun _ => rfl)
  (U := all ++ m.flatMap (·.2)) (fun x _ y hy => List.mem_append.2 (.inr (nx_mem hy))) (by rw [List.length_append, vsum_flat]; omega) (n := fu) (by rw [List.length_append, vsum_flat]; omega) all (fun x hx => List.mem_append.2 (.inl hx))
 refine ⟨decide (i >= 0), ?_⟩
 unfold circle_Ref zq0 zq2 circle_Ref_1
 rw [walkR_eq, Option.bind_assoc]
 exact h1
theorem circS_ok (fu : Nat) [hf : Big fu] (all : List ByteArray) (m : List (ByteArray × List ByteArray)) (h : all.length + vsum m < LIM) :
  ∃ r : Bool, zq7 fu all m = some (r, m) /\ (r = true ↔ ∃ x ∈ all, ¬ Acy (nxM Ty.str.beq m) x) := by
 have hf := hf.h
 obtain ⟨i, h1, h2⟩ := walks_ok (eq := Ty.str.beq) (nxm := fun x (m : List (ByteArray × List ByteArray)) => (mget Ty.str.beq x m).getD []) m beq_str (nx := nxM Ty.str.beq m) (fun _ => rfl)
  (U := all ++ m.flatMap (·.2)) (fun x _ y hy => List.mem_append.2 (.inr (nx_mem hy))) (by rw [List.length_append, vsum_flat]; omega) (n := fu) (by rw [List.length_append, vsum_flat]; omega) all (fun x hx => List.mem_append.2 (.inl hx))
 refine ⟨decide (i >= 0), ?_, by rw [decide_eq_true_iff]; exact h2⟩
 unfold zq7 zq1 zq3 zq8
 rw [walkS_eq, Option.bind_assoc]
 exact h1
theorem check_ok (fu : Nat) [hf : Big fu] (b : List Act) [hb : Fit b] : Sm (fun _ => True) (body_Check fu b) := by
 classical
 have hlim := lim_eq;have hM := M20_eq;unfold body_Check;refine Sm.bindT fun r hr => Sm.cond (fun _ => Sm.some trivial) fun e => ?_
 have hl := hr (not_ne0 e);haveI : Fact' (Lim b) := ⟨hl⟩;refine Sm.bind (parts_ok fu b hl) fun r _ => Sm.cond (fun _ => Sm.some trivial) fun _ => ?_
 obtain ⟨l1, l2⟩ := hl;refine Sm.for0 (fun k d => d.1.length <= k * 60 /\ vsum d.1 <= k * 60 * M20 /\ d.2.length <= k * 60) ⟨by simp, by simp [vsum], by simp⟩ (fun i x d K hi hx hI hK => ?_) fun d hd => ?_
 ·have hxm : x ∈ b := List.mem_of_getElem? hx;obtain ⟨f1, f2, f3, f4, f5⟩ := hb.act x hxm;obtain ⟨m1, m2⟩ := l2 x hxm;obtain ⟨i1, i2, i3⟩ := hI;refine Sm.for0 (fun k d2 => d2.1.length <= i * 60 + k /\ vsum d2.1 <= (i * 60 + k) * M20 /\ d2.2.1.length <= i * 60 + k /\ d2.2.2.length <= k) ⟨i1, i2, i3, by simp⟩ (fun j y d2 K2 hj hy hI2 hK2 => ?_) fun d2 hd2 => ?_
  ·obtain ⟨j1, j2, j3, j4⟩ := hI2;obtain ⟨g1, g2, g3⟩ := f5 y (List.mem_of_getElem? hy);refine Sm.bind (add_ok (fu := fu) y.1 d2.2.2 j j4 (by omega)) fun r hr => Sm.cond (fun _ => Sm.some trivial) fun e => ?_
   have hr := hr (not_ne0 e);refine Sm.bindT fun r2 _ => Sm.cond (fun _ => Sm.some trivial) fun _ => ?_
   refine Sm.chk (by omega) (Sm.chk (by omega) (hK2 _ ⟨?_, ?_, ?_, by simpa using hr⟩))
   ·have := mset_le (eq := (Ty.str.pair Ty.str).beq) (x.1, y.1) y.2.2.2.2.1 d2.1;simp only;omega
   ·have := vsum_set (Ty.str.pair Ty.str).beq (x.1, y.1) y.2.2.2.2.1 d2.1;simp only;rw [hM] at *;omega
   ·simp only [List.length_append, List.length_cons, List.length_nil]; omega
  ·obtain ⟨j1, j2, j3, j4⟩ := hd2;refine hK _ ⟨?_, ?_, ?_⟩
   ·show d2.1.length <= (i + 1) * 60
    omega
   ·exact Nat.le_trans j2 (Nat.mul_le_mul_right _ (by omega))
   ·show d2.2.1.length <= (i + 1) * 60
    omega
 ·obtain ⟨d1, d2, d3⟩ := hd;refine Sm.forT (fun i x s K hi hx hK => ?_) fun _ => ?_
  ·(repeat' (with_reducible (first | exact q0 trivial | apply q1 | apply q2 | apply q3 | (apply q4; assumption) | apply q5 | apply q6 | apply q7 | apply q8 | apply q9 | intro _)))
  ·obtain ⟨r, hr⟩ := circR_ok fu d.2 d.1 (by rw [hM] at *; omega);rw [hr, Option.bind_some];refine Sm.cond (fun _ => Sm.some trivial) fun _ => ?_
   refine Sm.bind (looks_ok fu b ⟨l1, l2⟩) fun l hl => ?_
   obtain ⟨v1, v2⟩ := hl;refine Sm.allR ?_;refine Sm.anyK (fun done s => s = done.map (·.1)) (if ∃ x ∈ l.map Prod.fst, ¬ Acy (nxM Ty.str.beq l) x then 10 else 0) trivial (fun done x s K' hx hlen hP hK' => ?_) rfl fun done s hp hP => ?_
   ·subst hP;rw [chk_eq' (by rw [List.length_map]; omega), Option.bind_some];exact hK' _ (by simp)
   ·subst hP;have hlen : (done.map (·.1)).length = l.length := by rw [List.length_map, hp.length_eq]
    obtain ⟨r, hr, hiff⟩ := circS_ok fu (done.map (·.1)) l (by rw [hlen]; rw [hM] at *; omega);rw [hr, Option.bind_some];have hiff2 : r = true ↔ ∃ x ∈ l.map (·.1), ¬ Acy (nxM Ty.str.beq l) x := by
     rw [hiff];constructor
     ·rintro ⟨x, hx, h⟩; exact ⟨x, (hp.map _).mem_iff.1 hx, h⟩
     ·rintro ⟨x, hx, h⟩; exact ⟨x, (hp.map _).mem_iff.2 hx, h⟩
    cases r with
    | true => rw [if_pos (hiff2.1 rfl)]; rfl
    | false => rw [if_neg (fun h => by cases hiff2.2 h)]; rfl
end Go.Proofs.YtgpioploehgpdaaGreat
set_option linter.unusedVariables false
set_option linter.unusedSimpArgs false
namespace Go.Proofs.YtgpioploehgpdaaGreat
open Go.PG Go.PG.PH
def bd (t : Ty) (x : t.D) : Nat := V.bulkL (t.cells x)
theorem enc_bd : ∀ (t : Ty) (x : t.D), (t.enc x).bulk = bd t x
 | .int _, _ => by simp [Ty.enc, Ty.isA, mkV, Ty.cells, bd, V.bulk, V.bulkL]
 | .bool, _ => by simp [Ty.enc, Ty.isA, mkV, Ty.cells, bd, V.bulk, V.bulkL]
 | .str, _ => by simp [Ty.enc, Ty.isA, mkV, Ty.cells, bd, V.bulk, V.bulkL]
 | .list _, _ => by simp [Ty.enc, Ty.isA, mkV, Ty.cells, bd, V.bulk, V.bulkL]
 | .map _ _, _ => by simp [Ty.enc, Ty.isA, mkV, Ty.cells, bd, V.bulk, V.bulkL]
 | .unit, _ => by simp [Ty.enc, Ty.isA, mkV, Ty.cells, bd, V.bulk, V.bulkL]
 | .box a, _ => by simp [Ty.enc, Ty.isA, mkV, bd, V.bulk]
 | .pair a b, _ => by simp [Ty.enc, Ty.isA, mkV, bd, V.bulk]
theorem bd_pair (a b : Ty) (x : a.D × b.D) : bd (.pair a b) x = bd a x.1 + bd b x.2 := by
 unfold bd;rw [show (Ty.pair a b).cells x = a.cells x.1 ++ b.cells x.2 from rfl, bulkL_append]
theorem bd_list (t : Ty) (l : List t.D) : bd (.list t) l = V.bulkL (l.map t.enc) + 1 := by
 unfold bd;rw [show (Ty.list t).cells l = [.sl t.size (l.map t.enc)] from rfl];simp [V.bulkL, V.bulk]
theorem bd_int (k : IntKind) (x : Int) : bd (.int k) x = 1 := by simp [bd, Ty.cells, V.bulk, V.bulkL]
theorem bd_str (x : ByteArray) : bd .str x = x.size + 1 := by simp [bd, Ty.cells, V.bulk, V.bulkL]
theorem bd_mem {t : Ty} {x : t.D} : ∀ {l : List t.D}, x ∈ l -> bd t x <= bd (.list t) l
 | y :: l, h => by
  rw [bd_list, List.map_cons, V.bulkL, enc_bd];rcases List.mem_cons.1 h with rfl | h
  ·omega
  ·have := bd_mem h;rw [bd_list] at this;omega
theorem bd_len {t : Ty} (h : ∀ x, 1 <= bd t x) : ∀ l : List t.D, l.length <= bd (.list t) l
 | [] => Nat.zero_le _
 | x :: l => by
  have h1 := bd_len h l;have h2 := h x;rw [bd_list] at h1;rw [bd_list, List.map_cons, V.bulkL, enc_bd, List.length_cons];omega
theorem bd_sum {t : Ty} (f : t.D -> Nat) (h : ∀ x, f x <= bd t x) : ∀ l : List t.D, (l.map f).sum <= bd (.list t) l
 | [] => Nat.zero_le _
 | x :: l => by
  have h1 := bd_sum f h l;have h2 := h x;rw [bd_list] at h1;rw [bd_list, List.map_cons, V.bulkL.eq_def, List.map_cons, List.sum_cons];simp only [enc_bd];omega
abbrev tyI : Ty := .int .i64
abbrev tyNd : Ty := .pair tyI (.pair (.list tyI) (.pair tyI (.pair tyI .str)))
abbrev tyAt : Ty := .pair .str (.pair tyI (.pair .bool (.pair tyI (.pair tyI (.pair tyI tyI)))))
abbrev tySt : Ty := .pair tyI tyI
abbrev tyTb : Ty := .pair .str (.pair tyI (.pair tyI (.pair .bool (.list tySt))))
abbrev tyRf : Ty := .pair .str .str
abbrev tyAr : Ty := .pair .str (.pair .str (.pair (.list tyNd) (.pair (.list tyNd) (.pair (.list tyRf) tyI))))
abbrev tyAct : Ty := .pair .str (.pair tyI (.pair tyI (.pair (.list tyAt) (.pair (.list tyTb) (.list tyAr)))))
abbrev tyPt : Ty := .pair tyI tyI
abbrev tyDm : Ty := .pair tyI (.pair .str (.pair tyI tyI))
abbrev tyVw : Ty := .pair tyI (.pair (.list tyPt) (.list tyDm))
theorem one_int (k : IntKind) (x : Int) : 1 <= bd (.int k) x := by rw [bd_int]; omega
theorem one_str (x : ByteArray) : 1 <= bd .str x := by rw [bd_str]; omega
theorem one_pair {a b : Ty} (h : ∀ x, 1 <= bd a x) (x : a.D × b.D) : 1 <= bd (.pair a b) x := by
 have := h x.1;rw [bd_pair]; omega
theorem fitX_of (l : List Nd) (h : bd (.list tyNd) l <= M20) : FitX l := by
 have h1 := bd_len (t := tyNd) (one_pair (one_int _)) l;refine ⟨Nat.le_trans h1 h, fun n hn => ?_⟩;have h2 := bd_mem (t := tyNd) hn;have h3 := bd_len (t := tyI) (one_int _) n.2.1;have h4 : bd tyNd n = bd tyI n.1 + (bd (.list tyI) n.2.1 + bd (.pair tyI (.pair tyI .str)) n.2.2) := by
  unfold tyNd;rw [bd_pair, bd_pair]
 omega
theorem bd_act (a : Act) : bd tyAct a = bd .str a.1 + (bd tyI a.2.1 + (bd tyI a.2.2.1 + (bd (.list tyAt) a.2.2.2.1 + (bd (.list tyTb) a.2.2.2.2.1 + bd (.list tyAr) a.2.2.2.2.2)))) := by
 simp only [bd_pair]
theorem bd_tb (t : Tb) : bd tyTb t = bd .str t.1 + (bd tyI t.2.1 + (bd tyI t.2.2.1 + (bd .bool t.2.2.2.1 + bd (.list tySt) t.2.2.2.2))) := by
 simp only [bd_pair]
theorem bd_ar (x : Ar) : bd tyAr x = bd .str x.1 + (bd .str x.2.1 + (bd (.list tyNd) x.2.2.1 + (bd (.list tyNd) x.2.2.2.1 + (bd (.list tyRf) x.2.2.2.2.1 + bd tyI x.2.2.2.2.2)))) := by
 simp only [bd_pair]
theorem fit_of (b : List Act) (h : bd (.list tyAct) b <= M20) : Fit b := by
 refine ⟨Nat.le_trans (bd_len (t := tyAct) (one_pair one_str) b) h, ?_, fun a ha => ?_⟩
 ·have h1 := bd_sum (t := tyAct) (fun a : Act => a.2.2.2.1.length) (fun a => by
   have h2 := bd_len (t := tyAt) (one_pair one_str) a.2.2.2.1;have h3 := bd_act a;omega) b
  rw [List.length_flatMap];exact Nat.le_trans h1 h
 ·have h1 := bd_mem (t := tyAct) ha;have h2 := bd_act a;have k1 := bd_len (t := tyAt) (one_pair one_str) a.2.2.2.1;have k2 := bd_len (t := tyTb) (one_pair one_str) a.2.2.2.2.1;have k3 := bd_len (t := tyAr) (one_pair one_str) a.2.2.2.2.2;refine ⟨by omega, by omega, by omega, fun t ht => ?_, fun x hx => ?_⟩
  ·have h3 := bd_mem (t := tyTb) ht;have h4 := bd_tb t;have h5 := bd_len (t := tySt) (one_pair (one_int _)) t.2.2.2.2;omega
  ·have h3 := bd_mem (t := tyAr) hx;have h4 := bd_ar x;have h5 := bd_len (t := tyRf) (one_pair one_str) x.2.2.2.2.1;exact ⟨fitX_of _ (by omega), fitX_of _ (by omega), by omega⟩
end Go.Proofs.YtgpioploehgpdaaGreat
set_option linter.unusedVariables false
set_option linter.unusedSimpArgs false
set_option maxRecDepth 100000
namespace Go.Proofs.YtgpioploehgpdaaGreat
open Go.PG Go.PG.PH
abbrev Dm := Int × ByteArray × Int × Int
abbrev Pt := Int × Int
abbrev Vw := Int × List Pt × List Dm
section
variable {α S R : Type}
def ffirst (f : Nat -> α -> Int) : Nat -> List α -> Int
 | _, [] => 0
 | k, x :: xs => if f k x = 0 then ffirst f (k + 1) xs else f k x
theorem ffirst_at {f : Nat -> α -> Int} : ∀ {l : List α} {k i : Nat} {x : α}, l[i]? = some x -> (∀ j y, j < i -> l[j]? = some y -> f (k + j) y = 0) -> f (k + i) x ≠ 0 -> ffirst f k l = f (k + i) x
 | [], _, _, _, h, _, _ => by simp at h
 | y :: l, k, 0, x, h, _, hn => by
  simp only [List.getElem?_cons_zero, Option.some.injEq] at h;subst h;simp only [ffirst];rw [Nat.add_zero] at hn ⊢;rw [if_neg hn, Nat.add_zero]
 | y :: l, k, i + 1, x, h, hz, hn => by
  have h0 := hz 0 y (by omega) (by simp);rw [Nat.add_zero] at h0;simp only [ffirst];rw [if_pos h0, show k + (i + 1) = k + 1 + i by omega];refine ffirst_at (by simpa using h) (fun j z hj hz' => ?_) (by rw [show k + 1 + i = k + (i + 1) by omega]; exact hn);have := hz (j + 1) z (by omega) (by simpa using hz');rw [show k + 1 + j = k + (j + 1) by omega]; exact this
theorem ffirst_zero {f : Nat -> α -> Int} : ∀ {l : List α} {k : Nat}, (∀ j y, l[j]? = some y -> f (k + j) y = 0) -> ffirst f k l = 0
 | [], _, _ => rfl
 | y :: l, k, hz => by
  have h0 := hz 0 y (by simp);rw [Nat.add_zero] at h0;simp only [ffirst];rw [if_pos h0];refine ffirst_zero fun j z hz' => ?_
  have := hz (j + 1) z (by simpa using hz');rw [show k + 1 + j = k + (j + 1) by omega]; exact this
theorem Sm.ff {E : R} (g : Int -> R) {f : Nat -> α -> Int} {body : Nat -> α -> S -> (S -> Option R) -> Option R} {K : S -> Option R} (I : Nat -> S -> Prop) {l : List α} {s : S} (h0 : I 0 s)
  (hE : ffirst f 0 l ≠ 0 -> E = g (ffirst f 0 l))
  (hb : ∀ (i : Nat) (x : α) (s : S) (K : S -> Option R), i < l.length -> l[i]? = some x -> I i s -> (f i x ≠ 0 -> E = g (f i x)) -> (f i x = 0 -> ∀ s', I (i + 1) s' -> Sm (fun r => r = E) (K s')) -> Sm (fun r => r = E) (body i x s K))
  (hK : ∀ s, I l.length s -> ffirst f 0 l = 0 -> Sm (fun r => r = E) (K s)) : Sm (fun r => r = E) (forK body 0 l s K) := by
 refine Sm.for0 (fun i s => I i s /\ ∀ j y, j < i -> l[j]? = some y -> f j y = 0) ⟨h0, by intro j y h; omega⟩ (fun i x s K hi hx hI hK => ?_) fun s hs => hK s hs.1 (ffirst_zero fun j y hy => by
  rw [Nat.zero_add]; exact hs.2 j y (List.getElem?_eq_some_iff.1 hy).1 hy)
 refine hb i x s K hi hx hI.1 (fun hn => ?_) fun hz s' hs' => hK s' ⟨hs', fun j y hj hy => ?_⟩
 ·have := ffirst_at (f := f) (k := 0) hx (fun j y hj hy => by rw [Nat.zero_add]; exact hI.2 j y hj hy) (by rw [Nat.zero_add]; exact hn);rw [Nat.zero_add] at this;rw [hE (by rw [this]; exact hn), this]
 ·by_cases hji : j < i
  ·exact hI.2 j y hji hy
  ·have : j = i := by omega
   subst this;rw [hx] at hy;cases hy;exact hz
def fidx (p : α -> Bool) : Nat -> List α -> Int
 | _, [] => -1
 | k, x :: xs => bif p x then (k : Int) else fidx p (k + 1) xs
theorem fidx_any (p : α -> Bool) : ∀ (l : List α) (k : Nat), decide (fidx p k l >= 0) = l.any p
 | [], k => rfl
 | x :: l, k => by
  have ih := fidx_any p l (k + 1);simp only [fidx, List.any_cons];by_cases e : p x = true
  ·simp [e]
  ·have e : p x = false := by simpa using e
   simpa [e] using ih
theorem fidx_lt (p : α -> Bool) : ∀ (l : List α) (k : Nat), 0 <= fidx p k l -> ∃ i : Nat, fidx p k l = ((k + i : Nat) : Int) /\ i < l.length
 | [], k, h => by simp [fidx] at h
 | x :: l, k, h => by
  simp only [fidx] at h ⊢;cases e : p x with
  | true => exact ⟨0, by simp, by simp⟩
  | false =>
   simp only [e, cond_false] at h ⊢;obtain ⟨i, h1, h2⟩ := fidx_lt p l (k + 1) h;exact ⟨i + 1, by rw [h1]; congr 1; omega, by simpa using h2⟩
theorem forK_fidx {C : Type} (p : α -> Bool) (g : Int -> C -> R) (c : C) (l0 : List α) {body : Nat -> α -> C -> (C -> Option R) -> Option R}
  (hb : ∀ k x K, l0[k]? = some x -> body k x c K = bif p x then some (g (k : Int) c) else K c) :
  ∀ (l : List α) (k : Nat), l0.drop k = l -> forK body k l c (fun d => some (g (-1) d)) = some (g (fidx p k l) c)
 | [], k, _ => rfl
 | x :: l, k, hd => by
  have hx : l0[k]? = some x := by
   have : (l0.drop k)[0]? = some x := by rw [hd]; rfl
   simpa using this
  simp only [forK, fidx];rw [hb k x _ hx];cases p x with
  | true => rfl
  | false =>
   simp only [cond_false];exact forK_fidx p g c l0 hb l (k + 1) (by rw [<- List.drop_drop, hd]; rfl)
end
theorem idx_at {α : Type} {l : List α} {k : Nat} {x : α} (h : l[k]? = some x) : idx l (k : Int) = some x := by
 unfold idx; rw [if_pos (by omega)]; simpa using h
def ahd (x d : Dm) : Bool := decide (x.1 < d.1) || (x.1 == d.1 && Op.bytesLess x.2.1.toList d.2.1.toList)
theorem cmpI (a b : Int) : zq11 a b = some (bif decide (a < b) then -1 else bif decide (a > b) then 1 else 0) := by
 simp [zq11, zq14];cases decide (a < b) <;> cases decide (b < a) <;> rfl
theorem cmpS (a b : ByteArray) : zq12 a b = some (bif Op.bytesLess a.toList b.toList then -1 else bif !(Op.bytesLess a.toList b.toList || a.toList == b.toList) then 1 else 0) := by
 simp [zq12, zq15];cases Op.bytesLess a.toList b.toList <;> cases a.toList == b.toList <;> rfl
theorem cmpOr (a b : Int) : cmp_Or_int_ [a, b] = some (bif a != 0 then a else bif b != 0 then b else 0) := by
 simp only [cmp_Or_int_, forK];cases a != 0 <;> cases b != 0 <;> rfl
theorem order_eq (x d : Dm) : ∃ o : Int, view_order x d = some o /\ decide (o >= 0) = !ahd x d := by
 refine ⟨_, by simp only [view_order, cmpI, cmpS, cmpOr, Option.bind_some]; rfl, ?_⟩;unfold ahd;rcases Int.lt_trichotomy x.1 d.1 with h | h | h
 ·simp [h]
 ·simp only [h, Int.lt_irrefl, decide_false, cond_false, gt_iff_lt, beq_self_eq_true, Bool.true_and, Bool.false_or, bne_self_eq_false];cases h1 : Op.bytesLess x.2.1.toList d.2.1.toList <;> cases h2 : x.2.1.toList == d.2.1.toList <;> rfl
 ·have h1 : ¬ x.1 < d.1 := by omega
  have h2 : ¬ x.1 = d.1 := by omega
  simp [h1, h2, h]
theorem Ahead_eq (x d : Dm) : zq33 x d = some (ahd x d) := by
 unfold zq33 ahd;cases decide (x.1 < d.1) <;> cases x.1 == d.1 <;> rfl
theorem has1 (l : List Pt) (a b : Int) : zq58 l a b = some (l.any (fun x => x.1 == a), a, b) := by
 unfold zq58 zq69;rw [forK_fidx (fun x : Pt => x.1 == a) (fun i (c : Int × Int) => ((i, c.1, c.2) : Int × Int × Int)) (a, b) l (fun k x K hx => by
  simp only [idx_at hx, Option.bind_some, view_Form_1]) l 0 rfl]
 simp only [Option.bind_some, fidx_any]
theorem has2 (l : List Pt) (a : Int) (b : ByteArray) (c d : Int) : zq59 l a b c d = some (l.any (fun x => x.1 == a), a, b, c, d) := by
 unfold zq59 zq70;rw [forK_fidx (fun x : Pt => x.1 == a) (fun i (c : Int × ByteArray × Int × Int) => ((i, c.1, c.2.1, c.2.2.1, c.2.2.2) : Int × Int × ByteArray × Int × Int)) (a, b, c, d) l (fun k x K hx => by
  simp only [idx_at hx, Option.bind_some, view_Form_2]) l 0 rfl]
 simp only [Option.bind_some, fidx_any]
theorem at2 (l : List At) (a : Int) (b : ByteArray) (c d : Int) : zq67 l a b c d = some (fidx (fun x => x.1.toList == b.toList) 0 l, a, b, c, d) := by
 unfold zq67;exact forK_fidx (fun x : At => x.1.toList == b.toList) (fun i (c : Int × ByteArray × Int × Int) => ((i, c.1, c.2.1, c.2.2.1, c.2.2.2) : Int × Int × ByteArray × Int × Int)) (a, b, c, d) l (fun k x K hx => by
  simp only [idx_at hx, Option.bind_some, view_Fits_1]) l 0 rfl
def fP (P : List Pt) (i : Nat) (x : Pt) : Int := if x.1 < 0 then 1 else if (P.take i).any (fun y => y.1 == x.1) then 5 else 0
def fD (P : List Pt) (D : List Dm) (i : Nat) (x : Dm) : Int := if P.any (fun y => y.1 == x.1) then (if 0 < i /\ (D[i - 1]?.map fun y => ahd y x) ≠ some true then 9 else 0) else 4
def fF (l : List At) (x : Dm) : Int := match fidx (fun a : At => a.1.toList == x.2.1.toList) 0 l with
 | .ofNat i => match l[i]? with
  | some a => if a.2.2.1 then (if x.2.2.1 ≠ a.2.1 then 8 else if x.2.2.2 < a.2.2.2.1 \/ a.2.2.2.2.1 < x.2.2.2 then 1 else 0) else 19
  | none => 0
 | .negSucc _ => 15
def formS (v : Vw) : Int :=
 if 30 < v.2.1.length \/ 1200 < v.2.2.length then 2 else if v.1 < 0 \/ 1048576 <= v.1 then 1
 else if ffirst (fP v.2.1) 0 v.2.1 ≠ 0 then ffirst (fP v.2.1) 0 v.2.1 else ffirst (fD v.2.1 v.2.2) 0 v.2.2
def fitS (l : List At) (v : Vw) : Int := if formS v ≠ 0 then formS v else ffirst (fun _ x => fF l x) 0 v.2.2
theorem form_ok (v : Vw) (h1 : v.2.1.length <= M20) (h2 : v.2.2.length <= M20) : Sm (fun r => r = formS v) (view_Form v) := by
 have hlim := lim_eq;have hM := M20_eq;obtain ⟨day, P, D⟩ := v;simp only at h1 h2;unfold view_Form;simp only;refine Sm.join (fun d => d = true ↔ (30 < P.length \/ 1200 < D.length)) (fun d hd => ?_) fun K hK => ?_
 ·refine Sm.cond (fun e => Sm.some ?_) fun e => ?_
  ·unfold formS; rw [if_pos (hd.1 e)]
  have n1 : ¬ (30 < P.length \/ 1200 < D.length) := fun h => by rw [hd.2 h] at e; cases e
  refine Sm.join (fun d => d = true ↔ (day < 0 \/ 1048576 <= day)) (fun d2 hd2 => ?_) fun K hK => ?_
  ·refine Sm.cond (fun e2 => Sm.some ?_) fun e2 => ?_
   ·unfold formS; rw [if_neg n1, if_pos (hd2.1 e2)]
   have n2 : ¬ (day < 0 \/ 1048576 <= day) := fun h => by rw [hd2.2 h] at e2; cases e2
   have hE : formS (day, P, D) = if ffirst (fP P) 0 P ≠ 0 then ffirst (fP P) 0 P else ffirst (fD P D) 0 D := by unfold formS; rw [if_neg n1, if_neg n2]
   rw [hE];refine Sm.ff id (f := fP P) (fun _ _ => True) trivial (fun h => by rw [if_pos h]; rfl) (fun i x s K hi hx _ hf hK => ?_) fun s _ hz => ?_
   ·refine Sm.cond (fun e => Sm.some ?_) fun e => ?_
    ·have e := of_decide_eq_true e;have : fP P i x = 1 := by unfold fP; rw [if_pos e]
     rw [hf (by omega), this]; rfl
    have e := of_decide_eq_false e;refine Sm.chk ⟨by omega, by omega⟩ ?_;rw [has1, Option.bind_some, show ((i : Int)).toNat = i by omega];refine Sm.cond (fun e3 => Sm.some ?_) fun e3 => ?_
    ·have : fP P i x = 5 := by unfold fP; rw [if_neg e, if_pos e3]
     rw [hf (by omega), this]; rfl
    ·have e3 : (P.take i).any (fun y => y.1 == x.1) = false := e3;refine hK ?_ _ trivial;unfold fP; rw [if_neg e, if_neg (by rw [e3]; simp)]
   ·rw [if_neg (by rw [hz]; simp)];refine Sm.ff id (f := fD P D) (fun _ _ => True) trivial (fun h => rfl) (fun i x s K hi hx _ hf hK => ?_) fun s _ hz => Sm.some hz.symm
    rw [has2, Option.bind_some];refine Sm.cond (fun e => Sm.some ?_) fun e => ?_
    ·have e : P.any (fun y => y.1 == x.1) = false := by simpa using e
     have : fD P D i x = 4 := by unfold fD; rw [if_neg (by rw [e]; simp)]
     rw [hf (by omega), this]; rfl
    have e : P.any (fun y => y.1 == x.1) = true := by simpa using e
    refine Sm.join (fun d => d = true ↔ fD P D i x = 9) (fun d hd => ?_) fun K2 hK2 => ?_
    ·have h01 : fD P D i x = 9 \/ fD P D i x = 0 := by
      unfold fD; rw [if_pos e]; split
      ·exact .inl rfl
      ·exact .inr rfl
     refine Sm.cond (fun e4 => Sm.some ?_) fun e4 => ?_
     ·rw [hf (by rw [hd.1 e4]; simp), hd.1 e4]; rfl
     ·refine hK ?_ _ trivial;rcases h01 with h | h
      ·rw [hd.2 h] at e4; cases e4
      ·exact h
    ·refine Sm.cond (fun e5 => ?_) fun e5 => ?_
     ·have e5 := of_decide_eq_true e5;rw [wrap64 (by omega) (by omega)];refine Sm.idx (by omega) (by omega) fun y hy => ?_
      obtain ⟨o, ho, hoa⟩ := order_eq y x;rw [show view_order (y.1, y.2.1, y.2.2.1, y.2.2.2) (x.1, x.2.1, x.2.2.1, x.2.2.2) = some o from ho, Option.bind_some];refine hK2 _ ?_;rw [hoa];rw [show ((i : Int) - 1).toNat = i - 1 by omega] at hy;unfold fD;rw [if_pos e, hy, Option.map_some];have e5' : 0 < i := by omega
      cases ahd y x with
      | true => rw [if_neg (by simp)]; simp
      | false => rw [if_pos ⟨e5', by simp⟩]; simp
     ·have e5 := of_decide_eq_false e5;refine hK2 _ ?_;unfold fD;rw [if_pos e, if_neg (by rintro ⟨h, _⟩; omega)];simp
  ·refine Sm.cond (fun e => hK _ ?_) fun e => hK _ ?_
   ·have e := of_decide_eq_true e;simp [e]
   ·have e := of_decide_eq_false e;rw [decide_eq_true_eq];omega
 ·refine Sm.cond (fun e => hK _ ?_) fun e => hK _ ?_
  ·have e := of_decide_eq_true e;simp; omega
  ·have e := of_decide_eq_false e;rw [decide_eq_true_eq];omega
theorem fF_neg {l : List At} {x : Dm} (h : fidx (fun a : At => a.1.toList == x.2.1.toList) 0 l < 0) : fF l x = 15 := by
 unfold fF;cases e : fidx (fun a : At => a.1.toList == x.2.1.toList) 0 l with
 | ofNat n => rw [e] at h; have : (0 : Int) <= Int.ofNat n := Int.natCast_nonneg n; omega
 | negSucc n => rfl
theorem fF_pos {l : List At} {x : Dm} {i : Nat} {a : At} (h : fidx (fun a : At => a.1.toList == x.2.1.toList) 0 l = (i : Int)) (ha : l[i]? = some a) :
  fF l x = if a.2.2.1 then (if x.2.2.1 ≠ a.2.1 then 8 else if x.2.2.2 < a.2.2.2.1 \/ a.2.2.2.2.1 < x.2.2.2 then 1 else 0) else 19 := by
 unfold fF
 rw [h]
 simp only [ha]
theorem fits_ok (l : List At) (v : Vw) (h1 : v.2.1.length <= M20) (h2 : v.2.2.length <= M20) : Sm (fun r => r = fitS l v) (view_Fits l v) := by
 obtain ⟨day, P, D⟩ := v;unfold view_Fits;refine Sm.bind (form_ok (day, P, D) h1 h2) fun r hr => ?_
 subst hr;refine Sm.cond (fun e => Sm.some ?_) fun e => ?_
 ·unfold fitS; rw [if_pos (by simpa using e)]
 have e := not_ne0 e;have hE : fitS l (day, P, D) = ffirst (fun _ x => fF l x) 0 D := by unfold fitS; rw [if_neg (by simpa using e)]
 rw [hE];refine Sm.ff id (f := fun _ x => fF l x) (fun _ _ => True) trivial (fun _ => rfl) (fun i x s K hi hx _ hf hK => ?_) fun s _ hz => Sm.some hz.symm
 rw [at2, Option.bind_some];refine Sm.cond (fun e => Sm.some ?_) fun e => ?_
 ·have := fF_neg (of_decide_eq_true e);rw [hf (by rw [this]; simp), this]; rfl
 have e := of_decide_eq_false e;simp only at e ⊢;obtain ⟨j, hj, hjl⟩ := fidx_lt (fun a : At => a.1.toList == x.2.1.toList) l 0 (by omega);rw [Nat.zero_add] at hj;have hs := fF_pos (x := x) hj (List.getElem?_eq_getElem hjl);have hidx : idx l (fidx (fun a : At => a.1.toList == x.2.1.toList) 0 l) = some l[j] := by rw [hj]; exact idx_at (List.getElem?_eq_getElem hjl)
 simp only [hidx, Option.bind_some];generalize l[j] = a at hs;refine Sm.cond (fun e => Sm.some ?_) fun e => ?_
 ·have e : a.2.2.1 = false := by simpa using e
  rw [e] at hs;have hs : fF l x = 19 := hs;rw [hf (by rw [hs]; simp), hs]; rfl
 have e : a.2.2.1 = true := by simpa using e
 rw [if_pos e] at hs;refine Sm.cond (fun e => Sm.some ?_) fun e => ?_
 ·have e : x.2.2.1 ≠ a.2.1 := by simpa using e
  rw [if_pos e] at hs;rw [hf (by rw [hs]; simp), hs]; rfl
 have e : ¬ x.2.2.1 ≠ a.2.1 := by simpa using e
 rw [if_neg e] at hs;refine Sm.join (fun d => d = true ↔ (x.2.2.2 < a.2.2.2.1 \/ a.2.2.2.2.1 < x.2.2.2)) (fun d hd => ?_) fun K2 hK2 => ?_
 ·refine Sm.cond (fun e => Sm.some ?_) fun e => hK ?_ _ trivial
  ·rw [if_pos (hd.1 e)] at hs;rw [hf (by rw [hs]; simp), hs]; rfl
  ·rw [if_neg (fun h => by rw [hd.2 h] at e; cases e)] at hs;exact hs
 ·refine Sm.cond (fun e => hK2 _ ?_) fun e => hK2 _ ?_
  ·have e := of_decide_eq_true e;simp [e]
  ·have e := of_decide_eq_false e;rw [decide_eq_true_eq];omega
theorem viewed_ok : zq32 = some true := by kernel_rfl
end Go.Proofs.YtgpioploehgpdaaGreat
set_option linter.unusedVariables false
set_option linter.unusedSimpArgs false
set_option maxRecDepth 100000
set_option maxHeartbeats 2000000
namespace Go.PG.PH
structure SWO {α : Type} (lt : α -> α -> Bool) : Prop where
 irr : ∀ x, lt x x = false
 tr : ∀ x y z, lt x y = true -> lt y z = true -> lt x z = true
 ntr : ∀ x y z, lt x y = false -> lt y z = false -> lt x z = false
theorem SWO.asy {α : Type} {lt : α -> α -> Bool} (h : SWO lt) {x y : α} (e : lt x y = true) : lt y x = false := by
 cases e2 : lt y x with
 | false => rfl
 | true =>
  have := h.tr x y x e e2;rw [h.irr] at this;cases this
section
variable {α : Type} {lt : α -> α -> Bool}
def same (lt : α -> α -> Bool) (k x : α) : Bool := !lt x k && !lt k x
def SF (lt : α -> α -> Bool) (X Y : List α) : Prop := ∀ k, X.filter (same lt k) = Y.filter (same lt k)
def Srt (lt : α -> α -> Bool) (X : List α) : Prop := X.Pairwise fun x y => lt y x = false
theorem SF.refl (X : List α) : SF lt X X := fun _ => rfl
theorem SF.symm {X Y : List α} (h : SF lt X Y) : SF lt Y X := fun k => (h k).symm
theorem SF.trans {X Y Z : List α} (h : SF lt X Y) (h' : SF lt Y Z) : SF lt X Z := fun k => (h k).trans (h' k)
theorem SF.app {X Y X' Y' : List α} (h : SF lt X Y) (h' : SF lt X' Y') : SF lt (X ++ X') (Y ++ Y') := fun k => by
 rw [List.filter_append, List.filter_append, h k, h' k]
theorem SF.swap {U V : List α} (hlt : SWO lt) (h : ∀ u ∈ U, ∀ v ∈ V, lt v u = true) : SF lt (U ++ V) (V ++ U) := fun k => by
 rw [List.filter_append, List.filter_append];cases e : U.filter (same lt k) with
 | nil => simp
 | cons u l =>
  have hu : u ∈ U.filter (same lt k) := by rw [e]; simp
  obtain ⟨hu1, hu2⟩ := List.mem_filter.1 hu;have : V.filter (same lt k) = [] := by
   rw [List.filter_eq_nil_iff];intro v hv hs;unfold same at hu2 hs;simp only [Bool.and_eq_true, Bool.not_eq_true'] at hu2 hs;have h1 := hlt.ntr v k u hs.1 hu2.2;rw [h u hu1 v hv] at h1;cases h1
  rw [this]; simp
theorem SF.mem (hlt : SWO lt) {X Y : List α} (h : SF lt X Y) {x : α} (hx : x ∈ X) : x ∈ Y := by
 have : x ∈ X.filter (same lt x) := List.mem_filter.2 ⟨hx, by simp [same, hlt.irr]⟩;rw [h x] at this;exact (List.mem_filter.1 this).1
theorem srt_uniq (hlt : SWO lt) : ∀ {X Y : List α}, Srt lt X -> Srt lt Y -> SF lt X Y -> X = Y
 | [], [], _, _, _ => rfl
 | [], y :: Y, _, _, h => by have := (h.symm).mem hlt (x := y) (by simp); cases this
 | x :: X, [], _, _, h => by have := h.mem hlt (x := x) (by simp); cases this
 | x :: X, y :: Y, hX, hY, h => by
  have e : x = y := by
   have hx := h.mem hlt (x := x) (by simp);have hy := h.symm.mem hlt (x := y) (by simp);have h1 : lt x y = false := by
    rcases List.mem_cons.1 hx with rfl | hx
    ·exact hlt.irr _
    ·exact (List.pairwise_cons.1 hY).1 x hx
   have h2 : lt y x = false := by
    rcases List.mem_cons.1 hy with rfl | hy
    ·exact hlt.irr _
    ·exact (List.pairwise_cons.1 hX).1 y hy
   have h3 := h x;rw [List.filter_cons_of_pos (by simp [same, hlt.irr]), List.filter_cons_of_pos (by simp [same, h1, h2])] at h3;injection h3
  subst e;rw [srt_uniq hlt (List.pairwise_cons.1 hX).2 (List.pairwise_cons.1 hY).2 (fun k => by
   have h3 := h k;by_cases hs : same lt k x = true
   ·rw [List.filter_cons_of_pos hs, List.filter_cons_of_pos hs] at h3;injection h3
   ·rw [List.filter_cons_of_neg hs, List.filter_cons_of_neg hs] at h3;exact h3)]
theorem get_mid (A B : List α) (x : α) : (A ++ x :: B)[A.length]? = some x := by simp
theorem set_mid (A B : List α) (x y : α) : (A ++ x :: B).set A.length y = A ++ y :: B := by simp
theorem srt_app {X Y : List α} (hX : Srt lt X) (hY : Srt lt Y) (h : ∀ x ∈ X, ∀ y ∈ Y, lt y x = false) : Srt lt (X ++ Y) := List.pairwise_append.2 ⟨hX, hY, h⟩
theorem srt_split {X Y : List α} (h : Srt lt (X ++ Y)) : Srt lt X /\ Srt lt Y /\ ∀ x ∈ X, ∀ y ∈ Y, lt y x = false := List.pairwise_append.1 h
def CmpOk (cmp : α -> α -> Option Int) (lt : α -> α -> Bool) : Prop := ∀ x y, ∃ r, cmp x y = some r /\ decide (r < 0) = lt x y
theorem insG_ok {cmp : α -> α -> Option Int} (hlt : SWO lt) (hc : CmpOk cmp lt) {fu : Nat} (hfu : LIM < fu) (P X S : List α) (hl : (P ++ X ++ S).length <= LIM) :
  Sm (fun r => ∃ X', r = P ++ X' ++ S /\ SF lt X X' /\ X'.length = X.length /\ Srt lt X') (insG cmp fu P.length ((P.length : Int) + X.length) (P ++ X ++ S)) := by
 have hlim : LIM = 4294967296 := by rfl
 simp only [List.length_append] at hl
 unfold insG
 rw [wrap64 (by omega) (by omega)]
 cases X with
 | nil =>
  obtain ⟨n, rfl⟩ : ∃ n, fu = n + 1 := ⟨fu - 1, by omega⟩;simp only [whK];refine Sm.cond (fun e => ?_) fun _ => Sm.some ⟨[], by simp, SF.refl _, rfl, List.Pairwise.nil⟩
  have e := of_decide_eq_true e;simp only [List.length_nil] at e;omega
 | cons x0 X0 =>
  simp only [List.length_cons] at hl;refine Sm.whK (fun d : Int × List α => ∃ X1 Y Z, x0 :: X0 = X1 ++ Z /\ Y.length = X1.length /\ SF lt X1 Y /\ Srt lt Y /\ d.2 = P ++ Y ++ Z ++ S /\ d.1 = (P.length : Int) + Y.length) (fun d => ((P.length : Int) + (x0 :: X0).length - d.1).toNat)
   (fun d self hI hself => ?_) fu _ ⟨[x0], [x0], X0, rfl, rfl, SF.refl _, List.pairwise_singleton _ _, by simp, by simp⟩ (by simp only [List.length_cons]; omega)
  obtain ⟨i, t⟩ := d;obtain ⟨X1, Y, Z, hX, hYl, hSF, hS, ht, hi⟩ := hI;simp only at ht hi ⊢;have hXl := congrArg List.length hX;simp only [List.length_append, List.length_cons] at hXl;refine Sm.cond (fun e => ?_) fun e => ?_
  ·have e := of_decide_eq_true e;simp only [List.length_cons] at e;cases Z with
   | nil => simp only [List.length_nil] at hXl; omega
   | cons v Z' =>
    simp only [List.length_cons] at hXl;refine Sm.whK (fun d1 : Int × List α => ∃ Y1 Y2, Y = Y1 ++ Y2 /\ d1.2 = P ++ Y1 ++ v :: (Y2 ++ Z' ++ S) /\ d1.1 = (P.length : Int) + Y1.length /\ ∀ y ∈ Y2, lt v y = true) (fun d1 => d1.1.toNat)
     (fun d1 self1 hI1 hself1 => ?_) fu _ ⟨Y, [], by simp, by simp [ht], hi, by simp⟩ (by simp only; omega)
    obtain ⟨j, t1⟩ := d1;obtain ⟨Y1, Y2, hY, ht1, hj, hv⟩ := hI1;simp only at ht1 hj ⊢;have hYY := congrArg List.length hY;simp only [List.length_append] at hYY;have ht1l : t1.length = P.length + (x0 :: X0).length + S.length := by
     rw [ht1]; simp only [List.length_append, List.length_cons]; omega
    simp only [List.length_cons] at ht1l;refine Sm.join (fun d2 => (d2 = true -> ∃ Y1' u, Y1 = Y1' ++ [u] /\ lt v u = true) /\ (d2 = false -> Y1 = [] \/ ∃ Y1' u, Y1 = Y1' ++ [u] /\ lt v u = false)) (fun d2 hd2 => ?_) fun K hK => ?_
    ·refine Sm.cond (fun e2 => ?_) fun e2 => ?_
     ·obtain ⟨Y1', u, hY1, hvu⟩ := hd2.1 e2;have hY1l : Y1.length = Y1'.length + 1 := by rw [hY1]; simp
      have hA : t1 = (P ++ Y1') ++ u :: v :: (Y2 ++ Z' ++ S) := by rw [ht1, hY1]; simp
      have hAl : (P ++ Y1').length = P.length + Y1'.length := by simp
      have hj1 : (j - 1).toNat = (P ++ Y1').length := by rw [hAl]; omega
      have hj2 : j.toNat = ((P ++ Y1') ++ [u]).length := by rw [List.length_append, hAl]; simp; omega
      rw [wrap64 (x := j - 1) (by omega) (by omega)];refine Sm.chk ⟨by omega, by omega⟩ (Sm.get (by omega) fun a ha => ?_);refine Sm.chk ⟨by omega, by omega⟩ (Sm.get (by omega) fun b hb => ?_);have ea : a = u := by rw [hj1, hA, get_mid] at ha; exact (Option.some.inj ha).symm
      have eb : b = v := by
       rw [hj2, hA, show (P ++ Y1') ++ u :: v :: (Y2 ++ Z' ++ S) = ((P ++ Y1') ++ [u]) ++ v :: (Y2 ++ Z' ++ S) by simp, get_mid] at hb;exact (Option.some.inj hb).symm
      subst ea eb;refine Sm.chk ⟨by omega, by omega⟩ (Sm.chk (by omega) (Sm.chk ⟨by omega, by rw [List.length_set]; omega⟩ (Sm.chk (by rw [List.length_set]; omega) ?_)));refine hself1 _ ⟨Y1', a :: Y2, by rw [hY, hY1]; simp, ?_, by simp only; omega, fun y hy => ?_⟩ (by simp only; omega)
      ·simp only;rw [hj2, hj1, hA, show (P ++ Y1') ++ a :: b :: (Y2 ++ Z' ++ S) = ((P ++ Y1') ++ [a]) ++ b :: (Y2 ++ Z' ++ S) by simp, set_mid,
        show ((P ++ Y1') ++ [a]) ++ a :: (Y2 ++ Z' ++ S) = (P ++ Y1') ++ a :: (a :: (Y2 ++ Z' ++ S)) by simp, set_mid]
       simp
      ·rcases List.mem_cons.1 hy with rfl | hy
       ·exact hvu
       ·exact hv y hy
     ·rw [wrap64 (by omega) (by omega)];refine hself _ ⟨X1 ++ [v], Y1 ++ v :: Y2, Z', by rw [hX]; simp, ?_, ?_, ?_, ?_, ?_⟩ ?_
      ·simp only [List.length_append, List.length_cons, List.length_nil]; omega
      ·refine SF.trans (SF.app hSF (SF.refl [v])) ?_;rw [hY, List.append_assoc];exact SF.app (SF.refl Y1) (SF.swap hlt (fun u hu w hw => by
        have : w = v := by simpa using hw
        subst this;exact hv u hu))
      ·rw [hY] at hS;obtain ⟨s1, s2, s3⟩ := srt_split hS;have hlast : ∀ y ∈ Y1, lt v y = false := by
        rcases hd2.2 e2 with h | ⟨Y1', u, hY1, hvu⟩
        ·rw [h]; simp
        ·intro y hy;rw [hY1] at hy s1;rcases List.mem_append.1 hy with hy | hy
         ·exact hlt.ntr v u y hvu ((srt_split s1).2.2 y hy u (by simp))
         ·have : y = u := by simpa using hy
          subst this; exact hvu
       refine srt_app s1 (List.pairwise_cons.2 ⟨fun y hy => hlt.asy (hv y hy), s2⟩) fun y hy z hz => ?_
       rcases List.mem_cons.1 hz with rfl | hz
       ·exact hlast y hy
       ·exact s3 y hy z hz
      ·simp only; rw [ht1]; simp
      ·simp only [List.length_append, List.length_cons]; omega
      ·simp only [List.length_cons]; omega
    ·refine Sm.cond (fun e3 => ?_) fun e3 => hK _ ⟨by simp, fun _ => .inl ?_⟩
     ·have e3 := of_decide_eq_true e3;obtain ⟨Y1', u, hY1⟩ : ∃ Y1' u, Y1 = Y1' ++ [u] := by
       rcases List.eq_nil_or_concat Y1 with h | ⟨l, a, h⟩
       ·rw [h] at hj; simp at hj; omega
       ·exact ⟨l, a, by simpa using h⟩
      have hY1l : Y1.length = Y1'.length + 1 := by rw [hY1]; simp
      have hA : t1 = (P ++ Y1') ++ u :: v :: (Y2 ++ Z' ++ S) := by rw [ht1, hY1]; simp
      have hAl : (P ++ Y1').length = P.length + Y1'.length := by simp
      have hj1 : (j - 1).toNat = (P ++ Y1').length := by rw [hAl]; omega
      have hj2 : j.toNat = ((P ++ Y1') ++ [u]).length := by rw [List.length_append, hAl]; simp; omega
      rw [wrap64 (x := j - 1) (by omega) (by omega)];refine Sm.chk ⟨by omega, by omega⟩ (Sm.get (by omega) fun a ha => ?_);refine Sm.chk ⟨by omega, by omega⟩ (Sm.get (by omega) fun b hb => ?_);have eb : b = u := by rw [hj1, hA, get_mid] at hb; exact (Option.some.inj hb).symm
      have ea : a = v := by
       rw [hj2, hA, show (P ++ Y1') ++ u :: v :: (Y2 ++ Z' ++ S) = ((P ++ Y1') ++ [u]) ++ v :: (Y2 ++ Z' ++ S) by simp, get_mid] at ha;exact (Option.some.inj ha).symm
      subst ea eb;obtain ⟨r, hr, hr2⟩ := hc a b;rw [hr, Option.bind_some];refine hK _ ⟨fun h => ⟨Y1', b, hY1, ?_⟩, fun h => .inr ⟨Y1', b, hY1, ?_⟩⟩
      ·rw [<- hr2]; exact h
      ·rw [<- hr2]; exact h
     ·have e3 := of_decide_eq_false e3;exact List.eq_nil_of_length_eq_zero (by omega)
  ·have e := of_decide_eq_false e;simp only [List.length_cons] at e;have hZ : Z = [] := List.eq_nil_of_length_eq_zero (by omega);subst hZ;simp only [List.append_nil] at hX ht;exact Sm.some ⟨Y, ht, by rw [hX]; exact hSF, by rw [hYl, hX], hS⟩
theorem swapG_ok {cmp : α -> α -> Option Int} {fu : Nat} (hfu : LIM < fu) (P X M Y S : List α) (hXY : X.length = Y.length) (hl : (P ++ X ++ M ++ Y ++ S).length <= LIM) {a b n : Int}
  (ha : a = P.length) (hb : b = (P.length : Int) + X.length + M.length) (hn : n = X.length) :
  Sm (fun r => r = P ++ Y ++ M ++ X ++ S) (swapG cmp fu a b n (P ++ X ++ M ++ Y ++ S)) := by
 have hlim : LIM = 4294967296 := by rfl
 simp only [List.length_append] at hl
 unfold swapG
 refine Sm.whK (fun d : Int × List α => ∃ X1 X2 Y1 Y2, X = X1 ++ X2 /\ Y = Y1 ++ Y2 /\ X1.length = Y1.length /\ d.1 = X1.length /\ d.2 = P ++ Y1 ++ X2 ++ M ++ X1 ++ Y2 ++ S) (fun d => (n - d.1).toNat)
  (fun d self hI hself => ?_) fu _ ⟨[], X, [], Y, rfl, rfl, rfl, rfl, by simp⟩ (by simp only; omega)
 obtain ⟨i, t⟩ := d
 obtain ⟨X1, X2, Y1, Y2, hX, hY, h1, hi, ht⟩ := hI
 simp only at hi ht ⊢
 have hXl := congrArg List.length hX
 have hYl := congrArg List.length hY
 simp only [List.length_append] at hXl hYl
 have htl : t.length = P.length + X.length + M.length + Y.length + S.length := by
  rw [ht]; simp only [List.length_append]; omega
 refine Sm.cond (fun e => ?_) fun e => ?_
 ·have e := of_decide_eq_true e;obtain ⟨x, X2', rfl⟩ : ∃ x X2', X2 = x :: X2' := by
   cases X2 with
   | nil => simp only [List.length_nil] at hXl; omega
   | cons x X2' => exact ⟨x, X2', rfl⟩
  obtain ⟨y, Y2', rfl⟩ : ∃ y Y2', Y2 = y :: Y2' := by
   cases Y2 with
   | nil => simp only [List.length_nil, List.length_cons] at hYl hXl; omega
   | cons x X2' => exact ⟨x, X2', rfl⟩
  simp only [List.length_cons] at hXl hYl;have hA : t = (P ++ Y1) ++ x :: (X2' ++ M ++ X1 ++ y :: Y2' ++ S) := by rw [ht]; simp
  have hA2 : t = (P ++ Y1 ++ x :: X2' ++ M ++ X1) ++ y :: (Y2' ++ S) := by rw [ht]; simp
  have k1 : (a + i).toNat = (P ++ Y1).length := by rw [List.length_append]; omega
  have k2 : (b + i).toNat = (P ++ Y1 ++ x :: X2' ++ M ++ X1).length := by simp only [List.length_append, List.length_cons]; omega
  have k3 : (b + i).toNat = (P ++ Y1 ++ y :: X2' ++ M ++ X1).length := by simp only [List.length_append, List.length_cons]; omega
  rw [wrap64 (x := b + i) (by omega) (by omega), wrap64 (x := a + i) (by omega) (by omega)];refine Sm.chk ⟨by omega, by omega⟩ (Sm.get (by omega) fun u hu => ?_);refine Sm.chk ⟨by omega, by omega⟩ (Sm.get (by omega) fun v hv => ?_);have eu : u = y := by rw [k2, hA2, get_mid] at hu; exact (Option.some.inj hu).symm
  have ev : v = x := by rw [k1, hA, get_mid] at hv; exact (Option.some.inj hv).symm
  subst eu ev;refine Sm.chk ⟨by omega, by omega⟩ (Sm.chk (by omega) (Sm.chk ⟨by omega, by rw [List.length_set]; omega⟩ (Sm.chk (by rw [List.length_set]; omega) ?_)));rw [wrap64 (x := i + 1) (by omega) (by omega)];refine hself _ ⟨X1 ++ [v], X2', Y1 ++ [u], Y2', by rw [hX]; simp, by rw [hY]; simp, by simp [h1], by simp only [List.length_append, List.length_cons, List.length_nil]; omega, ?_⟩ (by simp only; omega);simp only;rw [k3, k1, hA, set_mid, show (P ++ Y1) ++ u :: (X2' ++ M ++ X1 ++ u :: Y2' ++ S) = (P ++ Y1 ++ u :: X2' ++ M ++ X1) ++ u :: (Y2' ++ S) by simp, set_mid];simp
 ·have e := of_decide_eq_false e;have h2 : X2 = [] := List.eq_nil_of_length_eq_zero (by omega);have h3 : Y2 = [] := List.eq_nil_of_length_eq_zero (by omega);subst h2 h3;simp only [List.append_nil] at hX hY ht;exact Sm.some (by rw [ht, hX, hY])
theorem rotG_ok {cmp : α -> α -> Option Int} {fu : Nat} (hfu : LIM < fu) (P U V S : List α) (hU : U ≠ []) (hV : V ≠ []) (hl : (P ++ U ++ V ++ S).length <= LIM) {a m b : Int}
  (ha : a = P.length) (hm : m = (P.length : Int) + U.length) (hb : b = (P.length : Int) + U.length + V.length) :
  Sm (fun r => r = P ++ V ++ U ++ S) (rotG cmp fu a m b (P ++ U ++ V ++ S)) := by
 have hlim : LIM = 4294967296 := by rfl
 simp only [List.length_append] at hl
 unfold rotG
 rw [wrap64 (x := m - a) (by omega) (by omega), wrap64 (x := b - m) (by omega) (by omega)]
 refine Sm.whK (fun d : Int × Int × List α => ∃ A U' V' B, U' ≠ [] /\ V' ≠ [] /\ d.1 = U'.length /\ d.2.1 = V'.length /\ d.2.2 = A ++ U' ++ V' ++ B /\ m = (A.length : Int) + U'.length /\ A ++ V' ++ U' ++ B = P ++ V ++ U ++ S) (fun d => (d.1 + d.2.1).toNat)
  (fun d self hI hself => ?_) fu _ ⟨P, U, V, S, hU, hV, by simp only; omega, by simp only; omega, rfl, hm, rfl⟩ (by simp only; omega)
 obtain ⟨i, j, t⟩ := d
 obtain ⟨A, U', V', B, hU', hV', hi, hj, ht, hm', hfin⟩ := hI
 simp only at hi hj ht ⊢
 have hU0 := List.length_pos_iff.2 hU'
 have hV0 := List.length_pos_iff.2 hV'
 have htl := congrArg List.length hfin
 simp only [List.length_append] at htl
 rw [wrap64 (x := m - i) (by omega) (by omega)]
 refine Sm.cond (fun e => ?_) fun e => ?_
 ·have e : i ≠ j := by simpa using e
  refine Sm.cond (fun e2 => ?_) fun e2 => ?_
  ·have e2 := of_decide_eq_true e2;obtain ⟨U1, U2, hU12, hU1⟩ : ∃ U1 U2, U' = U1 ++ U2 /\ U1.length = V'.length := ⟨U'.take V'.length, U'.drop V'.length, by simp, by simp; omega⟩;subst hU12;simp only [List.length_append] at hi hm' htl hU0;have key : A ++ (U1 ++ U2) ++ V' ++ B = A ++ U1 ++ U2 ++ V' ++ B := by simp
   rw [ht, key];refine Sm.bind (swapG_ok hfu A U1 U2 V' B hU1 (by simp only [List.length_append]; omega) (by omega) (by omega) (by omega)) fun r hr => ?_
   subst hr;refine Sm.chk (by simp only [List.length_append]; omega) ?_;rw [wrap64 (by omega) (by omega)];refine hself _ ⟨A ++ V', U2, U1, B, ?_, ?_, by simp only; omega, by simp only; omega, by simp, by simp only [List.length_append]; omega, ?_⟩ (by simp only; omega)
   ·intro h; subst h; simp only [List.length_nil] at hi; omega
   ·intro h; subst h; simp only [List.length_nil] at hU1; omega
   ·rw [<- hfin]; simp
  ·have e2 := of_decide_eq_false e2;obtain ⟨V1, V2, hV12, hV2⟩ : ∃ V1 V2, V' = V1 ++ V2 /\ V2.length = U'.length := ⟨V'.take (V'.length - U'.length), V'.drop (V'.length - U'.length), by simp, by simp; omega⟩;subst hV12;simp only [List.length_append] at hj htl hV0;rw [wrap64 (x := m + j) (by omega) (by omega), wrap64 (x := m + j - i) (by omega) (by omega)];have key : A ++ U' ++ (V1 ++ V2) ++ B = A ++ U' ++ V1 ++ V2 ++ B := by simp
   rw [ht, key];refine Sm.bind (swapG_ok hfu A U' V1 V2 B hV2.symm (by simp only [List.length_append]; omega) (by omega) (by omega) (by omega)) fun r hr => ?_
   subst hr;refine Sm.chk (by simp only [List.length_append]; omega) ?_;rw [wrap64 (by omega) (by omega)];refine hself _ ⟨A, V2, V1, U' ++ B, ?_, ?_, by simp only; omega, by simp only; omega, by simp, by omega, ?_⟩ (by simp only; omega)
   ·intro h; subst h; simp only [List.length_nil] at hV2; omega
   ·intro h; subst h; simp only [List.length_nil] at hj; omega
   ·rw [<- hfin]; simp
 ·have e : i = j := by simpa using e
  have key : A ++ U' ++ V' ++ B = A ++ U' ++ [] ++ V' ++ B := by simp
  rw [ht, key];refine Sm.bind (swapG_ok hfu A U' [] V' B (by omega) (by simp only [List.length_append, List.length_nil]; omega) (by omega) (by simp only [List.length_nil]; omega) (by omega)) fun r hr => ?_
  subst hr;exact Sm.chk (by simp only [List.length_append, List.length_nil]; omega) (Sm.some (by rw [<- hfin]; simp))
theorem mid_s {a b : Int} (h0 : 0 <= a) (h1 : a < b) (h2 : b <= 4294967296) :
  IntKind.i64.wrap ((IntKind.u64.wrap (IntKind.i64.wrap (a + b))).fdiv ((2 : Int) ^ min (Int.toNat (1 : Int)) IntKind.u64.bits)) = (a + b) / 2 := by
 rw [wrap64 (x := a + b) (by omega) (by omega)]
 have e1 : IntKind.u64.wrap (a + b) = a + b := by
  simp only [IntKind.wrap, IntKind.signed, IntKind.bits];simp;omega
 have e2 : ((2 : Int) ^ min (Int.toNat (1 : Int)) IntKind.u64.bits) = 2 := by decide
 rw [e1, e2, Int.fdiv_eq_ediv_of_nonneg _ (by omega), wrap64 (by omega) (by omega)]
def SymP (lt : α -> α -> Bool) (F : Int × Int × Int × List α -> Option (List α)) (n : Nat) : Prop :=
 ∀ (P X Y S : List α) (a m b : Int), X ≠ [] -> Y ≠ [] -> X.length + Y.length < n -> (P ++ X ++ Y ++ S).length <= LIM -> Srt lt X -> Srt lt Y -> a = P.length -> m = (P.length : Int) + X.length -> b = (P.length : Int) + X.length + Y.length ->
  Sm (fun r => ∃ Z, r = P ++ Z ++ S /\ SF lt (X ++ Y) Z /\ Z.length = X.length + Y.length /\ Srt lt Z) (F (a, m, b, P ++ X ++ Y ++ S))
theorem srt_at (hlt : SWO lt) {X : List α} (h : Srt lt X) {i j : Nat} {x y : α} (hij : i <= j) (hx : X[i]? = some x) (hy : X[j]? = some y) : lt y x = false := by
 rcases Nat.lt_or_eq_of_le hij with hij | rfl
 ·obtain ⟨hi, rfl⟩ := List.getElem?_eq_some_iff.1 hx;obtain ⟨hj, rfl⟩ := List.getElem?_eq_some_iff.1 hy;exact (List.pairwise_iff_getElem.1 h) i j hi hj hij
 ·rw [hx] at hy; cases hy; exact hlt.irr _
theorem at_app {P X S : List α} {i : Int} {x : α} {k : Nat} (hi : i.toNat = P.length + k) (hk : k < X.length) (h : (P ++ X ++ S)[i.toNat]? = some x) : X[k]? = some x := by
 rw [hi, List.append_assoc, List.getElem?_append_right (by omega), Nat.add_sub_cancel_left, List.getElem?_append_left hk] at h;exact h
theorem sym1_ok {cmp : α -> α -> Option Int} (hlt : SWO lt) (hc : CmpOk cmp lt) {fu : Nat} (hfu : LIM < fu) {F0 : Int × Int × Int × List α -> Option (List α)} (P Y S : List α) (x : α) (hl : (P ++ [x] ++ Y ++ S).length <= LIM) (hY : Srt lt Y) {a m b : Int}
  (ha : a = P.length) (hm : m = (P.length : Int) + 1) (hb : b = (P.length : Int) + 1 + Y.length) :
  Sm (fun r => ∃ Z, r = P ++ Z ++ S /\ SF lt ([x] ++ Y) Z /\ Z.length = 1 + Y.length /\ Srt lt Z) (symB cmp F0 fu a m b (P ++ [x] ++ Y ++ S)) := by
 have hlim : LIM = 4294967296 := by rfl
 have hl' : P.length + 1 + Y.length + S.length <= LIM := by simp only [List.length_append, List.length_cons, List.length_nil] at hl; omega
 have htl : (P ++ [x] ++ Y ++ S).length = P.length + 1 + Y.length + S.length := by simp only [List.length_append, List.length_cons, List.length_nil] <;> omega
 unfold symB
 rw [wrap64 (x := m - a) (by omega) (by omega)]
 refine Sm.cond (fun _ => ?_) fun e => by
  exfalso;have : m - a = 1 := by omega
  rw [this] at e; simp at e
 refine Sm.whK (fun d : Int × Int => m <= d.1 /\ d.1 <= d.2 /\ d.2 <= b /\ ∀ (k : Nat) y, Y[k]? = some y -> (m + k < d.1 -> lt y x = true) /\ (d.2 <= m + k -> lt y x = false)) (fun d => (d.2 - d.1).toNat)
  (fun d self hI hself => ?_) fu _ ⟨by simp only; omega, by simp only; omega, by simp only; omega, fun k y hy => ⟨fun h => by simp only at h; omega, fun h => by
   have := (List.getElem?_eq_some_iff.1 hy).1;simp only at h; omega⟩⟩ (by simp only; omega)
 obtain ⟨i, j⟩ := d
 obtain ⟨i1, i2, i3, i4⟩ := hI
 simp only at i1 i2 i3 i4 ⊢
 refine Sm.cond (fun e => ?_) fun e => ?_
 ·have e := of_decide_eq_true e;rw [mid_s (by omega) e (by omega)];refine Sm.chk ⟨by omega, by omega⟩ (Sm.get (by omega) fun u hu => ?_);refine Sm.chk ⟨by omega, by omega⟩ (Sm.get (by omega) fun v hv => ?_);have ev : v = x := by
   have := at_app (i := a) (P := P) (X := [x]) (S := Y ++ S) (k := 0) (by omega) (by simp) (by simpa using hv);simpa using this.symm
  subst ev;have hu : Y[((i + j) / 2 - m).toNat]? = some u := at_app (P := P ++ [v]) (X := Y) (S := S) (k := ((i + j) / 2 - m).toNat) (by simp only [List.length_append, List.length_cons, List.length_nil]; omega) (by omega) hu;obtain ⟨r, hr, hr2⟩ := hc u v;rw [hr, Option.bind_some];refine Sm.cond (fun e2 => ?_) fun e2 => ?_
  ·rw [hr2] at e2;rw [wrap64 (by omega) (by omega)];refine hself _ ⟨by simp only; omega, by simp only; omega, i3, fun k y hy => ⟨fun h => ?_, (i4 k y hy).2⟩⟩ (by simp only; omega);simp only at h;have h1 := srt_at hlt hY (i := k) (j := ((i + j) / 2 - m).toNat) (by omega) hy hu;cases h2 : lt y v with
   | true => rfl
   | false => rw [hlt.ntr u y v h1 h2] at e2; cases e2
  ·rw [hr2] at e2;refine hself _ ⟨i1, by simp only; omega, by simp only; omega, fun k y hy => ⟨(i4 k y hy).1, fun h => ?_⟩⟩ (by simp only; omega);simp only at h;have h1 := srt_at hlt hY (i := ((i + j) / 2 - m).toNat) (j := k) (by omega) hu hy;exact hlt.ntr y u v h1 e2
 ·have e := of_decide_eq_false e;have hij : i = j := by omega
  subst hij;obtain ⟨Y1, Y2, hY12, hY1⟩ : ∃ Y1 Y2, Y = Y1 ++ Y2 /\ Y1.length = (i - m).toNat := ⟨Y.take (i - m).toNat, Y.drop (i - m).toNat, by simp, by rw [List.length_take]; omega⟩;have hless : ∀ y ∈ Y1, lt y x = true := fun y hy => by
   obtain ⟨k, hk, rfl⟩ := List.getElem_of_mem hy;refine (i4 k _ ?_).1 (by omega);rw [hY12, List.getElem?_append_left hk, List.getElem?_eq_getElem hk]
  have hmore : ∀ y ∈ Y2, lt y x = false := fun y hy => by
   obtain ⟨k, hk, rfl⟩ := List.getElem_of_mem hy;refine (i4 (Y1.length + k) _ ?_).2 (by omega);rw [hY12, List.getElem?_append_right (by omega), Nat.add_sub_cancel_left, List.getElem?_eq_getElem hk]
  have hYl := congrArg List.length hY12;simp only [List.length_append] at hYl;rw [wrap64 (x := i - 1) (by omega) (by omega)];refine Sm.whK (fun d : Int × List α => ∃ A B, Y1 = A ++ B /\ d.1 = (P.length : Int) + A.length /\ d.2 = P ++ A ++ x :: (B ++ Y2 ++ S)) (fun d => (i - 1 - d.1).toNat) (fun d self hI hself => ?_) fu _ ⟨[], Y1, rfl, by simp [ha], by simp [hY12]⟩ (by simp only; omega);obtain ⟨k, t⟩ := d;obtain ⟨A, B, hAB, hk, ht⟩ := hI;simp only at hk ht ⊢;have hABl := congrArg List.length hAB;simp only [List.length_append] at hABl;have htl : t.length = P.length + 1 + Y.length + S.length := by
   rw [ht]; simp only [List.length_append, List.length_cons]; omega
  refine Sm.cond (fun e => ?_) fun e => ?_
  ·have e := of_decide_eq_true e;obtain ⟨y, B', rfl⟩ : ∃ y B', B = y :: B' := by
    cases B with
    | nil => simp only [List.length_nil] at hABl; omega
    | cons y B' => exact ⟨y, B', rfl⟩
   have hA1 : t = (P ++ A) ++ x :: (y :: (B' ++ Y2 ++ S)) := by rw [ht]; simp
   have hA2 : t = ((P ++ A) ++ [x]) ++ y :: (B' ++ Y2 ++ S) := by rw [ht]; simp
   have k1 : k.toNat = (P ++ A).length := by rw [List.length_append]; omega
   have k2 : (k + 1).toNat = ((P ++ A) ++ [x]).length := by simp only [List.length_append, List.length_cons, List.length_nil]; omega
   have k3 : (k + 1).toNat = ((P ++ A) ++ [y]).length := by simp only [List.length_append, List.length_cons, List.length_nil]; omega
   simp only [List.length_cons] at hABl;rw [wrap64 (x := k + 1) (by omega) (by omega)];refine Sm.chk ⟨by omega, by omega⟩ (Sm.get (by omega) fun u hu => ?_);refine Sm.chk ⟨by omega, by omega⟩ (Sm.get (by omega) fun v hv => ?_);have eu : u = y := by rw [k2, hA2, get_mid] at hu; exact (Option.some.inj hu).symm
   have ev : v = x := by rw [k1, hA1, get_mid] at hv; exact (Option.some.inj hv).symm
   subst eu ev;refine Sm.chk ⟨by omega, by omega⟩ (Sm.chk (by omega) (Sm.chk ⟨by omega, by rw [List.length_set]; omega⟩ (Sm.chk (by rw [List.length_set]; omega) ?_)));refine hself _ ⟨A ++ [u], B', by rw [hAB]; simp, by simp only [List.length_append, List.length_cons, List.length_nil]; omega, ?_⟩ (by simp only; omega);simp only;rw [k3, k1, hA1, set_mid, show (P ++ A) ++ u :: (u :: (B' ++ Y2 ++ S)) = ((P ++ A) ++ [u]) ++ u :: (B' ++ Y2 ++ S) by simp, set_mid];simp
  ·have e := of_decide_eq_false e;have hB : B = [] := List.eq_nil_of_length_eq_zero (by omega);subst hB;simp only [List.append_nil, List.nil_append] at hAB ht;subst hAB;refine Sm.some ⟨Y1 ++ x :: Y2, by rw [ht]; simp, ?_, by simp only [List.length_append, List.length_cons]; omega, ?_⟩
   ·rw [hY12];have h1 : SF lt ([x] ++ Y1) (Y1 ++ [x]) := SF.swap hlt fun u hu v hv => by
     have : u = x := by simpa using hu
     subst this; exact hless v hv
    have h2 := SF.app h1 (SF.refl Y2);simpa using h2
   ·rw [hY12] at hY;obtain ⟨s1, s2, s3⟩ := srt_split hY;refine srt_app s1 (List.pairwise_cons.2 ⟨hmore, s2⟩) fun y hy z hz => ?_
    rcases List.mem_cons.1 hz with rfl | hz
    ·exact hlt.asy (hless y hy)
    ·exact s3 y hy z hz
theorem sym2_ok {cmp : α -> α -> Option Int} (hlt : SWO lt) (hc : CmpOk cmp lt) {fu : Nat} (hfu : LIM < fu) {F0 : Int × Int × Int × List α -> Option (List α)} (P X S : List α) (y : α) (hl : (P ++ X ++ [y] ++ S).length <= LIM) (hX : Srt lt X) (hX1 : X.length ≠ 1) {a m b : Int}
  (ha : a = P.length) (hm : m = (P.length : Int) + X.length) (hb : b = (P.length : Int) + X.length + 1) :
  Sm (fun r => ∃ Z, r = P ++ Z ++ S /\ SF lt (X ++ [y]) Z /\ Z.length = X.length + 1 /\ Srt lt Z) (symB cmp F0 fu a m b (P ++ X ++ [y] ++ S)) := by
 have hlim : LIM = 4294967296 := by rfl
 have hl' : P.length + X.length + 1 + S.length <= LIM := by simp only [List.length_append, List.length_cons, List.length_nil] at hl; omega
 have htl : (P ++ X ++ [y] ++ S).length = P.length + X.length + 1 + S.length := by simp only [List.length_append, List.length_cons, List.length_nil] <;> omega
 unfold symB
 rw [wrap64 (x := m - a) (by omega) (by omega), wrap64 (x := b - m) (by omega) (by omega)]
 refine Sm.cond (fun e => by
  exfalso;have e : m - a = 1 := by simpa using e
  omega) fun _ => ?_
 refine Sm.cond (fun _ => ?_) fun e => by
  exfalso;have : b - m = 1 := by omega
  rw [this] at e; simp at e
 refine Sm.whK (fun d : Int × Int => a <= d.1 /\ d.1 <= d.2 /\ d.2 <= m /\ ∀ (k : Nat) x, X[k]? = some x -> (a + k < d.1 -> lt y x = false) /\ (d.2 <= a + k -> lt y x = true)) (fun d => (d.2 - d.1).toNat)
  (fun d self hI hself => ?_) fu _ ⟨by simp only; omega, by simp only; omega, by simp only; omega, fun k x hx => ⟨fun h => by simp only at h; omega, fun h => by
   have := (List.getElem?_eq_some_iff.1 hx).1;simp only at h; omega⟩⟩ (by simp only; omega)
 obtain ⟨i, j⟩ := d
 obtain ⟨i1, i2, i3, i4⟩ := hI
 simp only at i1 i2 i3 i4 ⊢
 refine Sm.cond (fun e => ?_) fun e => ?_
 ·have e := of_decide_eq_true e;rw [mid_s (by omega) e (by omega)];refine Sm.chk ⟨by omega, by omega⟩ (Sm.get (by omega) fun v hv => ?_);refine Sm.chk ⟨by omega, by omega⟩ (Sm.get (by omega) fun u hu => ?_);have ev : v = y := by
   have := at_app (P := P ++ X) (X := [y]) (S := S) (k := 0) (by rw [List.length_append]; omega) (by simp) hv;simpa using this.symm
  subst ev;have hu : X[((i + j) / 2 - a).toNat]? = some u := at_app (i := (i + j) / 2) (P := P) (X := X) (S := [v] ++ S) (k := ((i + j) / 2 - a).toNat) (by omega) (by omega) (by simpa using hu);obtain ⟨r, hr, hr2⟩ := hc v u;rw [hr, Option.bind_some];refine Sm.cond (fun e2 => ?_) fun e2 => ?_
  ·rw [hr2] at e2;have e2 : lt v u = false := by simpa using e2
   rw [wrap64 (by omega) (by omega)];refine hself _ ⟨by simp only; omega, by simp only; omega, i3, fun k x hx => ⟨fun h => ?_, (i4 k x hx).2⟩⟩ (by simp only; omega);simp only at h;have h1 := srt_at hlt hX (i := k) (j := ((i + j) / 2 - a).toNat) (by omega) hx hu;exact hlt.ntr v u x e2 h1
  ·rw [hr2] at e2;have e2 : lt v u = true := by simpa using e2
   refine hself _ ⟨i1, by simp only; omega, by simp only; omega, fun k x hx => ⟨(i4 k x hx).1, fun h => ?_⟩⟩ (by simp only; omega);simp only at h;have h1 := srt_at hlt hX (i := ((i + j) / 2 - a).toNat) (j := k) (by omega) hu hx;cases h2 : lt v x with
   | true => rfl
   | false => rw [hlt.ntr v x u h2 h1] at e2; cases e2
 ·have e := of_decide_eq_false e;have hij : i = j := by omega
  subst hij;obtain ⟨X1, X2, hX12, hX1l⟩ : ∃ X1 X2, X = X1 ++ X2 /\ X1.length = (i - a).toNat := ⟨X.take (i - a).toNat, X.drop (i - a).toNat, by simp, by rw [List.length_take]; omega⟩;have hless : ∀ x ∈ X1, lt y x = false := fun x hx => by
   obtain ⟨k, hk, rfl⟩ := List.getElem_of_mem hx;refine (i4 k _ ?_).1 (by omega);rw [hX12, List.getElem?_append_left hk, List.getElem?_eq_getElem hk]
  have hmore : ∀ x ∈ X2, lt y x = true := fun x hx => by
   obtain ⟨k, hk, rfl⟩ := List.getElem_of_mem hx;refine (i4 (X1.length + k) _ ?_).2 (by omega);rw [hX12, List.getElem?_append_right (by omega), Nat.add_sub_cancel_left, List.getElem?_eq_getElem hk]
  have hXl := congrArg List.length hX12;simp only [List.length_append] at hXl;refine Sm.whK (fun d : Int × List α => ∃ A B, X2 = A ++ B /\ d.1 = i + A.length /\ d.2 = P ++ X1 ++ A ++ y :: (B ++ S)) (fun d => (d.1 - i).toNat) (fun d self hI hself => ?_) fu _ ⟨X2, [], by simp, by simp only; omega, by simp [hX12]⟩ (by simp only; omega);obtain ⟨k, t⟩ := d;obtain ⟨A, B, hAB, hk, ht⟩ := hI;simp only at hk ht ⊢;have hABl := congrArg List.length hAB;simp only [List.length_append] at hABl;have htl : t.length = P.length + X.length + 1 + S.length := by
   rw [ht]; simp only [List.length_append, List.length_cons]; omega
  refine Sm.cond (fun e => ?_) fun e => ?_
  ·have e := of_decide_eq_true e;obtain ⟨A', x, rfl⟩ : ∃ A' x, A = A' ++ [x] := by
    rcases List.eq_nil_or_concat A with h | ⟨l, z, h⟩
    ·rw [h] at hk; simp at hk; omega
    ·exact ⟨l, z, by simpa using h⟩
   simp only [List.length_append, List.length_cons, List.length_nil] at hk hABl;have hA1 : t = (P ++ X1 ++ A') ++ x :: (y :: (B ++ S)) := by rw [ht]; simp
   have hA2 : t = ((P ++ X1 ++ A') ++ [x]) ++ y :: (B ++ S) := by rw [ht]; simp
   have k1 : (k - 1).toNat = (P ++ X1 ++ A').length := by simp only [List.length_append]; omega
   have k2 : k.toNat = ((P ++ X1 ++ A') ++ [x]).length := by simp only [List.length_append, List.length_cons, List.length_nil]; omega
   rw [wrap64 (x := k - 1) (by omega) (by omega)];refine Sm.chk ⟨by omega, by omega⟩ (Sm.get (by omega) fun u hu => ?_);refine Sm.chk ⟨by omega, by omega⟩ (Sm.get (by omega) fun v hv => ?_);have eu : u = x := by rw [k1, hA1, get_mid] at hu; exact (Option.some.inj hu).symm
   have ev : v = y := by rw [k2, hA2, get_mid] at hv; exact (Option.some.inj hv).symm
   subst eu ev;refine Sm.chk ⟨by omega, by omega⟩ (Sm.chk (by omega) (Sm.chk ⟨by omega, by rw [List.length_set]; omega⟩ (Sm.chk (by rw [List.length_set]; omega) ?_)));refine hself _ ⟨A', u :: B, by rw [hAB]; simp, by simp only; omega, ?_⟩ (by simp only; omega);simp only;rw [k2, k1, hA2, set_mid, show ((P ++ X1 ++ A') ++ [u]) ++ u :: (B ++ S) = (P ++ X1 ++ A') ++ u :: (u :: (B ++ S)) by simp, set_mid];simp
  ·have e := of_decide_eq_false e;have hA : A = [] := List.eq_nil_of_length_eq_zero (by omega);subst hA;simp only [List.append_nil, List.nil_append] at hAB ht;subst hAB;refine Sm.some ⟨X1 ++ y :: X2, by rw [ht]; simp, ?_, by simp only [List.length_append, List.length_cons]; omega, ?_⟩
   ·rw [hX12];have h1 : SF lt (X2 ++ [y]) ([y] ++ X2) := SF.swap hlt fun u hu v hv => by
     have : v = y := by simpa using hv
     subst this; exact hmore u hu
    have h2 := SF.app (SF.refl X1) h1;simpa using h2
   ·rw [hX12] at hX;obtain ⟨s1, s2, s3⟩ := srt_split hX;refine srt_app s1 (List.pairwise_cons.2 ⟨fun x hx => hlt.asy (hmore x hx), s2⟩) fun x hx z hz => ?_
    rcases List.mem_cons.1 hz with rfl | hz
    ·exact hless x hx
    ·exact s3 x hx z hz
theorem symB_ok {cmp : α -> α -> Option Int} (hlt : SWO lt) (hc : CmpOk cmp lt) {fu : Nat} (hfu : LIM < fu) {F0 : Int × Int × Int × List α -> Option (List α)} {n : Nat} (hF : SymP lt F0 n) (P X Y S : List α)
  (hX0 : X ≠ []) (hY0 : Y ≠ []) (hn : X.length + Y.length < n + 1) (hl : (P ++ X ++ Y ++ S).length <= LIM) (hX : Srt lt X) (hY : Srt lt Y) {a m b : Int} (ha : a = P.length) (hm : m = (P.length : Int) + X.length) (hb : b = (P.length : Int) + X.length + Y.length) :
  Sm (fun r => ∃ Z, r = P ++ Z ++ S /\ SF lt (X ++ Y) Z /\ Z.length = X.length + Y.length /\ Srt lt Z) (symB cmp F0 fu a m b (P ++ X ++ Y ++ S)) := by
 have hlim : LIM = 4294967296 := by rfl
 have hX0' := List.length_pos_iff.2 hX0
 have hY0' := List.length_pos_iff.2 hY0
 by_cases hX1 : X.length = 1
 ·obtain ⟨x, rfl⟩ := List.length_eq_one_iff.1 hX1;exact sym1_ok hlt hc hfu P Y S x hl hY ha (by simpa using hm) (by simpa using hb)
 by_cases hY1 : Y.length = 1
 ·obtain ⟨y, rfl⟩ := List.length_eq_one_iff.1 hY1;exact sym2_ok hlt hc hfu P X S y hl hX hX1 ha hm (by simpa using hb)
 have hl' : P.length + X.length + Y.length + S.length <= LIM := by simp only [List.length_append] at hl; omega
 have htl : (P ++ X ++ Y ++ S).length = P.length + X.length + Y.length + S.length := by simp only [List.length_append]
 obtain ⟨mid, hmid⟩ : ∃ mid, mid = (a + b) / 2 := ⟨_, rfl⟩
 unfold symB
 rw [mid_s (a := a) (b := b) (by omega) (by omega) (by omega), <- hmid]
 rw [wrap64 (x := m - a) (by omega) (by omega), wrap64 (x := b - m) (by omega) (by omega), wrap64 (x := mid + m) (by omega) (by omega), wrap64 (x := mid + m - b) (by omega) (by omega), wrap64 (x := mid + m - 1) (by omega) (by omega)]
 refine Sm.cond (fun e => by
  exfalso;have e : m - a = 1 := by simpa using e
  omega) fun _ => ?_
 refine Sm.cond (fun e => by
  exfalso;have e : b - m = 1 := by simpa using e
  omega) fun _ => ?_
 refine Sm.join (fun d : Int × Int => (mid < m /\ d.1 = mid + m - b /\ d.2 = mid) \/ (m <= mid /\ d.1 = a /\ d.2 = m)) (fun d hd => ?_) fun K hK => ?_
 ·obtain ⟨lo, hi⟩ := d;simp only at hd ⊢;have blo : a <= lo /\ mid + m - b <= lo /\ lo <= hi /\ hi <= mid /\ hi <= m := by
   rcases hd with ⟨h1, h2, h3⟩ | ⟨h1, h2, h3⟩
   ·omega
   ·omega
  obtain ⟨b1, b2, b3, b4, b5⟩ := blo;refine Sm.whK (fun d : Int × Int => lo <= d.1 /\ d.1 <= d.2 /\ d.2 <= hi /\
    (lo < d.1 -> ∀ x y, X[(d.1 - 1 - a).toNat]? = some x -> Y[(mid - d.1).toNat]? = some y -> lt y x = false) /\
    (d.2 < hi -> ∀ x y, X[(d.2 - a).toNat]? = some x -> Y[(mid - 1 - d.2).toNat]? = some y -> lt y x = true)) (fun d => (d.2 - d.1).toNat)
   (fun d self hI hself => ?_) fu _ ⟨by simp only; omega, by simp only; omega, by simp only; omega, fun h => by simp only at h; omega, fun h => by simp only at h; omega⟩ (by simp only; omega)
  obtain ⟨st, r⟩ := d;obtain ⟨i1, i2, i3, i4, i5⟩ := hI;simp only at i1 i2 i3 i4 i5 ⊢;refine Sm.cond (fun e => ?_) fun e => ?_
  ·have e := of_decide_eq_true e;rw [mid_s (a := st) (b := r) (by omega) e (by omega)];obtain ⟨c, hcd⟩ : ∃ c, c = (st + r) / 2 := ⟨_, rfl⟩;rw [<- hcd, wrap64 (x := mid + m - 1 - c) (by omega) (by omega)];refine Sm.chk ⟨by omega, by omega⟩ (Sm.get (by omega) fun y hy => ?_);refine Sm.chk ⟨by omega, by omega⟩ (Sm.get (by omega) fun x hx => ?_);have hy' : Y[(mid - 1 - c).toNat]? = some y := at_app (i := mid + m - 1 - c) (P := P ++ X) (X := Y) (S := S) (k := (mid - 1 - c).toNat) (by rw [List.length_append]; omega) (by omega) hy;have hx' : X[(c - a).toNat]? = some x := at_app (i := c) (P := P) (X := X) (S := Y ++ S) (k := (c - a).toNat) (by omega) (by omega) (by simpa using hx);obtain ⟨q, hq, hq2⟩ := hc y x;rw [hq, Option.bind_some];refine Sm.cond (fun e2 => ?_) fun e2 => ?_
   ·rw [hq2] at e2;have e2 : lt y x = false := by simpa using e2
    rw [wrap64 (x := c + 1) (by omega) (by omega)];refine hself _ ⟨by simp only; omega, by simp only; omega, i3, fun _ x' y' hx2 hy2 => ?_, i5⟩ (by simp only; omega);simp only at hx2 hy2;rw [show c + 1 - 1 - a = c - a by omega, hx'] at hx2;rw [show mid - (c + 1) = mid - 1 - c by omega, hy'] at hy2;cases hx2; cases hy2; exact e2
   ·rw [hq2] at e2;have e2 : lt y x = true := by simpa using e2
    refine hself _ ⟨i1, by simp only; omega, by simp only; omega, i4, fun _ x' y' hx2 hy2 => ?_⟩ (by simp only; omega);simp only at hx2 hy2;rw [hx'] at hx2;rw [hy'] at hy2;cases hx2; cases hy2; exact e2
  ·have e := of_decide_eq_false e;have hsr : st = r := by omega
   subst hsr;rw [wrap64 (x := mid + m - st) (by omega) (by omega)];obtain ⟨X1, X2, hX12, hX1l⟩ : ∃ X1 X2, X = X1 ++ X2 /\ X1.length = (st - a).toNat := ⟨X.take (st - a).toNat, X.drop (st - a).toNat, by simp, by rw [List.length_take]; omega⟩;obtain ⟨Y1, Y2, hY12, hY1l⟩ : ∃ Y1 Y2, Y = Y1 ++ Y2 /\ Y1.length = (mid - st).toNat := ⟨Y.take (mid - st).toNat, Y.drop (mid - st).toNat, by simp, by rw [List.length_take]; omega⟩;have hXl := congrArg List.length hX12;have hYl := congrArg List.length hY12;simp only [List.length_append] at hXl hYl;have hA : ∀ x ∈ X2, ∀ y ∈ Y1, lt y x = true := by
    intro x hx y hy;obtain ⟨k, hk, rfl⟩ := List.getElem_of_mem hx;obtain ⟨l, hll, rfl⟩ := List.getElem_of_mem hy;have h1 : st < hi := by omega
    have gx : X[(st - a).toNat]? = some (X2[0]'(by omega)) := by
     rw [hX12, List.getElem?_append_right (by omega), show (st - a).toNat - X1.length = 0 by omega, List.getElem?_eq_getElem]
    have gy : Y[(mid - 1 - st).toNat]? = some (Y1[Y1.length - 1]'(by omega)) := by
     rw [hY12, List.getElem?_append_left (by omega), List.getElem?_eq_getElem (by omega)];congr 2; omega
    have g := i5 h1 _ _ gx gy;have gk : X[X1.length + k]? = some X2[k] := by rw [hX12, List.getElem?_append_right (by omega), Nat.add_sub_cancel_left, List.getElem?_eq_getElem hk]
    have gl : Y[l]? = some Y1[l] := by rw [hY12, List.getElem?_append_left hll, List.getElem?_eq_getElem hll]
    have h2 := srt_at hlt hX (i := (st - a).toNat) (j := X1.length + k) (by omega) gx gk;have h3 := srt_at hlt hY (i := l) (j := (mid - 1 - st).toNat) (by omega) gl gy;cases h4 : lt Y1[l] X2[k] with
    | true => rfl
    | false => rw [hlt.ntr _ _ _ (hlt.ntr _ _ _ h3 h4) h2] at g; cases g
   have hB : ∀ x ∈ X1, ∀ y ∈ Y2, lt y x = false := by
    intro x hx y hy;obtain ⟨k, hk, rfl⟩ := List.getElem_of_mem hx;obtain ⟨l, hll, rfl⟩ := List.getElem_of_mem hy;have h1 : lo < st := by
     rcases hd with ⟨d1, d2, d3⟩ | ⟨d1, d2, d3⟩
     ·omega
     ·omega
    have gx : X[(st - 1 - a).toNat]? = some (X1[X1.length - 1]'(by omega)) := by
     rw [hX12, List.getElem?_append_left (by omega), List.getElem?_eq_getElem (by omega)];congr 2; omega
    have gy : Y[(mid - st).toNat]? = some (Y2[0]'(by omega)) := by
     rw [hY12, List.getElem?_append_right (by omega), show (mid - st).toNat - Y1.length = 0 by omega, List.getElem?_eq_getElem]
    have g := i4 h1 _ _ gx gy;have gk : X[k]? = some X1[k] := by rw [hX12, List.getElem?_append_left hk, List.getElem?_eq_getElem hk]
    have gl : Y[Y1.length + l]? = some Y2[l] := by rw [hY12, List.getElem?_append_right (by omega), Nat.add_sub_cancel_left, List.getElem?_eq_getElem hll]
    have h2 := srt_at hlt hX (i := k) (j := (st - 1 - a).toNat) (by omega) gk gx;have h3 := srt_at hlt hY (i := (mid - st).toNat) (j := Y1.length + l) (by omega) gy gl;exact hlt.ntr _ _ _ (hlt.ntr _ _ _ h3 g) h2
   rw [hX12] at hX;rw [hY12] at hY;obtain ⟨sx1, sx2, sx3⟩ := srt_split hX;obtain ⟨sy1, sy2, sy3⟩ := srt_split hY;refine Sm.join (fun t => t = P ++ (X1 ++ Y1) ++ (X2 ++ Y2) ++ S) (fun t ht => ?_) fun K hK => ?_
   ·subst ht;have htl2 : (P ++ (X1 ++ Y1) ++ (X2 ++ Y2) ++ S).length = P.length + X.length + Y.length + S.length := by simp only [List.length_append]; omega
    refine Sm.join (fun t => ∃ Z1, t = P ++ Z1 ++ (X2 ++ Y2) ++ S /\ SF lt (X1 ++ Y1) Z1 /\ Z1.length = X1.length + Y1.length /\ Srt lt Z1) (fun t ht => ?_) fun K hK => ?_
    ·obtain ⟨Z1, ht, z1, z2, z3⟩ := ht;subst ht;have hfin : ∀ Z2, SF lt (X2 ++ Y2) Z2 -> Z2.length = X2.length + Y2.length -> Srt lt Z2 -> ∃ Z, P ++ Z1 ++ Z2 ++ S = P ++ Z ++ S /\ SF lt (X ++ Y) Z /\ Z.length = X.length + Y.length /\ Srt lt Z := fun Z2 w1 w2 w3 => by
      refine ⟨Z1 ++ Z2, by simp, ?_, by rw [List.length_append]; omega, srt_app z3 w3 fun x hx y hy => ?_⟩
      ·rw [hX12, hY12];refine SF.trans ?_ (SF.app z1 w1);have h1 := SF.app (SF.app (SF.refl (lt := lt) X1) (SF.swap hlt hA)) (SF.refl (lt := lt) Y2);simpa using h1
      ·have hx := z1.symm.mem hlt hx;have hy := w1.symm.mem hlt hy;rcases List.mem_append.1 hx with hx | hx
       ·rcases List.mem_append.1 hy with hy | hy
        ·exact sx3 x hx y hy
        ·exact hB x hx y hy
       ·rcases List.mem_append.1 hy with hy | hy
        ·exact hlt.asy (hA y hy x hx)
        ·exact sy3 x hx y hy
     refine Sm.join (fun f => f = true ↔ (mid < mid + m - st /\ mid + m - st < b)) (fun f hf => ?_) fun K hK => ?_
     ·refine Sm.cond (fun e => ?_) fun e => ?_
      ·obtain ⟨f1, f2⟩ := hf.1 e;have key : P ++ Z1 ++ (X2 ++ Y2) ++ S = (P ++ Z1) ++ X2 ++ Y2 ++ S := by simp
       rw [key];refine Sm.bind (hF (P ++ Z1) X2 Y2 S mid (mid + m - st) b (by intro h; subst h; simp only [List.length_nil] at hXl; omega) (by intro h; subst h; simp only [List.length_nil] at hYl; omega) (by omega) (by simp only [List.length_append]; omega) sx2 sy2
        (by rw [List.length_append]; omega) (by rw [List.length_append]; omega) (by rw [List.length_append]; omega)) fun q hq => ?_
       obtain ⟨Z2, rfl, w1, w2, w3⟩ := hq;refine Sm.chk (by simp only [List.length_append]; omega) (Sm.some ?_);exact hfin Z2 w1 w2 w3
      ·have hne : ¬ (mid < mid + m - st /\ mid + m - st < b) := fun h => by rw [hf.2 h] at e; cases e
       refine Sm.some (hfin (X2 ++ Y2) (SF.refl _) (by rw [List.length_append]) ?_);by_cases hx2 : X2 = []
       ·rw [hx2]; exact sy2
       ·have : Y2 = [] := by
         have := List.length_pos_iff.2 hx2;exact List.eq_nil_of_length_eq_zero (by omega)
        rw [this, List.append_nil]; exact sx2
     ·refine Sm.cond (fun e => hK _ ?_) fun e => hK _ ?_
      ·have e := of_decide_eq_true e;rw [decide_eq_true_eq]; omega
      ·have e := of_decide_eq_false e;simp; omega
    ·refine Sm.join (fun f => f = true ↔ (a < st /\ st < mid)) (fun f hf => ?_) fun K2 hK2 => ?_
     ·refine Sm.cond (fun e => ?_) fun e => ?_
      ·obtain ⟨f1, f2⟩ := hf.1 e;have key : P ++ (X1 ++ Y1) ++ (X2 ++ Y2) ++ S = P ++ X1 ++ Y1 ++ ((X2 ++ Y2) ++ S) := by simp
       rw [key];refine Sm.bind (hF P X1 Y1 ((X2 ++ Y2) ++ S) a st mid (by intro h; subst h; simp only [List.length_nil] at hX1l; omega) (by intro h; subst h; simp only [List.length_nil] at hY1l; omega) (by omega) (by simp only [List.length_append]; omega) sx1 sy1
        (by omega) (by omega) (by omega)) fun q hq => ?_
       obtain ⟨Z1, rfl, w1, w2, w3⟩ := hq;refine Sm.chk (by simp only [List.length_append]; omega) (hK _ ⟨Z1, by simp, w1, w2, w3⟩)
      ·have hne : ¬ (a < st /\ st < mid) := fun h => by rw [hf.2 h] at e; cases e
       refine hK _ ⟨X1 ++ Y1, rfl, SF.refl _, by rw [List.length_append], ?_⟩;by_cases hx1 : X1 = []
       ·rw [hx1]; exact sy1
       ·have : Y1 = [] := by
         have := List.length_pos_iff.2 hx1;exact List.eq_nil_of_length_eq_zero (by omega)
        rw [this, List.append_nil]; exact sx1
     ·refine Sm.cond (fun e => hK2 _ ?_) fun e => hK2 _ ?_
      ·have e := of_decide_eq_true e;rw [decide_eq_true_eq]; omega
      ·have e := of_decide_eq_false e;simp; omega
   ·refine Sm.join (fun f => f = true ↔ (st < m /\ m < mid + m - st)) (fun f hf => ?_) fun K2 hK2 => ?_
    ·refine Sm.cond (fun e => ?_) fun e => ?_
     ·obtain ⟨f1, f2⟩ := hf.1 e;have key : P ++ X ++ Y ++ S = (P ++ X1) ++ X2 ++ Y1 ++ (Y2 ++ S) := by rw [hX12, hY12]; simp
      rw [key];refine Sm.bind (rotG_ok hfu (P ++ X1) X2 Y1 (Y2 ++ S) (by intro h; subst h; simp only [List.length_nil] at hXl; omega) (by intro h; subst h; simp only [List.length_nil] at hY1l; omega) (by simp only [List.length_append]; omega)
       (by rw [List.length_append]; omega) (by rw [List.length_append]; omega) (by rw [List.length_append]; omega)) fun q hq => ?_
      subst hq;refine Sm.chk (by simp only [List.length_append]; omega) (hK _ (by simp))
     ·have hne : ¬ (st < m /\ m < mid + m - st) := fun h => by rw [hf.2 h] at e; cases e
      refine hK _ ?_;rw [hX12, hY12];by_cases hx2 : X2 = []
      ·rw [hx2]; simp
      ·have : Y1 = [] := by
        have := List.length_pos_iff.2 hx2;exact List.eq_nil_of_length_eq_zero (by omega)
       rw [this]; simp
    ·refine Sm.cond (fun e => hK2 _ ?_) fun e => hK2 _ ?_
     ·have e := of_decide_eq_true e;rw [decide_eq_true_eq]; omega
     ·have e := of_decide_eq_false e;simp; omega
 ·refine Sm.cond (fun e => hK _ (.inl ?_)) fun e => hK _ (.inr ?_)
  ·have e := of_decide_eq_true e;exact ⟨by omega, rfl, rfl⟩
  ·have e := of_decide_eq_false e;exact ⟨by omega, rfl, rfl⟩
inductive Bks (lt : α -> α -> Bool) (s : Nat) : List α -> Prop
 | last {X} (h : X.length <= s) (hs : Srt lt X) : Bks lt s X
 | cons {X L} (h : X.length = s) (hs : Srt lt X) (hl : Bks lt s L) : Bks lt s (X ++ L)
inductive Full (lt : α -> α -> Bool) (s : Nat) : List α -> Prop
 | nil : Full lt s []
 | snoc {L X} (hl : Full lt s L) (h : X.length = s) (hs : Srt lt X) : Full lt s (L ++ X)
theorem Full.app {s : Nat} {L R : List α} (h : Full lt s L) : Bks lt s R -> Bks lt s (L ++ R) := by
 induction h generalizing R with
 | nil => exact fun h => h
 | snoc hl h hs ih => intro hR; rw [List.append_assoc]; exact ih (.cons h hs hR)
theorem Bks.srt {s : Nat} {L : List α} (h : Bks lt s L) (hl : L.length <= s) : Srt lt L := by
 cases h with
 | last h hs => exact hs
 | @cons X L h hs hr =>
  rw [List.length_append] at hl;have : L = [] := List.eq_nil_of_length_eq_zero (by omega);rw [this, List.append_nil]; exact hs
theorem Bks.cut {s : Nat} {L : List α} (h : Bks lt s L) (hl : s <= L.length) : ∃ X R, L = X ++ R /\ X.length = s /\ Srt lt X /\ Bks lt s R := by
 cases h with
 | last h hs => exact ⟨L, [], by simp, by omega, hs, .last (by simp) List.Pairwise.nil⟩
 | @cons X L h hs hr => exact ⟨X, L, rfl, h, hs, hr⟩
theorem stable_ok {cmp : α -> α -> Option Int} (hlt : SWO lt) (hc : CmpOk cmp lt) {fu : Nat} (hfu : LIM < fu) {sym : Int × Int × Int × List α -> Option (List α)} (hF : SymP lt sym fu) (T : List α) (hl : T.length <= 1073741824) :
  Sm (fun r => SF lt T r /\ r.length = T.length /\ Srt lt r) (stableG cmp sym fu (T.length : Int) T) := by
 have hlim : LIM = 4294967296 := by rfl
 unfold stableG
 refine Sm.whK (fun d : Int × Int × List α => ∃ L R T1, d.2.2 = L ++ R /\ T = T1 ++ R /\ T1.length = L.length /\ SF lt T1 L /\ Full lt 20 L /\ d.1 = L.length /\ d.2.1 = (L.length : Int) + 20) (fun d => ((T.length : Int) - d.1).toNat)
  (fun d self hI hself => ?_) fu _ ⟨[], T, [], rfl, rfl, rfl, SF.refl _, .nil, rfl, rfl⟩ (by simp only; omega)
 obtain ⟨a, b, t⟩ := d
 obtain ⟨L, R, T1, ht, hT, h1, hSF, hFull, ha, hb⟩ := hI
 simp only at ht ha hb ⊢
 subst ht
 have hTl := congrArg List.length hT
 rw [List.length_append] at hTl
 refine Sm.cond (fun e => ?_) fun e => ?_
 ·have e := of_decide_eq_true e;obtain ⟨X, R', hR, hX⟩ : ∃ X R', R = X ++ R' /\ X.length = 20 := ⟨R.take 20, R.drop 20, by simp, by rw [List.length_take]; omega⟩;subst hR;rw [List.length_append] at hTl;have := insG_ok hlt hc hfu L X R' (by simp only [List.length_append]; omega);rw [show (L.length : Int) + X.length = b by omega, <- ha, List.append_assoc] at this;refine Sm.bind this fun r hr => ?_
  obtain ⟨X', rfl, x1, x2, x3⟩ := hr;refine Sm.chk (by simp only [List.length_append]; omega) ?_;rw [wrap64 (by omega) (by omega)];refine hself _ ⟨L ++ X', R', T1 ++ X, rfl, by rw [hT]; simp, by simp only [List.length_append]; omega, SF.app hSF x1, .snoc hFull (by omega) x3, by simp only [List.length_append]; omega, by simp only [List.length_append]; omega⟩ (by simp only; omega)
 ·have e := of_decide_eq_false e;have := insG_ok hlt hc hfu L R [] (by simp only [List.length_append, List.length_nil]; omega);rw [show (L.length : Int) + R.length = (T.length : Int) by omega, <- ha, List.append_nil] at this;refine Sm.bind this fun r hr => ?_
  obtain ⟨R', rfl, x1, x2, x3⟩ := hr;rw [List.append_nil];refine Sm.chk (by simp only [List.length_append]; omega) ?_;refine Sm.whK (fun d : Int × List α => ∃ s : Nat, 0 < s /\ d.1 = s /\ d.1 < 4294967296 /\ Bks lt s d.2 /\ SF lt T d.2 /\ d.2.length = T.length) (fun d => ((T.length : Int) - d.1).toNat)
   (fun d self2 hI2 hself2 => ?_) fu _ ⟨20, by omega, rfl, by simp only; omega, hFull.app (.last (by omega) x3), by rw [hT]; exact SF.app hSF x1, by simp only [List.length_append]; omega⟩ (by simp only; omega)
  obtain ⟨bs, t0⟩ := d;obtain ⟨s, s0, hbs, hbl, hB, hS0, ht0⟩ := hI2;simp only at hbs hbl hB hS0 ht0 ⊢;refine Sm.cond (fun e2 => ?_) fun e2 => Sm.some ⟨hS0, ht0, hB.srt (by have := of_decide_eq_false e2; omega)⟩
  have e2 := of_decide_eq_true e2;rw [wrap64 (x := 2 * bs) (by omega) (by omega)];refine Sm.whK (fun d : Int × Int × List α => ∃ L R T1, d.2.2 = L ++ R /\ t0 = T1 ++ R /\ T1.length = L.length /\ SF lt T1 L /\ Full lt (2 * s) L /\ Bks lt s R /\ d.1 = L.length /\ d.2.1 = (L.length : Int) + 2 * bs) (fun d => ((T.length : Int) - d.1).toNat)
   (fun d self3 hI3 hself3 => ?_) fu _ ⟨[], t0, [], rfl, rfl, rfl, SF.refl _, .nil, hB, rfl, by simp⟩ (by simp only; omega)
  obtain ⟨a, b, t⟩ := d;obtain ⟨L, R, T1, ht, hT0, h1, hSF2, hFull2, hBR, ha, hb⟩ := hI3;simp only at ht ha hb ⊢;subst ht;have hTl := congrArg List.length hT0;rw [List.length_append] at hTl;rw [wrap64 (x := a + bs) (by omega) (by omega)];refine Sm.cond (fun e3 => ?_) fun e3 => ?_
  ·have e3 := of_decide_eq_true e3;obtain ⟨X, R1, rfl, hX, hXs, hR1⟩ := hBR.cut (by omega);rw [List.length_append] at hTl;obtain ⟨Y, R2, rfl, hY, hYs, hR2⟩ := hR1.cut (by omega);rw [List.length_append] at hTl;have := hF L X Y R2 a (a + bs) b (by intro h; subst h; simp only [List.length_nil] at hX; omega) (by intro h; subst h; simp only [List.length_nil] at hY; omega) (by omega) (by simp only [List.length_append]; omega) hXs hYs ha (by omega) (by omega);rw [show L ++ X ++ Y ++ R2 = L ++ (X ++ (Y ++ R2)) by simp] at this;refine Sm.bind this fun r hr => ?_
   obtain ⟨Z, rfl, z1, z2, z3⟩ := hr;refine Sm.chk (by simp only [List.length_append]; omega) ?_;rw [wrap64 (by omega) (by omega)];refine hself3 _ ⟨L ++ Z, R2, T1 ++ (X ++ Y), rfl, by rw [hT0]; simp, by simp only [List.length_append]; omega, SF.app hSF2 z1, .snoc hFull2 (by omega) z3, hR2, by simp only [List.length_append]; omega, by simp only [List.length_append]; omega⟩ (by simp only; omega)
  ·have e3 := of_decide_eq_false e3;refine Sm.join (fun t => Bks lt (2 * s) t /\ SF lt T t /\ t.length = T.length) (fun t ht => ?_) fun K hK => ?_
   ·obtain ⟨t1, t2, t3⟩ := ht;rw [wrap64 (x := bs * 2) (by omega) (by omega)];exact hself2 _ ⟨2 * s, by omega, by simp only; omega, by simp only; omega, t1, t2, t3⟩ (by simp only; omega)
   ·refine Sm.cond (fun e4 => ?_) fun e4 => hK _ ⟨?_, ?_, ?_⟩
    ·have e4 := of_decide_eq_true e4;obtain ⟨X, Y, rfl, hX, hXs, hY⟩ := hBR.cut (by omega);rw [List.length_append] at hTl;have := hF L X Y [] a (a + bs) (T.length : Int) (by intro h; subst h; simp only [List.length_nil] at hX; omega) (by intro h; subst h; simp only [List.length_nil] at hTl; omega) (by omega) (by simp only [List.length_append, List.length_nil]; omega) hXs (hY.srt (by omega)) ha (by omega) (by omega);rw [show L ++ X ++ Y ++ [] = L ++ (X ++ Y) by simp] at this;refine Sm.bind this fun r hr => ?_
     obtain ⟨Z, rfl, z1, z2, z3⟩ := hr;rw [List.append_nil];refine Sm.chk (by simp only [List.length_append]; omega) (hK _ ⟨hFull2.app (.last (by omega) z3), ?_, by simp only [List.length_append]; omega⟩);refine SF.trans hS0 ?_;rw [hT0];exact SF.app hSF2 z1
    ·have e4 := of_decide_eq_false e4;exact hFull2.app (.last (by omega) (hBR.srt (by omega)))
    ·refine SF.trans hS0 ?_;rw [hT0];exact SF.app hSF2 (SF.refl _)
    ·rw [List.length_append]; omega
end
end Go.PG.PH
set_option linter.unusedVariables false
set_option linter.unusedSimpArgs false
set_option maxRecDepth 100000
namespace Go.Proofs.YtgpioploehgpdaaGreat
open Go.PG Go.PG.PH
theorem bl_irr : ∀ l : List UInt8, Op.bytesLess l l = false
 | [] => rfl
 | a :: l => by simp [Op.bytesLess, bl_irr l]
theorem bl_tri : ∀ l m : List UInt8, Op.bytesLess l m = false -> Op.bytesLess m l = false -> l = m
 | [], [], _, _ => rfl
 | [], b :: m, h, _ => by simp [Op.bytesLess] at h
 | a :: l, [], _, h => by simp [Op.bytesLess] at h
 | a :: l, b :: m, h, h' => by
  simp only [Op.bytesLess, Bool.or_eq_false_iff, Bool.and_eq_false_iff, decide_eq_false_iff_not, beq_eq_false_iff_ne] at h h';have e : a = b := by
   have h1 := h.1;have h2 := h'.1;rw [UInt8.lt_iff_toNat_lt] at h1 h2;exact UInt8.toNat_inj.1 (by omega)
  subst e;rw [bl_tri l m (by simpa using h.2) (by simpa using h'.2)]
theorem bl_tr : ∀ l m n : List UInt8, Op.bytesLess l m = true -> Op.bytesLess m n = true -> Op.bytesLess l n = true
 | [], [], _, h, _ => by simp [Op.bytesLess] at h
 | [], b :: m, [], _, h => by simp [Op.bytesLess] at h
 | [], b :: m, c :: n, _, _ => by simp [Op.bytesLess]
 | a :: l, [], _, h, _ => by simp [Op.bytesLess] at h
 | a :: l, b :: m, [], _, h => by simp [Op.bytesLess] at h
 | a :: l, b :: m, c :: n, h, h' => by
  simp only [Op.bytesLess, Bool.or_eq_true, Bool.and_eq_true, decide_eq_true_eq, beq_iff_eq] at h h' ⊢;rcases h with h | ⟨rfl, h⟩
  ·rcases h' with h' | ⟨rfl, h'⟩
   ·left;rw [UInt8.lt_iff_toNat_lt] at h h' ⊢;omega
   ·exact .inl h
  ·rcases h' with h' | ⟨rfl, h'⟩
   ·exact .inl h'
   ·exact .inr ⟨rfl, bl_tr l m n h h'⟩
theorem bl_asy {l m : List UInt8} (h : Op.bytesLess l m = true) : Op.bytesLess m l = false := by
 cases e : Op.bytesLess m l with
 | false => rfl
 | true =>
  have := bl_tr l m l h e;rw [bl_irr] at this;cases this
def ltA (x y : At) : Bool := Op.bytesLess x.1.toList y.1.toList
theorem swoA : SWO ltA := ⟨fun x => bl_irr _, fun x y z => bl_tr _ _ _, fun x y z h1 h2 => by
 unfold ltA at *;cases e : Op.bytesLess x.1.toList z.1.toList with
 | false => rfl
 | true =>
  cases e2 : Op.bytesLess z.1.toList y.1.toList with
  | true => rw [bl_tr _ _ _ e e2] at h1; cases h1
  | false =>
   have := bl_tri _ _ h2 e2;rw [this, e] at h1; cases h1⟩
theorem cmpA : CmpOk view_Attrs_1 ltA := fun x y => by
 refine ⟨_, by simp only [view_Attrs_1, cmpS, Option.bind_some]; rfl, ?_⟩;unfold ltA;cases Op.bytesLess x.1.toList y.1.toList with
 | true => rfl
 | false =>
  simp only [cond_false, Bool.false_or];cases x.1.toList == y.1.toList <;> rfl
theorem symP_A (fu : Nat) (hfu : LIM < fu) : ∀ n, SymP ltA (famO (js := zq29) (jh := zq26) (rs := zq51) (rh := zq48)
  (fun F0 d => zq83 F0 fu d.1 d.2.1 d.2.2.1 d.2.2.2) n) n
 | 0 => fun P X Y S a m b _ _ h => by omega
 | n + 1 => fun P X Y S a m b hX hY h hl sX sY ha hm hb => symB_ok (F0 := famO (js := zq29) (jh := zq26) (rs := zq51) (rh := zq48)
  (fun F0 d => zq83 F0 fu d.1 d.2.1 d.2.2.1 d.2.2.2) n) swoA cmpA hfu (symP_A fu hfu n) P X Y S hX hY h hl sX sY ha hm hb
def flatA (b : List Act) : List At := b.flatMap fun a => a.2.2.2.1
def IsSorted (b : List Act) (r : List At) : Prop := SF ltA (flatA b) r /\ r.length = (flatA b).length /\ Srt ltA r
theorem flatA_take (b : List Act) (i : Nat) (x : Act) (h : b[i]? = some x) : flatA (b.take (i + 1)) = flatA (b.take i) ++ x.2.2.2.1 := by
 unfold flatA;rw [List.take_add_one, h];simp
theorem flatA_le (b : List Act) (i : Nat) : (flatA (b.take i)).length <= (flatA b).length := by
 have : flatA b = flatA (b.take i) ++ flatA (b.drop i) := by
  unfold flatA;rw [<- List.flatMap_append, List.take_append_drop]
 rw [this, List.length_append]; omega
theorem attrs_ok (fu : Nat) [hf : Big fu] (b : List Act) [hb : Fit b] : Sm (IsSorted b) (view_Attrs fu b) := by
 have hlim := lim_eq;have hM := M20_eq;have htot : (flatA b).length <= M20 := hb.tot;unfold view_Attrs;refine Sm.for0 (fun k d => d = flatA (b.take k)) rfl (fun i x d K hi hx hI hK => ?_) fun d hd => ?_
 ·subst hI;have h1 := flatA_take b i x hx;have h2 := flatA_le b (i + 1);rw [h1, List.length_append] at h2;exact Sm.chk (by omega) (hK _ h1.symm)
 ·rw [List.take_length] at hd;subst hd;have := stable_ok swoA cmpA hf.h (symP_A fu hf.h fu) (flatA b) (by omega);refine Sm.bind (P := fun r => SF ltA (flatA b) r /\ r.length = (flatA b).length /\ Srt ltA r) ?_ fun r hr => Sm.chk hr.2.1 (Sm.some hr)
  unfold zq76;exact Sm.bind this fun r hr => Sm.chk hr.2.1 (Sm.some hr)
theorem sorted_ok (fu : Nat) [hf : Big fu] (b : List Act) [hb : Fit b] : Sm (IsSorted b) (zq39 fu b) := by
 have hlim := lim_eq;have hM := M20_eq;have hfu := hf.h;have htot : (flatA b).length <= M20 := hb.tot;unfold zq39;refine Sm.for0 (fun k d => SF ltA (flatA (b.take k)) d /\ d.length = (flatA (b.take k)).length /\ Srt ltA d) ⟨SF.refl _, rfl, List.Pairwise.nil⟩ (fun i x d K hi hx hI hK => ?_) fun d hd => Sm.some (by rw [List.take_length] at hd; exact hd)
 have h1 := flatA_take b i x hx;have h2 := flatA_le b (i + 1);rw [h1, List.length_append] at h2;obtain ⟨i1, i2, i3⟩ := hI;refine Sm.for0 (fun k d => SF ltA (flatA (b.take i) ++ x.2.2.2.1.take k) d /\ d.length = (flatA (b.take i)).length + k /\ Srt ltA d) ⟨by simpa using i1, by simpa using i2, i3⟩ (fun j y d2 K2 hj hy hI2 hK2 => ?_) fun d2 hd2 => hK _ ?_
 ·obtain ⟨j1, j2, j3⟩ := hI2;refine Sm.whK (fun p : Int => 0 <= p /\ p <= (d2.length : Int) /\ ∀ z ∈ d2.drop p.toNat, ltA y z = true) (fun p => p.toNat) (fun p self hI3 hself => ?_) fu _ ⟨by omega, by omega, by simp⟩ (by omega);obtain ⟨p0, p1, p2⟩ := hI3;refine Sm.join (fun f => (f = true -> 0 < p /\ ∀ z, d2[(p - 1).toNat]? = some z -> ltA y z = true) /\ (f = false -> p = 0 \/ ∀ z, d2[(p - 1).toNat]? = some z -> ltA y z = false)) (fun f hf => ?_) fun K3 hK3 => ?_
  ·refine Sm.cond (fun e => ?_) fun e => ?_
   ·obtain ⟨f1, f2⟩ := hf.1 e;rw [wrap64 (by omega) (by omega)];refine hself _ ⟨by omega, by omega, fun z hz => ?_⟩ (by omega);have hlt : (p - 1).toNat < d2.length := by omega
    rw [List.drop_eq_getElem_cons hlt] at hz;rcases List.mem_cons.1 hz with rfl | hz
    ·exact f2 _ (List.getElem?_eq_getElem hlt)
    ·exact p2 z (by rw [show p.toNat = (p - 1).toNat + 1 by omega]; exact hz)
   ·rw [chk_eq' (by refine ⟨by omega, by omega, by omega, by omega⟩)];simp only [Option.bind_some];refine Sm.chk (by simp) (hK2 _ ⟨?_, ?_, ?_⟩)
    ·rw [List.take_add_one, hy, <- List.append_assoc];refine SF.trans (SF.app j1 (SF.refl (lt := ltA) [y])) ?_;have h3 := SF.app (SF.refl (lt := ltA) (d2.take p.toNat)) (SF.swap swoA (U := d2.drop p.toNat) (V := [y]) (fun u hu v hv => by
      have : v = y := by simpa using hv
      subst this; exact p2 u hu))
     rw [<- List.append_assoc, List.take_append_drop, <- List.append_assoc] at h3;exact h3
    ·simp only [List.length_append, List.length_take, List.length_drop, List.length_cons, List.length_nil]; omega
    ·have hs : Srt ltA (d2.take p.toNat ++ d2.drop p.toNat) := by rw [List.take_append_drop]; exact j3
     obtain ⟨s1, s2, s3⟩ := srt_split hs;have hle : ∀ z ∈ d2.take p.toNat, ltA y z = false := by
      rcases hf.2 e with h | h
      ·rw [h]; simp
      ·intro z hz;obtain ⟨k, hk, rfl⟩ := List.getElem_of_mem hz;have hk' := hk;rw [List.length_take] at hk';have hlt : (p - 1).toNat < d2.length := by omega
       have g1 := h _ (List.getElem?_eq_getElem hlt);have g2 := srt_at swoA j3 (i := k) (j := (p - 1).toNat) (x := d2[k]'(by omega)) (by omega) (List.getElem?_eq_getElem _) (List.getElem?_eq_getElem hlt);rw [List.getElem_take];exact swoA.ntr _ _ _ g1 g2
     have h4 : Srt ltA ([y] ++ d2.drop p.toNat) := List.pairwise_cons.2 ⟨fun z hz => swoA.asy (p2 z hz), s2⟩;rw [List.append_assoc];refine srt_app s1 h4 fun u hu v hv => ?_
     rcases List.mem_append.1 hv with hv | hv
     ·have : v = y := by simpa using hv
      subst this; exact hle u hu
     ·exact s3 u hu v hv
  ·refine Sm.cond (fun e => ?_) fun e => hK3 _ ⟨by simp, fun _ => .inl ?_⟩
   ·have e := of_decide_eq_true e;rw [wrap64 (x := p - 1) (by omega) (by omega)];refine Sm.chk ⟨by omega, by omega⟩ (Sm.get (by omega) fun z hz => hK3 _ ?_);have key : (!(Op.bytesLess z.1.toList y.1.toList || z.1.toList == y.1.toList)) = ltA y z := by
     unfold ltA;cases e1 : Op.bytesLess z.1.toList y.1.toList with
     | true => rw [bl_asy e1]; rfl
     | false =>
      cases e2 : Op.bytesLess y.1.toList z.1.toList with
      | true =>
       have : z.1.toList ≠ y.1.toList := fun h => by rw [h, bl_irr] at e2; cases e2
       simp [this]
      | false => rw [bl_tri _ _ e1 e2]; simp
    rw [key, hz];exact ⟨fun h => ⟨by omega, fun w hw => by cases hw; exact h⟩, fun h => .inr fun w hw => by cases hw; exact h⟩
   ·have e := of_decide_eq_false e;omega
 ·obtain ⟨j1, j2, j3⟩ := hd2;rw [List.take_length] at j1;rw [h1, List.length_append];exact ⟨j1, j2, j3⟩
end Go.Proofs.YtgpioploehgpdaaGreat
set_option linter.unusedSimpArgs false
set_option linter.unusedVariables false
namespace Go.PG.PH
open Go.Proofs Go.Sort Go.RowKit
def valOf : V -> Value
 | .bool b => .bool b
 | .int k n => .int k n
 | .str s => .string s
 | _ => undef
def flatC : V -> Bool
 | .bool _ => true
 | .int _ _ => true
 | .str _ => true
 | _ => false
theorem flatC_cells : ∀ (t : Ty) (x : t.D), t.flat = true -> ∀ c ∈ t.cells x, flatC c = true
 | .int _, _, _, c, h => by simp [Ty.cells] at h; subst h; rfl
 | .bool, _, _, c, h => by simp [Ty.cells] at h; subst h; rfl
 | .str, _, _, c, h => by simp [Ty.cells] at h; subst h; rfl
 | .unit, _, _, c, h => by simp [Ty.cells] at h
 | .list _, _, h, _, _ => by simp [Ty.flat] at h
 | .map _ _, _, h, _, _ => by simp [Ty.flat] at h
 | .box a, x, h, c, hc => flatC_cells a x h c hc
 | .pair a b, x, h, c, hc => by
  simp only [Ty.flat] at h;split at h
  ·rename_i ha;simp only [Ty.cells, List.mem_append] at hc;rcases hc with hc | hc
   ·exact flatC_cells a x.1 ha c hc
   ·exact flatC_cells b x.2 h c hc
  ·cases h
theorem one_val {c : V} (h : flatC c = true) : (valOf c).oneCell' = true := by
 cases c <;> first | rfl | (simp [flatC] at h)
theorem rep_val {w : World} {st : Nat -> Own} {c : V} {v : Value} (hc : flatC c = true) (h : Rep w st c v) : v = valOf c /\ ∀ (w' : World) (S : Nat -> Prop), RepS w' S c (valOf c) := by
 cases h with
 | s h => cases h with
  | bool => exact ⟨rfl, fun _ _ => .bool⟩
  | int => exact ⟨rfl, fun _ _ => .int⟩
  | str h => exact ⟨rfl, fun _ _ => .str h⟩
  | _ => simp [flatC] at hc
 | stale ht => cases c <;> first | (simp [flatC] at hc; done) | (simp [V.tok] at ht; done)
 | _ => simp [flatC] at hc
def lessF {D : Type} (cF : D -> D -> Option Int) (l : List D) : {x // x ∈ l} -> {x // x ∈ l} -> Bool := ltOf fun x y => (cF x.1 y.1).getD 0
def SrtGood {D : Type} (cF : D -> D -> Option Int) (l : List D) : Prop := (∀ x ∈ l, ∀ y ∈ l, ∃ r, cF x y = some r) /\ Sort.SWO (lessF cF l)
def sortedA {D : Type} (cF : D -> D -> Option Int) (l : List D) (I : Inhabited {x // x ∈ l}) : List D :=
 (@pdq _ I (lessF cF l) l.attach.toArray 0 l.attach.toArray.size (Lib.bitLen l.attach.toArray.size) true true).toList.map (·.1)
def sortedF {D : Type} (cF : D -> D -> Option Int) : List D -> List D
 | [] => []
 | a :: r => sortedA cF (a :: r) ⟨⟨a, by simp⟩⟩
theorem sortedF_eq {D : Type} (cF : D -> D -> Option Int) (l : List D) (x0 : D) (l0 : List D) (hl : l = x0 :: l0) (h : x0 ∈ l) : sortedF cF l = sortedA cF l ⟨⟨x0, h⟩⟩ := by
 subst hl; rfl
theorem toList_extract {α : Type} (d : Array α) (n : Nat) (h : d.size = n) : (d.extract 0 n).toList = d.toList := by
 subst h; simp
theorem sortedA_ok {D : Type} (cF : D -> D -> Option Int) (l : List D) (I : Inhabited {x // x ∈ l}) (hO : Sort.SWO (lessF cF l)) : (sortedA cF l I).Perm l /\ (sortedA cF l I).Pairwise (fun x y => ¬ (cF y x).getD 0 < 0) := by
 obtain ⟨d, hd⟩ : ∃ d, d = l.attach.toArray := ⟨_, rfl⟩;have hdl : d.toList.map (·.1) = l := by rw [hd]; simp
 unfold sortedA;rw [<- hd];obtain ⟨p, hp⟩ : ∃ p, p = pdq (lessF cF l) d 0 d.size (Lib.bitLen d.size) true true := ⟨_, rfl⟩;have h := pdq_sorts (lessF cF l) hO d 0 d.size (Lib.bitLen d.size) true true (Nat.zero_le _) (Nat.le_refl _) (Or.inl rfl);rw [<- hp] at h ⊢;obtain ⟨⟨h1, _, h2⟩, h3⟩ := h;rw [toList_extract p _ h1, toList_extract d _ rfl] at h2;constructor
 ·have := h2.map (·.1);rw [hdl] at this;exact this
 ·rw [List.pairwise_map, List.pairwise_iff_getElem];intro i j hi hj hij;have := h3 i j (Nat.zero_le _) hij (by rw [<- h1]; simpa using hj);rw [getElem!_pos p i (by simpa using hi), getElem!_pos p j (by simpa using hj)] at this;unfold lessF ltOf at this;simpa using this
theorem sortedF_ok {D : Type} (cF : D -> D -> Option Int) (l : List D) (hg : SrtGood cF l) : (sortedF cF l).Perm l /\ (sortedF cF l).Pairwise (fun x y => ¬ (cF y x).getD 0 < 0) := by
 cases l with
 | nil => simp [sortedF]
 | cons a r => exact sortedA_ok cF (a :: r) _ hg.2
theorem sortf_pco {P : Program} {ρ : Go.Shelf.Ren} (L : SlLaysF0.n6 P ρ) (hent : Entered P (ρ.f 6)) (t : Ty) (ht : t.flat = true) (hA : t.isA = true)
  (aE : ∀ w, (isAgg (ρ.t 24)).run P w = .ok true w) (zE : ∀ w, (Go.sizeOf (ρ.t 24)).run P w = .ok t.size w)
  (gid : FuncId) (cF : t.D -> t.D -> Option Int) (hp : ∀ x y r, cF x y = some r -> PC P gid [t.enc x, t.enc y] (.int .i64 r))
  (l : List t.D) (hlim : l.length <= LIM) (hg : SrtGood cF l) (g : Nat) :
  PCO P (ρ.f 6) [.so 2000 g t.size 0 l.length, .fn (.func gid) []] [(2000, .arr g true t.size (l.map t.enc))] (.tup []) [(2000, .arr g true t.size ((sortedF cF l).map t.enc))] [] := by
 refine ⟨hent, fun w st ms hh hN hms hrep => ?_⟩
 obtain ⟨m0, m1, rfl⟩ : ∃ a b, ms = #[a, b] := by
  obtain ⟨ms⟩ := ms
  match ms, hms with
  | [a, b], _ => exact ⟨a, b, rfl⟩
 have r0 := hrep 0 _ m0 rfl rfl
 have r1 := hrep 1 _ m1 rfl rfl
 obtain ⟨cb, rfl, hcb, _⟩ := fn_rep' r1
 have hcb0 : cb = #[] := Array.eq_empty_of_size_eq_zero (by simpa using hcb)
 subst hcb0
 obtain ⟨h, hh0⟩ : ∃ h : Heap, h = [(2000, .arr g true t.size (l.map t.enc))] := ⟨_, rfl⟩
 rw [<- hh0] at hh
 have g2000 : hget h 2000 = some (.arr g true t.size (l.map t.enc)) := by rw [hh0]; rfl
 have hlive : live h 2000 g = true := by simp [live, g2000, Ob.gen]
 have fin : ∀ (w' : World) (st' : Nat -> Own), HeapOk w' st' [(2000, .arr g true t.size ((sortedF cF l).map t.enc))] -> Fr w st w' st' ->
   ∃ m st'' γ, Ending.returned (.tuple #[]) = .returned m /\ Rep w' st'' ((V.tup []).sg [] γ) m /\ HeapOk w' st'' (Heap.sg [] γ [(2000, .arr g true t.size ((sortedF cF l).map t.enc))]) /\ Fr w st w' st'' := by
  intro w' st' h1 h2
  refine ⟨.tuple #[], st', fun _ => 0, rfl, .tup rfl (by simp), ?_, h2⟩
  rw [sg_nil _ _ fun n x hx => by simp at hx; exact ⟨_, _, _, hx.2⟩]
  exact h1
 rcases live_so hh hlive r0 with ⟨base, hb, _, h0⟩ | ⟨b, o, a, cap, cells, ty, hm0, hs, hb, hcap, hf, ha⟩
 ·have hl : l = [] := List.eq_nil_of_length_eq_zero h0;subst hl;rw [hb];refine (AnyF.slices_SortFunc_none L base 0 _ w).mono fun e w' h => ?_
  obtain ⟨he, hw⟩ := h;subst he hw;have := fin w' st (by rw [hh0] at hh; simpa [sortedF] using hh) (Fr.refl _ _);exact this
 ·rw [hm0];by_cases hl0 : l.length = 0
  ·have hl : l = [] := List.eq_nil_of_length_eq_zero hl0;subst hl;refine (AnyF.slices_SortFunc_none L _ cap _ w).mono fun e w' h => ?_
   obtain ⟨he, hw⟩ := h;subst he hw;exact fin w' st (by rw [hh0] at hh; simpa [sortedF] using hh) (Fr.refl _ _)
  ·have ea : a = o := by rw [ha (by omega)]; omega
   subst ea;obtain ⟨_, hsz, hpz, hob⟩ := hh.ob _ _ g2000;rcases hob with ⟨he, _⟩ | ⟨b1, o1, c1, ty1, hs1, hc1, hR⟩
   ·exact absurd (by simpa using he) (fun e : l = [] => hl0 (by simp [e]))
   have e1 := hh.inj _ _ _ _ _ _ _ hs hs1;subst e1;rw [hs] at hs1;injection hs1 with _ _ e2
   subst e2;rw [hb] at hc1;simp only [Option.some.injEq, Obj.cells.injEq, and_true] at hc1;obtain ⟨e3, e4⟩ := hc1;subst e3 e4;obtain ⟨k, hk⟩ : ∃ k, k = t.size := ⟨_, rfl⟩;have hcl : ∀ x : t.D, (t.cells x).length = k := fun x => by rw [cells_len, hk]
   have hcell : ∀ i (hi : i < l.length) j (hj : j < (t.cells l[i]).length), a + i * k + j < cells.size /\ cells.getD (a + i * k + j) undef = valOf (t.cells l[i])[j] /\ ∀ (w' : World) (S : Nat -> Prop), RepS w' S (t.cells l[i])[j] (valOf (t.cells l[i])[j]) := by
    intro i hi j hj;obtain ⟨h1, h2, h3⟩ := hR i j (t.enc l[i]) (t.cells l[i])[j] (by simp [hi]) (by rw [enc_cells]; exact List.getElem?_eq_getElem hj);obtain ⟨h4, h5⟩ := rep_val (flatC_cells t l[i] ht _ (List.getElem_mem hj)) h3;rw [<- hk] at h1 h4;exact ⟨h1, h4, h5⟩
   have hrepS : ∀ x ∈ l, ∀ (j : Nat) (c : V), (t.cells x)[j]? = some c -> ∀ (w' : World) (S : Nat -> Prop), RepS w' S c (valOf c) := by
    intro x hx j c hc;obtain ⟨i, hi, rfl⟩ := List.getElem_of_mem hx;obtain ⟨hj, rfl⟩ := List.getElem?_eq_some_iff.1 hc;exact (hcell i hi j hj).2.2
   obtain ⟨x0, l0, hl⟩ : ∃ x0 l0, l = x0 :: l0 := by
    cases l with
    | nil => simp at hl0
    | cons x l => exact ⟨_, _, rfl⟩
   have hx0 : x0 ∈ l := by rw [hl]; simp
   letI I : Inhabited {x // x ∈ l} := ⟨⟨x0, hx0⟩⟩;obtain ⟨d, hd⟩ : ∃ d, d = l.attach.toArray := ⟨_, rfl⟩;have hdz : d.size = l.length := by rw [hd]; simp
   have hdi : ∀ i (hi : i < l.length), (d[i]!).1 = l[i] := by
    intro i hi;rw [getElem!_pos d i (by rw [hdz]; exact hi)];simp [hd]
   obtain ⟨enc, henc⟩ : ∃ enc : {x // x ∈ l} -> List Value, enc = fun x => (t.cells x.1).map valOf := ⟨_, rfl⟩
   have hke : ∀ x, (enc x).length = k := fun x => by rw [henc]; simp [hcl]
   have h1e : ∀ x, ∀ v ∈ enc x, v.oneCell' = true := fun x v hv => by
    rw [henc] at hv;obtain ⟨c, hc, rfl⟩ := List.mem_map.1 hv;exact one_val (flatC_cells t x.1 ht c hc)
   have hbs : b < w.heap.size := (hh.dom _ _ _ _ hs).1;have hfl : ∀ j, j < l.length * k -> ∃ (h1 : j / k < l.length) (h2 : j % k < (t.cells l[j / k]).length), (Go.Sort.flatK enc k d)[j]! = valOf (t.cells l[j / k])[j % k] /\ j = j / k * k + j % k := by
    intro j hj;have k0 : 0 < k := by
     rcases Nat.eq_zero_or_pos k with h | h
     ·subst h; simp at hj
     ·exact h
    have h1 : j / k < l.length := (Nat.div_lt_iff_lt_mul k0).2 hj;have h2 : j % k < (t.cells l[j / k]).length := by rw [hcl]; exact Nat.mod_lt _ k0
    refine ⟨h1, h2, ?_, by rw [Nat.mul_comm]; exact (Nat.div_add_mod j k).symm⟩;rw [Go.Sort.get_flatK enc k d j (by rw [hdz]; exact hj), henc];simp only [hdi _ h1];rw [getElem!_pos _ _ (by simpa using h2)];simp
   have hH : HoldsK enc k w b a d := by
    intro j hj;rw [Go.Sort.size_flatK, hdz] at hj;obtain ⟨h1, h2, h3, h4⟩ := hfl j hj;obtain ⟨c1, c2, _⟩ := hcell _ h1 _ h2;rw [h3];refine ⟨?_, frozen_plain hb _⟩;unfold World.cell?;simp only [hb];rw [show a + j = a + j / k * k + j % k by omega, Array.getElem?_eq_getElem c1];rw [Array.getD_eq_getD_getElem?, Array.getElem?_eq_getElem c1, Option.getD_some] at c2;rw [c2];rfl
   have hgood := hg;have hcmp : CmpLays P gid #[] enc k (fun x y => (cF x.1 y.1).getD 0) b a d.size w := by
    intro m os dk hdk x y;obtain ⟨r, hr⟩ := hg.1 x.1 x.2 y.1 y.2;have hagg : ∀ (z : {x // x ∈ l}) (W : World), RepS W (fun _ => False) (t.enc z.1) (.agg (enc z).toArray) := by
     intro z W;have : t.enc z.1 = .agg (t.cells z.1) := by unfold Ty.enc; rw [hA]; rfl
     rw [this];refine .agg (by rw [henc]; simp) (fun j v hv => ?_) (fun j c v hc hv => ?_)
     ·have : v ∈ (enc z).toArray := Array.mem_of_getElem? hv;exact h1e z v (by simpa using this)
     ·rw [henc] at hv;simp only [List.getElem?_toArray, List.getElem?_map, hc, Option.map_some, Option.some.injEq] at hv;subst hv;exact hrepS z.1 z.2 j c hc _ _
    have hcall := (hp x.1 y.1 r hr).2 (sortWorldK enc k w b a m dk os) (fun _ => False) #[.agg (enc x).toArray, .agg (enc y).toArray] (fun b hb => hb.elim) rfl (fun j c mv hc hm => by
     match j, hc, hm with
     | 0, hc, hm => cases hc; cases hm; exact hagg x _
     | 1, hc, hm => cases hc; cases hm; exact hagg y _
     | j + 2, hc, hm => simp at hc)
    refine hcall.mono fun e w' h => ?_
    obtain ⟨mv, S', he, hr', _, _, hsz', hold, hsame⟩ := h;subst he;cases hr';refine ⟨by simp only [hr, Option.getD_some], w'.drawn - (sortWorldK enc k w b a m dk os).drawn, w'.heap.extract (sortWorldK enc k w b a m dk os).heap.size w'.heap.size, ?_⟩;generalize sortWorldK enc k w b a m dk os = W at hsz' hold hsame;obtain ⟨heap, tape, drawn, os1, output⟩ := w';obtain ⟨heap0, tape0, drawn0, os0, output0⟩ := W;obtain ⟨s1, s2, s3, s4⟩ := hsame;simp only at s1 s2 s3 s4 hsz' hold;subst s1 s2 s3;unfold Sort.grow World.drewN;simp only [World.mk.injEq, true_and, and_true];refine ⟨?_, by omega⟩;apply Array.ext
    ·simp; omega
    ·intro i h1 h2;rw [Array.getElem_append];split
     ·rename_i hi;have := hold i hi;rw [Array.getElem?_eq_getElem h1, Array.getElem?_eq_getElem hi] at this;exact Option.some.inj this
     ·rename_i hi;simp only [Array.getElem_extract];congr 1; omega
   have eg : ∀ args W, (callFunc gid args).run P W = .ok (.enter gid args) W := by
    intro args W;obtain ⟨r, hr⟩ := hg.1 x0 hx0 x0 hx0;obtain ⟨⟨fn, hf, hbd, hn⟩, _⟩ := hp x0 x0 r hr;have hb' : fn.body ≠ none := by intro h; rw [h] at hbd; cases hbd
    have hn' : fn.name ≠ "runtime.NumGoroutine" := by simpa using hn
    simp [callFunc, hf, hn', hb']
   rw [show l.length = d.size from hdz.symm];refine (AnyQ.slices_SortFunc_eq L k aE (by rw [hk]; exact zE) enc hke h1e _ hg.2 gid #[] b a cap d w eg hcmp hH hbs (by rw [hdz]; have : LIM = 2 ^ 32 := rfl; omega)).mono fun e w' h => ?_
   obtain ⟨he, n, os, hw⟩ := h;subst he;obtain ⟨p, hpd⟩ : ∃ p, p = pdq (lessF cF l) d 0 d.size (Lib.bitLen d.size) true true := ⟨_, rfl⟩;have hpq := pdq_sorts (lessF cF l) hg.2 d 0 d.size (Lib.bitLen d.size) true true (Nat.zero_le _) (Nat.le_refl _) (Or.inl rfl);have hw0 : w' = sortWorldK enc k w b a n p os := by rw [hpd]; exact hw
   clear hw;rw [<- hpd] at hpq;have hpz' : p.size = l.length := hpq.1.1.trans hdz;have hS : sortedF cF l = p.toList.map (·.1) := by
    rw [hpd, hd];exact sortedF_eq cF l x0 l0 hl hx0
   have hsl : (sortedF cF l).length = l.length := by rw [hS]; simp [hpz']
   have hsi : ∀ i (hi : i < l.length), (p[i]!).1 = (sortedF cF l)[i]'(by rw [hsl]; exact hi) := by
    intro i hi;rw [getElem!_pos p i (by rw [hpz']; exact hi)];simp [hS]
   obtain ⟨c', hc'⟩ : ∃ c', c' = putCells id a (Go.Sort.flatK enc k p) cells := ⟨_, rfl⟩;have hz : c'.size = cells.size := by rw [hc']; simp [putCells]
   have hw1 : (putRowK enc k (Sort.ahead w n) b a p).heap = (w.setRow b c').heap := by
    unfold putRowK putRow mapBlock World.setRow Sort.ahead;simp only;apply Array.ext_getElem?;intro q;simp only [Array.getElem?_modify];by_cases hk : b = q
    ·subst hk;simp only [if_true, hb, Option.map_some, onCells, hc']
    ·simp [hk]
   have hput : ∀ i (hi : i < l.length) j (hj : j < k), c'.getD (a + i * k + j) undef = valOf ((t.cells ((sortedF cF l)[i]'(by rw [hsl]; exact hi)))[j]'(by rw [hcl]; exact hj)) := by
    intro i hi j hj;obtain ⟨h1, _, _⟩ := hcell i hi j (by rw [hcl]; exact hj);have hlt : i * k + j < l.length * k := by
     have := Nat.mul_le_mul_right k (show i + 1 <= l.length from hi);rw [Nat.add_mul, Nat.one_mul] at this; omega
    rw [Array.getD_eq_getD_getElem?, hc'];simp only [putCells, Array.getElem?_mapIdx, Array.getElem?_eq_getElem h1, Option.map_some, Option.getD_some];rw [if_pos ⟨by omega, by rw [Go.Sort.size_flatK, hpz']; omega⟩];rw [show a + i * k + j - a = i * k + j by omega, Go.Sort.get_flatK enc k p _ (by rw [hpz']; exact hlt)];have e1 : (i * k + j) / k = i := (blk_iff k i _ (by omega)).1 ⟨by omega, by omega⟩;have e2 : (i * k + j) % k = j := by rw [Nat.mod_eq_sub_div_mul, e1]; omega
    rw [e1, e2, henc];simp only [hsi i hi, id];rw [getElem!_pos _ _ (by simp [hcl]; exact hj)];simp
   have hmemS : ∀ x ∈ sortedF cF l, x ∈ l := fun x hx => ((sortedF_ok cF l hgood).1.mem_iff).1 hx
   have hw2 := heap_write_id hh hs hb c' hz (.arr g true t.size ((sortedF cF l).map t.enc)) a (.inl ⟨rfl, rfl⟩) (by
    refine ⟨by simpa [hsl] using hlim, fun x hx => ?_, fun _ x hx => ?_, .inr ⟨b, a, c', ty, by simp [updO, Ob.gen], setRow_heap w b cells c' ty (0, 0) hb, fun i j x c hx hc => ?_⟩⟩
    ·obtain ⟨y, _, rfl⟩ := List.mem_map.1 hx; rw [enc_cells, cells_len]
    ·obtain ⟨y, _, rfl⟩ := List.mem_map.1 hx; exact enc_free t y
    ·simp only [List.getElem?_map, Option.map_eq_some_iff] at hx;obtain ⟨y, hy, rfl⟩ := hx;obtain ⟨hi, hy'⟩ := List.getElem?_eq_some_iff.1 hy;have hi' : i < l.length := by rw [<- hsl]; exact hi
     rw [enc_cells] at hc;obtain ⟨hj, hcj⟩ := List.getElem?_eq_some_iff.1 hc;have hjk : j < k := by rw [hcl] at hj; exact hj
     obtain ⟨h1, _, _⟩ := hcell i hi' j (by rw [hcl]; exact hjk);have hcc := hput i hi' j hjk;subst hy';rw [hcj] at hcc;rw [<- hk, hcc];exact ⟨by omega, one_val (flatC_cells t _ ht c (List.mem_of_getElem? hc)), .s (hrepS _ (hmemS _ (List.getElem_mem hi)) j c hc _ _)⟩)
   have hf2 := fr_write hh hs hb c' hz g a (.inl ⟨rfl, rfl⟩);have e5 : updO st b (.id 2000 g a) = st := by
    funext x; unfold updO; split
    ·rename_i e; subst e; exact hs.symm
    ·rfl
   simp only [Ob.gen] at hw2;rw [e5] at hw2 hf2;have hq : hset h 2000 (.arr g true t.size ((sortedF cF l).map t.enc)) = [(2000, .arr g true t.size ((sortedF cF l).map t.enc))] := by rw [hh0]; rfl
   rw [hq] at hw2;obtain ⟨k1, k2⟩ := heap_same (w' := putRowK enc k (Sort.ahead w n) b a p) hw2 hw1 ⟨rfl, rfl, rfl, Nat.le_add_right _ _⟩;obtain ⟨k3, k4⟩ := heap_grow (w' := w') k1 os (by rw [hw0]; rfl) (by rw [hw0]; exact ⟨rfl, rfl, rfl, Nat.le_refl _⟩);exact fin w' st k3 ((hf2.trans k2).trans k4)
open Classical in
noncomputable def srtfF {D : Type} (cF : D -> D -> Option Int) (l : List D) : Option (List D) := if l.length <= LIM /\ SrtGood cF l then some (sortedF cF l) else none
theorem srtfF_some {D : Type} {cF : D -> D -> Option Int} {l r : List D} (h : srtfF cF l = some r) : l.length <= LIM /\ SrtGood cF l /\ r = sortedF cF l := by
 unfold srtfF at h;split at h
 ·rename_i hg; cases h; exact ⟨hg.1, hg.2, rfl⟩
 ·cases h
theorem srtfF_ok {D : Type} {cF : D -> D -> Option Int} {l : List D} (hl : l.length <= LIM) (hg : SrtGood cF l) : ∃ r, srtfF cF l = some r /\ r.Perm l /\ r.Pairwise (fun x y => ¬ (cF y x).getD 0 < 0) := by
 refine ⟨sortedF cF l, ?_, sortedF_ok cF l hg⟩;unfold srtfF;rw [if_pos ⟨hl, hg⟩]
@[reducible] def srtfJs (t : Ty) (gid : FuncId) : List Sh := [.wn 2000 t.size, .fn gid []]
@[reducible] def srtfJh (t : Ty) : List (Nat × OSh) := [(2000, .ls t)]
theorem srtf_ok {P : Program} {ρ : Go.Shelf.Ren} (L : SlLaysF0.n6 P ρ) (hent : Entered P (ρ.f 6)) (t : Ty) (ht : t.flat = true) (hA : t.isA = true)
  (aE : ∀ w, (isAgg (ρ.t 24)).run P w = .ok true w) (zE : ∀ w, (Go.sizeOf (ρ.t 24)).run P w = .ok t.size w)
  (gid : FuncId) (cF : t.D -> t.D -> Option Int) (hp : ∀ x y r, cF x y = some r -> PC P gid [t.enc x, t.enc y] (.int .i64 r))
  (l r : List t.D) (hr : srtfF cF l = some r)
  (γ H H' : Nat -> Nat) (hH : ∀ n ∈ idsO (srtfJh t), H n = olen (inO' (srtfJs t gid) (srtfJh t) (dis (Sh.tysL (srtfJs t gid) ++ tysO (srtfJh t)) l)) n) :
  PCO P (ρ.f 6) (TV.vL H γ (inA (srtfJs t gid) (dis (Sh.tysL (srtfJs t gid) ++ tysO (srtfJh t)) l)).1) (obs H γ (inO' (srtfJs t gid) (srtfJh t) (dis (Sh.tysL (srtfJs t gid) ++ tysO (srtfJh t)) l)))
   (oneV (TV.vL H' γ (outA [] [] (dis (Sh.tysL [] ++ tysO (srtfJh t)) r)).1)) (obs H' γ (outO [] (srtfJh t) [] (dis (Sh.tysL [] ++ tysO (srtfJh t)) r))) [] := by
 obtain ⟨hlim, hg, rfl⟩ := srtfF_some hr
 have c : ∀ (x : List t.D), castD (.list t) (.list t) x = some x := fun x => castD_self _ _
 have di : dis (Sh.tysL (srtfJs t gid) ++ tysO (srtfJh t)) l = [⟨.list t, l⟩] := rfl
 have ro : dis (Sh.tysL [] ++ tysO (srtfJh t)) (sortedF cF l) = [⟨.list t, sortedF cF l⟩] := rfl
 have i1 : inA (srtfJs t gid) [⟨.list t, l⟩] = ([.sof 2000 0 t.size, .fn gid []], [⟨.list t, l⟩]) := by
  simp only [inA, Sh.unL, Sh.un, z0]
 have i2 : inO' (srtfJs t gid) (srtfJh t) [⟨.list t, l⟩] = [(2000, 0, .lst 0 t l)] := by
  simp only [inO', i1, unO, OSh.un, takeD, c, z0]
 have o1 : outA [] [] [⟨.list t, sortedF cF l⟩] = ([], [⟨.list t, sortedF cF l⟩]) := rfl
 have o2 : outO [] (srtfJh t) [] [⟨.list t, sortedF cF l⟩] = [(2000, 0, .lst 0 t (sortedF cF l))] := by
  simp only [outO, o1, unO, OSh.un, takeD, c];rfl
 rw [di, i2] at hH
 rw [di, ro, i1, i2, o1, o2]
 have a1 : H 2000 = l.length := hH 2000 (by simp [idsO])
 have hm := sortf_pco L hent t ht hA aE zE gid cF hp l hlim hg (γ 2000)
 rw [<- a1] at hm
 simp only [TV.vL, TV.v, obs, List.map_cons, List.map_nil, TOb.ob, oneV, Nat.add_zero]
 exact hm
noncomputable def Ow.srtf {P : Program} {ρ : Go.Shelf.Ren} (L : SlLaysF0.n6 P ρ) (hent : Entered P (ρ.f 6)) (t : Ty) (ht : t.flat = true) (hA : t.isA = true)
  (aE : ∀ w, (isAgg (ρ.t 24)).run P w = .ok true w) (zE : ∀ w, (Go.sizeOf (ρ.t 24)).run P w = .ok t.size w)
  (gid : FuncId) (cF : t.D -> t.D -> Option Int) (hp : ∀ x y r, cF x y = some r -> PC P gid [t.enc x, t.enc y] (.int .i64 r)) : Ow P where
 f := ρ.f 6
 js := srtfJs t gid
 jh := srtfJh t
 rs := []
 rh := srtfJh t
 ne := []
 wf := rfl
 F := fun l => srtfF cF l
 ok := fun d r hr γ H H' h1 h2 => srtf_ok L hent t ht hA aE zE gid cF hp d r hr γ H H' h1
end Go.PG.PH
set_option maxRecDepth 100000
set_option linter.unusedVariables false
namespace Go.Proofs.YtgpioploehgpdaaGreat
open Go.PG Go.PG.PH
noncomputable section
def Tryz.laysF143_ren : Go.Shelf.Ren := ⟨fun | 6 => 143 | 15 => 155 | 14 => 187 | 28 => 199 | 29 => 200 | 20 => 227 | 21 => 228 | 22 => 229 | 23 => 230 | 24 => 231 | 25 => 232 | 26 => 233 | 27 => 234 | 46 => 271 | 47 => 243 | 48 => 244 | 49 => 272 | 50 => 273 | 57 => 289 | n => n, fun | 22 => 99 | 24 => 119 | 25 => 193 | 3 => 3 | 39 => 213 | 0 => 0 | 53 => 250 | 55 => 252 | 4 => 4 | 46 => 243 | 45 => 242 | 50 => 38 | 5 => 5 | 9 => 9 | 66 => 280 | 70 => 284 | 76 => 303 | 77 => 69 | n => n, fun | n => n⟩
theorem Tryz.laysF143 : Go.Proofs.SlLaysF0.n6 Tryz.prog Tryz.laysF143_ren where
 mixed := by kernel_rfl
 f6 := ⟨ "slices.SortFunc[[]moothall/api.Datum,moothall/api.Datum]", by decide, Tryz.func143.trans (congrArg some (by kernel_rfl))⟩
 f14 := ⟨ "slices.pdqsortCmpFunc[moothall/api.Datum]", by decide, Tryz.func187.trans (congrArg some (by kernel_rfl))⟩
 f15 := Tryz.func155.trans (congrArg some (by kernel_rfl))
 f20 := ⟨ "slices.insertionSortCmpFunc[moothall/api.Datum]", by decide, Tryz.func227.trans (congrArg some (by kernel_rfl))⟩
 f21 := ⟨ "slices.heapSortCmpFunc[moothall/api.Datum]", by decide, Tryz.func228.trans (congrArg some (by kernel_rfl))⟩
 f22 := ⟨ "slices.breakPatternsCmpFunc[moothall/api.Datum]", by decide, Tryz.func229.trans (congrArg some (by kernel_rfl))⟩
 f23 := ⟨ "slices.choosePivotCmpFunc[moothall/api.Datum]", by decide, Tryz.func230.trans (congrArg some (by kernel_rfl))⟩
 f24 := ⟨ "slices.reverseRangeCmpFunc[moothall/api.Datum]", by decide, Tryz.func231.trans (congrArg some (by kernel_rfl))⟩
 f25 := ⟨ "slices.partialInsertionSortCmpFunc[moothall/api.Datum]", by decide, Tryz.func232.trans (congrArg some (by kernel_rfl))⟩
 f26 := ⟨ "slices.partitionEqualCmpFunc[moothall/api.Datum]", by decide, Tryz.func233.trans (congrArg some (by kernel_rfl))⟩
 f27 := ⟨ "slices.partitionCmpFunc[moothall/api.Datum]", by decide, Tryz.func234.trans (congrArg some (by kernel_rfl))⟩
 f28 := Tryz.func199.trans (congrArg some (by kernel_rfl))
 f29 := Tryz.func200.trans (congrArg some (by kernel_rfl))
 f46 := ⟨ "slices.siftDownCmpFunc[moothall/api.Datum]", by decide, Tryz.func271.trans (congrArg some (by kernel_rfl))⟩
 f47 := Tryz.func243.trans (congrArg some (by kernel_rfl))
 f48 := Tryz.func244.trans (congrArg some (by kernel_rfl))
 f49 := ⟨ "slices.medianAdjacentCmpFunc[moothall/api.Datum]", by decide, Tryz.func272.trans (congrArg some (by kernel_rfl))⟩
 f50 := ⟨ "slices.medianCmpFunc[moothall/api.Datum]", by decide, Tryz.func273.trans (congrArg some (by kernel_rfl))⟩
 f57 := ⟨ "slices.order2CmpFunc[moothall/api.Datum]", by decide, Tryz.func289.trans (congrArg some (by kernel_rfl))⟩
 t0 := Tryz.underlying0
 a0 := Tryz.isAgg0
 z0 := Tryz.sizeOf0
 v0 := Tryz.zeroValue0
 t3 := Tryz.underlying3
 a3 := Tryz.isAgg3
 z3 := Tryz.sizeOf3
 v3 := Tryz.zeroValue3
 t4 := Tryz.underlying4
 a4 := Tryz.isAgg4
 z4 := Tryz.sizeOf4
 v4 := Tryz.zeroValue4
 t5 := Tryz.underlying5
 a5 := Tryz.isAgg5
 z5 := Tryz.sizeOf5
 v5 := Tryz.zeroValue5
 t9 := Tryz.underlying9
 a9 := Tryz.isAgg9
 z9 := Tryz.sizeOf9
 v9 := Tryz.zeroValue9
 t22 := Tryz.underlying99
 a22 := Tryz.isAgg99
 z22 := Tryz.sizeOf99
 v22 := Tryz.zeroValue99
 t25 := Tryz.underlying193
 a25 := Tryz.isAgg193
 z25 := Tryz.sizeOf193
 v25 := Tryz.zeroValue193
 t39 := Tryz.underlying213
 a39 := Tryz.isAgg213
 z39 := Tryz.sizeOf213
 v39 := Tryz.zeroValue213
 t45 := Tryz.underlying242
 a45 := Tryz.isAgg242
 z45 := Tryz.sizeOf242
 v45 := Tryz.zeroValue242
 t46 := Tryz.underlying243
 a46 := Tryz.isAgg243
 z46 := Tryz.sizeOf243
 v46 := Tryz.zeroValue243
 t50 := Tryz.underlying38
 a50 := Tryz.isAgg38
 z50 := Tryz.sizeOf38
 v50 := Tryz.zeroValue38
 t53 := Tryz.underlying250
 a53 := Tryz.isAgg250
 z53 := Tryz.sizeOf250
 v53 := Tryz.zeroValue250
 t55 := Tryz.underlying252
 a55 := Tryz.isAgg252
 z55 := Tryz.sizeOf252
 v55 := Tryz.zeroValue252
 t66 := Tryz.underlying280
 a66 := Tryz.isAgg280
 z66 := Tryz.sizeOf280
 v66 := Tryz.zeroValue280
 t70 := Tryz.underlying284
 a70 := Tryz.isAgg284
 z70 := Tryz.sizeOf284
 v70 := Tryz.zeroValue284
 t76 := Tryz.underlying303
 a76 := Tryz.isAgg303
 z76 := Tryz.sizeOf303
 v76 := Tryz.zeroValue303
 t77 := Tryz.underlying69
 a77 := Tryz.isAgg69
 z77 := Tryz.sizeOf69
 v77 := Tryz.zeroValue69
def o_143_136 : Ow Tryz.prog := Ow.srtf Tryz.laysF143 ⟨Tryz.f143, Tryz.func143, by kernel_rfl, by kernel_rfl⟩ Tz6 rfl rfl Tryz.isAgg119 Tryz.sizeOf119 136 (fun x y : Int × ByteArray × Int × Int => view_order x y) (fun x y r h => c_136.ok (x, y) r h)
end
end Go.Proofs.YtgpioploehgpdaaGreat
set_option maxRecDepth 100000
set_option linter.unusedVariables false
namespace Go.Proofs.YtgpioploehgpdaaGreat
open Go.PG Go.PG.PH
noncomputable section
def h_68 : HT := (.s .n (.s .n (.s (.s .n (.l ⟨[0, 1, 11, 12, 13], [], [], []⟩ .n)) .n)))
def zq65 (p0 : List Yz7) (p1 : List Yz7) : Option (Bool) := bif (↑p0.length : Int) != (↑p1.length : Int) then some false else forK (fun k x d next => (idx p0 (↑k : Int)).bind fun y => (idx p1 (↑k : Int)).bind fun y_1 => bif !(y.1 == y_1.1 && (y.2 == y_1.2 && true)) then some false else next ()) 0 p0 () fun d => some true
def c_68 : Ct Tryz.prog := .mk' mixA ⟨[], []⟩ 0 68 Tryz.f68 [.d Tz11, .d Tz11] (.one .bool) h_68 Tryz.func68 (by kernel_rfl) (fun d => zq65 d.1 d.2) (by kernel_rfl)
def h_146 : HT := (.s .n (.s (.s .n (.l ⟨[0, 3, 6, 7, 8], [3], [], []⟩ .n)) .n))
def zq73 (p0 : List Yz4) (p1 : Int × ByteArray × Int × Int) : Option (Int) := forK (fun k x d next => (idx p0 (↑k : Int)).bind fun y => bif p1.1 == y.1 && (p1.2.1.toList == y.2.1.toList && (p1.2.2.1 == y.2.2.1 && (p1.2.2.2 == y.2.2.2 && true))) then some (↑k : Int) else next ()) 0 p0 () fun d => some (-1 : Int)
def c_146 : Ct Tryz.prog := .mk' mixA ⟨[], []⟩ 0 146 Tryz.f146 [.d (.list Tz6), .d Tz6] (.one Tz2) h_146 Tryz.func146 (by kernel_rfl) (fun d => zq73 d.1 d.2) (by kernel_rfl)
def h_69 : HT := .n
def zq61 (p0 : List Yz4) (p1 : Int × ByteArray × Int × Int) : Option (Bool) := (zq73 p0 (p1.1, p1.2.1, p1.2.2.1, p1.2.2.2)).bind fun r => some (decide (r >= 0))
def c_69 : Ct Tryz.prog := .mk' mixA ⟨[c_146], []⟩ 0 69 Tryz.f69 [.d (.list Tz6), .d Tz6] (.one .bool) h_69 Tryz.func69 (by kernel_rfl) (fun d => zq61 d.1 d.2) (by kernel_rfl)
def h_148 : HT := .n
def view_House_1 (p0 : Int × Int) (c0_0 : Int) : Option (Bool × Int) := some (p0.1 == c0_0, c0_0)
def o_148 : Ow Tryz.prog := .mk' mixA ⟨[], []⟩ 0 148 Tryz.f148 [.dt (.pair Tz2 Tz2), .pt 2001 1 0] [(2001, .el true 1 [.dt Tz2])] [.dt .bool] [(2001, .el true 1 [.dt Tz2])] [] h_148 Tryz.func148 (by kernel_rfl) (by kernel_rfl) (fun d => view_House_1 d.1 d.2) (by kernel_rfl)
def h_147_148 : HT := (.s .n (.s (.s .n (.l ⟨[0, 1, 6, 7, 8], [], [], Sz8⟩ .n)) .n))
def zq71 (p0 : List Yz7) (q1_0_0 : Int) : Option Yz7 := forK (fun k x d next => (idx p0 (↑k : Int)).bind fun y => (view_House_1 (y.1, y.2) d).bind fun r => bif r.1 then some ((↑k : Int), r.2) else next r.2) 0 p0 q1_0_0 fun d => some ((-1 : Int), d)
def o_147_148 : Ow Tryz.prog := .mk' mixA ⟨[], [o_148]⟩ 0 147 Tryz.f147 [.dt Tz11, .fn 148 [.pt 2050 1 0]] Sz8 [.dt Tz2] Sz8 [] h_147_148 Tryz.func147 (by kernel_rfl) (by kernel_rfl) (fun d => zq71 d.1 d.2) (by kernel_rfl)
def h_71 : HT := (.s .n (.s .n (.s .n (.s .n (.s (.s .n (.l ⟨[2, 5, 16, 17, 18], [2], [(6, .wn 35 1)], [(35, .ls Tz2)]⟩ .n)) .n)))))
def view_House (p0 : Int × List Yz7 × List Yz4) (p1 : Int) : Option (List Int) := (zq71 p0.2.1 p1).bind fun r => bif decide (r.1 < 0) then some [] else forK (fun k x d next => (idx p0.2.1 r.1).bind fun y => bif x.2 == y.2 then (chk (d.length + 1 <= LIM)).bind fun x_1 => next (d ++ [x.1]) else next d) 0 p0.2.1 [] fun d => some d
def c_71 : Ct Tryz.prog := .mk' mixA ⟨[], [o_147_148, o_148]⟩ 0 71 Tryz.f71 [.d Tz4, .d Tz2] (.one Tz13) h_71 Tryz.func71 (by kernel_rfl) (fun d => view_House d.1 d.2) (by kernel_rfl)
def h_72 : HT := (.s .n (.s .n (.s (.s .n (.l ⟨[1, 2, 5, 11, 12, 13], [2], [], []⟩ (.s .n (.s .n (.c (.s (.s .n (.l ⟨[7, 22, 23, 24], [7], [(5, .wn 37 1)], [(37, .ls Tz2)]⟩ .n)) .n) .n))))) .n)))
def zq34 (p0 : Int × List Yz7 × List Yz4) (p1 : Int) : Option (List Int) := forK (fun k x d next => bif x.1 == p1 then forK (fun k x_1 d next => bif x_1.2 == x.2 then (chk (d.length + 1 <= LIM)).bind fun x => next (d ++ [x_1.1]) else next d) 0 p0.2.1 [] fun d => some d else next ()) 0 p0.2.1 () fun d => some []
def c_72 : Ct Tryz.prog := .mk' mixA ⟨[], []⟩ 0 72 Tryz.f72 [.d Tz4, .d Tz2] (.one Tz13) h_72 Tryz.func72 (by kernel_rfl) (fun d => zq34 d.1 d.2) (by kernel_rfl)
def h_70 : HT := (.s .n (.s .n (.s (.s .n (.l ⟨[0, 1, 11, 12, 13], [], [], []⟩ .n)) .n)))
def zq66 (p0 : List Int) (p1 : List Int) : Option (Bool) := bif (↑p0.length : Int) != (↑p1.length : Int) then some false else forK (fun k x d next => (idx p0 (↑k : Int)).bind fun y => (idx p1 (↑k : Int)).bind fun y_1 => bif y != y_1 then some false else next ()) 0 p0 () fun d => some true
def c_70 : Ct Tryz.prog := .mk' mixA ⟨[], []⟩ 0 70 Tryz.f70 [.d Tz13, .d Tz13] (.one .bool) h_70 Tryz.func70 (by kernel_rfl) (fun d => zq66 d.1 d.2) (by kernel_rfl)
def h_78 : HT := (.s .n (.s .n (.s (.s .n (.l ⟨[0, 1, 11, 12, 13], [], [], []⟩ .n)) .n)))
def zq64 (p0 : List Yz4) (p1 : List Yz4) : Option (Bool) := bif (↑p0.length : Int) != (↑p1.length : Int) then some false else forK (fun k x d next => (idx p0 (↑k : Int)).bind fun y => (idx p1 (↑k : Int)).bind fun y_1 => bif !(y.1 == y_1.1 && (y.2.1.toList == y_1.2.1.toList && (y.2.2.1 == y_1.2.2.1 && (y.2.2.2 == y_1.2.2.2 && true)))) then some false else next ()) 0 p0 () fun d => some true
def c_78 : Ct Tryz.prog := .mk' mixA ⟨[], []⟩ 0 78 Tryz.f78 [.d (.list Tz6), .d (.list Tz6)] (.one .bool) h_78 Tryz.func78 (by kernel_rfl) (fun d => zq64 d.1 d.2) (by kernel_rfl)
def h_73 : HT := .n
def view_Same (p0 : Int × List Yz7 × List Yz4) (p1 : Int × List Yz7 × List Yz4) : Option (Bool) := bif p0.1 == p1.1 then (zq65 p0.2.1 p1.2.1).bind fun r => bif r then (zq64 p0.2.2 p1.2.2).bind fun r => some r else some false else some false
def c_73 : Ct Tryz.prog := .mk' mixA ⟨[c_68, c_78], []⟩ 0 73 Tryz.f73 [.d Tz4, .d Tz4] (.one .bool) h_73 Tryz.func73 (by kernel_rfl) (fun d => view_Same d.1 d.2) (by kernel_rfl)
def h_74 : HT := .n
def zq37 (p0 : Int × List Yz7 × List Yz4) (p1 : Int × List Yz7 × List Yz4) : Option (Bool) := bif p0.1 == p1.1 then (zq65 p0.2.1 p1.2.1).bind fun r => bif r then (zq64 p0.2.2 p1.2.2).bind fun r => some r else some false else some false
def c_74 : Ct Tryz.prog := .mk' mixA ⟨[c_68, c_78], []⟩ 0 74 Tryz.f74 [.d Tz4, .d Tz4] (.one .bool) h_74 Tryz.func74 (by kernel_rfl) (fun d => zq37 d.1 d.2) (by kernel_rfl)
def h_67 : HT := (.s .n (.s (.j ⟨[2, 3], [2, 3], [(19, .dt .bool)], []⟩ .n .n) (.s (.s .n (.l ⟨[3, 21, 22, 23], [3], [], []⟩ .n)) .n)))
def view_Less (p0 : Int × List Yz7 × List Yz4) (p1 : Int × List Yz7 × List Yz4) : Option (Bool) := join (fun d => bif d then some false else forK (fun k x d next => (zq61 p1.2.2 (x.1, x.2.1, x.2.2.1, x.2.2.2)).bind fun r => bif !r then some false else next ()) 0 p0.2.2 () fun d => some true) fun K => bif p0.1 != p1.1 then K true else (zq65 p0.2.1 p1.2.1).bind fun r => K !r
def c_67 : Ct Tryz.prog := .mk' mixA ⟨[c_68, c_69], []⟩ 0 67 Tryz.f67 [.d Tz4, .d Tz4] (.one .bool) h_67 Tryz.func67 (by kernel_rfl) (fun d => view_Less d.1 d.2) (by kernel_rfl)
def h_65 : HT := (.s .n (.s .n (.s .n (.s (.s .n (.l ⟨[0, 3, 19, 20, 21], [3], [(7, .wn 51 4)], [(51, .ls Tz6)]⟩ (.s .n (.s .n (.l ⟨[0, 3, 9, 19, 20, 21, 26, 27, 28], [3, 9], [(7, .wn 51 4)], [(51, .ls Tz6)]⟩ (.s .n (.j ⟨[0, 3, 7, 9, 11, 19, 20, 21, 26, 27, 28], [51, 3, 9, 11], [(43, .dt .bool)], []⟩ .n .n))))))) .n))))
def view_Open (fu : Nat) (p0 : List Yz1) (p1 : Int × List Yz7 × List Yz4) : Option (List Yz4 × Int) := (view_Check fu p0 (p1.1, p1.2.1, p1.2.2)).bind fun r => bif r != 0 then some ([], r) else forK (fun k x d next => (view_Attrs fu p0).bind fun r => forK (fun k x_1 d next => join (fun d_1 => bif d_1 then (chk (d.length + 1 <= LIM)).bind fun x_2 => next (d ++ [(x.1, x_1.1, (0 : Int), (0 : Int))]) else next d) fun K => bif x_1.2.2.1 then (view_Get (p1.1, p1.2.1, p1.2.2) x.1 x_1.1).bind fun r => K (r.1 == 0 && (r.2 == 0 && true)) else K false) 0 r d fun d => next d) 0 p1.2.1 [] fun d => (srtfF (fun x y : Int × ByteArray × Int × Int => view_order x y) d).bind fun r => (chk (r.length = d.length)).bind fun x => some (r, (0 : Int))
def c_65 (fu : Nat) : Ct Tryz.prog := .mk' mixA ⟨[c_62 fu, c_61 fu, c_132, c_136], [o_143_136]⟩ fu 65 Tryz.f65 [.d Tz1, .d Tz4] (.many [(.list Tz6), Tz2]) h_65 Tryz.func65 (by kernel_rfl) (fun d => view_Open fu d.1 d.2) (by kernel_rfl)
def h_150 : HT := .n
def zq36 (p0 : Int × ByteArray × Int × Int) (c0_0 : Int) (c1_0 : ByteArray) : Option (Bool × Int × ByteArray) := bif p0.1 == c0_0 then some (p0.2.1.toList == c1_0.toList, c0_0, c1_0) else some (false, c0_0, c1_0)
def o_150 : Ow Tryz.prog := .mk' mixA ⟨[], []⟩ 0 150 Tryz.f150 [.dt Tz6, .pt 2001 1 0, .pt 2002 1 0] [(2001, .el true 1 [.dt Tz2]), (2002, .el true 1 [.dt .str])] [.dt .bool] [(2001, .el true 1 [.dt Tz2]), (2002, .el true 1 [.dt .str])] [] h_150 Tryz.func150 (by kernel_rfl) (by kernel_rfl) (fun d => zq36 d.1 d.2.1 d.2.2) (by kernel_rfl)
def h_149_150 : HT := (.s .n (.s (.s .n (.l ⟨[0, 1, 6, 7, 8], [], [], Sz10⟩ .n)) .n))
def zq68 (p0 : List Yz4) (q1_0_0 : Int) (q1_1_0 : ByteArray) : Option (Int × Int × ByteArray) := forK (fun k x d next => (idx p0 (↑k : Int)).bind fun y => (zq36 (y.1, y.2.1, y.2.2.1, y.2.2.2) d.1 d.2).bind fun r => bif r.1 then some ((↑k : Int), r.2.1, r.2.2) else next (r.2.1, r.2.2)) 0 p0 (q1_0_0, q1_1_0) fun d => some ((-1 : Int), d.1, d.2)
def o_149_150 : Ow Tryz.prog := .mk' mixA ⟨[], [o_150]⟩ 0 149 Tryz.f149 [.dt (.list Tz6), .fn 150 [.pt 2050 1 0, .pt 2051 1 0]] Sz10 [.dt Tz2] Sz10 [] h_149_150 Tryz.func149 (by kernel_rfl) (by kernel_rfl) (fun d => zq68 d.1 d.2.1 d.2.2) (by kernel_rfl)
def h_75 : HT := .n
def zq35 (p0 : Int × List Yz7 × List Yz4) (p1 : Int) (p2 : ByteArray) : Option Yz7 := (zq68 p0.2.2 p1 p2).bind fun r => bif decide (r.1 < 0) then some ((0 : Int), (0 : Int)) else (idx p0.2.2 r.1).bind fun y => some (y.2.2.1, y.2.2.2)
def c_75 : Ct Tryz.prog := .mk' mixA ⟨[], [o_149_150, o_150]⟩ 0 75 Tryz.f75 [.d Tz4, .d Tz2, .d .str] (.one (.pair Tz2 Tz2)) h_75 Tryz.func75 (by kernel_rfl) (fun d => zq35 d.1 d.2.1 d.2.2) (by kernel_rfl)
def h_13 : HT := (.s .n (.j ⟨[0, 3, 5, 6], [5, 6], [(9, .dt .bool)], []⟩ .n (.s (.s .n (.l ⟨[0, 3, 5, 6, 35, 36, 37], [5, 6], [(9, .dt .bool)], []⟩ .n)) (.s (.j ⟨[0, 5], [5], [(76, .dt .bool)], []⟩ .n .n) (.s .n (.s .n (.s .n (.s (.s .n (.l ⟨[0, 5, 12, 13, 14, 87, 88, 89], [5], [(15, .wn 915 4)], [(915, .ls Tz6)]⟩ (.s .n (.s .n (.l ⟨[0, 5, 12, 13, 14, 17, 87, 88, 89, 94, 95, 96], [17, 5], [(15, .wn 915 4)], [(915, .ls Tz6)]⟩ (.s .n (.s .n (.j ⟨[0, 5, 12, 13, 14, 15, 17, 20, 87, 88, 89, 94, 95, 96], [17, 915, 20, 5], [(120, .dt .bool)], []⟩ .n (.c (.s .n (.s (.w ⟨[0, 5, 12, 13, 14, 15, 17, 20, 87, 88, 89, 94, 95, 96], [17, 915, 20, 5], [(21, .dt Tz2)], []⟩ (.s (.j ⟨[0, 5, 12, 13, 14, 15, 17, 20, 21, 87, 88, 89, 94, 95, 96], [17, 915, 20, 5], [(133, .dt .bool)], []⟩ .n .n) .n)) .n)) .n))))))))) .n))))))))
def zq30 (fu : Nat) (p0 : List Yz1) (p1 : Int × List Yz7 × List Yz4) (p2 : Int × List Yz7 × List Yz4) (p3 : Int) : Option (Bool) := join (fun d => forK (fun k x d next => bif d then (zq61 p2.2.2 (x.1, x.2.1, x.2.2.1, x.2.2.2)).bind fun r => next r else next false) 0 p1.2.2 d fun d => join (fun d => bif d then some false else (view_Open fu p0 (p1.1, p1.2.1, p1.2.2)).bind fun r => (view_Check fu p0 (p1.1, p1.2.1, p1.2.2)).bind fun r_1 => forK (fun k x d next => (zq39 fu p0).bind fun r => forK (fun k x_1 d next => join (fun d_1 => bif d_1 then whK (fun self d_2 => join (fun d_3 => bif d_3 then self (IntKind.i64.wrap (d_2 - 1)) else ((chk ((0 : Int) <= d_2 /\ d_2 <= (↑d.length : Int) /\ (1 : Nat) ≠ (0 : Nat) /\ d.length + 1 <= LIM)).bind fun x_2 => some (List.take d_2.toNat d ++ [(x.1, x_1.1, (0 : Int), (0 : Int))] ++ List.drop d_2.toNat d, [(x.1, x_1.1, (0 : Int), (0 : Int))])).bind fun r => (chk (r.2.length = 1)).bind fun x => next r.1) fun K => bif decide (d_2 > 0) then (chk ((0 : Int) <= IntKind.i64.wrap (d_2 - 1) /\ IntKind.i64.wrap (d_2 - 1) < (↑d.length : Int))).bind fun x_2 => d[(IntKind.i64.wrap (d_2 - 1)).toNat]?.bind fun x_3 => (zq33 (x.1, x_1.1, (0 : Int), (0 : Int)) x_3).bind fun r => K r else K false) fu (↑d.length : Int) else next d) fun K => bif r_1 == 0 then bif x_1.2.2.1 then (zq35 (p1.1, p1.2.1, p1.2.2) x.1 x_1.1).bind fun r => K (r.1 == 0 && (r.2 == 0 && true)) else K false else K false) 0 r d fun d => next d) 0 p1.2.1 [] fun d => bif r.2 == r_1 then (zq64 r.1 d).bind fun r => some r else some false) fun K => zq32.bind fun r => bif !r then K true else (view_House (p1.1, p1.2.1, p1.2.2) p3).bind fun r => (zq34 (p1.1, p1.2.1, p1.2.2) p3).bind fun r_1 => (zq66 r r_1).bind fun r => bif !r then K true else (view_Same (p1.1, p1.2.1, p1.2.2) (p2.1, p2.2.1, p2.2.2)).bind fun r => (zq37 (p1.1, p1.2.1, p1.2.2) (p2.1, p2.2.1, p2.2.2)).bind fun r_2 => bif !r == r_2 then K true else (view_Less (p1.1, p1.2.1, p1.2.2) (p2.1, p2.2.1, p2.2.2)).bind fun r => K !r == d) fun K => bif p1.1 == p2.1 then (zq65 p1.2.1 p2.2.1).bind fun r => K r else K false
def c_13 (fu : Nat) : Ct Tryz.prog := .mk' mixA ⟨[c_68, c_69, c_57, c_71, c_72, c_70, c_73, c_74, c_67, c_65 fu, c_62 fu, c_27 fu, c_75, c_76, c_78], [o_77w0]⟩ fu 13 Tryz.f13 [.d Tz1, .d Tz4, .d Tz4, .d Tz2] (.one .bool) h_13 Tryz.func13 (by kernel_rfl) (fun d => zq30 fu d.1 d.2.1 d.2.2.1 d.2.2.2) (by kernel_rfl)
end
end Go.Proofs.YtgpioploehgpdaaGreat
set_option linter.unusedVariables false
set_option linter.unusedSimpArgs false
set_option maxRecDepth 100000
namespace Go.Proofs.YtgpioploehgpdaaGreat
open Go.PG Go.PG.PH
theorem bl_ntr {l m n : List UInt8} (h1 : Op.bytesLess l m = false) (h2 : Op.bytesLess m n = false) : Op.bytesLess l n = false := by
 cases e : Op.bytesLess l n with
 | false => rfl
 | true =>
  cases e2 : Op.bytesLess n m with
  | true => rw [bl_tr _ _ _ e e2] at h1; cases h1
  | false =>
   have := bl_tri _ _ h2 e2;rw [this, e] at h1; cases h1
theorem ahd_iff (x y : Dm) : ahd x y = true ↔ x.1 < y.1 \/ (x.1 = y.1 /\ Op.bytesLess x.2.1.toList y.2.1.toList = true) := by simp [ahd]
theorem ahd_no (x y : Dm) : ahd x y = false ↔ ¬ x.1 < y.1 /\ (x.1 = y.1 -> Op.bytesLess x.2.1.toList y.2.1.toList = false) := by
 have := ahd_iff x y;cases e : ahd x y with
 | true =>
  rw [e] at this;have h := this.1 rfl;constructor
  ·intro h; cases h
  ·rintro ⟨h1, h2⟩;rcases h with h | ⟨h3, h4⟩
   ·exact absurd h h1
   ·rw [h2 h3] at h4; cases h4
 | false =>
  rw [e] at this;refine ⟨fun _ => ⟨fun h => ?_, fun h => ?_⟩, fun _ => rfl⟩
  ·have := this.2 (.inl h);cases this
  cases e2 : Op.bytesLess x.2.1.toList y.2.1.toList with
  | false => rfl
  | true => have := this.2 (.inr ⟨h, e2⟩); cases this
theorem swoD : PH.SWO ahd := ⟨fun x => (ahd_no x x).2 ⟨by omega, fun _ => bl_irr _⟩, fun x y z h1 h2 => by
 rw [ahd_iff] at *;rcases h1 with h1 | ⟨h1, h3⟩
 ·rcases h2 with h2 | ⟨h2, h4⟩
  ·left; omega
  ·left; omega
 ·rcases h2 with h2 | ⟨h2, h4⟩
  ·left; omega
  ·exact .inr ⟨h1.trans h2, bl_tr _ _ _ h3 h4⟩, fun x y z h1 h2 => by
 rw [ahd_no] at *;refine ⟨by omega, fun h => ?_⟩;exact bl_ntr (h1.2 (by omega)) (h2.2 (by omega))⟩
theorem order_lt (x d : Dm) : ∃ o : Int, view_order x d = some o /\ decide (o < 0) = ahd x d := by
 obtain ⟨o, h1, h2⟩ := order_eq x d;refine ⟨o, h1, ?_⟩;cases e : ahd x d with
 | true => rw [e] at h2; have := of_decide_eq_false h2; exact decide_eq_true (by omega)
 | false => rw [e] at h2; have := of_decide_eq_true h2; exact decide_eq_false (by omega)
theorem bytes_inj {a b : ByteArray} (h : a.toList = b.toList) : a = b := by rw [<- PH.bytes_back a, <- PH.bytes_back b, h]
theorem good_order (L : List Dm) : SrtGood (fun x y : Dm => view_order x y) L := by
 refine ⟨fun x _ y _ => ?_, ?_⟩
 ·obtain ⟨o, h, _⟩ := order_lt x y;exact ⟨o, h⟩
 ·have e : ∀ x y : {z // z ∈ L}, lessF (fun x y : Dm => view_order x y) L x y = ahd x.1 y.1 := by
   intro x y;obtain ⟨o, h1, h2⟩ := order_lt x.1 y.1;unfold lessF Go.Proofs.ltOf;simp only [h1, Option.getD_some, h2]
  refine ⟨fun x => ?_, fun x y z h1 h2 => ?_, fun x y z h1 h2 => ?_⟩
  ·rw [e]; exact swoD.irr _
  ·rw [e] at *; exact swoD.tr _ _ _ h1 h2
  ·rw [e] at *; exact swoD.ntr _ _ _ h1 h2
theorem sort_ok (L : List Dm) (hl : L.length <= LIM) : ∃ r, srtfF (fun x y : Dm => view_order x y) L = some r /\ r.Perm L /\ PH.Srt ahd r := by
 obtain ⟨r, h1, h2, h3⟩ := srtfF_ok hl (good_order L);refine ⟨r, h1, h2, ?_⟩;refine List.Pairwise.imp ?_ h3;intro x y h;obtain ⟨o, e1, e2⟩ := order_lt y x;rw [e1] at h;simp only [Option.getD_some] at h;rw [<- e2];exact decide_eq_false h
theorem srt_same {X Y : List Dm} (hX : PH.Srt ahd X) (hY : PH.Srt ahd Y) (hp : X.Perm Y) (h0 : ∀ x ∈ X, x.2.2 = ((0 : Int), (0 : Int))) : X = Y := by
 refine List.Perm.eq_of_pairwise (le := fun x y => ahd y x = false) (fun a b ha hb h1 h2 => ?_) hX hY hp;have a0 := h0 a ha;have b0 := h0 b (hp.mem_iff.2 hb);rw [ahd_no] at h1 h2;have e1 : a.1 = b.1 := by omega
 have e2 := bytes_inj (bl_tri _ _ (h2.2 e1) (h1.2 e1.symm));obtain ⟨a1, a2, a3⟩ := a;obtain ⟨b1, b2, b3⟩ := b;simp only at e1 e2 a0 b0;rw [e1, e2, a0, b0]
theorem eqP_tot (P Q : List Pt) : Sm (fun _ => True) (zq65 P Q) := by
 unfold zq65;refine Sm.cond (fun _ => Sm.some trivial) fun e => ?_
 have e : (P.length : Int) = (Q.length : Int) := by simpa using e
 refine Sm.forT (fun i x s K hi hx hK => ?_) fun _ => Sm.some trivial
 refine Sm.idx (by omega) (by omega) fun y hy => Sm.idx (by omega) (by omega) fun z hz => ?_
 exact Sm.cond (fun _ => Sm.some trivial) fun _ => hK _
theorem eqD_tot (P Q : List Dm) : Sm (fun _ => True) (zq64 P Q) := by
 unfold zq64;refine Sm.cond (fun _ => Sm.some trivial) fun e => ?_
 have e : (P.length : Int) = (Q.length : Int) := by simpa using e
 refine Sm.forT (fun i x s K hi hx hK => ?_) fun _ => Sm.some trivial
 refine Sm.idx (by omega) (by omega) fun y hy => Sm.idx (by omega) (by omega) fun z hz => ?_
 exact Sm.cond (fun _ => Sm.some trivial) fun _ => hK _
theorem eqD_self (l : List Dm) : zq64 l l = some true := by
 have : Sm (fun r => r = true) (zq64 l l) := by
  unfold zq64;refine Sm.cond (fun e => by simp at e) fun _ => ?_
  refine Sm.for0 (fun _ _ => True) trivial (fun i x s K hi hx _ hK => ?_) fun _ _ => Sm.some rfl
  rw [idx_at hx, Option.bind_some, Option.bind_some];refine Sm.cond (fun e => by simp at e) fun _ => hK _ trivial
 obtain ⟨r, h1, h2⟩ := this;rw [h1, h2]
theorem eqI_self (l : List Int) : zq66 l l = some true := by
 have : Sm (fun r => r = true) (zq66 l l) := by
  unfold zq66;refine Sm.cond (fun e => by simp at e) fun _ => ?_
  refine Sm.for0 (fun _ _ => True) trivial (fun i x s K hi hx _ hK => ?_) fun _ _ => Sm.some rfl
  rw [idx_at hx, Option.bind_some, Option.bind_some];refine Sm.cond (fun e => by simp at e) fun _ => hK _ trivial
 obtain ⟨r, h1, h2⟩ := this;rw [h1, h2]
theorem has_tot (l : List Dm) (d : Dm) : ∃ r, zq61 l d = some r := by
 have : Sm (fun _ => True) (zq61 l d) := by
  unfold zq61 zq73;refine Sm.bind (P := fun _ => True) ?_ fun r _ => Sm.some trivial
  refine Sm.forT (fun i x s K hi hx hK => ?_) fun _ => Sm.some trivial
  refine Sm.idx (by omega) (by omega) fun y hy => ?_
  exact Sm.cond (fun _ => Sm.some trivial) fun _ => hK _
 obtain ⟨r, h, _⟩ := this;exact ⟨r, h⟩
theorem find_at {α : Type} {p : α -> Bool} : ∀ {l : List α} {i : Nat} {x : α}, l[i]? = some x -> p x = true -> (∀ j y, j < i -> l[j]? = some y -> p y = false) -> l.find? p = some x
 | [], _, _, h, _, _ => by simp at h
 | y :: l, 0, x, h, hp, _ => by
  simp only [List.getElem?_cons_zero, Option.some.injEq] at h;subst h;simp [List.find?, hp]
 | y :: l, i + 1, x, h, hp, hn => by
  have h0 := hn 0 y (by omega) rfl;simp only [List.find?, h0];exact find_at (by simpa using h) hp fun j z hj hz => hn (j + 1) z (by omega) (by simpa using hz)
theorem find_none {α : Type} {p : α -> Bool} {l : List α} (h : ∀ j y, j < l.length -> l[j]? = some y -> p y = false) : l.find? p = none := by
 rw [List.find?_eq_none];intro x hx;obtain ⟨j, hj, rfl⟩ := List.getElem_of_mem hx;rw [h j _ hj (List.getElem?_eq_getElem hj)]; simp
theorem fidx_find {α : Type} (p : α -> Bool) : ∀ (l : List α) (k : Nat), (fidx p k l = -1 /\ l.find? p = none) \/ ∃ (i : Nat) (x : α), fidx p k l = ((k + i : Nat) : Int) /\ l[i]? = some x /\ l.find? p = some x
 | [], k => .inl ⟨rfl, rfl⟩
 | y :: l, k => by
  simp only [fidx, List.find?];cases e : p y with
  | true => exact .inr ⟨0, y, by simp, by simp, rfl⟩
  | false =>
   rcases fidx_find p l (k + 1) with ⟨h1, h2⟩ | ⟨i, x, h1, h2, h3⟩
   ·exact .inl ⟨h1, h2⟩
   ·exact .inr ⟨i + 1, x, by simp only [cond_false, h1]; congr 1; omega, by simpa using h2, h3⟩
def houseS (P : List Pt) (who : Int) : List Int := match P.find? (fun p => p.1 == who) with
 | none => []
 | some p => (P.filter fun q => q.2 == p.2).map (·.1)
theorem take_filter {α β : Type} (p : α -> Bool) (f : α -> β) {l : List α} {k : Nat} {x : α} (h : l[k]? = some x) :
  ((l.take (k + 1)).filter p).map f = ((l.take k).filter p).map f ++ (bif p x then [f x] else []) := by
 rw [List.take_add_one, h, List.filter_append, List.map_append]
 congr 1
 cases e : p x <;> simp [e]
theorem filter_len {α β : Type} (p : α -> Bool) (f : α -> β) (l : List α) (k : Nat) : (((l.take k).filter p).map f).length <= k := by
 rw [List.length_map];exact Nat.le_trans (List.length_filter_le _ _) (by simp; omega)
theorem housing (P : List Pt) (h : Int) (hP : P.length <= M20) {body : Nat -> Pt -> List Int -> (List Int -> Option (List Int)) -> Option (List Int)}
  (hb : ∀ k x d K, P[k]? = some x -> body k x d K = bif x.2 == h then (chk (d.length + 1 <= LIM)).bind fun _ => K (d ++ [x.1]) else K d) :
  Sm (fun r => r = (P.filter fun q => q.2 == h).map (·.1)) (forK body 0 P [] fun d => some d) := by
 have hlim := lim_eq
 have hM := M20_eq
 refine Sm.for0 (fun k d => d = ((P.take k).filter fun q => q.2 == h).map (·.1)) rfl (fun i x d K hi hx hI hK => ?_) fun d hd => Sm.some (by rw [hd, List.take_length])
 rw [hb i x d K hx]
 have h1 := take_filter (fun q : Pt => q.2 == h) (·.1) hx
 have h2 := filter_len (fun q : Pt => q.2 == h) (·.1) P i
 refine Sm.cond (fun e => ?_) fun e => ?_
 ·refine Sm.chk (by rw [hI]; omega) (hK _ ?_);rw [h1, hI];simp only [e, cond_true]
 ·refine hK _ ?_;rw [h1, hI];simp only [e, cond_false, List.append_nil]
theorem house_ok (v : Vw) (who : Int) (hP : v.2.1.length <= M20) : view_House v who = some (houseS v.2.1 who) := by
 have : Sm (fun r => r = houseS v.2.1 who) (view_House v who) := by
  unfold view_House zq71;rw [forK_fidx (fun x : Pt => x.1 == who) (fun i (c : Int) => ((i, c) : Int × Int)) who v.2.1 (fun k x K hx => by
   simp only [idx_at hx, Option.bind_some, view_House_1]) v.2.1 0 rfl]
  simp only [Option.bind_some];unfold houseS;rcases fidx_find (fun x : Pt => x.1 == who) v.2.1 0 with ⟨h1, h2⟩ | ⟨i, x, h1, h2, h3⟩
  ·rw [h1, h2]; exact Sm.some rfl
  ·rw [h1, h3, Nat.zero_add];refine Sm.cond (fun e => by have := of_decide_eq_true e; omega) fun _ => ?_
   refine housing v.2.1 x.2 hP fun k y d K hy => ?_
   rw [idx_at h2, Option.bind_some]
 obtain ⟨r, h, rfl⟩ := this;exact h
theorem rhouse_ok (v : Vw) (who : Int) (hP : v.2.1.length <= M20) : zq34 v who = some (houseS v.2.1 who) := by
 have : Sm (fun r => r = houseS v.2.1 who) (zq34 v who) := by
  unfold zq34;refine Sm.for0 (fun k _ => ∀ j y, j < k -> v.2.1[j]? = some y -> (y.1 == who) = false) (fun j y h => by omega) (fun i x s K hi hx hI hK => ?_) fun s hs => Sm.some ?_
  ·refine Sm.cond (fun e => ?_) fun e => hK _ fun j y hj hy => ?_
   ·have hf := find_at (p := fun p : Pt => p.1 == who) hx e hI;have := housing v.2.1 x.2 hP (body := fun k x_1 d next => bif x_1.snd == x.snd then (chk (d.length + (1 : Nat) <= LIM)).bind fun x => next (d ++ [x_1.fst]) else next d) fun k y d K hy => rfl
    unfold houseS;rw [hf];exact this
   ·by_cases h : j < i
    ·exact hI j y h hy
    ·have : j = i := by omega
     subst this;rw [hx] at hy; cases hy; exact e
  ·unfold houseS;rw [find_none hs]
 obtain ⟨r, h, rfl⟩ := this;exact h
def knownS (v : Vw) (who : Int) (attr : ByteArray) : Int × Int := ((v.2.2.find? fun d => d.1 == who && d.2.1.toList == attr.toList).map (·.2.2)).getD (0, 0)
theorem get_ok (v : Vw) (who : Int) (attr : ByteArray) : view_Get v who attr = some (knownS v who attr) := by
 have : Sm (fun r => r = knownS v who attr) (view_Get v who attr) := by
  unfold view_Get;refine Sm.for0 (fun k _ => ∀ j y, j < k -> v.2.2[j]? = some y -> (y.1 == who && y.2.1.toList == attr.toList) = false) (fun j y h => by omega) (fun i x s K hi hx hI hK => ?_) fun s hs => Sm.some ?_
  ·refine Sm.join (fun d => d = (x.1 == who && x.2.1.toList == attr.toList)) (fun d hd => ?_) fun K2 hK2 => ?_
   ·refine Sm.cond (fun e => Sm.some ?_) fun e => hK _ fun j y hj hy => ?_
    ·unfold knownS;rw [find_at (p := fun d : Dm => d.1 == who && d.2.1.toList == attr.toList) hx (by rw [<- hd]; exact e) hI];rfl
    ·by_cases h : j < i
     ·exact hI j y h hy
     ·have : j = i := by omega
      subst this;rw [hx] at hy; cases hy; rw [<- hd]; exact e
   ·refine Sm.cond (fun e => hK2 _ ?_) fun e => hK2 _ ?_
    ·rw [e]; rfl
    ·rw [e]; rfl
  ·unfold knownS;rw [find_none hs]; rfl
 obtain ⟨r, h, rfl⟩ := this;exact h
theorem known_ok (v : Vw) (who : Int) (attr : ByteArray) : zq35 v who attr = some (knownS v who attr) := by
 unfold zq35 zq68;rw [forK_fidx (fun x : Dm => x.1 == who && x.2.1.toList == attr.toList) (fun i (c : Int × ByteArray) => ((i, c.1, c.2) : Int × Int × ByteArray)) (who, attr) v.2.2 (fun k x K hx => by
  simp only [idx_at hx, Option.bind_some, zq36];cases x.1 == who <;> cases x.2.1.toList == attr.toList <;> rfl) v.2.2 0 rfl]
 simp only [Option.bind_some];unfold knownS;rcases fidx_find (fun x : Dm => x.1 == who && x.2.1.toList == attr.toList) v.2.2 0 with ⟨h1, h2⟩ | ⟨i, x, h1, h2, h3⟩
 ·rw [h1, h2]; rfl
 ·rw [h1, h3, Nat.zero_add, idx_at h2];have : decide (((i : Nat) : Int) < 0) = false := decide_eq_false (by omega);rw [this]; rfl
def opn (v : Vw) (p : Pt) (a : At) : Bool := a.2.2.1 && ((knownS v p.1 a.1).1 == 0 && ((knownS v p.1 a.1).2 == 0 && true))
def mkD (p : Pt) (a : At) : Dm := (p.1, a.1, 0, 0)
def opens (v : Vw) (A : List At) (P : List Pt) : List Dm := P.flatMap fun p => (A.filter (opn v p)).map (mkD p)
theorem opens_take (v : Vw) (A : List At) (P : List Pt) (i : Nat) (x : Pt) (h : P[i]? = some x) : opens v A (P.take (i + 1)) = opens v A (P.take i) ++ (A.filter (opn v x)).map (mkD x) := by
 unfold opens;rw [List.take_add_one, h];simp
theorem opens_len (v : Vw) (A : List At) : ∀ P : List Pt, (opens v A P).length <= P.length * A.length
 | [] => by simp [opens]
 | p :: P => by
  have := opens_len v A P;have h := List.length_filter_le (opn v p) A;unfold opens at *;simp only [List.flatMap_cons, List.length_append, List.length_map, List.length_cons, Nat.add_mul, Nat.one_mul];omega
theorem opens_zero (v : Vw) (A : List At) (P : List Pt) : ∀ x ∈ opens v A P, x.2.2 = ((0 : Int), (0 : Int)) := by
 intro x hx;unfold opens at hx;simp only [List.mem_flatMap, List.mem_map] at hx;obtain ⟨p, _, a, _, rfl⟩ := hx;rfl
theorem insert_srt {d : List Dm} {y : Dm} {n : Nat} (hs : PH.Srt ahd d) (hn : n <= d.length) (h2 : ∀ z ∈ d.drop n, ahd y z = true) (h1 : n = 0 \/ ∀ z, d[n - 1]? = some z -> ahd y z = false) :
  PH.Srt ahd (d.take n ++ [y] ++ d.drop n) := by
 have hs' : PH.Srt ahd (d.take n ++ d.drop n) := by rw [List.take_append_drop]; exact hs
 obtain ⟨s1, s2, s3⟩ := srt_split hs'
 have hle : ∀ z ∈ d.take n, ahd y z = false := by
  rcases h1 with h | h
  ·rw [h]; simp
  ·intro z hz;obtain ⟨k, hk, rfl⟩ := List.getElem_of_mem hz;have hk' := hk;rw [List.length_take] at hk';have hlt : n - 1 < d.length := by omega
   have g1 := h _ (List.getElem?_eq_getElem hlt);have g2 := srt_at swoD hs (i := k) (j := n - 1) (x := d[k]'(by omega)) (by omega) (List.getElem?_eq_getElem _) (List.getElem?_eq_getElem hlt);rw [List.getElem_take];exact swoD.ntr _ _ _ g1 g2
 have h4 : PH.Srt ahd ([y] ++ d.drop n) := List.pairwise_cons.2 ⟨fun z hz => swoD.asy (h2 z hz), s2⟩
 rw [List.append_assoc]
 refine srt_app s1 h4 fun u hu v hv => ?_
 rcases List.mem_append.1 hv with hv | hv
 ·have : v = y := by simpa using hv
  subst this; exact hle u hu
 ·exact s3 u hu v hv
theorem perm_insert {d : List Dm} {y : Dm} (n : Nat) : (d.take n ++ [y] ++ d.drop n).Perm (d ++ [y]) := by
 have h1 : (d.take n ++ [y] ++ d.drop n).Perm (d.take n ++ (d.drop n ++ [y])) := by
  rw [List.append_assoc];exact List.Perm.append_left _ List.perm_append_comm
 rw [<- List.append_assoc, List.take_append_drop] at h1;exact h1
theorem viewCheck_ok (fu : Nat) [hf : Big fu] (b : List Act) [hb : Fit b] (v : Vw) (h1 : v.2.1.length <= M20) (h2 : v.2.2.length <= M20) : Sm (fun r => r = 0 -> v.2.1.length <= 30) (view_Check fu b v) := by
 obtain ⟨c, hc, _⟩ := check_ok fu b;obtain ⟨A, hA, sA⟩ := attrs_ok fu b;obtain ⟨_, f5, rfl⟩ := fits_ok A v h1 h2;unfold view_Check;rw [hc, Option.bind_some];refine Sm.cond (fun e => Sm.some fun h => by rw [h] at e; cases e) fun e => ?_
 rw [hA, Option.bind_some];have f5' : view_Fits A (v.1, v.2.1, v.2.2) = some (fitS A v) := f5;rw [f5', Option.bind_some];refine Sm.some fun h => ?_
 unfold fitS at h;by_cases h3 : formS v = 0
 ·unfold formS at h3;by_cases h4 : 30 < v.2.1.length \/ 1200 < v.2.2.length
  ·rw [if_pos h4] at h3; cases h3
  ·omega
 ·rw [if_pos h3] at h; exact absurd h h3
theorem viewHouses_plain (fu : Nat) [hf : Big fu] (b : List Act) [hb : Fit b] (v w : Vw) (who : Int) (h1 : v.2.1.length <= M20) (h2 : v.2.2.length <= M20) : zq30 fu b v w who = some true := by
 have hlim := lim_eq;have hM := M20_eq;have hfu := hf.h;obtain ⟨A, hA, sA⟩ := attrs_ok fu b;obtain ⟨B, hB, sB⟩ := sorted_ok fu b;have hAB : A = B := srt_uniq swoA sA.2.2 sB.2.2 (sA.1.symm.trans sB.1);subst hAB;have hAl : A.length <= M20 := by
  have := hb.tot;have h3 := sA.2.1;unfold flatA at h3;omega
 obtain ⟨f, hfc, hf30⟩ := viewCheck_ok fu b v h1 h2;have hfc' : view_Check fu b (v.1, v.2.1, v.2.2) = some f := hfc;obtain ⟨e, he, _⟩ := eqP_tot v.2.1 w.2.1;obtain ⟨e2, he2, _⟩ := eqD_tot v.2.2 w.2.2;obtain ⟨c, hc⟩ : ∃ c : Dm -> Bool, ∀ d, zq61 w.2.2 d = some (c d) := ⟨fun d => (has_tot w.2.2 d).choose, fun d => (has_tot w.2.2 d).choose_spec⟩;have hc' : ∀ d : Dm, zq61 w.2.2 (d.1, d.2.1, d.2.2.1, d.2.2.2) = some (c d) := hc;have hsame : view_Same (v.1, v.2.1, v.2.2) (w.1, w.2.1, w.2.2) = zq37 (v.1, v.2.1, v.2.2) (w.1, w.2.1, w.2.2) := rfl;obtain ⟨sm, hsm⟩ : ∃ sm, zq37 (v.1, v.2.1, v.2.2) (w.1, w.2.1, w.2.2) = some sm := by
  unfold zq37;simp only [he, he2, Option.bind_some];cases v.1 == w.1 <;> cases e <;> exact ⟨_, rfl⟩
 obtain ⟨b0, hb0⟩ : ∃ b0, b0 = (v.1 == w.1 && e) := ⟨_, rfl⟩;have hless : view_Less (v.1, v.2.1, v.2.2) (w.1, w.2.1, w.2.2) = some (b0 && v.2.2.all c) := by
  have : Sm (fun r => r = (b0 && v.2.2.all c)) (view_Less (v.1, v.2.1, v.2.2) (w.1, w.2.1, w.2.2)) := by
   unfold view_Less;refine Sm.join (fun d => d = !b0) (fun d hd => ?_) fun K hK => ?_
   ·refine Sm.cond (fun e => Sm.some ?_) fun e => ?_
    ·rw [e] at hd;have : b0 = false := by
      clear hb0;cases b0 with
      | false => rfl
      | true => cases hd
     rw [this]; rfl
    ·have hb1 : b0 = true := by
      rw [e] at hd;clear hb0;cases b0 with
      | true => rfl
      | false => cases hd
     rw [hb1, Bool.true_and];refine Sm.for0 (fun k _ => ∀ j y, j < k -> v.2.2[j]? = some y -> c y = true) (fun j y h => by omega) (fun i x s K hi hx hI hK => ?_) fun s hs => Sm.some ?_
     ·rw [hc' x, Option.bind_some];refine Sm.cond (fun e => Sm.some ?_) fun e => hK _ fun j y hj hy => ?_
      ·have e : c x = false := by simpa using e
       symm;rw [List.all_eq_false];exact ⟨x, List.mem_of_getElem? hx, by rw [e]; simp⟩
      ·by_cases h : j < i
       ·exact hI j y h hy
       ·have : j = i := by omega
        subst this;rw [hx] at hy; cases hy; simpa using e
     ·symm;rw [List.all_eq_true];intro x hx;obtain ⟨j, hj, rfl⟩ := List.getElem_of_mem hx;exact hs j _ hj (List.getElem?_eq_getElem hj)
   ·refine Sm.cond (fun e => hK _ ?_) fun e => ?_
    ·have e : (v.1 == w.1) = false := by simpa [bne] using e
     rw [hb0, e]; rfl
    ·have e : (v.1 == w.1) = true := by simpa [bne] using e
     rw [he, Option.bind_some];exact hK _ (by rw [hb0, e]; rfl)
  obtain ⟨r, h, rfl⟩ := this;exact h
 have hho : view_House (v.1, v.2.1, v.2.2) who = some (houseS v.2.1 who) := house_ok v who h1;have hrh : zq34 (v.1, v.2.1, v.2.2) who = some (houseS v.2.1 who) := rhouse_ok v who h1;have hget : ∀ (p : Int) (a : ByteArray), view_Get (v.1, v.2.1, v.2.2) p a = some (knownS v p a) := get_ok v;have hknown : ∀ (p : Int) (a : ByteArray), zq35 (v.1, v.2.1, v.2.2) p a = some (knownS v p a) := known_ok v;have htake : opens v A (v.2.1.take v.2.1.length) = opens v A v.2.1 := by rw [List.take_length]
 have hopen : ∃ R, view_Open fu b (v.1, v.2.1, v.2.2) = some (R, f) /\ (f ≠ 0 -> R = []) /\ (f = 0 -> R.Perm (opens v A v.2.1) /\ PH.Srt ahd R) := by
  have : Sm (fun r : List Dm × Int => r.2 = f /\ (f ≠ 0 -> r.1 = []) /\ (f = 0 -> r.1.Perm (opens v A v.2.1) /\ PH.Srt ahd r.1)) (view_Open fu b (v.1, v.2.1, v.2.2)) := by
   unfold view_Open;rw [hfc', Option.bind_some];refine Sm.cond (fun e => Sm.some ⟨rfl, fun _ => rfl, fun h => by rw [h] at e; cases e⟩) fun e => ?_
   have f0 : f = 0 := by simpa [bne] using e
   have h30 := hf30 f0;have hlen : ∀ k, k <= v.2.1.length -> (opens v A (v.2.1.take k)).length <= k * A.length := fun k hk => by
    have := opens_len v A (v.2.1.take k);rw [List.length_take, Nat.min_eq_left hk] at this;exact this
   refine Sm.for0 (fun k d => d = opens v A (v.2.1.take k)) rfl (fun i x d K hi hx hI hK => ?_) fun d hd => ?_
   ·rw [hA, Option.bind_some];have hi : i < v.2.1.length := hi;have ht := opens_take v A v.2.1 i x hx;refine Sm.for0 (fun k d2 => d2 = d ++ ((A.take k).filter (opn v x)).map (mkD x)) (by simp) (fun j y d2 K2 hj hy hI2 hK2 => ?_) fun d2 hd2 => hK _ (by rw [ht, hd2, hI, List.take_length])
    have t1 := take_filter (opn v x) (mkD x) hy;have t2 := filter_len (opn v x) (mkD x) A j;have t3 := hlen i (by omega);have t4 : i * A.length <= 30 * M20 := Nat.mul_le_mul (by omega) hAl;refine Sm.join (fun q => q = opn v x y) (fun q hq => ?_) fun K3 hK3 => ?_
    ·refine Sm.cond (fun e => ?_) fun e => hK2 _ ?_
     ·refine Sm.chk (by rw [hI2, hI, List.length_append]; omega) (hK2 _ ?_);rw [t1, hI2, <- hq, e, List.append_assoc]; rfl
     ·rw [t1, hI2, <- hq, e]; simp
    ·refine Sm.cond (fun e => ?_) fun e => hK3 _ ?_
     ·rw [hget, Option.bind_some];exact hK3 _ (by unfold opn; rw [e]; rfl)
     ·unfold opn; rw [e]; rfl
   ·rw [htake] at hd;subst hd;have t3 := opens_len v A v.2.1;have t4 : v.2.1.length * A.length <= 30 * M20 := Nat.mul_le_mul h30 hAl;obtain ⟨r, r1, r2, r3⟩ := sort_ok (opens v A v.2.1) (by omega);rw [r1, Option.bind_some];exact Sm.chk r2.length_eq (Sm.some ⟨f0.symm, fun h => absurd f0 h, fun _ => ⟨r2, r3⟩⟩)
  obtain ⟨⟨R, f'⟩, h, h3, h4, h5⟩ := this;simp only at h3 h4 h5;subst h3;exact ⟨R, h, h4, h5⟩
 obtain ⟨R, hR, hR1, hR2⟩ := hopen;have main : Sm (fun r => r = true) (zq30 fu b v w who) := by
  unfold zq30;refine Sm.join (fun d => d = b0) (fun d hd => ?_) fun K hK => ?_
  ·refine Sm.for0 (fun k d2 => d2 = (b0 && (v.2.2.take k).all c)) (by rw [hd]; simp) (fun i x d2 K hi hx hI hK => ?_) fun d2 hd2 => ?_
   ·have ht : (v.2.2.take (i + 1)).all c = ((v.2.2.take i).all c && c x) := by rw [List.take_add_one, hx]; simp
    refine Sm.cond (fun e => ?_) fun e => hK _ ?_
    ·rw [hc' x, Option.bind_some];exact hK _ (by rw [ht, <- Bool.and_assoc, <- hI, e]; rfl)
    ·rw [ht, <- Bool.and_assoc, <- hI, e]; rfl
   ·rw [List.take_length] at hd2;refine Sm.join (fun d => d = false) (fun d3 hd3 => ?_) fun K hK => ?_
    ·subst hd3;refine Sm.cond (fun e => by cases e) fun _ => ?_
     rw [hR, hfc', Option.bind_some, Option.bind_some];have h30 : f = 0 -> v.2.1.length <= 30 := hf30;have hlen : ∀ k, k <= v.2.1.length -> (opens v A (v.2.1.take k)).length <= k * A.length := fun k hk => by
      have := opens_len v A (v.2.1.take k);rw [List.length_take, Nat.min_eq_left hk] at this;exact this
     refine Sm.for0 (fun k d => (f ≠ 0 -> d = []) /\ (f = 0 -> d.Perm (opens v A (v.2.1.take k)) /\ PH.Srt ahd d)) ⟨fun _ => rfl, fun _ => ⟨.refl _, List.Pairwise.nil⟩⟩ (fun i x d K hi hx hI hK => ?_) fun d hd4 => ?_
     ·rw [hB, Option.bind_some];have hi : i < v.2.1.length := hi;have ht := opens_take v A v.2.1 i x hx;refine Sm.for0 (fun k d2 => (f ≠ 0 -> d2 = []) /\ (f = 0 -> d2.Perm (opens v A (v.2.1.take i) ++ ((A.take k).filter (opn v x)).map (mkD x)) /\ PH.Srt ahd d2)) ⟨hI.1, fun h => ⟨by simpa using (hI.2 h).1, (hI.2 h).2⟩⟩ (fun j y d2 K2 hj hy hI2 hK2 => ?_) fun d2 hd2 => hK _ ⟨hd2.1, fun h => by
       rw [ht];have := hd2.2 h;rw [List.take_length] at this;exact this⟩
      have t1 := take_filter (opn v x) (mkD x) hy;have t2 := filter_len (opn v x) (mkD x) A j;have t3 := hlen i (by omega);refine Sm.join (fun q => q = ((f == 0) && opn v x y)) (fun q hq => ?_) fun K3 hK3 => ?_
      ·refine Sm.cond (fun e => ?_) fun e => hK2 _ ⟨hI2.1, fun h => ?_⟩
       ·rw [e] at hq;have hq := (Bool.and_eq_true _ _).mp hq.symm;have f0 : f = 0 := by simpa using hq.1
        obtain ⟨p1, p2⟩ := hI2.2 f0;have t4 : i * A.length <= 30 * M20 := Nat.mul_le_mul (by have := h30 f0; omega) hAl;have hdl : d2.length + 1 <= LIM := by
         rw [p1.length_eq, List.length_append]; omega
        refine Sm.whK (fun p : Int => 0 <= p /\ p <= (d2.length : Int) /\ ∀ z ∈ d2.drop p.toNat, ahd (mkD x y) z = true) (fun p => p.toNat) (fun p self hI3 hself => ?_) fu _ ⟨by omega, by omega, by simp⟩ (by omega);obtain ⟨q0, q1, q2⟩ := hI3;refine Sm.join (fun g => (g = true -> 0 < p /\ ∀ z, d2[(p - 1).toNat]? = some z -> ahd (mkD x y) z = true) /\ (g = false -> p = 0 \/ ∀ z, d2[(p - 1).toNat]? = some z -> ahd (mkD x y) z = false)) (fun g hg => ?_) fun K4 hK4 => ?_
        ·refine Sm.cond (fun e => ?_) fun e => ?_
         ·obtain ⟨f1, f2⟩ := hg.1 e;rw [wrap64 (by omega) (by omega)];refine hself _ ⟨by omega, by omega, fun z hz => ?_⟩ (by omega);have hlt : (p - 1).toNat < d2.length := by omega
          rw [List.drop_eq_getElem_cons hlt] at hz;rcases List.mem_cons.1 hz with rfl | hz
          ·exact f2 _ (List.getElem?_eq_getElem hlt)
          ·exact q2 z (by rw [show p.toNat = (p - 1).toNat + 1 by omega]; exact hz)
         ·rw [chk_eq' (by refine ⟨by omega, by omega, by omega, by omega⟩)];simp only [Option.bind_some];refine Sm.chk (by simp) (hK2 _ ⟨fun h => absurd f0 h, fun _ => ⟨?_, ?_⟩⟩)
          ·have h3 := perm_insert (d := d2) (y := mkD x y) p.toNat;rw [t1, hq.2];simp only [cond_true];rw [<- List.append_assoc];exact h3.trans (p1.append_right _)
          ·refine insert_srt p2 (by omega) q2 ?_;rcases hg.2 e with h | h
           ·left; omega
           ·right;rw [show p.toNat - 1 = (p - 1).toNat by omega];exact h
        ·refine Sm.cond (fun e => ?_) fun e => hK4 _ ⟨by simp, fun _ => .inl ?_⟩
         ·have e := of_decide_eq_true e;rw [wrap64 (x := p - 1) (by omega) (by omega)];refine Sm.chk ⟨by omega, by omega⟩ (Sm.get (by omega) fun z hz => ?_);have hah : zq33 (x.1, y.1, (0 : Int), (0 : Int)) z = some (ahd (mkD x y) z) := Ahead_eq _ _;rw [hah, Option.bind_some];refine hK4 _ ?_;rw [hz];exact ⟨fun h => ⟨by omega, fun w hw => by cases hw; exact h⟩, fun h => .inr fun w hw => by cases hw; exact h⟩
         ·have e := of_decide_eq_false e;omega
       ·have h0 : (f == 0) = true := by rw [h]; rfl
        rw [h0, Bool.true_and, e] at hq;rw [t1, <- hq];simpa using hI2.2 h
      ·refine Sm.cond (fun e => ?_) fun e => hK3 _ (by rw [e]; rfl)
       refine Sm.cond (fun e4 => ?_) fun e4 => hK3 _ (by unfold opn; rw [e4]; simp)
       rw [hknown, Option.bind_some];exact hK3 _ (by unfold opn; rw [e, e4]; rfl)
     ·rw [htake] at hd4;have hRd : R = d := by
       by_cases h : f = 0
       ·obtain ⟨p1, p2⟩ := hd4.2 h;obtain ⟨r1, r2⟩ := hR2 h;exact srt_same r2 p2 (r1.trans p1.symm) fun z hz => opens_zero v A v.2.1 z (r1.mem_iff.1 hz)
       ·rw [hR1 h, hd4.1 h]
      subst hRd;refine Sm.cond (fun _ => ?_) fun e => by simp at e
      rw [eqD_self, Option.bind_some];exact Sm.some rfl
    ·rw [viewed_ok, Option.bind_some];refine Sm.cond (fun e => by cases e) fun _ => ?_
     rw [hho, hrh, Option.bind_some, Option.bind_some, eqI_self, Option.bind_some];refine Sm.cond (fun e => by cases e) fun _ => ?_
     rw [hsame, hsm, Option.bind_some, Option.bind_some];refine Sm.cond (fun e => by simp at e) fun _ => ?_
     rw [hless, Option.bind_some, <- hd2];exact hK _ (by simp)
  ·refine Sm.cond (fun e => ?_) fun e => hK _ (by rw [hb0, e]; rfl)
   rw [he, Option.bind_some];exact hK _ (by rw [hb0, e]; rfl)
 obtain ⟨r, h, rfl⟩ := main;exact h
end Go.Proofs.YtgpioploehgpdaaGreat
