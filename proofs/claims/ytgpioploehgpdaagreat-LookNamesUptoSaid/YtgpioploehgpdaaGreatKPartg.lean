import Derived.Test.YtgpioploehgpdaaGreatKPartf
import Derived.Shelf.Spec.SlicesGrow
import Derived.Test.YtgpioploehgpdaaGreatProg
import Derived.KernelRfl
set_option linter.unusedSimpArgs false
set_option linter.unusedVariables false
set_option linter.unnecessarySimpa false
set_option linter.unusedSectionVars false

set_option linter.unusedVariables false
set_option linter.unusedSimpArgs false
set_option maxRecDepth 100000
set_option maxHeartbeats 2000000
namespace Go.Proofs.YtgpioploehgpdaaGreat
open Go.PG Go.PG.PH
abbrev Nd := Int × List Int × Int × Int × ByteArray
abbrev At := ByteArray × Int × Bool × Int × Int × Int × Int
abbrev Tb := ByteArray × Int × Int × Bool × List (Int × Int)
abbrev Rf := ByteArray × ByteArray
abbrev Ar := ByteArray × ByteArray × List Nd × List Nd × List Rf × Int
abbrev Act := ByteArray × Int × Int × List At × List Tb × List Ar
class Big (fu : Nat) : Prop where
 h : LIM < fu
class Fact' (p : Prop) : Prop where
 h : p
theorem lim_eq : LIM = 4294967296 := by rfl
instance (p : Int) : Tot (word_letter p) (fun _ => True) := ⟨by unfold word_letter; (repeat' (with_reducible (first | exact q0 trivial | apply q1 | apply q2 | apply q3 | (apply q4; assumption) | apply q5 | apply q6 | apply q7 | apply q8 | apply q9 | intro _)))⟩
instance (p : Int) : Tot (word_digit p) (fun _ => True) := ⟨by unfold word_digit; (repeat' (with_reducible (first | exact q0 trivial | apply q1 | apply q2 | apply q3 | (apply q4; assumption) | apply q5 | apply q6 | apply q7 | apply q8 | apply q9 | intro _)))⟩
instance (p : Int) : Tot (word_inner p) (fun _ => True) := ⟨by unfold word_inner; (repeat' (with_reducible (first | exact q0 trivial | apply q1 | apply q2 | apply q3 | (apply q4; assumption) | apply q5 | apply q6 | apply q7 | apply q8 | apply q9 | intro _)))⟩
instance (p : ByteArray) : Tot (zq12 p) (fun _ => True) := ⟨by unfold zq12; (repeat' (with_reducible (first | exact q0 trivial | apply q1 | apply q2 | apply q3 | (apply q4; assumption) | apply q5 | apply q6 | apply q7 | apply q8 | apply q9 | intro _)))⟩
instance (p q : ByteArray) : Tot (zq11 p q) (fun _ => True) := ⟨by unfold zq11; (repeat' (with_reducible (first | exact q0 trivial | apply q1 | apply q2 | apply q3 | (apply q4; assumption) | apply q5 | apply q6 | apply q7 | apply q8 | apply q9 | intro _)))⟩
instance (p : ByteArray) : Tot (zq61 p) (fun _ => True) := ⟨by unfold zq61; (repeat' (with_reducible (first | exact q0 trivial | apply q1 | apply q2 | apply q3 | (apply q4; assumption) | apply q5 | apply q6 | apply q7 | apply q8 | apply q9 | intro _)))⟩
instance : Tot word_Keys (fun r => r.length <= 1000) := ⟨by unfold word_Keys; exact Sm.some (by simp)⟩
theorem mid_eq {a b : Int} (h0 : 0 <= a) (h1 : a < b) (h2 : b <= 4294967296) :
  IntKind.i64.wrap ((IntKind.u64.wrap (IntKind.i64.wrap (a + b))).fdiv ((2 : Int) ^ min (Int.toNat (1 : Int)) IntKind.u64.bits)) = (a + b) / 2 := by
 rw [wrap64 (x := a + b) (by omega) (by omega)]
 have e1 : IntKind.u64.wrap (a + b) = a + b := by
  simp only [IntKind.wrap, IntKind.signed, IntKind.bits];simp;omega
 have e2 : ((2 : Int) ^ min (Int.toNat (1 : Int)) IntKind.u64.bits) = 2 := by decide
 rw [e1, e2, Int.fdiv_eq_ediv_of_nonneg _ (by omega), wrap64 (by omega) (by omega)]
instance (fu : Nat) [hf : Big fu] (p0 : List ByteArray) (p1 : ByteArray) [hp : Fact' (p0.length <= LIM)] : Tot (zq46 fu p0 p1) (fun _ => True) := ⟨by
 have hl := hp.h;have hf := hf.h;have := lim_eq;unfold zq46;refine Sm.whK (fun s => 0 <= s.1 /\ s.1 <= s.2 /\ s.2 <= (p0.length : Int)) (fun s => (s.2 - s.1).toNat) (fun s self hI hself => ?_) fu _ ⟨by simp, by simp, by simp⟩ (by simp; omega);obtain ⟨lo, hi⟩ := s;obtain ⟨h0, h1, h2⟩ := hI;simp only at h0 h1 h2 ⊢;refine Sm.cond (fun c => ?_) (fun c => ?_)
 ·have c := of_decide_eq_true c;rw [mid_eq h0 c (by omega)];refine Sm.idx (by omega) (by omega) fun y _ => ?_
  refine Sm.bindT fun r _ => ?_
  refine Sm.cond (fun _ => hself _ ?_ ?_) (fun _ => hself _ ?_ ?_)
  ·rw [wrap64 (by omega) (by omega)]; exact ⟨by simp only; omega, by simp only; omega, h2⟩
  ·rw [wrap64 (by omega) (by omega)]; simp only; omega
  ·exact ⟨h0, by simp only; omega, by simp only; omega⟩
  ·simp only; omega
 ·refine Sm.joinT (fun d => Sm.some trivial) fun K hK => ?_
  refine Sm.cond (fun c => ?_) (fun c => hK _);have c := of_decide_eq_true c;refine Sm.idx (by omega) (by omega) fun y _ => ?_
  refine Sm.cond (fun _ => hK _) fun _ => ?_
  refine Sm.idx (by omega) (by omega) fun y _ => ?_
  refine Sm.bindT fun r _ => ?_
  refine Sm.cond (fun _ => Sm.bindT fun _ _ => hK _) fun _ => hK _⟩
theorem Sm.bidx {R : Type} {Q : R -> Prop} {l : ByteArray} {i : Int} {g : Int -> Option R} (h0 : 0 <= i) (h1 : i.toNat < l.size) (hg : ∀ x, Sm Q (g x)) : Sm Q ((PG.bidx l i).bind g) := by
 unfold PG.bidx;rw [if_pos h0, getElem?_pos l i.toNat h1];exact hg _
theorem size_pos {b : ByteArray} (h : (b.toList == (ByteArray.mk #[]).toList) = false) : 0 < b.size := by
 rcases Nat.eq_zero_or_pos b.size with e | e
 ·have : b = ByteArray.mk #[] := by
   obtain ⟨⟨l⟩⟩ := b;have : l.length = 0 := e;rw [List.eq_nil_of_length_eq_zero this]
  rw [this] at h;simp at h
 ·exact e
instance (fu : Nat) [hf : Big fu] (p0 : ByteArray) : Tot (word_Name fu p0) (fun _ => True) := ⟨by
 unfold word_Name;refine Sm.join (fun d => d = false -> p0.size <= 20) (fun d hd => ?_) fun K hK => ?_
 ·refine Sm.cond (fun _ => Sm.some trivial) fun e => ?_
  have hl := hd e;refine Sm.chk (by have := lim_eq; omega) ?_;refine Sm.cntT (fun i s K hi hK => ?_) fun _ => ?_
  ·refine Sm.bidx (by omega) (by omega) fun b => ?_
   (repeat' (with_reducible (first | exact q0 trivial | apply q1 | apply q2 | apply q3 | (apply q4; assumption) | apply q5 | apply q6 | apply q7 | apply q8 | apply q9 | intro _)))
  ·refine Sm.bindT fun r hr => ?_
   haveI : Fact' (r.length <= LIM) := ⟨by have := lim_eq; omega⟩
   (repeat' (with_reducible (first | exact q0 trivial | apply q1 | apply q2 | apply q3 | (apply q4; assumption) | apply q5 | apply q6 | apply q7 | apply q8 | apply q9 | intro _)))
 ·refine Sm.cond (fun _ => hK _ (by simp)) fun e => ?_
  refine Sm.cond (fun _ => hK _ (by simp)) fun e2 => ?_
  have hl : p0.size <= 20 := by have := of_decide_eq_false e2; omega
  refine Sm.bidx (by omega) (by have := size_pos e; simpa using this) fun b => ?_
  refine Sm.bindT fun r _ => hK _ fun _ => hl⟩
instance (p : Int) : Tot (unit_Range p) (fun _ => True) := ⟨by unfold unit_Range; (repeat' (with_reducible (first | exact q0 trivial | apply q1 | apply q2 | apply q3 | (apply q4; assumption) | apply q5 | apply q6 | apply q7 | apply q8 | apply q9 | intro _)))⟩
instance (p : Int) : Tot (unit_known p) (fun _ => True) := ⟨by unfold unit_known; (repeat' (with_reducible (first | exact q0 trivial | apply q1 | apply q2 | apply q3 | (apply q4; assumption) | apply q5 | apply q6 | apply q7 | apply q8 | apply q9 | intro _)))⟩
instance (p : Int × Int) : Tot (unit_Check p) (fun _ => True) := ⟨by unfold unit_Check; (repeat' (with_reducible (first | exact q0 trivial | apply q1 | apply q2 | apply q3 | (apply q4; assumption) | apply q5 | apply q6 | apply q7 | apply q8 | apply q9 | intro _)))⟩
instance (p : At) : Tot (body_attr p) (fun _ => True) := ⟨by
 unfold body_attr
 (repeat' (with_reducible (first | exact q0 trivial | apply q1 | apply q2 | apply q3 | (apply q4; assumption) | apply q5 | apply q6 | apply q7 | apply q8 | apply q9 | intro _)))
 ·omega
 ·refine Sm.get (by simp; omega) fun x _ => ?_
  (repeat' (with_reducible (first | exact q0 trivial | apply q1 | apply q2 | apply q3 | (apply q4; assumption) | apply q5 | apply q6 | apply q7 | apply q8 | apply q9 | intro _)))⟩
instance (p : ByteArray) : Tot (fact_Name p) (fun _ => True) := ⟨by
 unfold fact_Name;refine Sm.joinT (fun d => ?_) fun K hK => ?_
 ·(repeat' (with_reducible (first | exact q0 trivial | apply q1 | apply q2 | apply q3 | (apply q4; assumption) | apply q5 | apply q6 | apply q7 | apply q8 | apply q9 | intro _)))
 ·refine Sm.cond (fun _ => hK _) fun e => ?_
  refine Sm.cond (fun _ => hK _) fun e2 => ?_
  exact Sm.bidx (by omega) (by have := size_pos e; simpa using this) fun b => hK _⟩
instance (p : Tb) : Tot (table_kinds p) (fun _ => True) := ⟨by unfold table_kinds; (repeat' (with_reducible (first | exact q0 trivial | apply q1 | apply q2 | apply q3 | (apply q4; assumption) | apply q5 | apply q6 | apply q7 | apply q8 | apply q9 | intro _)))⟩
instance (p : Tb) : Tot (table_Check p) (fun _ => True) := ⟨by
 unfold table_Check;refine Sm.bindT fun r _ => ?_
 refine Sm.cond (fun _ => Sm.some trivial) fun _ => ?_
 refine Sm.bindT fun r _ => ?_
 refine Sm.cond (fun _ => Sm.some trivial) fun _ => ?_
 refine Sm.cond (fun _ => Sm.some trivial) fun _ => ?_
 refine Sm.cond (fun _ => Sm.some trivial) fun e => ?_
 have e := of_decide_eq_false e;refine Sm.bindT fun r _ => ?_
 refine Sm.bindT fun r1 _ => ?_
 refine Sm.joinT (fun d => ?_) fun K hK => ?_
 ·refine Sm.forT (fun i x s K hi hx hK => ?_) fun _ => Sm.some trivial
  refine Sm.joinT (fun d => ?_) fun K hK => ?_
  ·refine Sm.cond (fun _ => Sm.some trivial) fun _ => ?_
   refine Sm.joinT (fun d => ?_) fun K hK => ?_
   ·(repeat' (with_reducible (first | exact q0 trivial | apply q1 | apply q2 | apply q3 | (apply q4; assumption) | apply q5 | apply q6 | apply q7 | apply q8 | apply q9 | intro _)))
   ·refine Sm.cond (fun e1 => ?_) fun _ => hK _
    have e1 := of_decide_eq_true e1;rw [wrap64 (by omega) (by omega)];exact Sm.idx (by omega) (by omega) fun y _ => hK _
  ·(repeat' (with_reducible (first | exact q0 trivial | apply q1 | apply q2 | apply q3 | (apply q4; assumption) | apply q5 | apply q6 | apply q7 | apply q8 | apply q9 | intro _)))
 ·(repeat' (with_reducible (first | exact q0 trivial | apply q1 | apply q2 | apply q3 | (apply q4; assumption) | apply q5 | apply q6 | apply q7 | apply q8 | apply q9 | intro _)))⟩
def M20 : Nat := 1048576
theorem M20_eq : M20 = 1048576 := by rfl
def FitX (x : List Nd) : Prop := x.length <= M20 /\ ∀ n ∈ x, n.2.1.length <= M20
def FitA (a : Act) : Prop := a.2.2.2.1.length <= M20 /\ a.2.2.2.2.1.length <= M20 /\ a.2.2.2.2.2.length <= M20 /\
 (∀ t ∈ a.2.2.2.2.1, t.2.2.2.2.length <= M20) /\ ∀ x ∈ a.2.2.2.2.2, FitX x.2.2.1 /\ FitX x.2.2.2.1 /\ x.2.2.2.2.1.length <= M20
class Fit (b : List Act) : Prop where
 len : b.length <= M20
 tot : (b.flatMap fun a => a.2.2.2.1).length <= M20
 act : ∀ a ∈ b, FitA a
def Lim (b : List Act) : Prop := b.length <= 8 /\ ∀ a ∈ b, a.2.2.2.2.2.length <= 60 /\ a.2.2.2.2.1.length <= 8
instance (b : List Act) : Tot (body_limits b) (fun r => r = 0 -> Lim b) := ⟨by
 unfold body_limits;refine Sm.for0 (fun k _ => ∀ i a, i < k -> b[i]? = some a -> a.2.2.2.2.2.length <= 60 /\ a.2.2.2.2.1.length <= 8) (by intro i a h; omega) (fun i x s K hi hx hI hK => ?_) fun s hI => ?_
 ·refine Sm.join (fun d => d = false -> x.2.2.2.2.2.length <= 60 /\ x.2.2.2.2.1.length <= 8) (fun d hd => ?_) fun K hK => ?_
  ·refine Sm.cond (fun _ => Sm.some (by intro h; cases h)) fun e => hK _ fun j a hj ha => ?_
   by_cases hji : j < i
   ·exact hI j a hji ha
   ·have : j = i := by omega
    subst this;rw [hx] at ha;cases ha;exact hd e
  ·refine Sm.cond (fun _ => hK _ (by simp)) fun e => hK _ fun e2 => ?_
   have e := of_decide_eq_false e;have e2 := of_decide_eq_false e2;exact ⟨by omega, by omega⟩
 ·have hall : ∀ a ∈ b, a.2.2.2.2.2.length <= 60 /\ a.2.2.2.2.1.length <= 8 := fun a ha => by
   obtain ⟨i, hi, rfl⟩ := List.getElem_of_mem ha;exact hI i _ hi (List.getElem?_eq_getElem hi)
  refine Sm.join (fun d => d = false -> b.length <= 8) (fun d hd => ?_) fun K hK => ?_
  ·refine Sm.cond (fun _ => Sm.some (by intro h; cases h)) fun e => Sm.some fun _ => ⟨hd e, hall⟩
  ·refine Sm.cond (fun _ => hK _ (by simp)) fun e => hK _ fun e2 => ?_
   have e := of_decide_eq_false e;omega⟩
theorem add_ok {fu : Nat} [Big fu] (x : ByteArray) (d : List (ByteArray × Bool)) (m : Nat) (hd : d.length <= m) (hm : m < LIM) :
  Sm (fun r => r.1 = 0 -> r.2.length <= m + 1) ((word_Name fu x).bind fun r =>
   bif !r then some ((15 : Int), d)
   else bif (mget Ty.str.beq x d).getD false then some ((5 : Int), d) else (chk (d.length + (1 : Nat) <= LIM)).bind fun _ => some ((0 : Int), mset Ty.str.beq x true d)) := by
 refine Sm.bindT fun r _ => ?_
 refine Sm.cond (fun _ => Sm.some (by intro h; cases h)) fun _ => ?_
 refine Sm.cond (fun _ => Sm.some (by intro h; cases h)) fun _ => ?_
 refine Sm.chk (by omega) (Sm.some fun _ => ?_)
 have := mset_le (eq := Ty.str.beq) x true d
 simp only
 omega
theorem not_ne0 {r : Int} (h : (r != (0 : Int)) = false) : r = 0 := by simpa using h
theorem parts_ok (fu : Nat) [Big fu] (b : List Act) [hb : Fit b] (hl : Lim b) : Sm (fun _ => True) (body_parts fu b) := by
 have hlim := lim_eq;have hM := M20_eq;obtain ⟨l1, l2⟩ := hl;unfold body_parts;refine Sm.for0 (fun k d => d.1.length <= k /\ d.2.1.length <= k * M20 /\ d.2.2.length <= k * M20) ⟨by simp, by simp, by simp⟩ (fun i x d K hi hx hI hK => ?_) fun _ _ => Sm.some trivial
 obtain ⟨i1, i2, i3⟩ := hI;have hxm : x ∈ b := List.mem_of_getElem? hx;obtain ⟨f1, f2, f3, f4, f5⟩ := hb.act x hxm;refine Sm.bind (add_ok (fu := fu) x.1 d.1 i i1 (by omega)) fun r hr => ?_
 refine Sm.cond (fun _ => Sm.some trivial) fun e => ?_
 have hr := hr (not_ne0 e);refine Sm.joinT (fun d1 => ?_) fun K hK => by (repeat' (with_reducible (first | exact q0 trivial | apply q1 | apply q2 | apply q3 | (apply q4; assumption) | apply q5 | apply q6 | apply q7 | apply q8 | apply q9 | intro _)))
 refine Sm.cond (fun _ => Sm.some trivial) fun _ => ?_
 refine Sm.for0 (fun k d2 => d2.length <= i * M20 + k) (by simpa using i2) (fun j y d2 K2 hj hy hI2 hK2 => ?_) fun d2 hd2 => ?_
 ·refine Sm.bind (add_ok (fu := fu) y.1 d2 (i * M20 + j) hI2 (by rw [hM] at *; omega)) fun r2 hr2 => ?_
  refine Sm.cond (fun _ => Sm.some trivial) fun e2 => ?_
  have hr2 := hr2 (not_ne0 e2);refine Sm.bindT fun r3 _ => ?_
  refine Sm.cond (fun _ => Sm.some trivial) fun _ => ?_
  exact hK2 _ (by omega)
 ·refine Sm.for0 (fun k d3 => d3.length <= i * M20 + k) (by simpa using i3) (fun j y d3 K3 hj hy hI3 hK3 => ?_) fun d3 hd3 => ?_
  ·refine Sm.bind (add_ok (fu := fu) y.1 d3 (i * M20 + j) hI3 (by rw [hM] at *; omega)) fun r2 hr2 => ?_
   refine Sm.cond (fun _ => Sm.some trivial) fun e2 => ?_
   have hr2 := hr2 (not_ne0 e2);refine Sm.bindT fun r3 _ => ?_
   refine Sm.cond (fun _ => Sm.some trivial) fun _ => ?_
   exact hK3 _ (by omega)
  ·refine hK _ ⟨?_, ?_, ?_⟩
   ·simpa using hr
   ·show d2.length <= (i + 1) * M20
    rw [hM] at *; omega
   ·show d3.length <= (i + 1) * M20
    rw [hM] at *; omega
instance (b : List Act) (p : ByteArray) : Tot (body_Attr b p) (fun _ => True) := ⟨by unfold body_Attr; (repeat' (with_reducible (first | exact q0 trivial | apply q1 | apply q2 | apply q3 | (apply q4; assumption) | apply q5 | apply q6 | apply q7 | apply q8 | apply q9 | intro _)))⟩
def kidsN (p : Int) : Int := if p = 0 \/ p = 1 \/ p = 2 \/ p = 3 then 0 else if p = 4 \/ p = 16 \/ p = 17 then 1 else if p = 15 then 3 else if 4 < p /\ p < 19 then 2 else -1
theorem kids_eq (p : Int) : tree_Kids p = some (kidsN p) := by
 by_cases h0 : p = 0
 ·subst h0; rfl
 by_cases h1 : p = 1
 ·subst h1; rfl
 by_cases h2 : p = 2
 ·subst h2; rfl
 by_cases h3 : p = 3
 ·subst h3; rfl
 by_cases h4 : p = 4
 ·subst h4; rfl
 by_cases h16 : p = 16
 ·subst h16; rfl
 by_cases h17 : p = 17
 ·subst h17; rfl
 by_cases h15 : p = 15
 ·subst h15; rfl
 have bf : ∀ q, ¬ p = q -> (p == q) = false := fun q h => by simpa using h
 unfold tree_Kids kidsN PH.join;rw [if_neg (by simp [h0, h1, h2, h3]), if_neg (by simp [h4, h16, h17]), if_neg h15];simp only [bf _ h0, bf _ h1, bf _ h2, bf _ h3, bf _ h4, bf _ h16, bf _ h17, bf _ h15, cond_false];by_cases h5 : 4 < p
 ·by_cases h6 : p < 19
  ·rw [if_pos ⟨h5, h6⟩]; simp [h5, h6]
  ·rw [if_neg (fun h => h6 h.2)]; simp [h5, h6]
 ·rw [if_neg (fun h => h5 h.1)]; simp [h5]
instance (p : Int) : Tot (tree_Kids p) (fun r => r = kidsN p) := ⟨by rw [kids_eq]; exact Sm.some rfl⟩
instance (p : Int) : Tot (tree_named p) (fun _ => True) := ⟨by unfold tree_named; (repeat' (with_reducible (first | exact q0 trivial | apply q1 | apply q2 | apply q3 | (apply q4; assumption) | apply q5 | apply q6 | apply q7 | apply q8 | apply q9 | intro _)))⟩
instance (p q : Int) : Tot (tree_one_1 p q) (fun r => r.2 = q /\ (r.1 = false -> 0 <= p /\ p < q)) := ⟨by
 unfold tree_one_1;refine Sm.cond (fun _ => Sm.some ⟨rfl, by simp⟩) fun e => Sm.some ⟨rfl, fun e2 => ?_⟩
 have e := of_decide_eq_false e;have e2 := of_decide_eq_false e2;exact ⟨by omega, by omega⟩⟩
instance (l : List Int) (q : Int) : Tot (zq57 l q) (fun r => r.1 < 0 -> ∀ k ∈ l, 0 <= k /\ k < q) := ⟨by
 unfold zq57;refine Sm.for0 (fun k d => d = q /\ ∀ i x, i < k -> l[i]? = some x -> 0 <= x /\ x < q) ⟨rfl, by intro i x h; omega⟩ (fun i x d K hi hx hI hK => ?_) fun d hI => Sm.some fun _ k hk => ?_
 ·obtain ⟨rfl, hI⟩ := hI;refine Sm.idx (by omega) (by simpa using hi) fun y hy => ?_
  have hyx : y = x := by simpa [hx] using hy.symm
  subst hyx;refine Sm.bindT fun r hr => ?_
  refine Sm.cond (fun _ => Sm.some (by simp only; intro h; omega)) fun e => hK _ ⟨hr.1, fun j z hj hz => ?_⟩
  by_cases hji : j < i
  ·exact hI j z hji hz
  ·have : j = i := by omega
   subst this;rw [hx] at hz;cases hz;exact hr.2 e
 ·obtain ⟨i, hi, rfl⟩ := List.getElem_of_mem hk;exact hI.2 i _ hi (List.getElem?_eq_getElem hi)⟩
instance (l : List Int) (q : Int) : Tot (zq52 l q) (fun r => r.1 = false -> ∀ k ∈ l, 0 <= k /\ k < q) := ⟨by
 unfold zq52;refine Sm.bindT fun r hr => Sm.some fun e => hr ?_
 have e := of_decide_eq_false e;omega⟩
def OneOk (n : Nd) (q : Int) : Prop := 0 <= kidsN n.1 /\ (n.2.1.length : Int) = kidsN n.1 /\ ∀ k ∈ n.2.1, 0 <= k /\ k < q
instance (fu : Nat) [Big fu] (n : Nd) (q : Int) : Tot (tree_one fu n q) (fun r => r = 0 -> OneOk n q) := ⟨by
 unfold tree_one;refine Sm.bindT fun r hr => ?_
 subst hr;refine Sm.cond (fun _ => Sm.some (by simp)) fun e => ?_
 have e := of_decide_eq_false e;refine Sm.join (fun d => d = false -> OneOk n q) (fun d hd => ?_) fun K hK => ?_
 ·refine Sm.cond (fun _ => Sm.some (by simp)) fun e => ?_
  have ok := hd e;refine Sm.weak (Q := fun _ => True) ?_ fun _ _ _ => ok
  (repeat' (with_reducible (first | exact q0 trivial | apply q1 | apply q2 | apply q3 | (apply q4; assumption) | apply q5 | apply q6 | apply q7 | apply q8 | apply q9 | intro _)))
 ·refine Sm.bindT fun r hr => ?_
  subst hr;refine Sm.cond (fun _ => hK _ (by simp)) fun e1 => ?_
  refine Sm.bindT fun r2 hr2 => hK _ fun e2 => ⟨by omega, by simpa using e1, hr2 e2⟩⟩
instance (l : List Int) (x : Int) : Tot (zq59 l x) (fun _ => True) := ⟨by
 unfold zq59;refine Sm.forT (fun i x s K hi hx hK => ?_) fun _ => Sm.some trivial
 refine Sm.idx (by omega) (by simpa using hi) fun y hy => ?_
 (repeat' (with_reducible (first | exact q0 trivial | apply q1 | apply q2 | apply q3 | (apply q4; assumption) | apply q5 | apply q6 | apply q7 | apply q8 | apply q9 | intro _)))⟩
instance (l : List Int) (x : Int) : Tot (zq54 l x) (fun _ => True) := ⟨by unfold zq54; (repeat' (with_reducible (first | exact q0 trivial | apply q1 | apply q2 | apply q3 | (apply q4; assumption) | apply q5 | apply q6 | apply q7 | apply q8 | apply q9 | intro _)))⟩
def TreeOk (l : List Nd) : Prop := 0 < l.length /\ l.length <= 100 /\ ∀ (i : Nat) n, l[i]? = some n -> OneOk n i
instance (fu : Nat) [Big fu] (l : List Nd) : Tot (tree_Check fu l) (fun r => r = 0 -> TreeOk l) := ⟨by
 have hlim := lim_eq;unfold tree_Check;refine Sm.cond (fun _ => Sm.some (by simp)) fun e1 => ?_
 have e1 := of_decide_eq_false e1;refine Sm.cond (fun _ => Sm.some (by simp)) fun e2 => ?_
 have e2 : l.length ≠ 0 := by simpa using e2
 refine Sm.chk ⟨by omega, by omega, by omega⟩ ?_;refine Sm.for0 (fun k d => d.length = l.length /\ ∀ i n, i < k -> l[i]? = some n -> OneOk n i) ⟨by simp, by intro i x h; omega⟩ (fun i x d K hi hx hI hK => ?_) fun d hI => ?_
 ·obtain ⟨hd, hI⟩ := hI;refine Sm.bindT fun r hr => ?_
  refine Sm.cond (fun e => Sm.some fun h => by rw [h] at e; simp at e) fun e => ?_
  have ok := hr (not_ne0 e);refine Sm.for0 (fun _ d => d.length = l.length) hd (fun j y d2 K2 hj hy hI2 hK2 => ?_) fun d2 hd2 => ?_
  ·obtain ⟨y0, y1⟩ := ok.2.2 y (List.mem_of_getElem? hy);refine Sm.chk ⟨by omega, by omega⟩ ?_;refine Sm.get (by omega) fun z _ => ?_
   refine Sm.chk ⟨by omega, by omega⟩ ?_;refine Sm.chk (by omega) ?_;refine Sm.chk ⟨by omega, by rw [List.length_set]; omega⟩ ?_;refine Sm.get (by rw [List.length_set]; omega) fun z2 _ => ?_
   refine Sm.cond (fun _ => Sm.some (by simp)) fun _ => hK2 _ (by rw [List.length_set]; exact hI2)
  ·refine hK _ ⟨hd2, fun j n hj hn => ?_⟩;by_cases hji : j < i
   ·exact hI j n hji hn
   ·have : j = i := by omega
    subst this;rw [hx] at hn;cases hn;exact ok
 ·obtain ⟨hd, hI⟩ := hI;rw [wrap64 (by omega) (by omega)];refine Sm.chk ⟨by omega, by omega⟩ ?_;refine Sm.chk (by simp only [decide_eq_true_eq]; omega) ?_;refine Sm.bindT fun r _ => ?_
  exact Sm.cond (fun _ => Sm.some (by simp)) fun _ => Sm.some fun _ => ⟨by omega, by omega, fun i n hn => hI i n (List.getElem?_eq_some_iff.1 hn).1 hn⟩⟩
instance (b : List Act) (x : ByteArray) : Tot (types_attr b x) (fun _ => True) := ⟨by unfold types_attr; (repeat' (with_reducible (first | exact q0 trivial | apply q1 | apply q2 | apply q3 | (apply q4; assumption) | apply q5 | apply q6 | apply q7 | apply q8 | apply q9 | intro _)))⟩
instance (k : Int) : Tot (zq63 k) (fun _ => True) := ⟨by unfold zq63; (repeat' (with_reducible (first | exact q0 trivial | apply q1 | apply q2 | apply q3 | (apply q4; assumption) | apply q5 | apply q6 | apply q7 | apply q8 | apply q9 | intro _)))⟩
instance (b : List Act) (n : Nd) : Tot (types_looked b n) (fun _ => True) := ⟨by unfold types_looked; (repeat' (with_reducible (first | exact q0 trivial | apply q1 | apply q2 | apply q3 | (apply q4; assumption) | apply q5 | apply q6 | apply q7 | apply q8 | apply q9 | intro _)))⟩
instance (l : List Tb) (x : ByteArray) : Tot (types_find l x) (fun _ => True) := ⟨by unfold types_find; (repeat' (with_reducible (first | exact q0 trivial | apply q1 | apply q2 | apply q3 | (apply q4; assumption) | apply q5 | apply q6 | apply q7 | apply q8 | apply q9 | intro _)))⟩
instance (k : Int) (l : List Int) : Tot (types_either k l) (fun _ => True) := ⟨by unfold types_either; (repeat' (with_reducible (first | exact q0 trivial | apply q1 | apply q2 | apply q3 | (apply q4; assumption) | apply q5 | apply q6 | apply q7 | apply q8 | apply q9 | intro _)))⟩
instance (a b : Int) : Tot (types_join a b) (fun _ => True) := ⟨by unfold types_join; (repeat' (with_reducible (first | exact q0 trivial | apply q1 | apply q2 | apply q3 | (apply q4; assumption) | apply q5 | apply q6 | apply q7 | apply q8 | apply q9 | intro _)))⟩
instance (o a b : Int) : Tot (types_sum o a b) (fun _ => True) := ⟨by unfold types_sum; (repeat' (with_reducible (first | exact q0 trivial | apply q1 | apply q2 | apply q3 | (apply q4; assumption) | apply q5 | apply q6 | apply q7 | apply q8 | apply q9 | intro _)))⟩
instance (a b : Int) : Tot (zq62 a b) (fun _ => True) := ⟨by unfold zq62; (repeat' (with_reducible (first | exact q0 trivial | apply q1 | apply q2 | apply q3 | (apply q4; assumption) | apply q5 | apply q6 | apply q7 | apply q8 | apply q9 | intro _)))⟩
theorem kids_facts {op : Int} {len : Nat} (h : (len : Int) = kidsN op) (h1 : op ≠ 1) (h2 : op ≠ 2) (h3 : op ≠ 3) :
  (op = 4 -> len = 1) /\ (op = 16 -> len = 1) /\ (op = 17 -> len = 1) /\ (op = 15 -> len = 3) /\ (op ≠ 0 -> op ≠ 4 -> op ≠ 15 -> op ≠ 16 -> op ≠ 17 -> len = 2) := by
 unfold kidsN at h
 split at h
 ·refine ⟨?_, ?_, ?_, ?_, ?_⟩ <;> intros <;> omega
 ·split at h
  ·refine ⟨?_, ?_, ?_, ?_, ?_⟩ <;> intros <;> omega
  ·split at h
   ·refine ⟨?_, ?_, ?_, ?_, ?_⟩ <;> intros <;> omega
   ·split at h
    ·refine ⟨?_, ?_, ?_, ?_, ?_⟩ <;> intros <;> omega
    ·omega
theorem kind_ok (n : Nd) (l : List Int) (t : Tb) (h : (l.length : Int) = kidsN n.1) (h1 : n.1 ≠ 1) (h2 : n.1 ≠ 2) (h3 : n.1 ≠ 3) : Sm (fun _ => True) (types_kind n l t) := by
 obtain ⟨f4, f16, f17, f15, f2⟩ := kids_facts h h1 h2 h3;unfold types_kind;generalize n.1 = op at *;refine Sm.cond (fun _ => Sm.some trivial) fun e0 => ?_
 have e0 : op ≠ 0 := by simpa using e0
 refine Sm.cond (fun e => ?_) fun e4 => ?_
 ·have e : op = 4 := by simpa using e
  have := f4 e;refine Sm.idx (by omega) (by simp only [Int.toNat_zero]; omega) fun y _ => ?_
  (repeat' (with_reducible (first | exact q0 trivial | apply q1 | apply q2 | apply q3 | (apply q4; assumption) | apply q5 | apply q6 | apply q7 | apply q8 | apply q9 | intro _)))
 have e4 : op ≠ 4 := by simpa using e4
 have i0 : ∀ {R : Type} {Q : R -> Prop} {g : Int -> Option R}, 1 <= l.length -> (∀ x, Sm Q (g x)) -> Sm Q ((idx l 0).bind g) := fun hl hg => Sm.idx (by omega) (by simp only [Int.toNat_zero]; omega) fun x _ => hg x
 have i1 : ∀ {R : Type} {Q : R -> Prop} {g : Int -> Option R}, 2 <= l.length -> (∀ x, Sm Q (g x)) -> Sm Q ((idx l 1).bind g) := fun hl hg => Sm.idx (by omega) (by show 1 < l.length; omega) fun x _ => hg x
 have i2 : ∀ {R : Type} {Q : R -> Prop} {g : Int -> Option R}, 3 <= l.length -> (∀ x, Sm Q (g x)) -> Sm Q ((idx l 2).bind g) := fun hl hg => Sm.idx (by omega) (by show 2 < l.length; omega) fun x _ => hg x
 refine Sm.join (fun d => d = true -> l.length = 2) (fun d hd => ?_) fun K hK => ?_
 ·refine Sm.cond (fun e => ?_) fun _ => ?_
  ·have := hd e;refine i0 (by omega) fun y => Sm.bindT fun r _ => Sm.cond (fun _ => i1 (by omega) fun y => ?_) fun _ => Sm.some trivial
   (repeat' (with_reducible (first | exact q0 trivial | apply q1 | apply q2 | apply q3 | (apply q4; assumption) | apply q5 | apply q6 | apply q7 | apply q8 | apply q9 | intro _)))
  refine Sm.cond (fun e => ?_) fun e9 => ?_
  ·have e : op = 9 := by simpa using e
   have := f2 e0 e4 (by omega) (by omega) (by omega);refine i0 (by omega) fun y => i1 (by omega) fun y => ?_
   (repeat' (with_reducible (first | exact q0 trivial | apply q1 | apply q2 | apply q3 | (apply q4; assumption) | apply q5 | apply q6 | apply q7 | apply q8 | apply q9 | intro _)))
  refine Sm.join (fun d => d = true -> l.length = 2) (fun d hd => ?_) fun K hK => ?_
  ·refine Sm.cond (fun e => ?_) fun _ => ?_
   ·have := hd e;refine i0 (by omega) fun y => i1 (by omega) fun y => ?_
    (repeat' (with_reducible (first | exact q0 trivial | apply q1 | apply q2 | apply q3 | (apply q4; assumption) | apply q5 | apply q6 | apply q7 | apply q8 | apply q9 | intro _)))
   refine Sm.join (fun d => d = true -> l.length = 2) (fun d hd => ?_) fun K hK => ?_
   ·refine Sm.cond (fun e => ?_) fun _ => ?_
    ·have := hd e;refine i0 (by omega) fun y => i1 (by omega) fun y => ?_
     (repeat' (with_reducible (first | exact q0 trivial | apply q1 | apply q2 | apply q3 | (apply q4; assumption) | apply q5 | apply q6 | apply q7 | apply q8 | apply q9 | intro _)))
    refine Sm.join (fun d => d = true -> l.length = 2) (fun d hd => ?_) fun K hK => ?_
    ·refine Sm.cond (fun e => ?_) fun _ => ?_
     ·have := hd e;refine i0 (by omega) fun y => i1 (by omega) fun y => ?_
      (repeat' (with_reducible (first | exact q0 trivial | apply q1 | apply q2 | apply q3 | (apply q4; assumption) | apply q5 | apply q6 | apply q7 | apply q8 | apply q9 | intro _)))
     refine Sm.cond (fun e => ?_) fun e12 => ?_
     ·have e : op = 12 := by simpa using e
      have := f2 e0 e4 (by omega) (by omega) (by omega);refine i0 (by omega) fun y => i1 (by omega) fun y => ?_
      (repeat' (with_reducible (first | exact q0 trivial | apply q1 | apply q2 | apply q3 | (apply q4; assumption) | apply q5 | apply q6 | apply q7 | apply q8 | apply q9 | intro _)))
     refine Sm.cond (fun e => ?_) fun e15 => ?_
     ·have e : op = 15 := by simpa using e
      have := f15 e;refine i1 (by omega) fun y => i2 (by omega) fun y => Sm.bindT fun r _ => Sm.cond (fun _ => i0 (by omega) fun y => ?_) fun _ => Sm.some trivial
      (repeat' (with_reducible (first | exact q0 trivial | apply q1 | apply q2 | apply q3 | (apply q4; assumption) | apply q5 | apply q6 | apply q7 | apply q8 | apply q9 | intro _)))
     have e15 : op ≠ 15 := by simpa using e15
     refine Sm.cond (fun e => ?_) fun e16 => ?_
     ·have e : op = 16 := by simpa using e
      have := f16 e;refine i0 (by omega) fun y => ?_
      (repeat' (with_reducible (first | exact q0 trivial | apply q1 | apply q2 | apply q3 | (apply q4; assumption) | apply q5 | apply q6 | apply q7 | apply q8 | apply q9 | intro _)))
     have e16 : op ≠ 16 := by simpa using e16
     refine Sm.cond (fun e => ?_) fun e17 => ?_
     ·have e : op = 17 := by simpa using e
      have := f17 e;refine i0 (by omega) fun y => ?_
      (repeat' (with_reducible (first | exact q0 trivial | apply q1 | apply q2 | apply q3 | (apply q4; assumption) | apply q5 | apply q6 | apply q7 | apply q8 | apply q9 | intro _)))
     have e17 : op ≠ 17 := by simpa using e17
     have := f2 e0 e4 e15 e16 e17;refine i0 (by omega) fun y => Sm.bindT fun r _ => Sm.cond (fun _ => i1 (by omega) fun y => ?_) fun _ => Sm.some trivial
     (repeat' (with_reducible (first | exact q0 trivial | apply q1 | apply q2 | apply q3 | (apply q4; assumption) | apply q5 | apply q6 | apply q7 | apply q8 | apply q9 | intro _)))
    ·refine Sm.cond (fun e => hK _ fun _ => ?_) fun _ => hK _ fun e => ?_
     ·have e : op = 10 := by simpa using e
      exact f2 e0 e4 (by omega) (by omega) (by omega)
     ·have e : op = 11 := by simpa using e
      exact f2 e0 e4 (by omega) (by omega) (by omega)
   ·refine Sm.cond (fun e => hK _ fun _ => ?_) fun _ => hK _ fun e => ?_
    ·have e : op = 13 := by simpa using e
     exact f2 e0 e4 (by omega) (by omega) (by omega)
    ·have e : op = 14 := by simpa using e
     exact f2 e0 e4 (by omega) (by omega) (by omega)
  ·refine Sm.cond (fun e => hK _ fun _ => ?_) fun _ => hK _ fun e => ?_
   ·have e : op = 7 := by simpa using e
    exact f2 e0 e4 (by omega) (by omega) (by omega)
   ·have e : op = 8 := by simpa using e
    exact f2 e0 e4 (by omega) (by omega) (by omega)
 ·refine Sm.cond (fun e => hK _ fun _ => ?_) fun _ => hK _ fun e => ?_
  ·have e : op = 5 := by simpa using e
   exact f2 e0 e4 (by omega) (by omega) (by omega)
  ·have e : op = 6 := by simpa using e
   exact f2 e0 e4 (by omega) (by omega) (by omega)
instance (b : List Act) [hb : Fit b] [hl : Fact' (Lim b)] : Tot (types_Tables b) (fun _ => True) := ⟨by
 have hlim := lim_eq;have hM := M20_eq;obtain ⟨l1, l2⟩ := hl.h;unfold types_Tables;refine Sm.for0 (fun k d => d.length <= k * M20) (by simp) (fun i x d K hi hx hI hK => ?_) fun _ _ => Sm.some trivial
 have hxm : x ∈ b := List.mem_of_getElem? hx;obtain ⟨f1, f2, f3, f4, f5⟩ := hb.act x hxm;refine Sm.for0 (fun k d2 => d2.length <= i * M20 + k) (by simpa using hI) (fun j y d2 K2 hj hy hI2 hK2 => ?_) fun d2 hd2 => hK _ (by rw [hM] at *; omega)
 have hy4 := f4 y (List.mem_of_getElem? hy);refine Sm.chk (by omega) (Sm.chk (by rw [hM] at *; omega) ?_);exact hK2 _ (by simp only [List.length_append, List.length_cons, List.length_nil]; omega)⟩
instance (fu : Nat) [Big fu] (b : List Act) [hb : Fit b] [hl : Fact' (Lim b)] (l : List Nd) : Tot (types_Of fu b l) (fun _ => True) := ⟨by
 have hlim := lim_eq;unfold types_Of;refine Sm.bindT fun r hr => ?_
 refine Sm.cond (fun _ => Sm.some trivial) fun e => ?_
 obtain ⟨t1, t2, t3⟩ := hr (not_ne0 e);refine Sm.chk ⟨by omega, by omega, by omega⟩ ?_;refine Sm.for0 (fun _ d => d.length = l.length) (by simp) (fun i x d K hi hx hI hK => ?_) fun d hI => ?_
 ·obtain ⟨o1, o2, o3⟩ := t3 i x hx;refine Sm.join (fun f => f = false -> x.1 ≠ 1 /\ x.1 ≠ 2 /\ x.1 ≠ 3) (fun f hf => ?_) fun K hK => ?_
  ·refine Sm.cond (fun _ => ?_) fun ef => ?_
   ·refine Sm.bindT fun r _ => Sm.cond (fun _ => Sm.some trivial) fun _ => ?_
    exact Sm.chk ⟨by omega, by omega⟩ (Sm.chk (by omega) (hK _ (by rw [List.length_set]; exact hI)))
   ·obtain ⟨n1, n2, n3⟩ := hf ef;refine Sm.for0 (fun k d2 => d2.length = k) rfl (fun j y d2 K2 hj hy hI2 hK2 => ?_) fun d2 hd2 => ?_
    ·obtain ⟨y0, y1⟩ := o3 y (List.mem_of_getElem? hy);refine Sm.chk ⟨by omega, by omega⟩ (Sm.get (by omega) fun z _ => Sm.chk ?_ (hK2 _ (by simp [hI2])));have : (x.2.1.length : Int) <= 3 := by
      rw [o2]; unfold kidsN; repeat' split
      all_goals omega
     omega
    ·refine Sm.joinT (fun d3 => ?_) fun K3 hK3 => ?_
     ·refine Sm.bind (kind_ok _ d2 _ (by rw [hd2]; exact o2) n1 n2 n3) fun r _ => Sm.cond (fun _ => Sm.some trivial) fun _ => ?_
      exact Sm.chk ⟨by omega, by omega⟩ (Sm.chk (by omega) (hK _ (by rw [List.length_set]; exact hI)))
     ·(repeat' (with_reducible (first | exact q0 trivial | apply q1 | apply q2 | apply q3 | (apply q4; assumption) | apply q5 | apply q6 | apply q7 | apply q8 | apply q9 | intro _)))
  ·refine Sm.cond (fun _ => hK _ (by simp)) fun e1 => Sm.cond (fun _ => hK _ (by simp)) fun e2 => hK _ fun e3 => ⟨by simpa using e1, by simpa using e2, by simpa using e3⟩
 ·rw [wrap64 (by omega) (by omega)];exact Sm.chk ⟨by omega, by omega⟩ (Sm.get (by omega) fun z _ => Sm.some trivial)⟩
instance (fu : Nat) [Big fu] (b : List Act) [hb : Fit b] [hl : Fact' (Lim b)] (x : Ar) : Tot (body_article fu b x) (fun _ => True) := ⟨by unfold body_article; (repeat' (with_reducible (first | exact q0 trivial | apply q1 | apply q2 | apply q3 | (apply q4; assumption) | apply q5 | apply q6 | apply q7 | apply q8 | apply q9 | intro _)))⟩
theorem chk_eq' {p : Prop} [Decidable p] (h : p) : chk p = some () := by unfold chk; rw [if_pos h]
theorem cloneI (l : List Int) (h : l.length <= LIM) : zq48 l = some l := by
 unfold zq48 PH.join lcase;cases l with
 | nil => simp [both, chk_eq']
 | cons x xs => simp only [cond_false, Nat.zero_add, chk_eq' h, Option.bind_some]
theorem cloneR (l : List Rf) (h : l.length <= LIM) : zq47 l = some l := by
 unfold zq47 PH.join lcase;cases l with
 | nil => simp [both, chk_eq']
 | cons x xs => simp only [cond_false, Nat.zero_add, chk_eq' h, Option.bind_some]
theorem copy_ok (l : List Nd) (h : FitX l) : Sm (fun r => r = l) (tree_Copy l) := by
 have hlim := lim_eq;have hM := M20_eq;obtain ⟨h1, h2⟩ := h;unfold tree_Copy;refine Sm.for0 (fun k d => d = l.take k) (by simp) (fun i x d K hi hx hI hK => ?_) fun d hd => Sm.some (by rw [hd, List.take_length])
 rw [cloneI _ (by have := h2 x (List.mem_of_getElem? hx); omega), Option.bind_some];subst hI;refine Sm.chk (by rw [List.length_take]; omega) (hK _ ?_);rw [List.take_add_one, hx];rfl
theorem copyA_ok (x : Ar) (h : FitX x.2.2.1 /\ FitX x.2.2.2.1 /\ x.2.2.2.2.1.length <= M20) : Sm (fun r => r = x) (zq45 x) := by
 have hlim := lim_eq;have hM := M20_eq;obtain ⟨h1, h2, h3⟩ := h;unfold zq45;refine Sm.bind (copy_ok _ h1) fun a ha => Sm.bind (copy_ok _ h2) fun b hb => ?_
 subst ha hb;rw [cloneR _ (by omega), Option.bind_some];exact Sm.some rfl
instance (b : List Act) [hb : Fit b] (r : Rf) : Tot (body_Article b r) (fun _ => True) := ⟨by
 unfold body_Article;refine Sm.forT (fun i x d K hi hx hK => ?_) fun _ => Sm.some trivial
 refine Sm.forT (fun j y d2 K2 hj hy hK2 => ?_) fun _ => hK _
 refine Sm.joinT (fun d => ?_) fun K3 hK3 => ?_
 ·refine Sm.cond (fun _ => ?_) fun _ => hK2 _
  refine Sm.bind (copyA_ok _ ?_) fun _ _ => Sm.some trivial
  exact (hb.act x (List.mem_of_getElem? hx)).2.2.2.2 y (List.mem_of_getElem? hy)
 ·(repeat' (with_reducible (first | exact q0 trivial | apply q1 | apply q2 | apply q3 | (apply q4; assumption) | apply q5 | apply q6 | apply q7 | apply q8 | apply q9 | intro _)))⟩
instance (l : List Rf) (x : Rf) : Tot (zq58 l x) (fun _ => True) := ⟨by
 unfold zq58;refine Sm.forT (fun i x s K hi hx hK => ?_) fun _ => Sm.some trivial
 refine Sm.idx (by omega) (by simpa using hi) fun y hy => ?_
 (repeat' (with_reducible (first | exact q0 trivial | apply q1 | apply q2 | apply q3 | (apply q4; assumption) | apply q5 | apply q6 | apply q7 | apply q8 | apply q9 | intro _)))⟩
instance (l : List Rf) (x : Rf) : Tot (zq53 l x) (fun _ => True) := ⟨by unfold zq53; (repeat' (with_reducible (first | exact q0 trivial | apply q1 | apply q2 | apply q3 | (apply q4; assumption) | apply q5 | apply q6 | apply q7 | apply q8 | apply q9 | intro _)))⟩
instance (b : List Act) [hb : Fit b] (r : Rf) (x : Ar) : Tot (body_over b r x) (fun _ => True) := ⟨by
 unfold body_over;refine Sm.forT (fun i y d K hi hx hK => ?_) fun _ => Sm.some trivial
 refine Sm.bindT fun r _ => Sm.cond (fun _ => Sm.some trivial) fun _ => ?_
 refine Sm.joinT (fun d => ?_) fun K3 hK3 => ?_
 ·refine Sm.cond (fun _ => Sm.some trivial) fun _ => Sm.chk ⟨by omega, by omega⟩ ?_
  (repeat' (with_reducible (first | exact q0 trivial | apply q1 | apply q2 | apply q3 | (apply q4; assumption) | apply q5 | apply q6 | apply q7 | apply q8 | apply q9 | intro _)))
 ·(repeat' (with_reducible (first | exact q0 trivial | apply q1 | apply q2 | apply q3 | (apply q4; assumption) | apply q5 | apply q6 | apply q7 | apply q8 | apply q9 | intro _)))⟩
theorem compact_ok (fu : Nat) [hf : Big fu] (l : List ByteArray) (hl : l.length <= LIM) : Sm (fun r => r.length <= l.length) (zq49 fu l) := by
 have hlim := lim_eq;have hf := hf.h;unfold zq49;refine Sm.cond (fun _ => Sm.some (Nat.le_refl _)) fun e => ?_
 have e := of_decide_eq_false e;refine Sm.whK (fun d => 1 <= d /\ d <= (l.length : Int)) (fun d => ((l.length : Int) - d).toNat) (fun d self hI hself => ?_) fu _ ⟨by omega, by omega⟩ (by omega);obtain ⟨d1, d2⟩ := hI;refine Sm.cond (fun c => ?_) fun _ => Sm.some (Nat.le_refl _)
 have c := of_decide_eq_true c;refine Sm.chk ⟨by omega, by omega⟩ (Sm.get (by omega) fun x _ => ?_);rw [wrap64 (x := d - 1) (by omega) (by omega)];refine Sm.chk ⟨by omega, by omega⟩ (Sm.get (by omega) fun x _ => ?_);refine Sm.cond (fun _ => ?_) fun _ => ?_
 ·refine Sm.chk ⟨by omega, by omega⟩ ?_;refine Sm.whK (fun s => s.2.2.length = l.length /\ 1 <= s.2.1 /\ s.2.1 <= ((l.length - d.toNat : Nat) : Int) /\ 0 <= s.1 /\ s.1 < d + s.2.1) (fun s => (((l.length - d.toNat : Nat) : Int) - s.2.1).toNat) (fun s self2 hI2 hself2 => ?_) fu _ ⟨rfl, by simp, by simp only; omega, by simp only; omega, by simp only; omega⟩ (by simp only; omega);obtain ⟨a, k, t⟩ := s;obtain ⟨j1, j2, j3, j4, j5⟩ := hI2;simp only at j1 j2 j3 j4 j5 ⊢;refine Sm.cond (fun c2 => ?_) fun c2 => ?_
  ·have c2 := of_decide_eq_true c2;refine Sm.join (fun s : Int × List ByteArray => s.2.length = l.length /\ 0 <= s.1 /\ s.1 < d + k + 1) (fun s hs => ?_) fun K hK => ?_
   ·obtain ⟨s1, s2, s3⟩ := hs;rw [wrap64 (by omega) (by omega)];exact hself2 _ ⟨s1, by simp only; omega, by simp only; omega, s2, by simp only; omega⟩ (by simp only; omega)
   ·refine Sm.chk ⟨by omega, by omega⟩ (Sm.get (by omega) fun x _ => ?_);rw [wrap64 (x := k - 1) (by omega) (by omega)];refine Sm.chk ⟨by omega, by omega⟩ (Sm.get (by omega) fun x _ => ?_);refine Sm.cond (fun _ => ?_) fun _ => hK _ ⟨j1, j4, by simp only; omega⟩
    refine Sm.chk ⟨by omega, by omega⟩ (Sm.get (by omega) fun x _ => ?_);refine Sm.chk ⟨by omega, by omega⟩ (Sm.chk (by omega) (hK _ ⟨?_, ?_, ?_⟩))
    ·simpa using j1
    ·simp only; rw [wrap64 (by omega) (by omega)]; omega
    ·simp only; rw [wrap64 (by omega) (by omega)]; omega
  ·have c2 := of_decide_eq_false c2;refine Sm.chk ⟨by omega, by omega⟩ (Sm.chk (by omega) ?_);have hlen : (List.take a.toNat t ++ (List.replicate (t.length - a.toNat) (ByteArray.mk (Array.mk (@List.nil UInt8))) ++ List.drop (a.toNat + (List.replicate (t.length - a.toNat) (ByteArray.mk (Array.mk (@List.nil UInt8)))).length) t)).length = t.length := by
    simp only [List.length_append, List.length_take, List.length_replicate, List.length_drop]; omega
   rw [hlen];refine Sm.chk ⟨by omega, by omega⟩ (Sm.chk (by omega) (Sm.some ?_));rw [List.length_take, hlen]; omega
 ·rw [wrap64 (by omega) (by omega)];exact hself _ ⟨by omega, by omega⟩ (by omega)
theorem names_ok (fu : Nat) [hf : Big fu] (l : List Nd) (hl : l.length <= M20) : Sm (fun r => r.1.length <= l.length /\ r.2.length <= l.length) (tree_Names fu l) := by
 have hlim := lim_eq;have hM := M20_eq;unfold tree_Names;refine Sm.for0 (fun k d => d.1.length <= k /\ d.2.length <= k) ⟨by simp, by simp⟩ (fun i x d K hi hx hI hK => ?_) fun d hd => ?_
 ·obtain ⟨i1, i2⟩ := hI;refine Sm.joinT (fun f => ?_) fun K hK => ?_
  ·refine Sm.cond (fun _ => Sm.chk (by omega) (hK _ ⟨by simpa using i1, by simp only; omega⟩)) fun _ => ?_
   exact Sm.cond (fun _ => Sm.chk (by omega) (hK _ ⟨by simp only; omega, by simpa using i2⟩)) fun _ => hK _ ⟨by simp only; omega, by simp only; omega⟩
  ·(repeat' (with_reducible (first | exact q0 trivial | apply q1 | apply q2 | apply q3 | (apply q4; assumption) | apply q5 | apply q6 | apply q7 | apply q8 | apply q9 | intro _)))
 ·obtain ⟨d1, d2⟩ := hd;have srt : ∀ l : List ByteArray, l.length <= LIM -> Sm (fun r : List ByteArray => r.length = l.length) ((chk (l.length <= LIM)).bind fun x => some (List.map (fun b : List UInt8 => ByteArray.mk b.toArray) ((List.map ByteArray.toList l).mergeSort fun x y => decide (x <= y)))) := fun l h => Sm.chk h (Sm.some (by simp))
  refine Sm.bind (srt _ (by omega)) fun r hr => Sm.chk hr ?_
  refine Sm.bind (srt _ (by omega)) fun r2 hr2 => Sm.chk hr2 ?_
  refine Sm.bind (compact_ok fu _ (by omega)) fun r3 hr3 => Sm.bind (compact_ok fu _ (by omega)) fun r4 hr4 => Sm.some ⟨by simp only; omega, by simp only; omega⟩
theorem beq_str (a b : ByteArray) : Ty.str.beq a b = true ↔ a = b := ⟨Ty.beq_eq .str a b, fun h => by subst h; simp [Ty.beq]⟩
theorem beq_ref (a b : Rf) : (Ty.str.pair Ty.str).beq a b = true ↔ a = b := ⟨Ty.beq_eq (.pair .str .str) a b, fun h => by subst h; simp [Ty.beq]⟩
theorem looks_ok (fu : Nat) [hf : Big fu] (b : List Act) [hb : Fit b] (hl : Lim b) : Sm (fun r => r.length <= 480 /\ vsum r <= 480 * (2 * M20)) (body_looks fu b) := by
 have hlim := lim_eq;have hM := M20_eq;obtain ⟨l1, l2⟩ := hl;unfold body_looks;refine Sm.for0 (fun k d => d.length <= k * 60 /\ vsum d <= k * 60 * (2 * M20)) ⟨by simp, by simp [vsum]⟩ (fun i x d K hi hx hI hK => ?_) fun d hd => Sm.some ⟨by omega, by rw [hM] at *; omega⟩
 have hxm : x ∈ b := List.mem_of_getElem? hx;obtain ⟨f1, f2, f3, f4, f5⟩ := hb.act x hxm;obtain ⟨m1, m2⟩ := l2 x hxm;refine Sm.for0 (fun k d2 => d2.length <= i * 60 + k /\ vsum d2 <= (i * 60 + k) * (2 * M20)) (by simpa using hI) (fun j y d2 K2 hj hy hI2 hK2 => ?_) fun d2 hd2 => hK _ ⟨by omega, by rw [hM] at *; omega⟩
 obtain ⟨g1, g2, g3⟩ := f5 y (List.mem_of_getElem? hy);obtain ⟨i1, i2⟩ := hI2;refine Sm.bind (names_ok fu _ g1.1) fun r hr => Sm.bind (names_ok fu _ g2.1) fun r2 hr2 => ?_
 have q1 := hr.1;have q2 := hr2.1;have q3 := g1.1;have q4 := g2.1;have hs := vsum_set Ty.str.beq y.2.1 ((mget Ty.str.beq y.2.1 d2).getD [] ++ r.1 ++ r2.1) d2;have hle : ((mget Ty.str.beq y.2.1 d2).getD []).length <= vsum d2 := by
  cases e : mget Ty.str.beq y.2.1 d2 with
  | none => simp
  | some v =>
   obtain ⟨a, ha⟩ := mget_mem e;rw [<- vsum_flat];simp only [Option.getD_some];have : ∀ (z : List (ByteArray × List ByteArray)), (a, v) ∈ z -> v.length <= (z.flatMap (·.2)).length := by
    intro z;induction z with
    | nil => intro h; cases h
    | cons p z ih =>
     intro h;rw [List.flatMap_cons, List.length_append];rcases List.mem_cons.1 h with rfl | h
     ·simp only; omega
     ·have := ih h; omega
   exact this _ ha
 have hb1 : Ty.str.beq y.2.1 y.2.1 = true := (beq_str _ _).2 rfl;refine Sm.chk ⟨hb1, ?_⟩ (Sm.chk (by rw [hM] at *; omega) (Sm.chk (by rw [List.length_append, hM] at *; omega) (Sm.chk ⟨hb1, by omega⟩ (hK2 _ ⟨?_, ?_⟩))))
 ·cases mget Ty.str.beq y.2.1 d2 with
  | none => exact .inr rfl
  | some v => exact .inl rfl
 ·have := mset_le (eq := Ty.str.beq) y.2.1 ((mget Ty.str.beq y.2.1 d2).getD [] ++ r.1 ++ r2.1) d2;omega
 ·simp only [List.length_append] at hs;rw [hM] at *;omega
theorem walkR_eq (fu : Nat) : ∀ n, famO (js := zq22) (jh := zq20) (rs := zq43) (rh := zq41) (fun F0 d => zq5 F0 fu d.1 d.2.1 d.2.2) n =
  walkG (Ty.str.pair Ty.str).beq (fun x (m : List (Rf × List Rf)) => (mget (Ty.str.pair Ty.str).beq x m).getD []) n
 | 0 => rfl
 | n + 1 => by
  have ih := walkR_eq fu n;funext d;simp only [famO, walkG];rw [ih];rfl
theorem walkS_eq (fu : Nat) : ∀ n, famO (js := zq23) (jh := zq21) (rs := zq44) (rh := zq42) (fun F0 d => zq9 F0 fu d.1 d.2.1 d.2.2) n =
  walkG Ty.str.beq (fun x (m : List (ByteArray × List ByteArray)) => (mget Ty.str.beq x m).getD []) n
 | 0 => rfl
 | n + 1 => by
  have ih := walkS_eq fu n;funext d;simp only [famO, walkG];rw [ih];rfl
def nxM {K : Type} (eq : K -> K -> Bool) (m : List (K × List K)) (x : K) : List K := (mget eq x m).getD []
theorem nx_mem {K : Type} {eq : K -> K -> Bool} {m : List (K × List K)} {x y : K} (h : y ∈ nxM eq m x) : y ∈ m.flatMap (·.2) := by
 unfold nxM at h;cases e : mget eq x m with
 | none => rw [e] at h; cases h
 | some v =>
  rw [e] at h;obtain ⟨a, ha⟩ := mget_mem e;exact List.mem_flatMap.2 ⟨_, ha, h⟩
theorem circR_ok (fu : Nat) [hf : Big fu] (all : List Rf) (m : List (Rf × List Rf)) (h : all.length + vsum m < LIM) :
  ∃ r, circle_Ref fu all m = some (r, m) := by
 have hf := hf.h
 obtain ⟨i, h1, _⟩ := walks_ok (eq := (Ty.str.pair Ty.str).beq) (nxm := fun x (m : List (Rf × List Rf)) => (mget (Ty.str.pair Ty.str).beq x m).getD []) m beq_ref (nx := nxM (Ty.str.pair Ty.str).beq m) (fun _ => rfl)
  (U := all ++ m.flatMap (·.2)) (fun x _ y hy => List.mem_append.2 (.inr (nx_mem hy))) (by rw [List.length_append, vsum_flat]; omega) (n := fu) (by rw [List.length_append, vsum_flat]; omega) all (fun x hx => List.mem_append.2 (.inl hx))
 refine ⟨decide (i >= 0), ?_⟩
 unfold circle_Ref zq0 zq2 circle_Ref_1
 rw [walkR_eq, Option.bind_assoc]
 exact h1
theorem circS_ok (fu : Nat) [hf : Big fu] (all : List ByteArray) (m : List (ByteArray × List ByteArray)) (h : all.length + vsum m < LIM) :
  ∃ r : Bool, zq7 fu all m = some (r, m) /\ (r = true ↔ ∃ x ∈ all, ¬ Acy (nxM Ty.str.beq m) x) := by
 have hf := hf.h
 obtain ⟨i, h1, h2⟩ := walks_ok (eq := Ty.str.beq) (nxm := fun x (m : List (ByteArray × List ByteArray)) => (mget Ty.str.beq x m).getD []) m beq_str (nx := nxM Ty.str.beq m) (fun _ => rfl)
  (U := all ++ m.flatMap (·.2)) (fun x _ y hy => List.mem_append.2 (.inr (nx_mem hy))) (by rw [List.length_append, vsum_flat]; omega) (n := fu) (by rw [List.length_append, vsum_flat]; omega) all (fun x hx => List.mem_append.2 (.inl hx))
 refine ⟨decide (i >= 0), ?_, by rw [decide_eq_true_iff]; exact h2⟩
 unfold zq7 zq1 zq3 zq8
 rw [walkS_eq, Option.bind_assoc]
 exact h1
theorem check_ok (fu : Nat) [hf : Big fu] (b : List Act) [hb : Fit b] : Sm (fun _ => True) (body_Check fu b) := by
 classical
 have hlim := lim_eq;have hM := M20_eq;unfold body_Check;refine Sm.bindT fun r hr => Sm.cond (fun _ => Sm.some trivial) fun e => ?_
 have hl := hr (not_ne0 e);haveI : Fact' (Lim b) := ⟨hl⟩;refine Sm.bind (parts_ok fu b hl) fun r _ => Sm.cond (fun _ => Sm.some trivial) fun _ => ?_
 obtain ⟨l1, l2⟩ := hl;refine Sm.for0 (fun k d => d.1.length <= k * 60 /\ vsum d.1 <= k * 60 * M20 /\ d.2.length <= k * 60) ⟨by simp, by simp [vsum], by simp⟩ (fun i x d K hi hx hI hK => ?_) fun d hd => ?_
 ·have hxm : x ∈ b := List.mem_of_getElem? hx;obtain ⟨f1, f2, f3, f4, f5⟩ := hb.act x hxm;obtain ⟨m1, m2⟩ := l2 x hxm;obtain ⟨i1, i2, i3⟩ := hI;refine Sm.for0 (fun k d2 => d2.1.length <= i * 60 + k /\ vsum d2.1 <= (i * 60 + k) * M20 /\ d2.2.1.length <= i * 60 + k /\ d2.2.2.length <= k) ⟨i1, i2, i3, by simp⟩ (fun j y d2 K2 hj hy hI2 hK2 => ?_) fun d2 hd2 => ?_
  ·obtain ⟨j1, j2, j3, j4⟩ := hI2;obtain ⟨g1, g2, g3⟩ := f5 y (List.mem_of_getElem? hy);refine Sm.bind (add_ok (fu := fu) y.1 d2.2.2 j j4 (by omega)) fun r hr => Sm.cond (fun _ => Sm.some trivial) fun e => ?_
   have hr := hr (not_ne0 e);refine Sm.bindT fun r2 _ => Sm.cond (fun _ => Sm.some trivial) fun _ => ?_
   refine Sm.chk (by omega) (Sm.chk (by omega) (hK2 _ ⟨?_, ?_, ?_, by simpa using hr⟩))
   ·have := mset_le (eq := (Ty.str.pair Ty.str).beq) (x.1, y.1) y.2.2.2.2.1 d2.1;simp only;omega
   ·have := vsum_set (Ty.str.pair Ty.str).beq (x.1, y.1) y.2.2.2.2.1 d2.1;simp only;rw [hM] at *;omega
   ·simp only [List.length_append, List.length_cons, List.length_nil]; omega
  ·obtain ⟨j1, j2, j3, j4⟩ := hd2;refine hK _ ⟨?_, ?_, ?_⟩
   ·show d2.1.length <= (i + 1) * 60
    omega
   ·exact Nat.le_trans j2 (Nat.mul_le_mul_right _ (by omega))
   ·show d2.2.1.length <= (i + 1) * 60
    omega
 ·obtain ⟨d1, d2, d3⟩ := hd;refine Sm.forT (fun i x s K hi hx hK => ?_) fun _ => ?_
  ·(repeat' (with_reducible (first | exact q0 trivial | apply q1 | apply q2 | apply q3 | (apply q4; assumption) | apply q5 | apply q6 | apply q7 | apply q8 | apply q9 | intro _)))
  ·obtain ⟨r, hr⟩ := circR_ok fu d.2 d.1 (by rw [hM] at *; omega);rw [hr, Option.bind_some];refine Sm.cond (fun _ => Sm.some trivial) fun _ => ?_
   refine Sm.bind (looks_ok fu b ⟨l1, l2⟩) fun l hl => ?_
   obtain ⟨v1, v2⟩ := hl;refine Sm.allR ?_;refine Sm.anyK (fun done s => s = done.map (·.1)) (if ∃ x ∈ l.map Prod.fst, ¬ Acy (nxM Ty.str.beq l) x then 10 else 0) trivial (fun done x s K' hx hlen hP hK' => ?_) rfl fun done s hp hP => ?_
   ·subst hP;rw [chk_eq' (by rw [List.length_map]; omega), Option.bind_some];exact hK' _ (by simp)
   ·subst hP;have hlen : (done.map (·.1)).length = l.length := by rw [List.length_map, hp.length_eq]
    obtain ⟨r, hr, hiff⟩ := circS_ok fu (done.map (·.1)) l (by rw [hlen]; rw [hM] at *; omega);rw [hr, Option.bind_some];have hiff2 : r = true ↔ ∃ x ∈ l.map (·.1), ¬ Acy (nxM Ty.str.beq l) x := by
     rw [hiff];constructor
     ·rintro ⟨x, hx, h⟩; exact ⟨x, (hp.map _).mem_iff.1 hx, h⟩
     ·rintro ⟨x, hx, h⟩; exact ⟨x, (hp.map _).mem_iff.2 hx, h⟩
    cases r with
    | true => rw [if_pos (hiff2.1 rfl)]; rfl
    | false => rw [if_neg (fun h => by cases hiff2.2 h)]; rfl
end Go.Proofs.YtgpioploehgpdaaGreat
set_option linter.unusedVariables false
set_option linter.unusedSimpArgs false
namespace Go.Proofs.YtgpioploehgpdaaGreat
open Go.PG Go.PG.PH
def bd (t : Ty) (x : t.D) : Nat := V.bulkL (t.cells x)
theorem enc_bd : ∀ (t : Ty) (x : t.D), (t.enc x).bulk = bd t x
 | .int _, _ => by simp [Ty.enc, Ty.isA, mkV, Ty.cells, bd, V.bulk, V.bulkL]
 | .bool, _ => by simp [Ty.enc, Ty.isA, mkV, Ty.cells, bd, V.bulk, V.bulkL]
 | .str, _ => by simp [Ty.enc, Ty.isA, mkV, Ty.cells, bd, V.bulk, V.bulkL]
 | .list _, _ => by simp [Ty.enc, Ty.isA, mkV, Ty.cells, bd, V.bulk, V.bulkL]
 | .map _ _, _ => by simp [Ty.enc, Ty.isA, mkV, Ty.cells, bd, V.bulk, V.bulkL]
 | .unit, _ => by simp [Ty.enc, Ty.isA, mkV, Ty.cells, bd, V.bulk, V.bulkL]
 | .box a, _ => by simp [Ty.enc, Ty.isA, mkV, bd, V.bulk]
 | .pair a b, _ => by simp [Ty.enc, Ty.isA, mkV, bd, V.bulk]
theorem bd_pair (a b : Ty) (x : a.D × b.D) : bd (.pair a b) x = bd a x.1 + bd b x.2 := by
 unfold bd;rw [show (Ty.pair a b).cells x = a.cells x.1 ++ b.cells x.2 from rfl, bulkL_append]
theorem bd_list (t : Ty) (l : List t.D) : bd (.list t) l = V.bulkL (l.map t.enc) + 1 := by
 unfold bd;rw [show (Ty.list t).cells l = [.sl t.size (l.map t.enc)] from rfl];simp [V.bulkL, V.bulk]
theorem bd_int (k : IntKind) (x : Int) : bd (.int k) x = 1 := by simp [bd, Ty.cells, V.bulk, V.bulkL]
theorem bd_str (x : ByteArray) : bd .str x = x.size + 1 := by simp [bd, Ty.cells, V.bulk, V.bulkL]
theorem bd_mem {t : Ty} {x : t.D} : ∀ {l : List t.D}, x ∈ l -> bd t x <= bd (.list t) l
 | y :: l, h => by
  rw [bd_list, List.map_cons, V.bulkL, enc_bd];rcases List.mem_cons.1 h with rfl | h
  ·omega
  ·have := bd_mem h;rw [bd_list] at this;omega
theorem bd_len {t : Ty} (h : ∀ x, 1 <= bd t x) : ∀ l : List t.D, l.length <= bd (.list t) l
 | [] => Nat.zero_le _
 | x :: l => by
  have h1 := bd_len h l;have h2 := h x;rw [bd_list] at h1;rw [bd_list, List.map_cons, V.bulkL, enc_bd, List.length_cons];omega
theorem bd_sum {t : Ty} (f : t.D -> Nat) (h : ∀ x, f x <= bd t x) : ∀ l : List t.D, (l.map f).sum <= bd (.list t) l
 | [] => Nat.zero_le _
 | x :: l => by
  have h1 := bd_sum f h l;have h2 := h x;rw [bd_list] at h1;rw [bd_list, List.map_cons, V.bulkL.eq_def, List.map_cons, List.sum_cons];simp only [enc_bd];omega
abbrev tyI : Ty := .int .i64
abbrev tyNd : Ty := .pair tyI (.pair (.list tyI) (.pair tyI (.pair tyI .str)))
abbrev tyAt : Ty := .pair .str (.pair tyI (.pair .bool (.pair tyI (.pair tyI (.pair tyI tyI)))))
abbrev tySt : Ty := .pair tyI tyI
abbrev tyTb : Ty := .pair .str (.pair tyI (.pair tyI (.pair .bool (.list tySt))))
abbrev tyRf : Ty := .pair .str .str
abbrev tyAr : Ty := .pair .str (.pair .str (.pair (.list tyNd) (.pair (.list tyNd) (.pair (.list tyRf) tyI))))
abbrev tyAct : Ty := .pair .str (.pair tyI (.pair tyI (.pair (.list tyAt) (.pair (.list tyTb) (.list tyAr)))))
theorem one_int (k : IntKind) (x : Int) : 1 <= bd (.int k) x := by rw [bd_int]; omega
theorem one_str (x : ByteArray) : 1 <= bd .str x := by rw [bd_str]; omega
theorem one_pair {a b : Ty} (h : ∀ x, 1 <= bd a x) (x : a.D × b.D) : 1 <= bd (.pair a b) x := by
 have := h x.1;rw [bd_pair]; omega
theorem fitX_of (l : List Nd) (h : bd (.list tyNd) l <= M20) : FitX l := by
 have h1 := bd_len (t := tyNd) (one_pair (one_int _)) l;refine ⟨Nat.le_trans h1 h, fun n hn => ?_⟩;have h2 := bd_mem (t := tyNd) hn;have h3 := bd_len (t := tyI) (one_int _) n.2.1;have h4 : bd tyNd n = bd tyI n.1 + (bd (.list tyI) n.2.1 + bd (.pair tyI (.pair tyI .str)) n.2.2) := by
  unfold tyNd;rw [bd_pair, bd_pair]
 omega
theorem bd_act (a : Act) : bd tyAct a = bd .str a.1 + (bd tyI a.2.1 + (bd tyI a.2.2.1 + (bd (.list tyAt) a.2.2.2.1 + (bd (.list tyTb) a.2.2.2.2.1 + bd (.list tyAr) a.2.2.2.2.2)))) := by
 simp only [bd_pair]
theorem bd_tb (t : Tb) : bd tyTb t = bd .str t.1 + (bd tyI t.2.1 + (bd tyI t.2.2.1 + (bd .bool t.2.2.2.1 + bd (.list tySt) t.2.2.2.2))) := by
 simp only [bd_pair]
theorem bd_ar (x : Ar) : bd tyAr x = bd .str x.1 + (bd .str x.2.1 + (bd (.list tyNd) x.2.2.1 + (bd (.list tyNd) x.2.2.2.1 + (bd (.list tyRf) x.2.2.2.2.1 + bd tyI x.2.2.2.2.2)))) := by
 simp only [bd_pair]
theorem fit_of (b : List Act) (h : bd (.list tyAct) b <= M20) : Fit b := by
 refine ⟨Nat.le_trans (bd_len (t := tyAct) (one_pair one_str) b) h, ?_, fun a ha => ?_⟩
 ·have h1 := bd_sum (t := tyAct) (fun a : Act => a.2.2.2.1.length) (fun a => by
   have h2 := bd_len (t := tyAt) (one_pair one_str) a.2.2.2.1;have h3 := bd_act a;omega) b
  rw [List.length_flatMap];exact Nat.le_trans h1 h
 ·have h1 := bd_mem (t := tyAct) ha;have h2 := bd_act a;have k1 := bd_len (t := tyAt) (one_pair one_str) a.2.2.2.1;have k2 := bd_len (t := tyTb) (one_pair one_str) a.2.2.2.2.1;have k3 := bd_len (t := tyAr) (one_pair one_str) a.2.2.2.2.2;refine ⟨by omega, by omega, by omega, fun t ht => ?_, fun x hx => ?_⟩
  ·have h3 := bd_mem (t := tyTb) ht;have h4 := bd_tb t;have h5 := bd_len (t := tySt) (one_pair (one_int _)) t.2.2.2.2;omega
  ·have h3 := bd_mem (t := tyAr) hx;have h4 := bd_ar x;have h5 := bd_len (t := tyRf) (one_pair one_str) x.2.2.2.2.1;exact ⟨fitX_of _ (by omega), fitX_of _ (by omega), by omega⟩
end Go.Proofs.YtgpioploehgpdaaGreat
set_option linter.unusedVariables false
set_option linter.unusedSimpArgs false
set_option maxRecDepth 100000
namespace Go.Proofs.YtgpioploehgpdaaGreat
open Go.PG Go.PG.PH
section
variable {α S R : Type}
def ffirst (f : Nat -> α -> Int) : Nat -> List α -> Int
 | _, [] => 0
 | k, x :: xs => if f k x = 0 then ffirst f (k + 1) xs else f k x
theorem ffirst_at {f : Nat -> α -> Int} : ∀ {l : List α} {k i : Nat} {x : α}, l[i]? = some x -> (∀ j y, j < i -> l[j]? = some y -> f (k + j) y = 0) -> f (k + i) x ≠ 0 -> ffirst f k l = f (k + i) x
 | [], _, _, _, h, _, _ => by simp at h
 | y :: l, k, 0, x, h, _, hn => by
  simp only [List.getElem?_cons_zero, Option.some.injEq] at h;subst h;simp only [ffirst];rw [Nat.add_zero] at hn ⊢;rw [if_neg hn, Nat.add_zero]
 | y :: l, k, i + 1, x, h, hz, hn => by
  have h0 := hz 0 y (by omega) (by simp);rw [Nat.add_zero] at h0;simp only [ffirst];rw [if_pos h0, show k + (i + 1) = k + 1 + i by omega];refine ffirst_at (by simpa using h) (fun j z hj hz' => ?_) (by rw [show k + 1 + i = k + (i + 1) by omega]; exact hn);have := hz (j + 1) z (by omega) (by simpa using hz');rw [show k + 1 + j = k + (j + 1) by omega]; exact this
theorem ffirst_zero {f : Nat -> α -> Int} : ∀ {l : List α} {k : Nat}, (∀ j y, l[j]? = some y -> f (k + j) y = 0) -> ffirst f k l = 0
 | [], _, _ => rfl
 | y :: l, k, hz => by
  have h0 := hz 0 y (by simp);rw [Nat.add_zero] at h0;simp only [ffirst];rw [if_pos h0];refine ffirst_zero fun j z hz' => ?_
  have := hz (j + 1) z (by simpa using hz');rw [show k + 1 + j = k + (j + 1) by omega]; exact this
theorem Sm.ff {E : R} (g : Int -> R) {f : Nat -> α -> Int} {body : Nat -> α -> S -> (S -> Option R) -> Option R} {K : S -> Option R} (I : Nat -> S -> Prop) {l : List α} {s : S} (h0 : I 0 s)
  (hE : ffirst f 0 l ≠ 0 -> E = g (ffirst f 0 l))
  (hb : ∀ (i : Nat) (x : α) (s : S) (K : S -> Option R), i < l.length -> l[i]? = some x -> I i s -> (f i x ≠ 0 -> E = g (f i x)) -> (f i x = 0 -> ∀ s', I (i + 1) s' -> Sm (fun r => r = E) (K s')) -> Sm (fun r => r = E) (body i x s K))
  (hK : ∀ s, I l.length s -> ffirst f 0 l = 0 -> Sm (fun r => r = E) (K s)) : Sm (fun r => r = E) (forK body 0 l s K) := by
 refine Sm.for0 (fun i s => I i s /\ ∀ j y, j < i -> l[j]? = some y -> f j y = 0) ⟨h0, by intro j y h; omega⟩ (fun i x s K hi hx hI hK => ?_) fun s hs => hK s hs.1 (ffirst_zero fun j y hy => by
  rw [Nat.zero_add]; exact hs.2 j y (List.getElem?_eq_some_iff.1 hy).1 hy)
 refine hb i x s K hi hx hI.1 (fun hn => ?_) fun hz s' hs' => hK s' ⟨hs', fun j y hj hy => ?_⟩
 ·have := ffirst_at (f := f) (k := 0) hx (fun j y hj hy => by rw [Nat.zero_add]; exact hI.2 j y hj hy) (by rw [Nat.zero_add]; exact hn);rw [Nat.zero_add] at this;rw [hE (by rw [this]; exact hn), this]
 ·by_cases hji : j < i
  ·exact hI.2 j y hji hy
  ·have : j = i := by omega
   subst this;rw [hx] at hy;cases hy;exact hz
end
theorem idx_at {α : Type} {l : List α} {k : Nat} {x : α} (h : l[k]? = some x) : idx l (k : Int) = some x := by
 unfold idx; rw [if_pos (by omega)]; simpa using h
end Go.Proofs.YtgpioploehgpdaaGreat
set_option linter.unusedVariables false
set_option linter.unusedSimpArgs false
set_option maxRecDepth 100000
set_option maxHeartbeats 2000000
namespace Go.PG.PH
structure SWO {α : Type} (lt : α -> α -> Bool) : Prop where
 irr : ∀ x, lt x x = false
 tr : ∀ x y z, lt x y = true -> lt y z = true -> lt x z = true
 ntr : ∀ x y z, lt x y = false -> lt y z = false -> lt x z = false
theorem SWO.asy {α : Type} {lt : α -> α -> Bool} (h : SWO lt) {x y : α} (e : lt x y = true) : lt y x = false := by
 cases e2 : lt y x with
 | false => rfl
 | true =>
  have := h.tr x y x e e2;rw [h.irr] at this;cases this
section
variable {α : Type} {lt : α -> α -> Bool}
def same (lt : α -> α -> Bool) (k x : α) : Bool := !lt x k && !lt k x
def SF (lt : α -> α -> Bool) (X Y : List α) : Prop := ∀ k, X.filter (same lt k) = Y.filter (same lt k)
def Srt (lt : α -> α -> Bool) (X : List α) : Prop := X.Pairwise fun x y => lt y x = false
theorem SF.refl (X : List α) : SF lt X X := fun _ => rfl
theorem SF.symm {X Y : List α} (h : SF lt X Y) : SF lt Y X := fun k => (h k).symm
theorem SF.trans {X Y Z : List α} (h : SF lt X Y) (h' : SF lt Y Z) : SF lt X Z := fun k => (h k).trans (h' k)
theorem SF.app {X Y X' Y' : List α} (h : SF lt X Y) (h' : SF lt X' Y') : SF lt (X ++ X') (Y ++ Y') := fun k => by
 rw [List.filter_append, List.filter_append, h k, h' k]
theorem SF.swap {U V : List α} (hlt : SWO lt) (h : ∀ u ∈ U, ∀ v ∈ V, lt v u = true) : SF lt (U ++ V) (V ++ U) := fun k => by
 rw [List.filter_append, List.filter_append];cases e : U.filter (same lt k) with
 | nil => simp
 | cons u l =>
  have hu : u ∈ U.filter (same lt k) := by rw [e]; simp
  obtain ⟨hu1, hu2⟩ := List.mem_filter.1 hu;have : V.filter (same lt k) = [] := by
   rw [List.filter_eq_nil_iff];intro v hv hs;unfold same at hu2 hs;simp only [Bool.and_eq_true, Bool.not_eq_true'] at hu2 hs;have h1 := hlt.ntr v k u hs.1 hu2.2;rw [h u hu1 v hv] at h1;cases h1
  rw [this]; simp
theorem SF.mem (hlt : SWO lt) {X Y : List α} (h : SF lt X Y) {x : α} (hx : x ∈ X) : x ∈ Y := by
 have : x ∈ X.filter (same lt x) := List.mem_filter.2 ⟨hx, by simp [same, hlt.irr]⟩;rw [h x] at this;exact (List.mem_filter.1 this).1
theorem srt_app {X Y : List α} (hX : Srt lt X) (hY : Srt lt Y) (h : ∀ x ∈ X, ∀ y ∈ Y, lt y x = false) : Srt lt (X ++ Y) := List.pairwise_append.2 ⟨hX, hY, h⟩
theorem srt_split {X Y : List α} (h : Srt lt (X ++ Y)) : Srt lt X /\ Srt lt Y /\ ∀ x ∈ X, ∀ y ∈ Y, lt y x = false := List.pairwise_append.1 h
theorem srt_at (hlt : SWO lt) {X : List α} (h : Srt lt X) {i j : Nat} {x y : α} (hij : i <= j) (hx : X[i]? = some x) (hy : X[j]? = some y) : lt y x = false := by
 rcases Nat.lt_or_eq_of_le hij with hij | rfl
 ·obtain ⟨hi, rfl⟩ := List.getElem?_eq_some_iff.1 hx;obtain ⟨hj, rfl⟩ := List.getElem?_eq_some_iff.1 hy;exact (List.pairwise_iff_getElem.1 h) i j hi hj hij
 ·rw [hx] at hy; cases hy; exact hlt.irr _
inductive Bks (lt : α -> α -> Bool) (s : Nat) : List α -> Prop
 | last {X} (h : X.length <= s) (hs : Srt lt X) : Bks lt s X
 | cons {X L} (h : X.length = s) (hs : Srt lt X) (hl : Bks lt s L) : Bks lt s (X ++ L)
inductive Full (lt : α -> α -> Bool) (s : Nat) : List α -> Prop
 | nil : Full lt s []
 | snoc {L X} (hl : Full lt s L) (h : X.length = s) (hs : Srt lt X) : Full lt s (L ++ X)
theorem Full.app {s : Nat} {L R : List α} (h : Full lt s L) : Bks lt s R -> Bks lt s (L ++ R) := by
 induction h generalizing R with
 | nil => exact fun h => h
 | snoc hl h hs ih => intro hR; rw [List.append_assoc]; exact ih (.cons h hs hR)
theorem Bks.srt {s : Nat} {L : List α} (h : Bks lt s L) (hl : L.length <= s) : Srt lt L := by
 cases h with
 | last h hs => exact hs
 | @cons X L h hs hr =>
  rw [List.length_append] at hl;have : L = [] := List.eq_nil_of_length_eq_zero (by omega);rw [this, List.append_nil]; exact hs
end
end Go.PG.PH
set_option linter.unusedVariables false
set_option linter.unusedSimpArgs false
set_option maxRecDepth 100000
namespace Go.Proofs.YtgpioploehgpdaaGreat
open Go.PG Go.PG.PH
theorem bl_irr : ∀ l : List UInt8, Op.bytesLess l l = false
 | [] => rfl
 | a :: l => by simp [Op.bytesLess, bl_irr l]
theorem bl_tri : ∀ l m : List UInt8, Op.bytesLess l m = false -> Op.bytesLess m l = false -> l = m
 | [], [], _, _ => rfl
 | [], b :: m, h, _ => by simp [Op.bytesLess] at h
 | a :: l, [], _, h => by simp [Op.bytesLess] at h
 | a :: l, b :: m, h, h' => by
  simp only [Op.bytesLess, Bool.or_eq_false_iff, Bool.and_eq_false_iff, decide_eq_false_iff_not, beq_eq_false_iff_ne] at h h';have e : a = b := by
   have h1 := h.1;have h2 := h'.1;rw [UInt8.lt_iff_toNat_lt] at h1 h2;exact UInt8.toNat_inj.1 (by omega)
  subst e;rw [bl_tri l m (by simpa using h.2) (by simpa using h'.2)]
theorem bl_tr : ∀ l m n : List UInt8, Op.bytesLess l m = true -> Op.bytesLess m n = true -> Op.bytesLess l n = true
 | [], [], _, h, _ => by simp [Op.bytesLess] at h
 | [], b :: m, [], _, h => by simp [Op.bytesLess] at h
 | [], b :: m, c :: n, _, _ => by simp [Op.bytesLess]
 | a :: l, [], _, h, _ => by simp [Op.bytesLess] at h
 | a :: l, b :: m, [], _, h => by simp [Op.bytesLess] at h
 | a :: l, b :: m, c :: n, h, h' => by
  simp only [Op.bytesLess, Bool.or_eq_true, Bool.and_eq_true, decide_eq_true_eq, beq_iff_eq] at h h' ⊢;rcases h with h | ⟨rfl, h⟩
  ·rcases h' with h' | ⟨rfl, h'⟩
   ·left;rw [UInt8.lt_iff_toNat_lt] at h h' ⊢;omega
   ·exact .inl h
  ·rcases h' with h' | ⟨rfl, h'⟩
   ·exact .inl h'
   ·exact .inr ⟨rfl, bl_tr l m n h h'⟩
theorem bl_asy {l m : List UInt8} (h : Op.bytesLess l m = true) : Op.bytesLess m l = false := by
 cases e : Op.bytesLess m l with
 | false => rfl
 | true =>
  have := bl_tr l m l h e;rw [bl_irr] at this;cases this
def ltA (x y : At) : Bool := Op.bytesLess x.1.toList y.1.toList
theorem swoA : SWO ltA := ⟨fun x => bl_irr _, fun x y z => bl_tr _ _ _, fun x y z h1 h2 => by
 unfold ltA at *;cases e : Op.bytesLess x.1.toList z.1.toList with
 | false => rfl
 | true =>
  cases e2 : Op.bytesLess z.1.toList y.1.toList with
  | true => rw [bl_tr _ _ _ e e2] at h1; cases h1
  | false =>
   have := bl_tri _ _ h2 e2;rw [this, e] at h1; cases h1⟩
def flatA (b : List Act) : List At := b.flatMap fun a => a.2.2.2.1
def IsSorted (b : List Act) (r : List At) : Prop := SF ltA (flatA b) r /\ r.length = (flatA b).length /\ Srt ltA r
theorem flatA_take (b : List Act) (i : Nat) (x : Act) (h : b[i]? = some x) : flatA (b.take (i + 1)) = flatA (b.take i) ++ x.2.2.2.1 := by
 unfold flatA;rw [List.take_add_one, h];simp
theorem flatA_le (b : List Act) (i : Nat) : (flatA (b.take i)).length <= (flatA b).length := by
 have : flatA b = flatA (b.take i) ++ flatA (b.drop i) := by
  unfold flatA;rw [<- List.flatMap_append, List.take_append_drop]
 rw [this, List.length_append]; omega
theorem sorted_ok (fu : Nat) [hf : Big fu] (b : List Act) [hb : Fit b] : Sm (IsSorted b) (zq32 fu b) := by
 have hlim := lim_eq;have hM := M20_eq;have hfu := hf.h;have htot : (flatA b).length <= M20 := hb.tot;unfold zq32;refine Sm.for0 (fun k d => SF ltA (flatA (b.take k)) d /\ d.length = (flatA (b.take k)).length /\ Srt ltA d) ⟨SF.refl _, rfl, List.Pairwise.nil⟩ (fun i x d K hi hx hI hK => ?_) fun d hd => Sm.some (by rw [List.take_length] at hd; exact hd)
 have h1 := flatA_take b i x hx;have h2 := flatA_le b (i + 1);rw [h1, List.length_append] at h2;obtain ⟨i1, i2, i3⟩ := hI;refine Sm.for0 (fun k d => SF ltA (flatA (b.take i) ++ x.2.2.2.1.take k) d /\ d.length = (flatA (b.take i)).length + k /\ Srt ltA d) ⟨by simpa using i1, by simpa using i2, i3⟩ (fun j y d2 K2 hj hy hI2 hK2 => ?_) fun d2 hd2 => hK _ ?_
 ·obtain ⟨j1, j2, j3⟩ := hI2;refine Sm.whK (fun p : Int => 0 <= p /\ p <= (d2.length : Int) /\ ∀ z ∈ d2.drop p.toNat, ltA y z = true) (fun p => p.toNat) (fun p self hI3 hself => ?_) fu _ ⟨by omega, by omega, by simp⟩ (by omega);obtain ⟨p0, p1, p2⟩ := hI3;refine Sm.join (fun f => (f = true -> 0 < p /\ ∀ z, d2[(p - 1).toNat]? = some z -> ltA y z = true) /\ (f = false -> p = 0 \/ ∀ z, d2[(p - 1).toNat]? = some z -> ltA y z = false)) (fun f hf => ?_) fun K3 hK3 => ?_
  ·refine Sm.cond (fun e => ?_) fun e => ?_
   ·obtain ⟨f1, f2⟩ := hf.1 e;rw [wrap64 (by omega) (by omega)];refine hself _ ⟨by omega, by omega, fun z hz => ?_⟩ (by omega);have hlt : (p - 1).toNat < d2.length := by omega
    rw [List.drop_eq_getElem_cons hlt] at hz;rcases List.mem_cons.1 hz with rfl | hz
    ·exact f2 _ (List.getElem?_eq_getElem hlt)
    ·exact p2 z (by rw [show p.toNat = (p - 1).toNat + 1 by omega]; exact hz)
   ·rw [chk_eq' (by refine ⟨by omega, by omega, by omega, by omega⟩)];simp only [Option.bind_some];refine Sm.chk (by simp) (hK2 _ ⟨?_, ?_, ?_⟩)
    ·rw [List.take_add_one, hy, <- List.append_assoc];refine SF.trans (SF.app j1 (SF.refl (lt := ltA) [y])) ?_;have h3 := SF.app (SF.refl (lt := ltA) (d2.take p.toNat)) (SF.swap swoA (U := d2.drop p.toNat) (V := [y]) (fun u hu v hv => by
      have : v = y := by simpa using hv
      subst this; exact p2 u hu))
     rw [<- List.append_assoc, List.take_append_drop, <- List.append_assoc] at h3;exact h3
    ·simp only [List.length_append, List.length_take, List.length_drop, List.length_cons, List.length_nil]; omega
    ·have hs : Srt ltA (d2.take p.toNat ++ d2.drop p.toNat) := by rw [List.take_append_drop]; exact j3
     obtain ⟨s1, s2, s3⟩ := srt_split hs;have hle : ∀ z ∈ d2.take p.toNat, ltA y z = false := by
      rcases hf.2 e with h | h
      ·rw [h]; simp
      ·intro z hz;obtain ⟨k, hk, rfl⟩ := List.getElem_of_mem hz;have hk' := hk;rw [List.length_take] at hk';have hlt : (p - 1).toNat < d2.length := by omega
       have g1 := h _ (List.getElem?_eq_getElem hlt);have g2 := srt_at swoA j3 (i := k) (j := (p - 1).toNat) (x := d2[k]'(by omega)) (by omega) (List.getElem?_eq_getElem _) (List.getElem?_eq_getElem hlt);rw [List.getElem_take];exact swoA.ntr _ _ _ g1 g2
     have h4 : Srt ltA ([y] ++ d2.drop p.toNat) := List.pairwise_cons.2 ⟨fun z hz => swoA.asy (p2 z hz), s2⟩;rw [List.append_assoc];refine srt_app s1 h4 fun u hu v hv => ?_
     rcases List.mem_append.1 hv with hv | hv
     ·have : v = y := by simpa using hv
      subst this; exact hle u hu
     ·exact s3 u hu v hv
  ·refine Sm.cond (fun e => ?_) fun e => hK3 _ ⟨by simp, fun _ => .inl ?_⟩
   ·have e := of_decide_eq_true e;rw [wrap64 (x := p - 1) (by omega) (by omega)];refine Sm.chk ⟨by omega, by omega⟩ (Sm.get (by omega) fun z hz => hK3 _ ?_);have key : (!(Op.bytesLess z.1.toList y.1.toList || z.1.toList == y.1.toList)) = ltA y z := by
     unfold ltA;cases e1 : Op.bytesLess z.1.toList y.1.toList with
     | true => rw [bl_asy e1]; rfl
     | false =>
      cases e2 : Op.bytesLess y.1.toList z.1.toList with
      | true =>
       have : z.1.toList ≠ y.1.toList := fun h => by rw [h, bl_irr] at e2; cases e2
       simp [this]
      | false => rw [bl_tri _ _ e1 e2]; simp
    rw [key, hz];exact ⟨fun h => ⟨by omega, fun w hw => by cases hw; exact h⟩, fun h => .inr fun w hw => by cases hw; exact h⟩
   ·have e := of_decide_eq_false e;omega
 ·obtain ⟨j1, j2, j3⟩ := hd2;rw [List.take_length] at j1;rw [h1, List.length_append];exact ⟨j1, j2, j3⟩
end Go.Proofs.YtgpioploehgpdaaGreat
set_option linter.unusedSimpArgs false
set_option linter.unusedVariables false
namespace Go.PG.PH
open Go.Proofs Go.Sort Go.RowKit
def groOk (P : Program) (e K : Nat) : Bool := match P.info? e with
 | some i => (match i.zero with | some z => Nat.beq z.cells.size K | none => false) && Nat.beq i.size K && Nat.blt 0 K && Nat.ble i.bytes 32768
 | none => false
theorem zero_cells (z : Array Value) (n : Nat) : (Builtin.zeroCells z n).size = n * z.size := by
 simp [Builtin.zeroCells]
theorem grow_pco {P : Program} {ρ : Go.Shelf.Ren} (L : Lays8.n4 P ρ) (hent : Entered P (ρ.f 4)) (K : Nat) (hg : groOk P (ρ.t 25) K = true) (n : Int) (hn : 0 <= n) (hlim : n <= LIM) :
  PCO P (ρ.f 4) [.nil, .int .i64 n] [] (.so 1000 0 K 0 0) [(1000, .arr 0 true K [])] [1000] := by
 have hl32 : LIM = 4294967296 := rfl
 refine ⟨hent, fun w st ms hh hN hms hrep => ?_⟩
 obtain ⟨m0, m1, rfl⟩ : ∃ a b, ms = #[a, b] := by
  obtain ⟨ms⟩ := ms
  match ms, hms with
  | [a, b], _ => exact ⟨a, b, rfl⟩
 have r1 := rep_int (hrep 1 _ m1 rfl rfl)
 subst r1
 have r0 : m0 = .slice none 0 0 := by
  have := hrep 0 _ m0 rfl rfl;cases this with
  | s h => cases h with | nil => rfl
  | stale ht => simp [V.tok] at ht
 subst r0
 have fin : ∀ (r : Value) (w' : World) (st' : Nat -> Own), Rep w' st' (.so 1000 0 K 0 0) r -> HeapOk w' st' [(1000, .arr 0 true K [])] -> Fr w st w' st' ->
   ∃ m st'' γ, Ending.returned r = .returned m /\ Rep w' st'' ((V.so 1000 0 K 0 0).sg [1000] γ) m /\ HeapOk w' st'' (Heap.sg [1000] γ [(1000, .arr 0 true K [])]) /\ Fr w st w' st'' := by
  intro r w' st' h1 h2 h3
  refine ⟨r, st', fun _ => 0, rfl, ?_, ?_, h3⟩
  ·simp only [V.sg, List.mem_singleton, if_true]; exact h1
  ·simpa [Heap.sg, Ob.sg] using h2
 have hnone : ∀ b g o, st b ≠ .id 1000 g o := hh.nil_of rfl
 have hk : ∀ b m g o, st b ≠ .id m g o := fun b m g o => hh.nil_of rfl b g o
 obtain ⟨k, rfl⟩ := Int.eq_ofNat_of_zero_le hn
 unfold groOk at hg
 split at hg
 ·rename_i i0 hi0;simp only [Bool.and_eq_true] at hg;obtain ⟨⟨⟨g1, g2⟩, g3⟩, g4⟩ := hg;split at g1;rename_i z hz
  rotate_left
  ·cases g1
  have hzl : z.cells.size = K := by simpa using g1
  have hs : i0.size = K := by simpa using g2
  have hK0 : 0 < K := by simpa [Nat.blt_eq] using g3
  have hb : i0.bytes <= 32768 := by simpa using g4
  by_cases h0 : k = 0
  ·subst h0;refine (Any8.slices_Grow_room L none 0 0 0 w (Nat.le_refl _) (by omega) (by omega) (by omega)).mono fun e w' h => ?_
   obtain ⟨he, hw⟩ := h;subst he hw;refine fin _ _ _ .so0 ⟨fun m x hx => ?_, fun b m g o hb => absurd hb (hk _ _ _ _), hh.inj, hh.shut, hh.hid⟩ (Fr.refl _ _);simp only [hget] at hx;split at hx
   ·rename_i e; subst e; cases hx;exact ⟨by simp, by simp, by simp, .inl ⟨rfl, hnone⟩⟩
   ·cases hx
  ·refine (Any8.slices_Grow_grow L i0 z hi0 hz (by omega) none 0 0 k [] w (Nat.le_refl _) (by omega) (by
    have : (0 + k) * i0.bytes <= 4294967296 * 32768 := Nat.mul_le_mul (by omega) hb;omega) (by omega) (by simp) (fun _ => rfl) (fun a ha => by cases ha)).mono fun e w' h => ?_
   obtain ⟨he, hw⟩ := h;subst he;have hh2 := hh.drew;obtain ⟨G, hG⟩ : ∃ G, G = grownCap w (0 + k) 0 (ρ.t 25) := ⟨_, rfl⟩;have hGk : 0 + k <= G := by rw [hG]; exact grownCap_ge w _ _ _
   rw [<- hG] at hw ⊢;obtain ⟨cs, hcs⟩ : ∃ cs, cs = (([] : List Value).toArray ++ Builtin.zeroCells z.cells (0 + k - 0) ++ Builtin.zeroCells z.cells (G - (0 + k))) := ⟨_, rfl⟩;rw [<- hcs] at hw;have hcz : cs.size = G * K := by
    rw [hcs];simp only [Array.size_append, zero_cells, hzl];simp only [List.size_toArray, List.length_nil, Nat.zero_add, Nat.sub_zero];rw [<- Nat.add_mul];congr 1; omega
   have hd : hget ([] : Heap) 1000 = none := rfl;have hal := heap_alloc_id hh2 hd (.arr 0 true K []) (.cells cs (ρ.t 25)) 0 ⟨by simp, by simp, by simp, .inr ⟨w.drew.heap.size, 0, cs, ρ.t 25, by simp [updO, Ob.gen], heap_alloc_new w.drew _, fun i j x c hx => by simp at hx⟩⟩;have hfr := (Fr.drew w st).trans (fr_alloc hh2 (.cells cs (ρ.t 25)) (.id 1000 0 0));rw [hw];refine fin _ _ _ ?_ hal hfr;refine Rep.so (o := 0) (b := w.drew.heap.size) (ty := ρ.t 25) (cells := cs) (by simp [updO, Ob.gen]) (heap_alloc_new w.drew _) (Nat.zero_le _) ?_ (fun _ => by simp);rw [hcz]; simp
 ·cases hg
def groF (α : Type) (n : Int) : Option (List α) := (chk (0 <= n /\ n <= (LIM : Int))).bind fun _ => some []
@[reducible] def groRh (t : Ty) : List (Nat × OSh) := [(1000, .ls t)]
theorem gro_ok {P : Program} {ρ : Go.Shelf.Ren} (L : Lays8.n4 P ρ) (hent : Entered P (ρ.f 4)) (t : Ty) (hg : groOk P (ρ.t 25) t.size = true) (n : Int) (r : List t.D) (hr : groF t.D n = some r)
  (γ H H' : Nat -> Nat) (hH' : ∀ m ∈ idsO (groRh t), H' m = olen (outO [.wn 1000 t.size] (groRh t) [1000] (dis (Sh.tysL [.wn 1000 t.size] ++ tysO (groRh t)) r)) m) :
  PCO P (ρ.f 4) (TV.vL H γ (inA [.nl, .dt (.int .i64)] (dis (Sh.tysL [.nl, .dt (.int .i64)] ++ tysO []) n)).1) (obs H γ (inO' [.nl, .dt (.int .i64)] [] (dis (Sh.tysL [.nl, .dt (.int .i64)] ++ tysO []) n)))
   (oneV (TV.vL H' γ (outA [.wn 1000 t.size] [1000] (dis (Sh.tysL [.wn 1000 t.size] ++ tysO (groRh t)) r)).1)) (obs H' γ (outO [.wn 1000 t.size] (groRh t) [1000] (dis (Sh.tysL [.wn 1000 t.size] ++ tysO (groRh t)) r))) [1000] := by
 simp only [groF] at hr
 obtain ⟨_, c1, h2⟩ := bind_some' hr
 obtain ⟨h0, h1⟩ := chk_some c1
 cases h2
 have c : ∀ (x : List t.D), castD (.list t) (.list t) x = some x := fun x => castD_self _ _
 have c' : ∀ (x : Int), castD (.int .i64) (.int .i64) x = some x := fun x => castD_self _ _
 have di : dis (Sh.tysL [.nl, .dt (.int .i64)] ++ tysO []) n = [⟨.int .i64, n⟩] := rfl
 have ro : dis (Sh.tysL [.wn 1000 t.size] ++ tysO (groRh t)) ([] : List t.D) = [⟨.list t, ([] : List t.D)⟩] := rfl
 have i1 : inA [.nl, .dt (.int .i64)] [⟨.int .i64, n⟩] = ([.nil, .leaf (.int .i64) n], []) := by
  simp only [inA, Sh.unL, Sh.un, takeD, c']
 have i2 : inO' [.nl, .dt (.int .i64)] [] [⟨.int .i64, n⟩] = [] := by
  simp only [inO', i1, unO]
 have o1 : outA [.wn 1000 t.size] [1000] [⟨.list t, ([] : List t.D)⟩] = ([.sof 1000 1 t.size], [⟨.list t, ([] : List t.D)⟩]) := rfl
 have o2 : outO [.wn 1000 t.size] (groRh t) [1000] [⟨.list t, ([] : List t.D)⟩] = [(1000, 0, .lst 1 t ([] : List t.D))] := by
  simp only [outO, o1, unO, OSh.un, takeD, c];rfl
 rw [ro, o2] at hH'
 rw [di, ro, i1, i2, o1, o2]
 have a3 : H' 1000 = 0 := hH' 1000 (by simp [idsO])
 have hm := grow_pco L hent t.size hg n h0 h1
 simp only [TV.vL, TV.v, obs, List.map_cons, List.map_nil, TOb.ob, oneV, a3]
 obtain ⟨he, hp⟩ := hm
 refine ⟨he, fun w st ms a b c d => (hp w st ms a b c d).mono fun en w' h => ?_⟩
 obtain ⟨m, st', γ', q1, q2, q3, q4⟩ := h
 refine ⟨m, st', γ', q1, ?_, ?_, q4⟩
 ·simpa only [V.sg, List.mem_singleton, if_true] using q2
 ·simpa [Heap.sg, Ob.sg] using q3
noncomputable def Ow.gro {P : Program} {ρ : Go.Shelf.Ren} (L : Lays8.n4 P ρ) (hent : Entered P (ρ.f 4)) (t : Ty) (hg : groOk P (ρ.t 25) t.size = true) : Ow P where
 f := ρ.f 4
 js := [.nl, .dt (.int .i64)]
 jh := []
 rs := [.wn 1000 t.size]
 rh := groRh t
 ne := [1000]
 wf := rfl
 F := fun n => groF t.D n
 ok := fun d r hr γ H H' h1 h2 => gro_ok L hent t hg d r hr γ H H' h2
end Go.PG.PH
set_option maxRecDepth 100000
set_option linter.unusedVariables false
namespace Go.Proofs.YtgpioploehgpdaaGreat
open Go.PG Go.PG.PH
noncomputable section
def Tryz.laysG172_ren : Go.Shelf.Ren := ⟨fun | 4 => 172 | n => n, fun | 22 => 63 | 25 => 164 | 3 => 3 | 4 => 4 | 9 => 9 | 20 => 20 | 0 => 0 | n => n, fun | n => n⟩
theorem Tryz.laysG172 : Go.Proofs.Lays8.n4 Tryz.prog Tryz.laysG172_ren where
 mixed := by kernel_rfl
 f4 := ⟨ "slices.Grow[moothall/api.Expr,moothall/api.Node]", by decide, Tryz.func172.trans (congrArg some (by kernel_rfl))⟩
 t0 := Tryz.underlying0
 a0 := Tryz.isAgg0
 z0 := Tryz.sizeOf0
 v0 := Tryz.zeroValue0
 t3 := Tryz.underlying3
 a3 := Tryz.isAgg3
 z3 := Tryz.sizeOf3
 v3 := Tryz.zeroValue3
 t4 := Tryz.underlying4
 a4 := Tryz.isAgg4
 z4 := Tryz.sizeOf4
 v4 := Tryz.zeroValue4
 t9 := Tryz.underlying9
 a9 := Tryz.isAgg9
 z9 := Tryz.sizeOf9
 v9 := Tryz.zeroValue9
 t20 := Tryz.underlying20
 a20 := Tryz.isAgg20
 z20 := Tryz.sizeOf20
 v20 := Tryz.zeroValue20
 t22 := Tryz.underlying63
 a22 := Tryz.isAgg63
 z22 := Tryz.sizeOf63
 v22 := Tryz.zeroValue63
def o_172w0 : Ow Tryz.prog := Ow.gro Tryz.laysG172 ⟨Tryz.f172, Tryz.func172, by kernel_rfl, by kernel_rfl⟩ Tz2 (by kernel_rfl)
end
end Go.Proofs.YtgpioploehgpdaaGreat
set_option linter.unusedSimpArgs false
set_option linter.unusedVariables false
namespace Go.PG.PH
mutual
def nomp : V -> Bool
 | .agg cs => nompL cs
 | .tup cs => nompL cs
 | .fn _ cs => nompL cs
 | .sl _ l => nompL l
 | .pr cs => nompL cs
 | .bool _ => true | .int _ _ => true | .str _ => true | .nil => true | .emp _ => true | .nilp => true | .nilfn => true | .nilm => true
 | .so .. => false | .ep .. => false | .mo .. => false | .mp .. => false | .blk _ => false | .hl .. => false | .hm .. => false | .dead => false
def nompL : List V -> Bool
 | [] => true
 | c :: cs => nomp c && nompL cs
end
theorem nompL_iff (cs : List V) : nompL cs = true ↔ ∀ c ∈ cs, nomp c = true := by
 induction cs with
 | nil => simp [nompL]
 | cons c cs ih => simp [nompL, ih]
theorem nomp_cells {x c : V} (h : nomp x = true) (hc : c ∈ x.cells) : nomp c = true := by
 cases x <;> first
  | (simp only [V.cells, List.mem_singleton] at hc; subst hc; exact h)
  | (simp only [nomp, nompL_iff] at h; exact h c hc)
theorem RepS.unmap {w : World} {S : Nat -> Prop} {b : Nat} {es : Array MapEntry} {clock : Nat} (hb : w.heap[b]? = some (.map es clock)) {c : V} {v : Value} (h : RepS w S c v) (hc : nomp c = true) : RepS w (fun x => S x /\ x ≠ b) c v := by
 induction h with
 | bool => exact .bool
 | int => exact .int
 | str h => exact .str h
 | agg hl h1 _ ih =>
  simp only [nomp, nompL_iff] at hc;exact .agg hl h1 fun j c v h2 h3 => ih j c v h2 h3 (hc c (List.mem_of_getElem? h2))
 | tup hl _ ih =>
  simp only [nomp, nompL_iff] at hc;exact .tup hl fun j c v h2 h3 => ih j c v h2 h3 (hc c (List.mem_of_getElem? h2))
 | nil => exact .nil
 | slnil => exact .slnil
 | sl hcap hlim hs hb' hsz h1 _ ih =>
  simp only [nomp, nompL_iff] at hc;exact .sl hcap hlim ⟨hs, by rintro rfl; rw [hb] at hb'; cases hb'⟩ hb' hsz h1 fun i j x c h2 h3 => ih i j x c h2 h3 (nomp_cells (hc x (List.mem_of_getElem? h2)) (List.mem_of_getElem? h3))
 | sle => exact .sle
 | emp => exact .emp
 | nilp => exact .nilp
 | pr hs hb' h1 _ ih =>
  simp only [nomp, nompL_iff] at hc;exact .pr ⟨hs, by rintro rfl; rw [hb] at hb'; cases hb'⟩ hb' h1 fun j c h2 => ih j c h2 (hc c (List.mem_of_getElem? h2))
 | fn hl _ ih =>
  simp only [nomp, nompL_iff] at hc;exact .fn hl fun j c v h2 h3 => ih j c v h2 h3 (hc c (List.mem_of_getElem? h2))
 | nilfn => exact .nilfn
 | nilm => exact .nilm
 | mpnil => simp [nomp] at hc
 | mp => simp [nomp] at hc
def nompT : Ty -> Bool
 | .map _ _ => false
 | .list t => nompT t
 | .box a => nompT a
 | .pair a b => nompT a && nompT b
 | _ => true
theorem nomp_tcells : ∀ (t : Ty) (x : t.D), nompT t = true -> nompL (t.cells x) = true
 | .int _, _, _ => rfl
 | .bool, _, _ => rfl
 | .str, _, _ => rfl
 | .unit, _, _ => rfl
 | .map _ _, _, h => by simp [nompT] at h
 | .box a, x, h => nomp_tcells a x h
 | .pair a b, x, h => by
  simp only [nompT, Bool.and_eq_true] at h;rw [nompL_iff];intro c hc;simp only [Ty.cells, List.mem_append] at hc;rcases hc with hc | hc
  ·exact (nompL_iff _).1 (nomp_tcells a x.1 h.1) c hc
  ·exact (nompL_iff _).1 (nomp_tcells b x.2 h.2) c hc
 | .list t, l, h => by
  have key : ∀ x : t.D, nomp (mkV t.isA (t.cells x)) = true := by
   intro x;have h1 := nomp_tcells t x h;cases e : t.isA with
   | true => simpa [mkV, nomp] using h1
   | false =>
    have hl := cells_len t x;rw [nompL_iff] at h1;cases hc : t.cells x with
    | nil =>
     rw [hc] at hl;cases t <;> simp_all [Ty.isA, Ty.size]
    | cons c cs => exact h1 c (by rw [hc]; simp)
  simp only [Ty.cells, nompL, nomp, Bool.and_true];rw [nompL_iff];intro c hc;obtain ⟨x, _, rfl⟩ := List.mem_map.1 hc;exact key x
theorem lend_pco {P : Program} {f : FuncId} {kt vt t : Ty} (ht : nompT t = true) (d : List (kt.D × vt.D)) (l : List t.D) (g G K : Nat)
  (h : PCO P f [.mp (d.map fun x => kt.enc x.1) (d.map fun x => vt.enc x.2)] [] (.so 903 G K 0 l.length) [(903, .arr G true K (l.map t.enc))] [903]) :
  PCO P f [.mo 2001 g] [(2001, .map g (d.map fun x => kt.enc x.1) (d.map fun x => vt.enc x.2))] (.so 903 G K 0 l.length)
   [(903, .arr G true K (l.map t.enc)), (2001, .map g (d.map fun x => kt.enc x.1) (d.map fun x => vt.enc x.2))] [903] := by
 obtain ⟨ks, hks⟩ : ∃ ks, ks = d.map fun x => kt.enc x.1 := ⟨_, rfl⟩
 obtain ⟨vs, hvs⟩ : ∃ vs, vs = d.map fun x => vt.enc x.2 := ⟨_, rfl⟩
 have kfree : ∀ k ∈ ks, k.idfree = true := by
  intro k hk; rw [hks] at hk;obtain ⟨x, _, rfl⟩ := List.mem_map.1 hk;exact enc_free _ _
 have vfree : ∀ k ∈ vs, k.idfree = true := by
  intro k hk; rw [hvs] at hk;obtain ⟨x, _, rfl⟩ := List.mem_map.1 hk;exact enc_free _ _
 rw [<- hks, <- hvs] at h ⊢
 obtain ⟨hent, h⟩ := h
 refine ⟨hent, fun w st ms hh hN hms hrep => ?_⟩
 obtain ⟨m0, rfl⟩ : ∃ a, ms = #[a] := by
  obtain ⟨ms⟩ := ms
  match ms, hms with
  | [a], _ => exact ⟨a, rfl⟩
 have r0 := hrep 0 _ m0 rfl rfl
 have g2001 : hget [(2001, Ob.map g ks vs)] 2001 = some (.map g ks vs) := rfl
 have honly : ∀ b n q o, st b = .id n q o -> n = 2001 /\ q = g := by
  intro b n q o hb;obtain ⟨_, x, hx, hg⟩ := hh.dom _ _ _ _ hb;simp only [hget] at hx;split at hx
  ·rename_i e; cases hx; exact ⟨e, hg.symm⟩
  ·cases hx
 obtain ⟨b, es, clock, hst, hbm, hkl, hvl, hlim, hkr, hvr⟩ := hh.ob _ _ g2001
 have hm0 : m0 = .map (some b) := by
  cases r0 with
  | s h => cases h
  | mo hs =>
   have := hh.inj _ _ _ _ _ _ _ hs hst;rw [this]
  | stale ht hs hg hv =>
   simp only [V.tok, Option.some.injEq, Prod.mk.injEq] at ht;obtain ⟨e1, e2⟩ := ht;subst e1 e2;have := (honly _ _ _ _ hs).2;omega
 subst hm0
 have hblt : b < w.heap.size := (hh.dom _ _ _ _ hst).1
 obtain ⟨st1, hst1⟩ : ∃ st1, st1 = updO st b .shut := ⟨_, rfl⟩
 have s1b : st1 b = .shut := by rw [hst1]; simp [updO]
 have s1o : ∀ x, x ≠ b -> st1 x = st x := fun x hx => by rw [hst1]; simp [updO, hx]
 have s1id : ∀ x n q o, st1 x ≠ .id n q o := by
  intro x n q o e;by_cases hx : x = b
  ·subst hx; rw [s1b] at e; cases e
  ·rw [s1o x hx] at e;obtain ⟨rfl, rfl⟩ := honly _ _ _ _ e;exact hx (hh.inj _ _ _ _ _ _ _ e hst)
 have hh1 : HeapOk w st1 [] := by
  refine ⟨fun n x hx => (nomatch hx), fun x n q o e => absurd e (s1id _ _ _ _), fun x y n q o q' o' e => absurd e (s1id _ _ _ _), fun x e => ?_, fun x s e => ?_⟩
  ·by_cases hx : x = b
   ·rw [hx]; exact hblt
   ·rw [s1o x hx] at e; exact hh.shut _ e
  ·by_cases hx : x = b
   ·rw [hx]; exact hblt
   ·rw [s1o x hx] at e; exact hh.hid _ _ e
 have shut1 : ∀ x, st x = .shut -> st1 x = .shut /\ w.heap[x]? = w.heap[x]? := fun x hx => ⟨by
  by_cases e : x = b
  ·rw [e]; exact s1b
  ·rw [s1o x e]; exact hx, rfl⟩
 have hN1 : ∀ x s, st1 x ≠ .hid s := fun x s e => by
  by_cases hx : x = b
  ·subst hx; rw [s1b] at e; cases e
  ·rw [s1o x hx] at e; exact hN _ _ e
 have hrep1 : ∀ (j : Nat) (c : V) (m : Value), [V.mp ks vs][j]? = some c -> (#[Value.map (some b)] : Array Value)[j]? = some m -> Rep w st1 c m := by
  intro j c m hc hm
  match j, hc, hm with
  | 0, hc, hm =>
   cases hc; cases hm;refine .s (.mp s1b hbm hkl hvl hlim (fun j e k h1 h2 => ?_) fun j e k h1 h2 => ?_)
   ·exact ((hkr j e k h1 h2).shut (kfree k (List.mem_of_getElem? h2))).frame shut1
   ·exact ((hvr j e k h1 h2).shut (vfree k (List.mem_of_getElem? h2))).frame shut1
  | j + 1, hc, hm => simp at hc
 refine (h w st1 #[.map (some b)] hh1 hN1 rfl hrep1).mono fun en w' hq => ?_
 obtain ⟨m, st2, γ, q1, q2, q3, q4⟩ := hq
 obtain ⟨n1, n2⟩ := q4.non b hblt (by rw [s1b]; intro _ _ _ e; cases e)
 rw [s1b] at n1
 have hb2 : w'.heap[b]? = some (.map es clock) := n2.trans hbm
 obtain ⟨st3, hst3⟩ : ∃ st3, st3 = updO st2 b (.id 2001 g 0) := ⟨_, rfl⟩
 have s3b : st3 b = .id 2001 g 0 := by rw [hst3]; simp [updO]
 have s3o : ∀ x, x ≠ b -> st3 x = st2 x := fun x hx => by rw [hst3]; simp [updO, hx]
 have hS : ∀ {c v}, RepS w' (fun x => st2 x = .shut) c v -> nomp c = true -> RepS w' (fun x => st3 x = .shut) c v := by
  intro c v hr hc;exact (RepS.unmap hb2 hr hc).frame fun x hx => ⟨by rw [s3o x hx.2]; exact hx.1, rfl⟩
 have hdom : ∀ x n q o, st2 x = .id n q o -> x ≠ b /\ n = 903 /\ q = (if (903 : Nat) ∈ [903] then γ 903 else G) := by
  intro x n q o e;refine ⟨fun h => ?_, ?_⟩
  ·rw [h, n1] at e;cases e
  ·obtain ⟨_, y, hy, hg⟩ := q3.dom _ _ _ _ e;simp only [Heap.sg, List.map_cons, List.map_nil, hget] at hy;split at hy
   ·rename_i e; cases hy; exact ⟨e, hg.symm⟩
   ·cases hy
 have entries : ∀ {c v}, RepS w (fun x => st x = .shut) c v -> RepS w' (fun x => st3 x = .shut) c v := fun hr => hr.frame fun x hx => by
  have hxb : x ≠ b := by rintro rfl; rw [hst] at hx; cases hx
  obtain ⟨e1, e2⟩ := q4.non x (hh.shut _ hx) (by rw [s1o x hxb, hx]; intro _ _ _ e; cases e);exact ⟨by rw [s3o x hxb, e1, s1o x hxb, hx], e2⟩
 refine ⟨m, st3, γ, q1, ?_, ?_, ?_⟩
 ·simp only [V.sg, List.mem_singleton, if_true] at q2 ⊢;generalize l.length = len at q2 ⊢;cases q2 with
  | s h => cases h
  | so0 => exact .so0
  | so hs hb hc hf ha => exact .so (by rw [s3o _ (hdom _ _ _ _ hs).1]; exact hs) hb hc hf ha
  | stale ht hs hg hv => exact .stale ht (by rw [s3o _ (hdom _ _ _ _ hs).1]; exact hs) hg hv
 ·have sgk : V.sgL [903] γ ks = ks := by
   rw [V.sgL_map]
   conv => rhs; rw [<- List.map_id ks]
   exact List.map_congr_left fun c hc => idfree_sg (kfree c hc)
  have sgv : V.sgL [903] γ vs = vs := by
   rw [V.sgL_map]
   conv => rhs; rw [<- List.map_id vs]
   exact List.map_congr_left fun c hc => idfree_sg (vfree c hc)
  have h21 : ¬ ((2001 : Nat) ∈ [903]) := by simp
  simp only [Heap.sg, List.map_cons, List.map_nil, Ob.sg, List.mem_singleton, if_true] at q3 ⊢;rw [sgk, sgv, if_neg (by simp)];refine ⟨fun n x hx => ?_, fun x n q o e => ?_, fun x y n q o q' o' e1 e2 => ?_, fun x e => ?_, fun x s e => ?_⟩
  ·simp only [hget] at hx;split at hx
   ·rename_i e; subst e; cases hx;obtain ⟨a1, a2, a3, a4⟩ := q3.ob 903 _ rfl;refine ⟨a1, a2, a3, ?_⟩;rcases a4 with ⟨a4, a5⟩ | ⟨b', o', cells, ty, a4, a5, a6⟩
    ·refine .inl ⟨a4, fun x q o e => ?_⟩;by_cases hx : x = b
     ·subst hx; rw [s3b] at e; cases e
     ·rw [s3o x hx] at e; exact a5 _ _ _ e
    ·refine .inr ⟨b', o', cells, ty, by rw [s3o _ (hdom _ _ _ _ a4).1]; exact a4, a5, fun i j x c h1 h2 => ?_⟩;obtain ⟨c1, c2, c3⟩ := a6 i j x c h1 h2;refine ⟨c1, c2, ?_⟩;simp only [List.getElem?_map, Option.map_eq_some_iff] at h1;obtain ⟨y, _, rfl⟩ := h1;rw [enc_cells] at h2;have hcm := List.mem_of_getElem? h2;have hno := (nompL_iff _).1 (nomp_tcells t y ht) c hcm;have hfree : c.idfree = true := by
      have := cells_cell t y c hcm;cases c <;> simp [cellV] at this <;> rfl
     exact .s (hS (c3.shut hfree) hno)
   ·split at hx
    ·rename_i e; subst e; cases hx;exact ⟨b, es, clock, s3b, hb2, hkl, hvl, hlim, fun j e k h1 h2 => .s (entries ((hkr j e k h1 h2).shut (kfree k (List.mem_of_getElem? h2)))), fun j e k h1 h2 => .s (entries ((hvr j e k h1 h2).shut (vfree k (List.mem_of_getElem? h2))))⟩
    ·cases hx
  ·by_cases hx : x = b
   ·subst hx;rw [s3b] at e;injection e with e1 e2 e3
    subst e1 e2;exact ⟨Nat.lt_of_lt_of_le hblt q4.size, .map g ks vs, by simp [hget], rfl⟩
   ·rw [s3o x hx] at e;obtain ⟨e1, y, e2, e3⟩ := q3.dom _ _ _ _ e;refine ⟨e1, y, ?_, e3⟩;simp only [hget] at e2 ⊢;split at e2
    ·rename_i e; rw [if_pos e]; exact e2
    ·cases e2
  ·by_cases hx : x = b
   ·by_cases hy : y = b
    ·rw [hx, hy]
    ·subst hx;rw [s3b] at e1;injection e1 with e1 _ _
     rw [s3o y hy] at e2;have := (hdom _ _ _ _ e2).2.1;omega
   ·rw [s3o x hx] at e1;by_cases hy : y = b
    ·subst hy;rw [s3b] at e2;injection e2 with e2 _ _
     have := (hdom _ _ _ _ e1).2.1;omega
    ·rw [s3o y hy] at e2;exact q3.inj _ _ _ _ _ _ _ e1 e2
  ·by_cases hx : x = b
   ·rw [hx]; exact Nat.lt_of_lt_of_le hblt q4.size
   ·rw [s3o x hx] at e; exact q3.shut _ e
  ·by_cases hx : x = b
   ·rw [hx]; exact Nat.lt_of_lt_of_le hblt q4.size
   ·rw [s3o x hx] at e; exact q3.hid _ _ e
 ·refine ⟨q4.env, q4.size, fun x hx hn => ?_, fun x n q o e => .inl ?_⟩
  ·have hxb : x ≠ b := by rintro rfl; exact hn _ _ _ hst
   obtain ⟨e1, e2⟩ := q4.non x hx (by rw [s1o x hxb]; exact hn);exact ⟨by rw [s3o x hxb, e1, s1o x hxb], e2⟩
  ·obtain ⟨rfl, rfl⟩ := honly _ _ _ _ e;have hxb := hh.inj _ _ _ _ _ _ _ e hst;subst hxb;rw [hst] at e;injection e with _ _ e3
   subst e3;refine ⟨s3b, fun cells ty hc => ?_⟩;rw [hbm] at hc; cases hc
@[reducible] def lmJs : List Sh := [.mp 2001]
@[reducible] def lmJh (kt vt : Ty) : List (Nat × OSh) := [(2001, .mp kt vt)]
@[reducible] def lmRh (kt vt t : Ty) : List (Nat × OSh) := [(903, .ls t), (2001, .mp kt vt)]
theorem lm_ok {P : Program} {f : FuncId} {kt vt t : Ty} (ht : nompT t = true) (F : List (kt.D × vt.D) -> Option (List t.D)) (ok : OwOk P f [.dt (.map kt vt)] [] [.wn 903 t.size] [(903, .ls t)] [903] F)
  (d : List (kt.D × vt.D)) (l : List t.D) (hr : F d = some l) (γ H H' : Nat -> Nat) (hH' : ∀ n ∈ idsO (lmRh kt vt t), H' n = olen (outO [.wn 903 t.size] (lmRh kt vt t) [903] (dis (Sh.tysL [.wn 903 t.size] ++ tysO (lmRh kt vt t)) (l, d))) n) :
  PCO P f (TV.vL H γ (inA lmJs (dis (Sh.tysL lmJs ++ tysO (lmJh kt vt)) d)).1) (obs H γ (inO' lmJs (lmJh kt vt) (dis (Sh.tysL lmJs ++ tysO (lmJh kt vt)) d)))
   (oneV (TV.vL H' γ (outA [.wn 903 t.size] [903] (dis (Sh.tysL [.wn 903 t.size] ++ tysO (lmRh kt vt t)) (l, d))).1)) (obs H' γ (outO [.wn 903 t.size] (lmRh kt vt t) [903] (dis (Sh.tysL [.wn 903 t.size] ++ tysO (lmRh kt vt t)) (l, d)))) [903] := by
 have c : ∀ (x : List t.D), castD (.list t) (.list t) x = some x := fun x => castD_self _ _
 have c' : ∀ (x : List (kt.D × vt.D)), castD (.map kt vt) (.map kt vt) x = some x := fun x => castD_self _ _
 have di : dis (Sh.tysL lmJs ++ tysO (lmJh kt vt)) d = [⟨.map kt vt, d⟩] := rfl
 have di0 : dis (Sh.tysL [.dt (.map kt vt)] ++ tysO []) d = [⟨.map kt vt, d⟩] := rfl
 have ro : dis (Sh.tysL [.wn 903 t.size] ++ tysO (lmRh kt vt t)) (l, d) = [⟨.list t, l⟩, ⟨.map kt vt, d⟩] := rfl
 have ro0 : dis (Sh.tysL [.wn 903 t.size] ++ tysO [(903, .ls t)]) l = [⟨.list t, l⟩] := rfl
 have i1 : inA lmJs [⟨.map kt vt, d⟩] = ([.mo 2001 0], [⟨.map kt vt, d⟩]) := by
  simp only [inA, Sh.unL, Sh.un, z0]
 have i2 : inO' lmJs (lmJh kt vt) [⟨.map kt vt, d⟩] = [(2001, 0, .mp 0 kt vt d)] := by
  simp only [inO', i1, unO, OSh.un, takeD, c', z0]
 have i10 : inA [.dt (.map kt vt)] [⟨.map kt vt, d⟩] = ([.leaf (.map kt vt) d], []) := by
  simp only [inA, Sh.unL, Sh.un, takeD, c']
 have i20 : inO' [.dt (.map kt vt)] [] [⟨.map kt vt, d⟩] = [] := by
  simp only [inO', i10, unO]
 have o10 : outA [.wn 903 t.size] [903] [⟨.list t, l⟩] = ([.sof 903 1 t.size], [⟨.list t, l⟩]) := rfl
 have o20 : outO [.wn 903 t.size] [(903, .ls t)] [903] [⟨.list t, l⟩] = [(903, 0, .lst 1 t l)] := by
  simp only [outO, o10, unO, OSh.un, takeD, c];rfl
 have o1 : outA [.wn 903 t.size] [903] [⟨.list t, l⟩, ⟨.map kt vt, d⟩] = ([.sof 903 1 t.size], [⟨.list t, l⟩, ⟨.map kt vt, d⟩]) := rfl
 have o2 : outO [.wn 903 t.size] (lmRh kt vt t) [903] [⟨.list t, l⟩, ⟨.map kt vt, d⟩] = [(903, 0, .lst 1 t l), (2001, 0, .mp 0 kt vt d)] := by
  simp only [outO, o1, unO, OSh.un, takeD, c, c'];rfl
 rw [ro, o2] at hH'
 have a3 : H' 903 = l.length := hH' 903 (by simp [idsO])
 have h := ok d l hr γ H H' (fun n hn => by simp [idsO] at hn) (fun n hn => by
  simp only [idsO, List.map_cons, List.map_nil, List.mem_singleton] at hn;subst hn;rw [ro0, o20];exact a3)
 rw [di0, ro0, i10, i20, o10, o20] at h
 rw [di, ro, i1, i2, o1, o2]
 simp only [TV.vL, TV.v, obs, List.map_cons, List.map_nil, TOb.ob, oneV, Nat.add_zero, a3] at h ⊢
 exact lend_pco ht d l (γ 2001) _ _ h
noncomputable def Ow.lm {P : Program} {f : FuncId} (kt vt t : Ty) (ht : nompT t = true) (F : List (kt.D × vt.D) -> Option (List t.D)) (ok : OwOk P f [.dt (.map kt vt)] [] [.wn 903 t.size] [(903, .ls t)] [903] F) : Ow P where
 f := f
 js := lmJs
 jh := lmJh kt vt
 rs := [.wn 903 t.size]
 rh := lmRh kt vt t
 ne := [903]
 wf := rfl
 F := fun d => (F d).bind fun l => some (l, d)
 ok := fun d r hr γ H H' h1 h2 => by
  obtain ⟨l, e, h3⟩ := bind_some' hr;cases h3;exact lm_ok ht F ok d l e γ H H' h2
end Go.PG.PH
set_option maxRecDepth 100000
set_option linter.unusedVariables false
namespace Go.Proofs.YtgpioploehgpdaaGreat
open Go.PG Go.PG.PH
noncomputable section
def h_24 : HT := (.s .n (.s (.s .n (.l ⟨[1, 4, 10, 11, 12], [4], [], []⟩ (.s .n (.s .n (.l ⟨[1, 4, 10, 11, 12, 17, 18, 19], [4], [], []⟩ .n))))) .n))
def zq27 (p0 : List Yz1) (p1 : ByteArray) : Option ((ByteArray × Int × Bool × Int × Int × Int × Int) × Bool) := forK (fun k x d next => forK (fun k x d next => bif x.1.toList == p1.toList then some ((x.1, x.2.1, x.2.2.1, x.2.2.2.1, x.2.2.2.2.1, x.2.2.2.2.2.1, x.2.2.2.2.2.2), true) else next ()) 0 x.2.2.2.1 () fun d => next ()) 0 p0 () fun d => some ((ByteArray.mk (Array.mk []), (0 : Int), false, (0 : Int), (0 : Int), (0 : Int), (0 : Int)), false)
def c_24 : Ct Tryz.prog := .mk' mixA ⟨[], []⟩ 0 24 Tryz.f24 [.d Tz1, .d .str] (.many [Tz7, .bool]) h_24 Tryz.func24 (by kernel_rfl) (fun d => zq27 d.1 d.2) (by kernel_rfl)
def h_87 : HT := .n
def look_check (fu : Nat) (p0 : List Yz1) (p1 : ByteArray) : Option (Int) := (body_Check fu p0).bind fun r => bif r != 0 then some r else (body_Attr p0 p1).bind fun r => bif !r.2 then some (15 : Int) else some (0 : Int)
def c_87 (fu : Nat) : Ct Tryz.prog := .mk' mixA ⟨[c_23 fu, c_104], []⟩ fu 87 Tryz.f87 [.d Tz1, .d .str] (.one Tz3) h_87 Tryz.func87 (by kernel_rfl) (fun d => look_check fu d.1 d.2) (by kernel_rfl)
def h_93 : HT := (.s .n (.s .n (.s (.s .n (.l ⟨[1, 14, 15, 16], [], [(5, .wn 45 1)], [(45, .ls .str)]⟩ (.s .n (.s .n (.l ⟨[1, 14, 15, 16, 21, 22, 23], [], [(5, .wn 45 1)], [(45, .ls .str)]⟩ .n))))) .n)))
def look_at (fu : Nat) (p0 : List Yz1) (p1 : ByteArray) : Option Yz6 := forK (fun k x d next => forK (fun k x d next => bif !x.2.1.toList == p1.toList then next d else (tree_Names fu x.2.2.1).bind fun r => (tree_Names fu x.2.2.2.1).bind fun r_1 => (chk (d.length + r.1.length <= LIM)).bind fun x => (chk ((d ++ r.1).length + r_1.1.length <= LIM)).bind fun x => next (d ++ r.1 ++ r_1.1)) 0 x.2.2.2.2.2 d fun d => next d) 0 p0 [] fun d => ((chk (d.length <= LIM)).bind fun x => some (List.map (fun b => ByteArray.mk b.toArray) ((List.map ByteArray.toList d).mergeSort fun x y => decide (x <= y)))).bind fun r => (chk (r.length = d.length)).bind fun x => (zq49 fu r).bind fun r => some r
def c_93 (fu : Nat) : Ct Tryz.prog := .mk' mixA ⟨[c_160 fu], [o_89, o_161 fu]⟩ fu 93 Tryz.f93 [.d Tz1, .d .str] (.one Tz8) h_93 Tryz.func93 (by kernel_rfl) (fun d => look_at fu d.1 d.2) (by kernel_rfl)
def h_22 : HT := .n
def look_Direct (fu : Nat) (p0 : List Yz1) (p1 : ByteArray) : Option (List ByteArray × Int) := (look_check fu p0 p1).bind fun r => bif r != 0 then some ([], r) else (look_at fu p0 p1).bind fun r => some (r, (0 : Int))
def c_22 (fu : Nat) : Ct Tryz.prog := .mk' mixA ⟨[c_87 fu, c_93 fu], []⟩ fu 22 Tryz.f22 [.d Tz1, .d .str] (.many [Tz8, Tz3]) h_22 Tryz.func22 (by kernel_rfl) (fun d => look_Direct fu d.1 d.2) (by kernel_rfl)
def h_161w0 : HT := (.s .n (.s .n (.s (.s .n (.w ⟨[0], [1000], [(3, .dt Tz3)], []⟩ (.s .n (.s (.s .n (.c (.s .n (.s (.s .n (.w ⟨[0, 4], [], [(3, .dt Tz3), (5, .dt Tz3)], [(1000, .ls .str)]⟩ (.s .n (.j ⟨[0, 4, 5], [], [(3, .dt Tz3)], [(1000, .ls .str)]⟩ .n .n)))) .n)) .n)) .n)))) .n)))
def zq50 (fu : Nat) (p0 : List ByteArray) : Option Yz6 := zq49 fu p0
def o_161w0 (fu : Nat) : Ow Tryz.prog := .mk' mixA ⟨[], []⟩ fu 161 Tryz.f161 [.wn 1000 1] [(1000, .ls .str)] [.wn 1000 1] [(1000, .ls .str)] [1000] h_161w0 Tryz.func161 (by kernel_rfl) (by kernel_rfl) (fun d => zq50 fu d) (by kernel_rfl)
def h_93w0 : HT := (.s .n (.s .n (.s (.s .n (.l ⟨[1, 14, 15, 16], [], [(5, .wn 45 1)], [(45, .ls .str)]⟩ (.s .n (.s .n (.l ⟨[1, 14, 15, 16, 21, 22, 23], [], [(5, .wn 45 1)], [(45, .ls .str)]⟩ .n))))) .n)))
def look_at_w0 (fu : Nat) (p0 : List Yz1) (p1 : ByteArray) : Option Yz6 := look_at fu p0 p1
def o_93w0 (fu : Nat) : Ow Tryz.prog := .mk' mixA ⟨[c_160 fu], [o_89, o_161w0 fu]⟩ fu 93 Tryz.f93 [.dt Tz1, .dt .str] [] [.wn 45 1] [(45, .ls .str)] [45] h_93w0 Tryz.func93 (by kernel_rfl) (by kernel_rfl) (fun d => look_at_w0 fu d.1 d.2) (by kernel_rfl)
def h_88 : HT := (.s .n (.s .n (.s (.s .n (.w ⟨[0, 5], [], [(6, .ws 12 1)], Sz6⟩ (.s .n (.j ⟨[0, 5], [], [(6, .ws 12 1)], Sz6⟩ .n .n)))) (.s .n (.s (.m ⟨[36], [], [(7, .wn 44 1)], [(44, .ls .str)]⟩ [.sl 9 (.map .str .bool)] .n) .n)))))
def look_deep (fu : Nat) (p0 : List Yz1) (p1 : ByteArray) : Option Yz6 := (look_at_w0 fu p0 p1).bind fun r => whK (fun self d => bif decide ((↑d.2.1.toNat : Int) > 0) then join (fun d => (chk ((0 : Int) <= 1 /\ (1 : Int) <= (↑d.2.1.toNat : Int))).bind fun x => self ((↑(d.1.toNat + Int.toNat (1 : Int)) : Int), (↑(d.2.1.toNat - Int.toNat (1 : Int)) : Int), d.2.2.1, d.2.2.2)) fun K => (chk ((0 : Int) <= 0 /\ (0 : Int) < (↑d.2.1.toNat : Int))).bind fun x => d.2.2.2[d.1.toNat + Int.toNat (0 : Int)]?.bind fun x => bif !(mget Ty.str.beq x d.2.2.1).getD false then (chk ((0 : Int) <= 0 /\ (0 : Int) < (↑d.2.1.toNat : Int))).bind fun x => d.2.2.2[d.1.toNat + Int.toNat (0 : Int)]?.bind fun x => (chk (d.2.2.1.length + 1 <= LIM)).bind fun x_1 => (chk ((0 : Int) <= 0 /\ (0 : Int) < (↑d.2.1.toNat : Int))).bind fun x_2 => d.2.2.2[d.1.toNat + Int.toNat (0 : Int)]?.bind fun x_3 => (look_at_w0 fu p0 x_3).bind fun r => (chk (d.1.toNat + d.2.1.toNat <= d.2.2.2.length /\ d.2.1.toNat + r.length <= LIM)).bind fun x_4 => K ((0 : Int), (↑(List.take d.2.1.toNat (List.drop d.1.toNat d.2.2.2) ++ r).length : Int), mset Ty.str.beq x true d.2.2.1, List.take d.2.1.toNat (List.drop d.1.toNat d.2.2.2) ++ r) else K ((↑d.1.toNat : Int), (↑d.2.1.toNat : Int), d.2.2.1, d.2.2.2) else allR (A := Nat) fun rb => anyK (fun x d next => (chk (d.length + 1 <= LIM)).bind fun x_1 => next (d ++ [x.1])) d.2.2.1 [] fun d => ((chk (d.length <= LIM)).bind fun x => some (List.map (fun b => ByteArray.mk b.toArray) ((List.map ByteArray.toList d).mergeSort fun x y => decide (x <= y)))).bind fun r => (chk (r.length = d.length)).bind fun x => some r) fu ((0 : Int), (↑r.length : Int), [], r)
def c_88 (fu : Nat) : Ct Tryz.prog := .mk' mixA ⟨[], [o_93w0 fu, o_89]⟩ fu 88 Tryz.f88 [.d Tz1, .d .str] (.one Tz8) h_88 Tryz.func88 (by kernel_rfl) (fun d => look_deep fu d.1 d.2) (by kernel_rfl)
def h_16 : HT := .n
def look_Deep (fu : Nat) (p0 : List Yz1) (p1 : ByteArray) : Option (List ByteArray × Int) := (look_check fu p0 p1).bind fun r => bif r != 0 then some ([], r) else (look_deep fu p0 p1).bind fun r => some (r, (0 : Int))
def c_16 (fu : Nat) : Ct Tryz.prog := .mk' mixA ⟨[c_87 fu, c_88 fu], []⟩ fu 16 Tryz.f16 [.d Tz1, .d .str] (.many [Tz8, Tz3]) h_16 Tryz.func16 (by kernel_rfl) (fun d => look_Deep fu d.1 d.2) (by kernel_rfl)
def h_88w0 : HT := (.s .n (.s .n (.s (.s .n (.w ⟨[0, 5], [], [(6, .ws 12 1)], Sz6⟩ (.s .n (.j ⟨[0, 5], [], [(6, .ws 12 1)], Sz6⟩ .n .n)))) (.s .n (.s (.m ⟨[36], [], [(7, .wn 44 1)], [(44, .ls .str)]⟩ [.sl 9 (.map .str .bool)] .n) .n)))))
def look_deep_w0 (fu : Nat) (p0 : List Yz1) (p1 : ByteArray) : Option Yz6 := look_deep fu p0 p1
def o_88w0 (fu : Nat) : Ow Tryz.prog := .mk' mixA ⟨[], [o_93w0 fu, o_89]⟩ fu 88 Tryz.f88 [.dt Tz1, .dt .str] [] [.wn 44 1] [(44, .ls .str)] [44] h_88w0 Tryz.func88 (by kernel_rfl) (by kernel_rfl) (fun d => look_deep_w0 fu d.1 d.2) (by kernel_rfl)
def h_25 : HT := (.s .n (.s .n (.s .n (.s (.s .n (.l ⟨[0, 23, 24, 25], [20], [(7, .wn 40 1)], [(40, .ls .str)]⟩ .n)) .n))))
def look_Inputs (fu : Nat) (p0 : List Yz1) (p1 : ByteArray) : Option (List ByteArray × Int) := (look_check fu p0 p1).bind fun r => bif r != 0 then some ([], r) else (look_deep_w0 fu p0 p1).bind fun r => (chk (r.length + 1 <= LIM)).bind fun x => (chk ((↑(r ++ [p1]).length : Int) <= (↑LIM : Int))).bind fun x => cntK (fun k d next => (chk ((0 : Int) <= (↑k : Int) /\ (↑k : Int) < (↑(r ++ [p1]).length : Int))).bind fun x => (r ++ [p1])[(↑k : Int).toNat]?.bind fun x => (body_Attr p0 x).bind fun r => bif r.1.2.2.1 then (chk (d.length + 1 <= LIM)).bind fun x_1 => next (d ++ [x]) else next d) 0 (↑(r ++ [p1]).length : Int).toNat [] fun d => some (d, (0 : Int))
def c_25 (fu : Nat) : Ct Tryz.prog := .mk' mixA ⟨[c_87 fu, c_104], [o_88w0 fu]⟩ fu 25 Tryz.f25 [.d Tz1, .d .str] (.many [Tz8, Tz3]) h_25 Tryz.func25 (by kernel_rfl) (fun d => look_Inputs fu d.1 d.2) (by kernel_rfl)
def h_91 : HT := (.s .n (.s (.s .n (.l ⟨[0, 1, 6, 7, 8], [], [], []⟩ .n)) .n))
def zq60 (p0 : List ByteArray) (p1 : ByteArray) : Option (Int) := forK (fun k x d next => (idx p0 (↑k : Int)).bind fun y => bif p1.toList == y.toList then some (↑k : Int) else next ()) 0 p0 () fun d => some (-1 : Int)
def c_91 : Ct Tryz.prog := .mk' mixA ⟨[], []⟩ 0 91 Tryz.f91 [.d Tz8, .d .str] (.one Tz3) h_91 Tryz.func91 (by kernel_rfl) (fun d => zq60 d.1 d.2) (by kernel_rfl)
def h_19 : HT := .n
def zq55 (p0 : List ByteArray) (p1 : ByteArray) : Option (Bool) := (zq60 p0 p1).bind fun r => some (decide (r >= 0))
def c_19 : Ct Tryz.prog := .mk' mixA ⟨[c_91], []⟩ 0 19 Tryz.f19 [.d Tz8, .d .str] (.one .bool) h_19 Tryz.func19 (by kernel_rfl) (fun d => zq55 d.1 d.2) (by kernel_rfl)
def h_17 : HT := (.s .n (.s .n (.s .n (.s (.s .n (.l ⟨[0, 1, 18, 19, 20], [], [(7, .wn 41 1)], [(41, .ls .str)]⟩ (.s .n (.s .n (.l ⟨[0, 1, 18, 19, 20, 25, 26, 27], [], [(7, .wn 41 1)], [(41, .ls .str)]⟩ .n))))) .n))))
def look_Users (fu : Nat) (p0 : List Yz1) (p1 : ByteArray) : Option (List ByteArray × Int) := (look_check fu p0 p1).bind fun r => bif r != 0 then some ([], r) else forK (fun k x d next => forK (fun k x d next => (look_deep fu p0 x.1).bind fun r => (zq55 r p1).bind fun r => bif r then (chk (d.length + 1 <= LIM)).bind fun x_1 => next (d ++ [x.1]) else next d) 0 x.2.2.2.1 d fun d => next d) 0 p0 [] fun d => ((chk (d.length <= LIM)).bind fun x => some (List.map (fun b => ByteArray.mk b.toArray) ((List.map ByteArray.toList d).mergeSort fun x y => decide (x <= y)))).bind fun r => (chk (r.length = d.length)).bind fun x => some (r, (0 : Int))
def c_17 (fu : Nat) : Ct Tryz.prog := .mk' mixA ⟨[c_87 fu, c_88 fu, c_19], [o_89]⟩ fu 17 Tryz.f17 [.d Tz1, .d .str] (.many [Tz8, Tz3]) h_17 Tryz.func17 (by kernel_rfl) (fun d => look_Users fu d.1 d.2) (by kernel_rfl)
def h_105 : HT := .n
def zq26 : Option (List Yz1) := some [(ByteArray.mk #[(97 : UInt8), (99 : UInt8), (116 : UInt8), (45 : UInt8), (97 : UInt8)], (0 : Int), (0 : Int), [(ByteArray.mk #[(105 : UInt8), (110 : UInt8), (45 : UInt8), (97 : UInt8)], (1 : Int), true, (0 : Int), (1 : Int), (0 : Int), (0 : Int)), (ByteArray.mk #[(111 : UInt8), (117 : UInt8), (116 : UInt8), (45 : UInt8), (97 : UInt8)], (2 : Int), false, (0 : Int), (0 : Int), (0 : Int), (0 : Int))], [], [(ByteArray.mk #[(114 : UInt8), (45 : UInt8), (97 : UInt8)], ByteArray.mk #[(111 : UInt8), (117 : UInt8), (116 : UInt8), (45 : UInt8), (97 : UInt8)], [((1 : Int), [], (0 : Int), (0 : Int), ByteArray.mk #[(105 : UInt8), (110 : UInt8), (45 : UInt8), (97 : UInt8)])], [((0 : Int), [], (2 : Int), (100 : Int), ByteArray.mk #[])], [], (0 : Int))])]
def c_105 : Ct Tryz.prog := .mk' mixA ⟨[], []⟩ 0 105 Tryz.f105 [] (.one Tz1) h_105 Tryz.func105 (by kernel_rfl) (fun d => zq26) (by kernel_rfl)
def h_29 : HT := (.s .n (.s .n (.s (.s .n (.l ⟨[0, 1, 11, 12, 13], [], [], []⟩ .n)) .n)))
def zq56 (p0 : List ByteArray) (p1 : List ByteArray) : Option (Bool) := bif (↑p0.length : Int) != (↑p1.length : Int) then some false else forK (fun k x d next => (idx p0 (↑k : Int)).bind fun y => (idx p1 (↑k : Int)).bind fun y_1 => bif !y.toList == y_1.toList then some false else next ()) 0 p0 () fun d => some true
def c_29 : Ct Tryz.prog := .mk' mixA ⟨[], []⟩ 0 29 Tryz.f29 [.d Tz8, .d Tz8] (.one .bool) h_29 Tryz.func29 (by kernel_rfl) (fun d => zq56 d.1 d.2) (by kernel_rfl)
def h_26 : HT := .n
def zq25 (fu : Nat) : Option (Bool) := zq26.bind fun r => (look_Direct fu r (ByteArray.mk #[(111 : UInt8), (117 : UInt8), (116 : UInt8), (45 : UInt8), (97 : UInt8)])).bind fun r => bif r.2 == 0 then (zq56 r.1 [ByteArray.mk #[(105 : UInt8), (110 : UInt8), (45 : UInt8), (97 : UInt8)]]).bind fun r => some r else some false
def c_26 (fu : Nat) : Ct Tryz.prog := .mk' mixA ⟨[c_105, c_22 fu, c_29], []⟩ fu 26 Tryz.f26 [] (.one .bool) h_26 Tryz.func26 (by kernel_rfl) (fun d => zq25 fu) (by kernel_rfl)
def h_107w0 : HT := (.s .n (.s .n (.s (.m ⟨[7], [], [(3, .wn 903 1)], [(903, .ls .str)]⟩ [] (.s .n (.s (.w ⟨[3, 4, 7], [903], [(5, .dt Tz3)], []⟩ (.s (.j ⟨[3, 4, 5, 7], [903], [(23, .dt .bool)], []⟩ .n .n) .n)) .n))) .n)))
def zq34 (fu : Nat) (p0 : List (ByteArray × Bool)) : Option Yz6 := allR (A := Nat) fun rb => anyK (fun x d next => whK (fun self d_1 => join (fun d_2 => bif d_2 then self (IntKind.i64.wrap (d_1 + 1)) else ((chk ((0 : Int) <= d_1 /\ d_1 <= (↑d.length : Int) /\ (1 : Nat) ≠ (0 : Nat) /\ d.length + 1 <= LIM)).bind fun x_1 => some (List.take d_1.toNat d ++ [x.1] ++ List.drop d_1.toNat d, [x.1])).bind fun r => (chk (r.2.length = 1)).bind fun x => next r.1) fun K => bif decide (d_1 < (↑d.length : Int)) then (chk ((0 : Int) <= d_1 /\ d_1 < (↑d.length : Int))).bind fun x_1 => d[d_1.toNat]?.bind fun x_2 => K (Op.bytesLess x_2.toList x.1.toList) else K false) fu (0 : Int)) p0 [] fun d => some d
def o_107w0 (fu : Nat) : Ow Tryz.prog := .mk' mixA ⟨[], [o_171w0]⟩ fu 107 Tryz.f107 [.dt (.map .str .bool)] [] [.wn 903 1] [(903, .ls .str)] [903] h_107w0 Tryz.func107 (by kernel_rfl) (by kernel_rfl) (fun d => zq34 fu d) (by kernel_rfl)
def o_107l0w0 (fu : Nat) : Ow Tryz.prog := Ow.lm (f := 107) .str .bool .str rfl (fun d => zq34 fu d) (fun d r hr γ H H' h1 h2 => (o_107w0 fu).ok d r hr γ H H' h1 h2)
def h_53 : HT := (.s .n (.s .n (.s (.s .n (.l ⟨[0, 7, 8, 9], [], [(3, .wn 54 11)], [(54, .ls Tz11)]⟩ (.s .n (.s .n (.l ⟨[0, 4, 7, 8, 9, 16, 17, 18], [], [(3, .wn 54 11)], [(54, .ls Tz11)]⟩ .n))))) .n)))
def zq31 (p0 : List Yz1) : Option (List (Yz5 × (Int × Int × Int) × ByteArray × ByteArray × List Yz3 × List Yz3 × List Yz5 × Int)) := forK (fun k x d next => (idx p0 (↑k : Int)).bind fun y => forK (fun k_1 x d next => (idx p0 (↑k : Int)).bind fun y => (idx y.2.2.2.2.2 (↑k_1 : Int)).bind fun y => (idx p0 (↑k : Int)).bind fun y_1 => (idx p0 (↑k : Int)).bind fun y_2 => (idx p0 (↑k : Int)).bind fun y_3 => (chk (d.length + 1 <= LIM)).bind fun x => next (d ++ [((y_1.1, y.1), (y_2.2.1, y.2.2.2.2.2, y_3.2.2.1), y.1, y.2.1, y.2.2.1, y.2.2.2.1, y.2.2.2.2.1, y.2.2.2.2.2)])) 0 y.2.2.2.2.2 d fun d => next d) 0 p0 [] fun d => some d
def c_53 : Ct Tryz.prog := .mk' mixA ⟨[], []⟩ 0 53 Tryz.f53 [.d Tz1] (.one (.list Tz11)) h_53 Tryz.func53 (by kernel_rfl) (fun d => zq31 d) (by kernel_rfl)
def h_108 : HT := (.s .n (.s .n (.s (.s .n (.l ⟨[0, 9, 10, 11], [], [(3, .dt Tz3)], []⟩ .n)) (.s .n (.s (.s .n (.l ⟨[25, 26, 27], [], [(6, .wn 24 5)], [(24, .ls Tz2)]⟩ .n)) .n)))))
def zq51 (p0 : List (List Yz3)) : Option (List Yz3) := forK (fun k x d next => bif decide (IntKind.i64.wrap (d + (↑x.length : Int)) < 0) then none else next (IntKind.i64.wrap (d + (↑x.length : Int)))) 0 p0 (0 : Int) fun d => ((chk ((0 : Int) <= d /\ d <= (↑LIM : Int))).bind fun x => some []).bind fun r => forK (fun k x d next => (chk (d.length + x.length <= LIM)).bind fun x_1 => next (d ++ x)) 0 p0 r fun d => some d
def c_108 : Ct Tryz.prog := .mk' mixA ⟨[], [o_172w0]⟩ 0 108 Tryz.f108 [.d (.list (.list Tz2))] (.one (.list Tz2)) h_108 Tryz.func108 (by kernel_rfl) (fun d => zq51 d) (by kernel_rfl)
def h_107 : HT := (.s .n (.s .n (.s (.m ⟨[7], [], [(3, .wn 903 1)], [(903, .ls .str)]⟩ [] (.s .n (.s (.w ⟨[3, 4, 7], [903], [(5, .dt Tz3)], []⟩ (.s (.j ⟨[3, 4, 5, 7], [903], [(23, .dt .bool)], []⟩ .n .n) .n)) .n))) .n)))
def zq33 (fu : Nat) (p0 : List (ByteArray × Bool)) : Option Yz6 := zq34 fu p0
def c_107 (fu : Nat) : Ct Tryz.prog := .mk' mixA ⟨[], [o_171w0]⟩ fu 107 Tryz.f107 [.d (.map .str .bool)] (.one Tz8) h_107 Tryz.func107 (by kernel_rfl) (fun d => zq33 fu d) (by kernel_rfl)
def h_30 : HT := (.s .n (.s .n (.s (.s .n (.l ⟨[1, 5, 12, 13, 14], [], [], [(10, .mp .str .bool)]⟩ (.s .n (.s .n (.l ⟨[1, 5, 7, 12, 13, 14, 25, 26, 27], [7], [], [(10, .mp .str .bool)]⟩ (.s .n (.j ⟨[1, 5, 7, 9, 12, 13, 14, 25, 26, 27], [7, 9, 10], [(50, .dt .bool)], []⟩ .n .n))))))) .n)))
def zq29 (fu : Nat) (p0 : List Yz1) (p1 : ByteArray) : Option Yz6 := (zq31 p0).bind fun r => forK (fun k x d next => (zq51 [x.2.2.2.2.1, x.2.2.2.2.2.1]).bind fun r => forK (fun k x_1 d next => join (fun d_1 => bif d_1 then (chk (d.length + 1 <= LIM)).bind fun x => next (mset Ty.str.beq x_1.2.2.2.2 true d) else next d) fun K => bif x.2.2.2.1.toList == p1.toList then bif x_1.1 == 1 then K true else bif x_1.1 == 2 then K true else K (x_1.1 == 3) else K false) 0 r d fun d => next d) 0 r [] fun d => (zq33 fu d).bind fun r => some r
def c_30 (fu : Nat) : Ct Tryz.prog := .mk' mixA ⟨[c_53, c_108, c_107 fu], []⟩ fu 30 Tryz.f30 [.d Tz1, .d .str] (.one Tz8) h_30 Tryz.func30 (by kernel_rfl) (fun d => zq29 fu d.1 d.2) (by kernel_rfl)
def h_28 : HT := (.s .n (.s .n (.s (.s .n (.w ⟨[0, 1, 5], [], [(6, .dt Tz3)], [(11, .mp .str .bool)]⟩ (.s .n (.s .n (.s .n (.l ⟨[0, 1, 5, 6, 22, 23, 24], [19], [], [(11, .mp .str .bool)]⟩ (.s .n (.s .n (.l ⟨[0, 1, 5, 6, 22, 23, 24, 30, 31, 32], [19], [], [(11, .mp .str .bool)]⟩ .n))))))))) .n)))
def zq30 (fu : Nat) (p0 : List Yz1) (p1 : ByteArray) : Option Yz6 := whK (fun self d => bif d.1 != (↑d.2.length : Int) then ((zq34 fu d.2).bind fun l => some (l, d.2)).bind fun r => (chk (r.1.length + 1 <= LIM)).bind fun x => (chk ((↑(r.1 ++ [p1]).length : Int) <= (↑LIM : Int))).bind fun x => cntK (fun k d next => (chk ((0 : Int) <= (↑k : Int) /\ (↑k : Int) < (↑(r.1 ++ [p1]).length : Int))).bind fun x => (r.1 ++ [p1])[(↑k : Int).toNat]?.bind fun x => (zq29 fu p0 x).bind fun r => forK (fun k x d next => (chk (d.length + 1 <= LIM)).bind fun x_1 => next (mset Ty.str.beq x true d)) 0 r d fun d => next d) 0 (↑(r.1 ++ [p1]).length : Int).toNat r.2 fun d_1 => self ((↑d.2.length : Int), d_1) else ((zq34 fu d.2).bind fun l => some (l, d.2)).bind fun r => some r.1) fu ((-1 : Int), [])
def c_28 (fu : Nat) : Ct Tryz.prog := .mk' mixA ⟨[c_30 fu], [o_107l0w0 fu]⟩ fu 28 Tryz.f28 [.d Tz1, .d .str] (.one Tz8) h_28 Tryz.func28 (by kernel_rfl) (fun d => zq30 fu d.1 d.2) (by kernel_rfl)
def h_31 : HT := (.s .n (.s .n (.s (.s .n (.l ⟨[0, 1, 9, 10, 11], [], [(5, .wn 35 1)], [(35, .ls .str)]⟩ (.s .n (.j ⟨[0, 1, 5, 7, 9, 10, 11], [35, 7], [(30, .dt .bool)], []⟩ .n .n)))) .n)))
def zq28 (fu : Nat) (p0 : List Yz1) (p1 : ByteArray) : Option Yz6 := (zq32 fu p0).bind fun r => forK (fun k x d next => join (fun d_1 => bif d_1 then (chk (d.length + 1 <= LIM)).bind fun x_1 => next (d ++ [x.1]) else next d) fun K => bif x.2.2.1 then bif x.1.toList == p1.toList then K true else (zq30 fu p0 p1).bind fun r => (zq55 r x.1).bind fun r => K r else K false) 0 r [] fun d => some d
def c_31 (fu : Nat) : Ct Tryz.prog := .mk' mixA ⟨[c_27 fu, c_28 fu, c_19], []⟩ fu 31 Tryz.f31 [.d Tz1, .d .str] (.one Tz8) h_31 Tryz.func31 (by kernel_rfl) (fun d => zq28 fu d.1 d.2) (by kernel_rfl)
def h_5 : HT := (.s .n (.s .n (.j ⟨[0, 1], [], [(5, .dt Tz3)], []⟩ (.s .n (.j ⟨[0, 1, 5], [], [(32, .dt .bool)], []⟩ .n .n)) (.s .n (.s .n (.s .n (.s .n (.s (.j ⟨[0, 1, 5, 8, 10, 12, 14], [], [(78, .dt .bool)], []⟩ .n .n) (.s .n (.s .n (.s (.s .n (.l ⟨[0, 1, 8, 10, 12, 14, 94, 95, 96], [], [(16, .wn 110 1)], [(110, .ls .str)]⟩ .n)) (.j ⟨[], [], [(4, .dt .bool)], []⟩ .n .n))))))))))))
def zq24 (fu : Nat) (p0 : List Yz1) (p1 : ByteArray) : Option (Bool) := (body_Check fu p0).bind fun r => join (fun d => (look_Direct fu p0 p1).bind fun r => (look_Deep fu p0 p1).bind fun r_1 => (look_Inputs fu p0 p1).bind fun r_2 => (look_Users fu p0 p1).bind fun r_3 => join (fun d_1 => bif d_1 then some false else bif d != 0 then some (IntKind.i64.wrap (IntKind.i64.wrap (IntKind.i64.wrap ((↑r.1.length : Int) + (↑r_1.1.length : Int)) + (↑r_2.1.length : Int)) + (↑r_3.1.length : Int)) == 0) else (zq32 fu p0).bind fun r_4 => forK (fun k x d next => (zq30 fu p0 x.1).bind fun r => (zq55 r p1).bind fun r => bif r then (chk (d.length + 1 <= LIM)).bind fun x_1 => next (d ++ [x.1]) else next d) 0 r_4 [] fun d => join (fun d => some d) fun K => (zq29 fu p0 p1).bind fun r_5 => (zq56 r.1 r_5).bind fun r => bif r then (zq30 fu p0 p1).bind fun r => (zq56 r_1.1 r).bind fun r => bif r then (zq28 fu p0 p1).bind fun r => (zq56 r_2.1 r).bind fun r => bif r then (zq56 r_3.1 d).bind fun r => K r else K false else K false else K false) fun K => (zq25 fu).bind fun r_4 => bif !r_4 then K true else bif r.2 != d then K true else bif r_1.2 != d then K true else bif r_2.2 != d then K true else K (r_3.2 != d)) fun K => (zq27 p0 p1).bind fun r_1 => join (fun d => bif d then K (15 : Int) else K r) fun K => bif r == 0 then K !r_1.2 else K false
def c_5 (fu : Nat) : Ct Tryz.prog := .mk' mixA ⟨[c_23 fu, c_24, c_22 fu, c_16 fu, c_25 fu, c_17 fu, c_26 fu, c_27 fu, c_28 fu, c_19, c_30 fu, c_29, c_31 fu], []⟩ fu 5 Tryz.f5 [.d Tz1, .d .str] (.one .bool) h_5 Tryz.func5 (by kernel_rfl) (fun d => zq24 fu d.1 d.2) (by kernel_rfl)
end
end Go.Proofs.YtgpioploehgpdaaGreat
set_option linter.unusedVariables false
set_option linter.unusedSimpArgs false
set_option maxRecDepth 100000
namespace Go.Proofs.YtgpioploehgpdaaGreat
open Go.PG Go.PG.PH
theorem bytes_in {a b : ByteArray} (h : a.toList = b.toList) : a = b := by rw [<- PH.bytes_back a, <- PH.bytes_back b, h]
theorem bl_lt : ∀ l m : List UInt8, Op.bytesLess l m = decide (l < m)
 | [], [] => by simp [Op.bytesLess]
 | [], b :: m => by simp [Op.bytesLess]
 | a :: l, [] => by simp [Op.bytesLess]
 | a :: l, b :: m => by
  have := bl_lt l m;simp only [Op.bytesLess, this, List.cons_lt_cons_iff];rw [Bool.eq_iff_iff];simp
theorem sm_eq {R : Type} {f : Option R} {r : R} (h : Sm (fun y => y = r) f) : f = some r := by
 obtain ⟨y, hy, rfl⟩ := h;exact hy
def ltS (x y : ByteArray) : Bool := Op.bytesLess x.toList y.toList
theorem ltS_irr (x : ByteArray) : ltS x x = false := bl_irr _
theorem ltS_tr {x y z : ByteArray} (h : ltS x y = true) (h' : ltS y z = true) : ltS x z = true := bl_tr _ _ _ h h'
theorem ltS_tri {x y : ByteArray} (h : ltS x y = false) (h' : ltS y x = false) : x = y := bytes_in (bl_tri _ _ h h')
theorem ltS_asy {x y : ByteArray} (h : ltS x y = true) : ltS y x = false := bl_asy h
def SS (l : List ByteArray) : Prop := l.Pairwise fun x y => ltS x y = true
def SW (l : List ByteArray) : Prop := l.Pairwise fun x y => ltS y x = false
theorem SS.nodup {l : List ByteArray} (h : SS l) : l.Nodup := h.imp fun {x y} h e => by subst e; rw [ltS_irr] at h; cases h
theorem ss_uniq {l m : List ByteArray} (hl : SS l) (hm : SS m) (h : ∀ x, x ∈ l ↔ x ∈ m) : l = m := by
 refine List.Perm.eq_of_pairwise (le := fun x y => ltS x y = true) (fun a b _ _ h1 h2 => ?_) hl hm ((List.perm_ext_iff_of_nodup hl.nodup hm.nodup).2 h);rw [ltS_asy h1] at h2; cases h2
theorem sw_uniq {l m : List ByteArray} (hl : SW l) (hm : SW m) (h : l.Perm m) : l = m :=
 List.Perm.eq_of_pairwise (le := fun x y => ltS y x = false) (fun a b _ _ h1 h2 => ltS_tri h2 h1) hl hm h
theorem sortedS_sw (l : List ByteArray) : SW (sortedS l) := by
 unfold sortedS SW;rw [List.pairwise_map];have h := List.pairwise_mergeSort (le := fun x y : List UInt8 => decide (x <= y)) (fun a b c h1 h2 => by
  simp only [decide_eq_true_eq] at *; exact List.le_trans h1 h2) (fun a b => by
  simp only [Bool.or_eq_true, decide_eq_true_eq]; exact List.le_total a b) (l.map ByteArray.toList)
 refine h.imp fun {x y} h => ?_
 unfold ltS;rw [bl_lt];simp only [decide_eq_true_eq] at h;have e : ∀ z : List UInt8, (⟨z.toArray⟩ : ByteArray).toList = z := fun z => by rw [ByteArray.toList_eq]
 rw [e, e];exact decide_eq_false (by rw [List.not_lt]; exact h)
theorem sw_ss {l : List ByteArray} (h : SW l) (hn : l.Nodup) : SS l := by
 refine List.Pairwise.imp ?_ (List.pairwise_and_iff.2 ⟨h, hn⟩);rintro x y ⟨h1, h2⟩;cases e : ltS x y with
 | true => rfl
 | false => exact absurd (ltS_tri e h1) h2
theorem sort_sm (l : List ByteArray) (h : l.length <= LIM) : Sm (fun r => SW r /\ r.Perm l) ((chk (l.length <= LIM)).bind fun x => some (List.map (fun b : List UInt8 => ByteArray.mk b.toArray) ((List.map ByteArray.toList l).mergeSort fun x y => decide (x <= y)))) :=
 Sm.chk h (Sm.some ⟨sortedS_sw l, sortedS_perm l⟩)
theorem get_le {l : List ByteArray} (h : SW l) {i j : Nat} {x y : ByteArray} (hij : i <= j) (hx : l[i]? = some x) (hy : l[j]? = some y) : ltS y x = false := by
 rcases Nat.lt_or_eq_of_le hij with h1 | h1
 ·obtain ⟨h2, rfl⟩ := List.getElem?_eq_some_iff.1 hx;obtain ⟨h3, rfl⟩ := List.getElem?_eq_some_iff.1 hy;exact List.pairwise_iff_getElem.1 h i j h2 h3 h1
 ·subst h1;rw [hx] at hy; cases hy;exact ltS_irr _
def Cmp (l r : List ByteArray) : Prop := SS r /\ (∀ x, x ∈ r ↔ x ∈ l) /\ r.length <= l.length
theorem ss_snoc {l : List ByteArray} {y : ByteArray} (h : SS l) (hy : ∀ x ∈ l, ltS x y = true) : SS (l ++ [y]) :=
 List.pairwise_append.2 ⟨h, List.pairwise_singleton _ _, fun x hx z hz => by rw [List.mem_singleton.1 hz]; exact hy x hx⟩
theorem compact_cmp (fu : Nat) [hf : Big fu] (l : List ByteArray) (hl : l.length <= LIM) (hs : SW l) : Sm (Cmp l) (zq49 fu l) := by
 have hlim := lim_eq;have hfu := hf.h;unfold zq49;refine Sm.cond (fun c => Sm.some ?_) fun c => ?_
 ·have c := of_decide_eq_true c;refine ⟨?_, fun x => .rfl, Nat.le_refl _⟩
  match l, c with
  | [], _ => exact List.Pairwise.nil
  | [x], _ => exact List.pairwise_singleton _ _
  | x :: y :: l, c => simp only [List.length_cons] at c; omega
 have c := of_decide_eq_false c;refine Sm.whK (fun d : Int => 1 <= d /\ d <= (l.length : Int) /\ SS (l.take d.toNat)) (fun d => l.length - d.toNat) (fun d self hI hself => ?_) fu _ ⟨by omega, by omega, by
  match l, c with
  | [], c => simp at c
  | x :: l, _ => exact List.pairwise_singleton _ _⟩ (by omega)
 obtain ⟨i1, i2, i3⟩ := hI;refine Sm.cond (fun c1 => ?_) fun c1 => Sm.some ?_
 rotate_left
 ·have c1 := of_decide_eq_false c1;have : d.toNat = l.length := by omega
  rw [this, List.take_length] at i3;exact ⟨i3, fun _ => .rfl, Nat.le_refl _⟩
 have c1 := of_decide_eq_true c1;refine Sm.chk ⟨by omega, by omega⟩ (Sm.get (by omega) fun x hx => ?_);rw [wrap64 (x := d - 1) (by omega) (by omega)];refine Sm.chk ⟨by omega, by omega⟩ (Sm.get (by omega) fun x0 hx0 => ?_);rw [show (d - 1).toNat = d.toNat - 1 by omega] at hx0;have before : ∀ (k : Nat) (t : List ByteArray) (y z : ByteArray), k < l.length -> l[k]? = some y -> l[k - 1]? = some z -> 0 < k -> y ≠ z -> (∀ u, u ∈ t ↔ u ∈ l.take k) -> ∀ u ∈ t, ltS u y = true := by
  intro k t y z hk hy hz h0 hne ht u hu;obtain ⟨j, hj, rfl⟩ := List.getElem_of_mem ((ht u).1 hu);rw [List.length_take] at hj;rw [List.getElem_take];have h1 := get_le hs (i := j) (j := k - 1) (by omega) (List.getElem?_eq_getElem (by omega)) hz;have h2 := get_le hs (i := k - 1) (j := k) (by omega) hz hy;have h3 : ltS z y = true := by
   cases e : ltS z y with
   | true => rfl
   | false => exact absurd (ltS_tri h2 e) hne
  cases e : ltS l[j] y with
  | true => rfl
  | false =>
   cases e2 : ltS y l[j] with
   | true => rw [ltS_tr h3 e2] at h1; cases h1
   | false => rw [ltS_tri e e2] at h1; rw [h3] at h1; cases h1
 refine Sm.cond (fun c2 => ?_) fun c2 => ?_
 rotate_left
 ·rw [wrap64 (by omega) (by omega)];refine hself _ ⟨by omega, by omega, ?_⟩ (by omega);have hne : x ≠ x0 := fun e => by subst e; simp at c2
  rw [show (d + 1).toNat = d.toNat + 1 by omega, List.take_add_one, hx];exact ss_snoc i3 (before d.toNat _ x x0 (by omega) hx hx0 (by omega) hne fun _ => .rfl)
 have e0 : x = x0 := bytes_in (by simpa using c2);obtain ⟨D, hD⟩ : ∃ D, D = d.toNat := ⟨_, rfl⟩;rw [<- hD] at hx hx0 i3 ⊢;refine Sm.chk ⟨by omega, by omega⟩ ?_;refine Sm.whK (fun s : Int × Int × List ByteArray => s.2.2.length = l.length /\ 1 <= s.2.1 /\ s.2.1 <= ((l.length - D : Nat) : Int) /\ 0 <= s.1 /\ s.1 < d + s.2.1 /\ (∀ j, D + s.2.1.toNat - 1 <= j -> s.2.2[j]? = l[j]?) /\ SS (s.2.2.take s.1.toNat) /\
   (∀ u, u ∈ s.2.2.take s.1.toNat ↔ u ∈ l.take (D + s.2.1.toNat))) (fun s => l.length - s.2.1.toNat) (fun s self2 hI2 hself2 => ?_) fu _ ⟨rfl, by simp only; omega, by simp only; omega, by simp only; omega, by simp only; omega, fun _ _ => rfl, by simp only [<- hD]; exact i3, fun u => ?_⟩ (by simp only; omega)
 rotate_left
 ·simp only [<- hD];rw [show D + Int.toNat 1 = D + 1 from rfl, List.take_add_one, hx, List.mem_append];constructor
  ·exact fun h => .inl h
  ·rintro (h | h)
   ·exact h
   ·simp only [Option.toList_some, List.mem_singleton] at h;subst h;rw [e0];have : (l.take D)[D - 1]? = some x0 := by rw [List.getElem?_take, if_pos (by omega)]; exact hx0
    exact List.mem_of_getElem? this
 obtain ⟨a, k, t⟩ := s;obtain ⟨j1, j2, j3, j4, j5, j6, j7, j8⟩ := hI2;simp only at j1 j2 j3 j4 j5 j6 j7 j8 ⊢;refine Sm.cond (fun c3 => ?_) fun c3 => ?_
 ·have c3 := of_decide_eq_true c3;obtain ⟨k', rfl⟩ := Int.eq_ofNat_of_zero_le (show 0 <= k by omega);have hk' : D + k' < l.length := by omega
  have hy0 : l[D + k']? = some l[D + k'] := List.getElem?_eq_getElem hk';have hz0 : l[D + k' - 1]? = some l[D + k' - 1] := List.getElem?_eq_getElem (by omega);refine Sm.join (fun s : Int × List ByteArray => s.2.length = l.length /\ 0 <= s.1 /\ s.1 < d + (k' : Int) + 1 /\ (∀ j, D + k' <= j -> s.2[j]? = l[j]?) /\ SS (s.2.take s.1.toNat) /\ (∀ u, u ∈ s.2.take s.1.toNat ↔ u ∈ l.take (D + k' + 1))) (fun s hs => ?_) fun K hK => ?_
  ·obtain ⟨s1, s2, s3, s4, s5, s6⟩ := hs;rw [wrap64 (by omega) (by omega)];refine hself2 _ ⟨s1, by simp only; omega, by simp only; omega, s2, by simp only; omega, fun j hj => s4 j (by simp only at hj; omega), s5, ?_⟩ (by simp only; omega);simp only;rw [show D + ((k' : Int) + 1).toNat = D + k' + 1 by omega];exact s6
  ·refine Sm.chk ⟨by omega, by omega⟩ (Sm.get (by simp only [j1]; omega) fun y hy => ?_);rw [wrap64 (x := (k' : Int) - 1) (by omega) (by omega)];refine Sm.chk ⟨by omega, by omega⟩ (Sm.get (by omega) fun z hz => ?_);rw [show ((k' : Int)).toNat = k' by omega] at hy;rw [show D + ((k' : Int) - 1).toNat = D + k' - 1 by omega] at hz;rw [j6 _ (by omega)] at hy hz;rw [show D + ((k' : Int)).toNat = D + k' by omega] at j8;refine Sm.cond (fun c4 => ?_) fun c4 => ?_
   ·have hne : y ≠ z := fun e => by subst e; simp at c4
    refine Sm.chk ⟨by omega, by omega⟩ (Sm.get (by omega) fun y2 hy2 => ?_);rw [show ((k' : Int)).toNat = k' by omega, j6 _ (by omega), hy] at hy2;cases hy2;refine Sm.chk ⟨by omega, by omega⟩ (Sm.chk (by omega) (hK _ ⟨?_, ?_, ?_, ?_, ?_, ?_⟩))
    ·simpa using j1
    ·simp only; rw [wrap64 (by omega) (by omega)]; omega
    ·simp only; rw [wrap64 (by omega) (by omega)]; omega
    ·intro j hj;simp only;rw [List.getElem?_set];rw [if_neg (by omega)];exact j6 j (by omega)
    ·simp only;rw [wrap64 (by omega) (by omega), show (a + 1).toNat = a.toNat + 1 by omega, List.take_add_one, List.take_set_of_le (by omega), List.getElem?_set_self (by omega)];exact ss_snoc j7 (before (D + k') _ y z (by omega) hy hz (by omega) hne j8)
    ·intro u;simp only;rw [wrap64 (by omega) (by omega), show (a + 1).toNat = a.toNat + 1 by omega, List.take_add_one, List.take_set_of_le (by omega), List.getElem?_set_self (by omega), List.take_add_one, hy, List.mem_append, List.mem_append, j8 u]
   ·have e4 : y = z := by
     have : y.toList = z.toList := by simpa using c4
     exact bytes_in this
    subst e4;refine hK _ ⟨j1, j4, by simp only; omega, fun j hj => j6 j (by omega), j7, fun u => ?_⟩;simp only;rw [j8 u, List.take_add_one, hy, List.mem_append];constructor
    ·exact fun h => .inl h
    ·rintro (h | h)
     ·exact h
     ·simp only [Option.toList_some, List.mem_singleton] at h;subst h;have : (l.take (D + k'))[D + k' - 1]? = some u := by rw [List.getElem?_take, if_pos (by omega)]; exact hz
      exact List.mem_of_getElem? this
 ·have c3 := of_decide_eq_false c3;refine Sm.chk ⟨by omega, by omega⟩ (Sm.chk (by omega) ?_);have hlen : (List.take a.toNat t ++ (List.replicate (t.length - a.toNat) (ByteArray.mk (Array.mk (@List.nil UInt8))) ++ List.drop (a.toNat + (List.replicate (t.length - a.toNat) (ByteArray.mk (Array.mk (@List.nil UInt8)))).length) t)).length = t.length := by
   simp only [List.length_append, List.length_take, List.length_replicate, List.length_drop]; omega
  rw [hlen];refine Sm.chk ⟨by omega, by omega⟩ (Sm.chk (by omega) (Sm.some ?_));rw [Nat.sub_zero, List.take_append_of_le_length (by rw [List.length_take]; omega), List.take_take, Nat.min_self];have hk : D + k.toNat = l.length := by omega
  rw [hk, List.take_length] at j8;exact ⟨j7, j8, by rw [List.length_take]; omega⟩
def ks {V : Type} (d : List (ByteArray × V)) : List ByteArray := d.map (·.1)
def IsSet (d : List (ByteArray × Bool)) : Prop := (ks d).Nodup /\ ∀ p ∈ d, p.2 = true
theorem ks_mset {V : Type} (x : ByteArray) (v : V) : ∀ d : List (ByteArray × V), (x ∈ ks d /\ ks (mset Ty.str.beq x v d) = ks d) \/ (x ∉ ks d /\ ks (mset Ty.str.beq x v d) = ks d ++ [x])
 | [] => .inr ⟨by simp [ks], by simp [mset, ks]⟩
 | (a, b) :: r => by
  have e2 : ks ((a, b) :: r) = a :: ks r := rfl;cases e : Ty.str.beq x a with
  | true =>
   have := (beq_str x a).1 e;subst this;left;exact ⟨by rw [e2]; simp, by simp [mset, e, ks]⟩
  | false =>
   have hne : x ≠ a := fun h => by rw [(beq_str x a).2 h] at e; cases e
   have e1 : ks (mset Ty.str.beq x v ((a, b) :: r)) = a :: ks (mset Ty.str.beq x v r) := by simp [mset, e, ks]
   rw [e1, e2];rcases ks_mset x v r with ⟨h1, h2⟩ | ⟨h1, h2⟩
   ·exact .inl ⟨by simp [h1], by rw [h2]⟩
   ·exact .inr ⟨by simp [h1, hne], by rw [h2]; rfl⟩
theorem mem_mset {V : Type} (x : ByteArray) (v : V) (d : List (ByteArray × V)) (y : ByteArray) : y ∈ ks (mset Ty.str.beq x v d) ↔ y = x \/ y ∈ ks d := by
 rcases ks_mset x v d with ⟨h1, h2⟩ | ⟨h1, h2⟩
 ·rw [h2];exact ⟨fun h => .inr h, fun h => by rcases h with rfl | h; exact h1; exact h⟩
 ·rw [h2, List.mem_append, List.mem_singleton];exact ⟨fun h => h.symm, fun h => h.symm⟩
theorem isSet_mset {d : List (ByteArray × Bool)} (h : IsSet d) (x : ByteArray) : IsSet (mset Ty.str.beq x true d) := by
 refine ⟨?_, ?_⟩
 ·rcases ks_mset x true d with ⟨hx, e⟩ | ⟨hx, e⟩
  ·rw [e]; exact h.1
  ·rw [e];exact List.nodup_append.2 ⟨h.1, by simp, fun a ha b hb => by rw [List.mem_singleton.1 hb]; rintro rfl; exact hx ha⟩
 ·have : ∀ d : List (ByteArray × Bool), (∀ p ∈ d, p.2 = true) -> ∀ p ∈ mset Ty.str.beq x true d, p.2 = true := by
   intro d;induction d with
   | nil => intro _ p hp; simp [mset] at hp; rw [hp]
   | cons q r ih =>
    intro hd p hp;simp only [mset] at hp;split at hp
    ·rcases List.mem_cons.1 hp with rfl | hp
     ·rfl
     ·exact hd p (by simp [hp])
    ·rcases List.mem_cons.1 hp with rfl | hp
     ·exact hd _ (by simp)
     ·exact ih (fun p hp => hd p (by simp [hp])) p hp
  exact this d h.2
theorem isSet_get {d : List (ByteArray × Bool)} (h : IsSet d) (x : ByteArray) : (mget Ty.str.beq x d).getD false = true ↔ x ∈ ks d := by
 have : ∀ d : List (ByteArray × Bool), (∀ p ∈ d, p.2 = true) -> ((mget Ty.str.beq x d).getD false = true ↔ x ∈ ks d) := by
  intro d;induction d with
  | nil => intro _; simp [mget, ks]
  | cons q r ih =>
   obtain ⟨a, b⟩ := q;intro hd;cases e : Ty.str.beq x a with
   | true =>
    have := (beq_str x a).1 e;subst this;have hb := hd (x, b) (by simp);simp only at hb;simp [mget, e, ks, hb]
   | false =>
    have hne : x ≠ a := fun h => by rw [(beq_str x a).2 h] at e; cases e
    have := ih (fun p hp => hd p (by simp [hp]));simp only [mget, e];rw [this];simp [ks, hne]
 exact this d h.2
theorem ks_len {V : Type} (d : List (ByteArray × V)) : (ks d).length = d.length := by simp [ks]
theorem keys_ok (fu : Nat) [hf : Big fu] (m : List (ByteArray × Bool)) (hm : (ks m).Nodup) (hl : m.length <= LIM) : Sm (fun r => SS r /\ ∀ x, x ∈ r ↔ x ∈ ks m) (zq34 fu m) := by
 have hlim := lim_eq;have hfu := hf.h;unfold zq34;refine Sm.allR ?_;have hss : SS (sortedS (ks m)) := sw_ss (sortedS_sw _) ((sortedS_perm (ks m)).nodup_iff.2 hm);have hmem : ∀ x, x ∈ sortedS (ks m) ↔ x ∈ ks m := fun x => (sortedS_perm (ks m)).mem_iff
 refine Sm.anyK (fun done d => SW d /\ d.Perm (ks done)) (sortedS (ks m)) ⟨hss, hmem⟩ (fun done x d K hx hdl hP hK => ?_) ⟨List.Pairwise.nil, .refl _⟩ (fun done d hp hP => ?_)
 ·obtain ⟨p1, p2⟩ := hP;have hdl2 : d.length + 1 <= LIM := by rw [p2.length_eq, ks_len]; omega
  refine sm_eq ?_
  ·refine Sm.whK (fun p : Int => 0 <= p /\ p <= (d.length : Int) /\ ∀ z ∈ d.take p.toNat, ltS z x.1 = true) (fun p => d.length - p.toNat) (fun p self hI hself => ?_) fu _ ⟨by omega, by omega, by simp⟩ (by omega);obtain ⟨i1, i2, i3⟩ := hI;refine Sm.join (fun f => (f = true -> p < (d.length : Int) /\ ∀ z, d[p.toNat]? = some z -> ltS z x.1 = true) /\ (f = false -> p = (d.length : Int) \/ ∀ z, d[p.toNat]? = some z -> ltS z x.1 = false)) (fun f hf => ?_) fun K2 hK2 => ?_
   ·refine Sm.cond (fun e => ?_) fun e => ?_
    ·obtain ⟨f1, f2⟩ := hf.1 e;rw [wrap64 (by omega) (by omega)];refine hself _ ⟨by omega, by omega, fun z hz => ?_⟩ (by omega);have hlt : p.toNat < d.length := by omega
     rw [show (p + 1).toNat = p.toNat + 1 by omega, List.take_add_one, List.getElem?_eq_getElem hlt, List.mem_append] at hz;rcases hz with hz | hz
     ·exact i3 z hz
     ·simp only [Option.toList_some, List.mem_singleton] at hz;subst hz;exact f2 _ (List.getElem?_eq_getElem hlt)
    ·rw [chk_eq' (by refine ⟨by omega, by omega, by omega, by omega⟩)];simp only [Option.bind_some];refine Sm.chk (by simp) ⟨_, hK _ ⟨?_, ?_⟩, rfl⟩
     ·have hs : SW (d.take p.toNat ++ d.drop p.toNat) := by rw [List.take_append_drop]; exact p1
      obtain ⟨s1, s2, s3⟩ := List.pairwise_append.1 hs;have hge : ∀ z ∈ d.drop p.toNat, ltS z x.1 = false := by
       rcases hf.2 e with h | h
       ·rw [List.drop_of_length_le (by omega)]; simp
       ·intro z hz;obtain ⟨k, hk, rfl⟩ := List.getElem_of_mem hz;rw [List.length_drop] at hk;have hlt : p.toNat < d.length := by omega
        have g1 := h _ (List.getElem?_eq_getElem hlt);have g2 := get_le p1 (i := p.toNat) (j := p.toNat + k) (by omega) (List.getElem?_eq_getElem hlt) (List.getElem?_eq_getElem (by omega));rw [List.getElem_drop];cases e3 : ltS d[p.toNat + k] x.1 with
        | false => rfl
        | true =>
         cases e4 : ltS x.1 d[p.toNat] with
         | true => rw [ltS_tr e3 e4] at g2; cases g2
         | false => rw [<- ltS_tri g1 e4] at e3; rw [e3] at g2; cases g2
      rw [List.append_assoc];refine List.pairwise_append.2 ⟨s1, List.pairwise_append.2 ⟨List.pairwise_singleton _ _, s2, fun u hu v hv => ?_⟩, fun u hu v hv => ?_⟩
      ·rw [List.mem_singleton.1 hu]; exact hge v hv
      ·rcases List.mem_append.1 hv with hv | hv
       ·rw [List.mem_singleton.1 hv]; exact ltS_asy (i3 u hu)
       ·exact s3 u hu v hv
     ·have h1 : (d.take p.toNat ++ [x.1] ++ d.drop p.toNat).Perm (d.take p.toNat ++ (d.drop p.toNat ++ [x.1])) := by
       rw [List.append_assoc];exact List.Perm.append_left _ List.perm_append_comm
      rw [<- List.append_assoc, List.take_append_drop] at h1;have h2 : ks (done ++ [x]) = ks done ++ [x.1] := by simp [ks]
      rw [h2];exact h1.trans (p2.append_right _)
   ·refine Sm.cond (fun e => ?_) fun e => hK2 _ ⟨by simp, fun _ => .inl ?_⟩
    ·have e := of_decide_eq_true e;refine Sm.chk ⟨by omega, by omega⟩ (Sm.get (by omega) fun z hz => hK2 _ ?_);have hb : Op.bytesLess z.toList x.1.toList = ltS z x.1 := rfl;rw [hb, hz];exact ⟨fun h => ⟨by omega, fun w hw => by cases hw; exact h⟩, fun h => .inr fun w hw => by cases hw; exact h⟩
    ·have e := of_decide_eq_false e;omega
 ·exact congrArg some (sw_uniq hP.1 (sortedS_sw _) (hP.2.trans ((show (ks done).Perm (ks m) from hp.map _).trans (sortedS_perm (ks m)).symm)))
end Go.Proofs.YtgpioploehgpdaaGreat
set_option linter.unusedVariables false
set_option linter.unusedSimpArgs false
set_option maxRecDepth 100000
namespace Go.Proofs.YtgpioploehgpdaaGreat
open Go.PG Go.PG.PH
def isN (x : Nd) : Bool := bif x.1 == (1 : Int) then true else bif x.1 == (2 : Int) then true else x.1 == (3 : Int)
def namesOf (e : List Nd) : List ByteArray := (e.filter isN).map fun x => x.2.2.2.2
theorem namesOf_len (e : List Nd) : (namesOf e).length <= e.length := by
 unfold namesOf; rw [List.length_map]; exact List.length_filter_le _ _
theorem filt_take {α β : Type} (p : α -> Bool) (f : α -> β) {l : List α} {k : Nat} {x : α} (h : l[k]? = some x) :
  ((l.take (k + 1)).filter p).map f = ((l.take k).filter p).map f ++ (bif p x then [f x] else []) := by
 rw [List.take_add_one, h, List.filter_append, List.map_append]
 congr 1
 cases e : p x <;> simp [e]
theorem filt_len {α β : Type} (p : α -> Bool) (f : α -> β) (l : List α) (k : Nat) : (((l.take k).filter p).map f).length <= k := by
 rw [List.length_map];exact Nat.le_trans (List.length_filter_le _ _) (by simp; omega)
theorem names_cmp (fu : Nat) [hf : Big fu] (l : List Nd) (hl : l.length <= M20) : Sm (fun r => Cmp (namesOf l) r.1) (tree_Names fu l) := by
 have hlim := lim_eq;have hM := M20_eq;unfold tree_Names;refine Sm.for0 (fun k d => d.1 = namesOf (l.take k) /\ d.2.length <= k) ⟨rfl, by simp⟩ (fun i x d K hi hx hI hK => ?_) fun d hd => ?_
 ·obtain ⟨i1, i2⟩ := hI;have t1 := filt_take isN (fun x : Nd => x.2.2.2.2) hx;have t2 := filt_len isN (fun x : Nd => x.2.2.2.2) l i;refine Sm.join (fun f => f = isN x) (fun f hf => ?_) fun K hK => ?_
  ·refine Sm.cond (fun e => Sm.chk (by rw [i1]; unfold namesOf; omega) (hK _ ⟨?_, by simp only; omega⟩)) fun e => ?_
   ·show d.1 ++ [x.2.2.2.2] = _
    unfold namesOf at i1 ⊢;rw [t1, i1, <- hf, e]; rfl
   have key : d.1 = namesOf (l.take (i + 1)) := by
    unfold namesOf at i1 ⊢;rw [t1, i1, <- hf, e]; simp
   exact Sm.cond (fun _ => Sm.chk (by omega) (hK _ ⟨key, by simpa using i2⟩)) fun _ => hK _ ⟨key, by simp only; omega⟩
  ·refine Sm.cond (fun e => hK _ (by unfold isN; rw [e]; rfl)) fun e => ?_
   refine Sm.cond (fun e2 => hK _ (by unfold isN; rw [e, e2]; rfl)) fun e2 => hK _ (by unfold isN; rw [e, e2]; rfl)
 ·obtain ⟨d1, d2⟩ := hd;rw [List.take_length] at d1;have hn := namesOf_len l;refine Sm.bind (sort_sm _ (by rw [d1]; omega)) fun r hr => Sm.chk hr.2.length_eq ?_
  refine Sm.bind (sort_sm _ (by omega)) fun r2 hr2 => Sm.chk hr2.2.length_eq ?_
  have l1 := hr.2.length_eq;have l2 := hr2.2.length_eq;refine Sm.bind (compact_cmp fu _ (by rw [l1, d1]; omega) hr.1) fun r3 hr3 => Sm.bind (compact_cmp fu _ (by omega) hr2.1) fun r4 hr4 => Sm.some ⟨hr3.1, fun x => ?_, ?_⟩
  ·rw [hr3.2.1 x, hr.2.mem_iff, d1]
  ·have := hr3.2.2;simp only;rw [l1, d1] at this;exact this
def artN (attr : ByteArray) (x : Ar) : List ByteArray := bif x.2.1.toList == attr.toList then namesOf x.2.2.1 ++ namesOf x.2.2.2.1 else []
def lookL (b : List Act) (attr : ByteArray) : List ByteArray := b.flatMap fun a => a.2.2.2.2.2.flatMap (artN attr)
theorem flat_take {α β : Type} (f : α -> List β) {l : List α} {k : Nat} {x : α} (h : l[k]? = some x) : (l.take (k + 1)).flatMap f = (l.take k).flatMap f ++ f x := by
 rw [List.take_add_one, h]; simp
def LT : Nat := 480 * (2 * M20)
theorem artN_len (attr : ByteArray) (x : Ar) (h : FitX x.2.2.1 /\ FitX x.2.2.2.1 /\ x.2.2.2.2.1.length <= M20) : (artN attr x).length <= 2 * M20 := by
 unfold artN;have h1 := namesOf_len x.2.2.1;have h2 := namesOf_len x.2.2.2.1;have h3 := h.1.1;have h4 := h.2.1.1;cases x.2.1.toList == attr.toList with
 | true => simp only [cond_true, List.length_append]; omega
 | false => simp
theorem flat_len_le {α β : Type} (f : α -> List β) (n : Nat) : ∀ l : List α, (∀ x ∈ l, (f x).length <= n) -> (l.flatMap f).length <= l.length * n
 | [], _ => by simp
 | x :: l, h => by
  have h1 := flat_len_le f n l fun y hy => h y (by simp [hy])
  have h2 := h x (by simp);rw [List.flatMap_cons, List.length_append, List.length_cons, Nat.add_mul, Nat.one_mul];omega
theorem at_ok (fu : Nat) [hf : Big fu] (b : List Act) [hb : Fit b] (hl : Lim b) (attr : ByteArray) : Sm (Cmp (lookL b attr)) (look_at fu b attr) := by
 have hlim := lim_eq;have hM := M20_eq;have hact : ∀ a ∈ b, (a.2.2.2.2.2.flatMap (artN attr)).length <= 60 * (2 * M20) := fun a ha => by
  refine Nat.le_trans (flat_len_le (artN attr) (2 * M20) _ fun x hx => artN_len attr x ((hb.act a ha).2.2.2.2 x hx)) ?_;exact Nat.mul_le_mul_right _ (hl.2 a ha).1
 have htake : ∀ k, ((b.take k).flatMap fun a => a.2.2.2.2.2.flatMap (artN attr)).length <= k * (60 * (2 * M20)) := fun k => by
  refine Nat.le_trans (flat_len_le _ (60 * (2 * M20)) _ fun a ha => hact a (List.mem_of_mem_take ha)) ?_;exact Nat.mul_le_mul_right _ (by simp; omega)
 have hb8 := hl.1;unfold look_at;refine Sm.for0 (fun k d => (∀ x, x ∈ d ↔ x ∈ (b.take k).flatMap fun a => a.2.2.2.2.2.flatMap (artN attr)) /\ d.length <= ((b.take k).flatMap fun a => a.2.2.2.2.2.flatMap (artN attr)).length) ⟨by simp, by simp⟩ (fun i a d K hi ha hI hK => ?_) fun d hd => ?_
 ·have hma := List.mem_of_getElem? ha;have tA := flat_take (fun a : Act => a.2.2.2.2.2.flatMap (artN attr)) ha;have tl := htake i;refine Sm.for0 (fun k d2 => (∀ x, x ∈ d2 ↔ x ∈ d \/ x ∈ (a.2.2.2.2.2.take k).flatMap (artN attr)) /\ d2.length <= d.length + ((a.2.2.2.2.2.take k).flatMap (artN attr)).length) ⟨by simp, by simp⟩ (fun j y d2 K2 hj hy hI2 hK2 => ?_) fun d2 hd2 => hK _ ⟨fun x => ?_, ?_⟩
  ·have hfit := (hb.act a hma).2.2.2.2 y (List.mem_of_getElem? hy);have tB := flat_take (artN attr) hy;have hj60 := (hl.2 a hma).1;have tl2 : ((a.2.2.2.2.2.take j).flatMap (artN attr)).length <= j * (2 * M20) := by
    refine Nat.le_trans (flat_len_le (artN attr) (2 * M20) _ fun x hx => artN_len attr x ((hb.act a hma).2.2.2.2 x (List.mem_of_mem_take hx))) ?_;exact Nat.mul_le_mul_right _ (by simp; omega)
   refine Sm.cond (fun e => hK2 _ ?_) fun e => ?_
   ·have e : (y.2.1.toList == attr.toList) = false := by simpa using e
    have : artN attr y = [] := by unfold artN; rw [e]; rfl
    rw [tB, this, List.append_nil];exact hI2
   ·have e : (y.2.1.toList == attr.toList) = true := by simpa using e
    have hA : artN attr y = namesOf y.2.2.1 ++ namesOf y.2.2.2.1 := by unfold artN; rw [e]; rfl
    refine Sm.bind (names_cmp fu _ hfit.1.1) fun r hr => Sm.bind (names_cmp fu _ hfit.2.1.1) fun r2 hr2 => ?_
    have n1 := namesOf_len y.2.2.1;have n2 := namesOf_len y.2.2.2.1;have h1 := hfit.1.1;have h2 := hfit.2.1.1;have q1 := hr.2.2;have q2 := hr2.2.2;have q3 := hI.2;have q4 := hI2.2;refine Sm.chk (by rw [hM] at *; omega) (Sm.chk (by rw [List.length_append]; rw [hM] at *; omega) (hK2 _ ⟨fun x => ?_, ?_⟩))
    ·rw [tB, hA, List.mem_append, List.mem_append, List.mem_append, List.mem_append, hI2.1 x, hr.2.1 x, hr2.2.1 x];simp only [or_assoc]
    ·rw [tB, hA];simp only [List.length_append];omega
  ·rw [tA, List.mem_append, <- hI.1 x];have := hd2.1 x;rw [List.take_length] at this;exact this
  ·rw [tA, List.length_append];have := hd2.2;rw [List.take_length] at this;have := hI.2;omega
 ·rw [List.take_length] at hd;have tl := htake b.length;rw [List.take_length] at tl;have hd2 := hd.2;have hLe : b.length * (60 * (2 * M20)) <= 8 * (60 * (2 * M20)) := Nat.mul_le_mul_right _ hb8;refine Sm.bind (sort_sm _ (by rw [hM] at *; omega)) fun r hr => Sm.chk hr.2.length_eq ?_
  have l1 := hr.2.length_eq;refine Sm.bind (compact_cmp fu _ (by rw [l1]; rw [hM] at *; omega) hr.1) fun r2 hr2 => Sm.some ⟨hr2.1, fun x => ?_, ?_⟩
  ·rw [hr2.2.1 x, hr.2.mem_iff]; exact hd.1 x
  ·have := hr2.2.2;unfold lookL;omega
end Go.Proofs.YtgpioploehgpdaaGreat
set_option linter.unusedVariables false
set_option linter.unusedSimpArgs false
set_option maxRecDepth 100000
namespace Go.Proofs.YtgpioploehgpdaaGreat
open Go.PG Go.PG.PH
abbrev Rl := (ByteArray × ByteArray) × (Int × Int × Int) × Ar
def ruleOf (a : Act) (x : Ar) : Rl := ((a.1, x.1), (a.2.1, x.2.2.2.2.2, a.2.2.1), x)
def rulesL (b : List Act) : List Rl := b.flatMap fun a => a.2.2.2.2.2.map (ruleOf a)
theorem lim_rules {b : List Act} (hl : Lim b) : ∀ k, (rulesL (b.take k)).length <= k * 60 := fun k => by
 refine Nat.le_trans (flat_len_le _ 60 _ fun a ha => ?_) ?_
 ·rw [List.length_map]; exact (hl.2 a (List.mem_of_mem_take ha)).1
 ·exact Nat.mul_le_mul_right _ (by simp; omega)
theorem lim_rules' {b : List Act} (hl : Lim b) : (rulesL b).length <= 480 := by
 have := lim_rules hl b.length;rw [List.take_length] at this;have := hl.1;omega
theorem rules_ok (b : List Act) [hb : Fit b] (hl : Lim b) : zq31 b = some (rulesL b) := by
 have hlim := lim_eq;refine sm_eq ?_;unfold zq31;refine Sm.for0 (fun k d => d = rulesL (b.take k)) rfl (fun i a d K hi ha hI hK => ?_) fun d hd => Sm.some (by rw [hd, List.take_length])
 have tA := flat_take (fun a : Act => a.2.2.2.2.2.map (ruleOf a)) ha;have l1 := lim_rules hl i;have h8 := hl.1;have l2 := (hl.2 a (List.mem_of_getElem? ha)).1;rw [idx_at ha, Option.bind_some];refine Sm.for0 (fun k d2 => d2 = rulesL (b.take i) ++ (a.2.2.2.2.2.take k).map (ruleOf a)) (by simp [hI]) (fun j y d2 K2 hj hy hI2 hK2 => ?_) fun d2 hd2 => hK _ ?_
 ·rw [Option.bind_some, idx_at hy];simp only [Option.bind_some];refine Sm.chk ?_ (hK2 _ ?_)
  ·rw [hI2, List.length_append, List.length_map, List.length_take]; omega
  ·rw [hI2, List.take_add_one, hy, List.map_append, List.append_assoc];rfl
 ·rw [hd2, List.take_length];unfold rulesL;exact tA.symm
theorem concat_ok (c t : List Nd) (hc : c.length <= M20) (ht : t.length <= M20) : zq51 [c, t] = some (c ++ t) := by
 have hlim := lim_eq;have hM := M20_eq;refine sm_eq ?_;unfold zq51;simp only [forK, Int.zero_add];rw [wrap64 (by omega) (by omega)];rw [wrap64 (x := (c.length : Int) + t.length) (by omega) (by omega)];refine Sm.cond (fun e => by have := of_decide_eq_true e; omega) fun _ => Sm.cond (fun e => by have := of_decide_eq_true e; omega) fun _ => ?_
 rw [chk_eq' (by refine ⟨by omega, by omega⟩)];simp only [Option.bind_some, List.nil_append];refine Sm.chk (by simp only [List.length_nil]; omega) (Sm.chk (by omega) (Sm.some rfl))
theorem lookL_rules (b : List Act) (attr : ByteArray) : lookL b attr = (rulesL b).flatMap fun r => artN attr r.2.2 := by
 unfold lookL rulesL;rw [List.flatMap_assoc];congr 1;funext a;rw [List.flatMap_map];rfl
theorem looks_set (fu : Nat) [hf : Big fu] (b : List Act) [hb : Fit b] (hl : Lim b) (attr : ByteArray) : Sm (Cmp (lookL b attr)) (zq29 fu b attr) := by
 have hlim := lim_eq;have hM := M20_eq;have hr480 := lim_rules' hl;have hfit : ∀ r ∈ rulesL b, FitX r.2.2.2.2.1 /\ FitX r.2.2.2.2.2.1 /\ r.2.2.2.2.2.2.1.length <= M20 := by
  intro r hr;unfold rulesL at hr;simp only [List.mem_flatMap, List.mem_map] at hr;obtain ⟨a, ha, x, hx, rfl⟩ := hr;exact (hb.act a ha).2.2.2.2 x hx
 unfold zq29;rw [rules_ok b hl, Option.bind_some];refine Sm.for0 (fun k d => IsSet d /\ (∀ x, x ∈ ks d ↔ x ∈ ((rulesL b).take k).flatMap fun r => artN attr r.2.2) /\ d.length <= (((rulesL b).take k).flatMap fun r => artN attr r.2.2).length) ⟨⟨by simp [ks], by simp⟩, by simp [ks], by simp⟩ (fun i r d K hi hr hI hK => ?_) fun d hd => ?_
 ·have hft := hfit r (List.mem_of_getElem? hr);have tA := flat_take (fun r : Rl => artN attr r.2.2) hr;have tl : (((rulesL b).take i).flatMap fun r => artN attr r.2.2).length <= i * (2 * M20) := by
   refine Nat.le_trans (flat_len_le _ (2 * M20) _ fun x hx => artN_len attr x.2.2 (hfit x (List.mem_of_mem_take hx))) ?_;exact Nat.mul_le_mul_right _ (by simp; omega)
  have h1 := hft.1.1;have h2 := hft.2.1.1;rw [concat_ok _ _ h1 h2, Option.bind_some];obtain ⟨N, hN⟩ : ∃ N, N = r.2.2.2.2.1 ++ r.2.2.2.2.2.1 := ⟨_, rfl⟩;have hNl : N.length <= 2 * M20 := by rw [hN, List.length_append]; omega
  rw [<- hN];have hAN : artN attr r.2.2 = bif r.2.2.2.1.toList == attr.toList then namesOf N else [] := by
   unfold artN;rw [hN];unfold namesOf;rw [List.filter_append, List.map_append]
  refine Sm.for0 (fun k d2 => IsSet d2 /\ (∀ x, x ∈ ks d2 ↔ x ∈ ks d \/ x ∈ (bif r.2.2.2.1.toList == attr.toList then namesOf (N.take k) else [])) /\ d2.length <= d.length + (bif r.2.2.2.1.toList == attr.toList then namesOf (N.take k) else []).length) ⟨hI.1, fun x => ?_, ?_⟩ (fun j y d2 K2 hj hy hI2 hK2 => ?_) fun d2 hd2 => hK _ ⟨hd2.1, fun x => ?_, ?_⟩
  ·cases r.2.2.2.1.toList == attr.toList <;> simp [namesOf]
  ·omega
  ·obtain ⟨j1, j2, j3⟩ := hI2;have t1 := filt_take isN (fun x : Nd => x.2.2.2.2) hy;have t2 := filt_len isN (fun x : Nd => x.2.2.2.2) N j;have hd3 := hI.2.2;have hlen : d2.length <= i * (2 * M20) + j := by
    revert j3;cases r.2.2.2.1.toList == attr.toList with
    | true => simp only [cond_true]; intro j3; unfold namesOf at j3; omega
    | false => simp only [cond_false, List.length_nil]; intro j3; omega
   have hji : i * (2 * M20) + j + 1 <= LIM := by
    have : i * (2 * M20) <= 480 * (2 * M20) := Nat.mul_le_mul_right _ (by omega);generalize i * (2 * M20) = q at this ⊢;omega
   refine Sm.join (fun f => f = (bif r.2.2.2.1.toList == attr.toList then isN y else false)) (fun f hf => ?_) fun K3 hK3 => ?_
   ·refine Sm.cond (fun e => Sm.chk (by omega) (hK2 _ ?_)) fun e => hK2 _ ?_
    ·rw [e] at hf;have hm := mset_le (eq := Ty.str.beq) y.2.2.2.2 true d2;cases e2 : r.2.2.2.1.toList == attr.toList with
     | false => rw [e2] at hf; cases hf
     | true =>
      rw [e2] at hf;simp only [cond_true] at hf;simp only [e2, cond_true] at j2 j3;refine ⟨isSet_mset j1 _, fun x => ?_, ?_⟩
      ·rw [mem_mset, j2 x];simp only [cond_true];unfold namesOf;rw [t1, <- hf, List.mem_append, cond_true, List.mem_singleton];constructor
       ·rintro (h | h | h)
        ·exact .inr (.inr h)
        ·exact .inl h
        ·exact .inr (.inl h)
       ·rintro (h | h | h)
        ·exact .inr (.inl h)
        ·exact .inr (.inr h)
        ·exact .inl h
      ·simp only [cond_true];unfold namesOf at j3 ⊢;rw [t1, <- hf, cond_true, List.length_append, List.length_singleton];omega
    ·rw [e] at hf;cases e2 : r.2.2.2.1.toList == attr.toList with
     | false =>
      simp only [e2, cond_false] at j2 j3;exact ⟨j1, fun x => by rw [j2 x]; simp, by simpa using j3⟩
     | true =>
      rw [e2] at hf;simp only [cond_true] at hf;simp only [e2, cond_true] at j2 j3;refine ⟨j1, fun x => ?_, ?_⟩
      ·rw [j2 x];simp only [cond_true];unfold namesOf;rw [t1, <- hf]; simp
      ·simp only [cond_true];unfold namesOf at j3 ⊢;rw [t1, <- hf];simpa using j3
   ·refine Sm.cond (fun e => ?_) fun e => hK3 _ (by rw [e]; rfl)
    refine Sm.cond (fun e1 => hK3 _ (by unfold isN; rw [e, e1]; rfl)) fun e1 => ?_
    refine Sm.cond (fun e2 => hK3 _ (by unfold isN; rw [e, e1, e2]; rfl)) fun e2 => hK3 _ (by unfold isN; rw [e, e1, e2]; rfl)
  ·have := hd2.2.1 x;rw [List.take_length] at this;rw [this, tA, List.mem_append, hI.2.1 x, hAN]
  ·have := hd2.2.2;rw [List.take_length] at this;rw [tA, List.length_append, hAN];have := hI.2.2;omega
 ·rw [List.take_length, <- lookL_rules] at hd;have tl : (lookL b attr).length <= 480 * (2 * M20) := by
   rw [lookL_rules];refine Nat.le_trans (flat_len_le _ (2 * M20) _ fun x hx => artN_len attr x.2.2 (hfit x hx)) ?_;exact Nat.mul_le_mul_right _ hr480
  have hdl := hd.2.2;refine Sm.bind (keys_ok fu d hd.1.1 (by rw [hM] at *; omega)) fun r hr => Sm.some ⟨hr.1, fun x => by rw [hr.2 x, hd.2.1 x], ?_⟩
  have hp := (List.perm_ext_iff_of_nodup hr.1.nodup hd.1.1).2 hr.2;rw [hp.length_eq, ks_len];exact hdl
theorem cmp_uniq {l r s : List ByteArray} (h : Cmp l r) (h' : Cmp l s) : r = s := ss_uniq h.1 h'.1 fun x => by rw [h.2.1 x, h'.2.1 x]
end Go.Proofs.YtgpioploehgpdaaGreat
set_option linter.unusedVariables false
set_option linter.unusedSimpArgs false
set_option maxRecDepth 100000
namespace Go.Proofs.YtgpioploehgpdaaGreat
open Go.PG Go.PG.PH
theorem nd_len : ∀ {k l : List ByteArray}, k.Nodup -> (∀ x ∈ k, x ∈ l) -> k.length <= l.length
 | [], l, _, _ => Nat.zero_le _
 | x :: k, l, hn, hs => by
  obtain ⟨h1, h2⟩ := List.nodup_cons.1 hn;obtain ⟨p, q, e⟩ := List.append_of_mem (hs x (by simp));have := nd_len (k := k) (l := p ++ q) h2 fun y hy => by
   have := hs y (by simp [hy]);rw [e] at this;simp only [List.mem_append, List.mem_cons] at this ⊢;rcases this with h | rfl | h
   ·exact .inl h
   ·exact absurd hy h1
   ·exact .inr h
  rw [e];simp only [List.length_cons, List.length_append] at this ⊢;omega
theorem nd_eq {k l : List ByteArray} (hk : k.Nodup) (hs : ∀ x ∈ k, x ∈ l) (hl : l.length <= k.length) : ∀ x ∈ l, x ∈ k := by
 intro x hx;refine Classical.byContradiction fun h => ?_
 have := nd_len (k := x :: k) (l := l) (List.nodup_cons.2 ⟨h, hk⟩) fun y hy => by
  rcases List.mem_cons.1 hy with rfl | hy
  ·exact hx
  ·exact hs y hy
 simp only [List.length_cons] at this;omega
def artA (x : Ar) : List ByteArray := namesOf x.2.2.1 ++ namesOf x.2.2.2.1
def allN (b : List Act) : List ByteArray := (rulesL b).flatMap fun r => artA r.2.2
theorem allN_len (b : List Act) [hb : Fit b] (hl : Lim b) : (allN b).length <= LT := by
 have hr480 := lim_rules' hl;refine Nat.le_trans (flat_len_le _ (2 * M20) _ fun r hr => ?_) (Nat.mul_le_mul_right _ hr480);unfold rulesL at hr;simp only [List.mem_flatMap, List.mem_map] at hr;obtain ⟨a, ha, x, hx, rfl⟩ := hr;have hft := (hb.act a ha).2.2.2.2 x hx;have h1 := namesOf_len x.2.2.1;have h2 := namesOf_len x.2.2.2.1;have h3 := hft.1.1;have h4 := hft.2.1.1
 show (namesOf x.2.2.1 ++ namesOf x.2.2.2.1).length <= 2 * M20
 rw [List.length_append];omega
theorem look_all {b : List Act} {s x : ByteArray} (h : x ∈ lookL b s) : x ∈ allN b := by
 rw [lookL_rules] at h;unfold allN;rw [List.mem_flatMap] at h ⊢;obtain ⟨r, hr, hx⟩ := h;refine ⟨r, hr, ?_⟩;unfold artN at hx;cases e : r.2.2.2.1.toList == s.toList with
 | true => rw [e] at hx; exact hx
 | false => rw [e] at hx; cases hx
theorem sum_add {α : Type} (f g : α -> Nat) : ∀ S : List α, (S.map fun s => f s + g s).sum = (S.map f).sum + (S.map g).sum
 | [] => rfl
 | s :: S => by
  have := sum_add f g S;simp only [List.map_cons, List.sum_cons];omega
theorem sum_art (x : Ar) : ∀ S : List ByteArray, S.Nodup -> (S.map fun s => (artN s x).length).sum <= (artA x).length
 | [], _ => Nat.zero_le _
 | s :: S, h => by
  obtain ⟨h1, h2⟩ := List.nodup_cons.1 h;have ih := sum_art x S h2;simp only [List.map_cons, List.sum_cons];cases e : x.2.1.toList == s.toList with
  | false =>
   have : artN s x = [] := by unfold artN; rw [e]; rfl
   rw [this];simpa using ih
  | true =>
   have : artN s x = artA x := by unfold artN; rw [e]; rfl
   rw [this];have hz : ∀ S : List ByteArray, s ∉ S -> (S.map fun s => (artN s x).length).sum = 0 := by
    intro S;induction S with
    | nil => intro _; rfl
    | cons t S ih =>
     intro hs;have ht : (x.2.1.toList == t.toList) = false := by
      cases e2 : x.2.1.toList == t.toList with
      | false => rfl
      | true =>
       have : s = t := bytes_in ((beq_iff_eq.1 e).symm.trans (beq_iff_eq.1 e2));exact absurd (by simp [this]) hs
     have : artN t x = [] := by unfold artN; rw [ht]; rfl
     simp only [List.map_cons, List.sum_cons, this, List.length_nil, Nat.zero_add];exact ih fun h => hs (by simp [h])
   rw [hz S h1];omega
def wt (b : List Act) (S : List ByteArray) : Nat := (S.map fun s => (lookL b s).length).sum
theorem wt_le (b : List Act) (S : List ByteArray) (h : S.Nodup) : wt b S <= (allN b).length := by
 unfold wt allN;simp only [lookL_rules];generalize rulesL b = R;induction R with
 | nil =>
  have : ∀ S : List ByteArray, (S.map fun s => (([] : List Rl).flatMap fun r => artN s r.2.2).length).sum = 0 := by
   intro S;induction S with
   | nil => rfl
   | cons s S ih => simp only [List.map_cons, List.sum_cons, ih]; rfl
  rw [this]; exact Nat.zero_le _
 | cons r R ih =>
  have e : (S.map fun s => ((r :: R).flatMap fun r => artN s r.2.2).length) = S.map fun s => (artN s r.2.2).length + (R.flatMap fun r => artN s r.2.2).length := by
   refine List.map_congr_left fun s _ => ?_
   rw [List.flatMap_cons, List.length_append]
  rw [e, sum_add, List.flatMap_cons, List.length_append];have := sum_art r.2.2 S h;omega
theorem wt_snoc (b : List Act) (S : List ByteArray) (x : ByteArray) : wt b (S ++ [x]) = wt b S + (lookL b x).length := by
 unfold wt; simp
def Deep (b : List Act) (attr : ByteArray) (r : List ByteArray) : Prop := SS r /\ (∀ x, x ∈ r ↔ Lead (lookL b) attr x) /\ r.length <= LT
theorem lead_all {b : List Act} {s x : ByteArray} (h : Lead (lookL b) s x) : x ∈ allN b := by
 cases h with
 | one h => exact look_all h
 | more _ h => exact look_all h
theorem deep_uniq {b : List Act} {attr : ByteArray} {r s : List ByteArray} (h : Deep b attr r) (h' : Deep b attr s) : r = s := ss_uniq h.1 h'.1 fun x => by rw [h.2.1 x, h'.2.1 x]
theorem deep_ok (fu : Nat) [hf : Big fu] (b : List Act) [hb : Fit b] (hl : Lim b) (attr : ByteArray) : Sm (Deep b attr) (look_deep fu b attr) := by
 have hlim := lim_eq;have hM := M20_eq;have hfu := hf.h;have hT := allN_len b hl;have hLT : LT = 1006632960 := by unfold LT; rw [hM]
 obtain ⟨T, hTd⟩ : ∃ T, T = (allN b).length := ⟨_, rfl⟩;rw [<- hTd] at hT;have hlk : ∀ s, (lookL b s).length <= T := fun s => by
  have := wt_le b [s] (by simp);unfold wt at this;simp at this;omega
 unfold look_deep;refine Sm.bind (at_ok fu b hl attr : Sm (Cmp (lookL b attr)) (look_at_w0 fu b attr)) fun r0 hr0 => ?_
 have hr0l := hr0.2.2;have hlka := hlk attr;refine Sm.whK (fun d : Int × Int × List (ByteArray × Bool) × List ByteArray => d.1.toNat + d.2.1.toNat <= d.2.2.2.length /\ IsSet d.2.2.1 /\ (∀ x ∈ ks d.2.2.1, Lead (lookL b) attr x) /\ (∀ x ∈ (d.2.2.2.drop d.1.toNat).take d.2.1.toNat, Lead (lookL b) attr x) /\
  (∀ y ∈ lookL b attr, y ∈ ks d.2.2.1 \/ y ∈ (d.2.2.2.drop d.1.toNat).take d.2.1.toNat) /\ (∀ s ∈ ks d.2.2.1, ∀ y ∈ lookL b s, y ∈ ks d.2.2.1 \/ y ∈ (d.2.2.2.drop d.1.toNat).take d.2.1.toNat) /\
  d.2.1.toNat + (T - wt b (ks d.2.2.1)) <= 2 * T) (fun d => d.2.1.toNat + (T - wt b (ks d.2.2.1))) (fun d self hI hself => ?_) fu _ ⟨by simp only; omega, ⟨by simp [ks], by simp⟩, by simp [ks], fun x hx => ?_, fun y hy => .inr ?_, by simp [ks], ?_⟩ ?_
 rotate_left
 ·simp only [Int.toNat_zero, List.drop_zero] at hx;exact .one ((hr0.2.1 x).1 (List.mem_of_mem_take hx))
 ·simp only [Int.toNat_zero, List.drop_zero];rw [show ((r0.length : Int)).toNat = r0.length by omega, List.take_length];exact (hr0.2.1 y).2 hy
 ·simp only; omega
 ·simp only; omega
 obtain ⟨off, len, seen, lst⟩ := d;obtain ⟨i1, i2, i3, i4, i5, i6, i7⟩ := hI;simp only at i1 i2 i3 i4 i5 i6 i7 hself ⊢;have hw := wt_le b (ks seen) i2.1;rw [<- hTd] at hw;obtain ⟨o, ho⟩ : ∃ o, o = off.toNat := ⟨_, rfl⟩;obtain ⟨n, hn⟩ : ∃ n, n = len.toNat := ⟨_, rfl⟩;rw [<- hn] at i1 i4 i5 i6 i7 hself ⊢;rw [<- ho] at i1 i4 i5 i6 ⊢;have hsl : seen.length <= T := by
  have := nd_len i2.1 fun x hx => lead_all (i3 x hx)
  rw [ks_len, <- hTd] at this;exact this
 refine Sm.cond (fun c => ?_) fun c => ?_
 ·have c := of_decide_eq_true c;have hlt : o < lst.length := by omega
  have hx0 : lst[o]? = some lst[o] := List.getElem?_eq_getElem hlt;obtain ⟨x, hx⟩ : ∃ x, x = lst[o] := ⟨_, rfl⟩;rw [<- hx] at hx0;have htodo : (lst.drop o).take n = x :: (lst.drop (o + 1)).take (n - 1) := by
   rw [List.drop_eq_getElem_cons hlt, <- hx];obtain ⟨m, rfl⟩ : ∃ m, n = m + 1 := ⟨n - 1, by omega⟩;rfl
  have hxL : Lead (lookL b) attr x := i4 x (by rw [htodo]; simp);refine Sm.join (fun s : Int × Int × List (ByteArray × Bool) × List ByteArray => s.1.toNat + s.2.1.toNat <= s.2.2.2.length /\ 1 <= s.2.1.toNat /\ IsSet s.2.2.1 /\ (∀ x ∈ ks s.2.2.1, Lead (lookL b) attr x) /\ (∀ x ∈ (s.2.2.2.drop s.1.toNat).take s.2.1.toNat, Lead (lookL b) attr x) /\
   (∀ y ∈ lookL b attr, y ∈ ks s.2.2.1 \/ y ∈ (s.2.2.2.drop s.1.toNat).take s.2.1.toNat) /\ (∀ t ∈ ks s.2.2.1, ∀ y ∈ lookL b t, y ∈ ks s.2.2.1 \/ y ∈ (s.2.2.2.drop s.1.toNat).take s.2.1.toNat) /\
   s.2.2.2[s.1.toNat]? = some x /\ x ∈ ks s.2.2.1 /\ s.2.1.toNat - 1 + (T - wt b (ks s.2.2.1)) < n + (T - wt b (ks seen))) (fun s hs => ?_) fun K hK => ?_
  ·obtain ⟨off2, len2, seen2, lst2⟩ := s;obtain ⟨s1, s2, s3, s4, s5, s6, s7, s8, s9, s10⟩ := hs;simp only at s1 s2 s3 s4 s5 s6 s7 s8 s9 s10 ⊢;obtain ⟨o2, ho2⟩ : ∃ o2, o2 = off2.toNat := ⟨_, rfl⟩;obtain ⟨n2, hn2⟩ : ∃ n2, n2 = len2.toNat := ⟨_, rfl⟩;rw [<- hn2] at s1 s2 s5 s6 s7 s10 ⊢;rw [<- ho2] at s1 s5 s6 s7 s8 ⊢;have e1 : Int.toNat (1 : Int) = 1 := rfl;have e2 : (((o2 + 1 : Nat) : Int)).toNat = o2 + 1 := by omega
   have e3 : (((n2 - 1 : Nat) : Int)).toNat = n2 - 1 := by omega
   have hlt2 : o2 < lst2.length := by omega
   have hx2 : lst2[o2] = x := by
    rw [List.getElem?_eq_getElem hlt2] at s8;exact Option.some.inj s8
   have htodo2 : (lst2.drop o2).take n2 = x :: (lst2.drop (o2 + 1)).take (n2 - 1) := by
    rw [List.drop_eq_getElem_cons hlt2, hx2];obtain ⟨m, rfl⟩ : ∃ m, n2 = m + 1 := ⟨n2 - 1, by omega⟩;rfl
   have drp : ∀ y, (y ∈ ks seen2 \/ y ∈ (lst2.drop o2).take n2) -> (y ∈ ks seen2 \/ y ∈ (lst2.drop (o2 + 1)).take (n2 - 1)) := by
    rintro y (h | h)
    ·exact .inl h
    ·rw [htodo2] at h;rcases List.mem_cons.1 h with rfl | h
     ·exact .inl s9
     ·exact .inr h
   refine Sm.chk ⟨by omega, by omega⟩ ?_;rw [e1];refine hself _ ⟨?_, s3, s4, ?_, ?_, ?_, ?_⟩ ?_
   ·simp only [e2, e3]; omega
   ·simp only [e2, e3];exact fun y hy => s5 y (by rw [htodo2]; simp [hy])
   ·simp only [e2, e3];exact fun y hy => drp y (s6 y hy)
   ·simp only [e2, e3];exact fun t ht y hy => drp y (s7 t ht y hy)
   ·simp only [e3]; omega
   ·simp only [e3]; omega
  ·have e0 : o + Int.toNat (0 : Int) = o := rfl;refine Sm.chk ⟨by omega, by omega⟩ ?_;rw [e0, hx0];simp only [Option.bind_some];refine Sm.cond (fun c2 => ?_) fun c2 => ?_
   ·have hnot : x ∉ ks seen := fun h => by rw [(isSet_get i2 x).2 h] at c2; cases c2
    refine Sm.chk ⟨by omega, by omega⟩ (Sm.chk (by omega) (Sm.chk ⟨by omega, by omega⟩ ?_));refine Sm.bind (at_ok fu b hl x : Sm (Cmp (lookL b x)) (look_at_w0 fu b x)) fun r hr => ?_
    have hrl := hr.2.2;have hlkx := hlk x;obtain ⟨hk1, hk2⟩ : x ∉ ks seen /\ ks (mset Ty.str.beq x true seen) = ks seen ++ [x] := by
     rcases ks_mset x true seen with ⟨h, _⟩ | h
     ·exact absurd h hnot
     ·exact h
    have hset := isSet_mset i2 x;have hw2 := wt_le b _ hset.1;rw [<- hTd, hk2, wt_snoc] at hw2;refine Sm.chk ⟨by omega, by omega⟩ (hK _ ?_);have hnl : ((lst.drop o).take n ++ r).length = n + r.length := by
     rw [List.length_append, List.length_take, List.length_drop]; omega
    have et : ∀ l : List ByteArray, (List.drop (Int.toNat 0) l).take ((l.length : Int)).toNat = l := fun l => by
     rw [show ((l.length : Int)).toNat = l.length by omega];simp
    have em : ∀ y, y ∈ ks (mset Ty.str.beq x true seen) ↔ y = x \/ y ∈ ks seen := fun y => mem_mset x true seen y
    refine ⟨?_, ?_, hset, ?_, ?_, ?_, ?_, ?_, (em x).2 (.inl rfl), ?_⟩
    ·simp only; omega
    ·simp only; rw [hnl]; omega
    ·intro y hy;rcases (em y).1 hy with rfl | hy
     ·exact hxL
     ·exact i3 y hy
    ·simp only [et];intro y hy;rcases List.mem_append.1 hy with hy | hy
     ·exact i4 y hy
     ·exact .more hxL ((hr.2.1 y).1 hy)
    ·simp only [et];intro y hy;rcases i5 y hy with h | h
     ·exact .inl ((em y).2 (.inr h))
     ·exact .inr (List.mem_append.2 (.inl h))
    ·simp only [et];intro t ht y hy;rcases (em t).1 ht with rfl | ht
     ·exact .inr (List.mem_append.2 (.inr ((hr.2.1 y).2 hy)))
     ·rcases i6 t ht y hy with h | h
      ·exact .inl ((em y).2 (.inr h))
      ·exact .inr (List.mem_append.2 (.inl h))
    ·simp only [Int.toNat_zero];rw [htodo];rfl
    ·simp only;rw [hk2, wt_snoc, hnl];omega
   ·have hin : x ∈ ks seen := by
     refine (isSet_get i2 x).1 ?_;simpa using c2
    have e3 : ((o : Int)).toNat = o := by omega
    have e4 : ((n : Int)).toNat = n := by omega
    refine hK _ ⟨?_, ?_, i2, i3, ?_, ?_, ?_, ?_, hin, ?_⟩
    ·simp only [e3, e4]; omega
    ·simp only [e4]; omega
    ·simp only [e3, e4]; exact i4
    ·simp only [e3, e4]; exact i5
    ·simp only [e3, e4]; exact i6
    ·simp only [e3]; exact hx0
    ·simp only [e4]; omega
 ·have c := of_decide_eq_false c;have hn0 : n = 0 := by omega
  subst hn0;simp only [List.take_zero, List.not_mem_nil, or_false] at i5 i6;have hmem : ∀ x, x ∈ ks seen ↔ Lead (lookL b) attr x := fun x => ⟨i3 x, fun h => by
   induction h with
   | one h => exact i5 _ h
   | more _ h ih => exact i6 _ ih _ h⟩
  refine Sm.allR ?_;have hss : SS (sortedS (ks seen)) := sw_ss (sortedS_sw _) ((sortedS_perm (ks seen)).nodup_iff.2 i2.1);refine Sm.anyK (fun done d => d = ks done) (sortedS (ks seen)) ⟨hss, fun x => by rw [(sortedS_perm (ks seen)).mem_iff]; exact hmem x, by rw [sortedS_len, ks_len]; omega⟩ (fun done x d K hx hdl hP hK => ?_) rfl (fun done d hp hP => ?_)
  ·refine sm_eq ?_;refine Sm.chk (by rw [hP, ks_len]; omega) ⟨_, hK _ (by rw [hP]; simp [ks]), rfl⟩
  ·have hpk : (ks done).Perm (ks seen) := hp.map _;refine sm_eq ?_;subst hP;have hl2 : (ks done).length <= LIM := by rw [hpk.length_eq, ks_len]; omega
   refine Sm.bind (sort_sm _ hl2) fun r hr => Sm.chk hr.2.length_eq (Sm.some ?_)
   exact sw_uniq hr.1 (sortedS_sw _) (hr.2.trans (hpk.trans (sortedS_perm (ks seen)).symm))
theorem reach_ok (fu : Nat) [hf : Big fu] (b : List Act) [hb : Fit b] (hl : Lim b) (attr : ByteArray) : Sm (Deep b attr) (zq30 fu b attr) := by
 have hlim := lim_eq;have hM := M20_eq;have hfu := hf.h;have hT := allN_len b hl;have hLT : LT = 1006632960 := by unfold LT; rw [hM]
 have hsz : ∀ d : List (ByteArray × Bool), IsSet d -> (∀ x ∈ ks d, Lead (lookL b) attr x) -> d.length <= LT := fun d h1 h2 => by
  have := nd_len h1.1 fun x hx => lead_all (h2 x hx)
  rw [ks_len] at this;omega
 unfold zq30;refine Sm.whK (fun d : Int × List (ByteArray × Bool) => IsSet d.2 /\ (∀ x ∈ ks d.2, Lead (lookL b) attr x) /\ -1 <= d.1 /\ d.1 <= (d.2.length : Int) /\ (d.1 = -1 \/ ∃ kp : List ByteArray, kp.Nodup /\ (kp.length : Int) = d.1 /\ (∀ x ∈ kp, x ∈ ks d.2) /\ ∀ f, (f ∈ kp \/ f = attr) -> ∀ y ∈ lookL b f, y ∈ ks d.2))
  (fun d => ((LT : Int) + 1 - d.1).toNat) (fun d self hI hself => ?_) fu _ ⟨⟨by simp [ks], by simp⟩, by simp [ks], by simp only; omega, by simp, .inl rfl⟩ (by simp only; omega)
 obtain ⟨n, has⟩ := d;obtain ⟨i1, i2, i3, i4, i5⟩ := hI;simp only at i1 i2 i3 i4 i5 hself ⊢;have hs := hsz has i1 i2;refine Sm.cond (fun c => ?_) fun c => ?_
 ·have c : n ≠ (has.length : Int) := by simpa using c
  refine Sm.bind (P := fun p => (SS p.1 /\ ∀ x, x ∈ p.1 ↔ x ∈ ks has) /\ p.2 = has) (Sm.bind (keys_ok fu has i1.1 (by omega)) fun l hl => Sm.some ⟨hl, rfl⟩) fun p hp => ?_
  obtain ⟨kl, has'⟩ := p;obtain ⟨⟨k1, k2⟩, he⟩ := hp;simp only at k1 k2 he ⊢;subst he;have hkl : kl.length = has'.length := by
   rw [((List.perm_ext_iff_of_nodup k1.nodup i1.1).2 k2).length_eq, ks_len]
  refine Sm.chk (by omega) (Sm.chk (by rw [List.length_append, List.length_singleton]; omega) ?_);refine Sm.cntK (fun k d => IsSet d /\ (∀ x ∈ ks d, Lead (lookL b) attr x) /\ (∀ x ∈ ks has', x ∈ ks d) /\ has'.length <= d.length /\ ∀ f ∈ (kl ++ [attr]).take k, ∀ y ∈ lookL b f, y ∈ ks d) _ 0 _ ⟨i1, i2, fun _ h => h, Nat.le_refl _, by simp⟩ (fun k d K _ hk hI hK => ?_) fun d hd => ?_
  ·obtain ⟨q1, q2, q3, q4, q5⟩ := hI;have hk' : k < (kl ++ [attr]).length := by omega
   refine Sm.chk ⟨by omega, by omega⟩ ?_;rw [show ((k : Int)).toNat = k by omega];refine Sm.get hk' fun f hf => ?_
   have hfL : f = attr \/ Lead (lookL b) attr f := by
    have := List.mem_of_getElem? hf;rcases List.mem_append.1 this with h | h
    ·exact .inr (i2 f ((k2 f).1 h))
    ·exact .inl (List.mem_singleton.1 h)
   have hstep : ∀ y ∈ lookL b f, Lead (lookL b) attr y := fun y hy => by
    rcases hfL with rfl | h
    ·exact .one hy
    ·exact .more h hy
   refine Sm.bind (looks_set fu b hl f) fun r hr => ?_
   refine Sm.for0 (fun j d2 => IsSet d2 /\ (∀ x ∈ ks d2, Lead (lookL b) attr x) /\ (∀ x ∈ ks d, x ∈ ks d2) /\ d.length <= d2.length /\ ∀ y ∈ r.take j, y ∈ ks d2) ⟨q1, q2, fun _ h => h, Nat.le_refl _, by simp⟩ (fun j y d2 K2 hj hy hI2 hK2 => ?_) fun d2 hd2 => hK _ ?_
   ·obtain ⟨p1, p2, p3, p4, p5⟩ := hI2;have hds := hsz d2 p1 p2;have hyl := (hr.2.1 y).1 (List.mem_of_getElem? hy);have em : ∀ z, z ∈ ks (mset Ty.str.beq y true d2) ↔ z = y \/ z ∈ ks d2 := fun z => mem_mset y true d2 z
    refine Sm.chk (by omega) (hK2 _ ⟨isSet_mset p1 y, fun x hx => ?_, fun x hx => (em x).2 (.inr (p3 x hx)), ?_, fun z hz => ?_⟩)
    ·rcases (em x).1 hx with rfl | hx
     ·exact hstep _ hyl
     ·exact p2 x hx
    ·have : d2.length <= (mset Ty.str.beq y true d2).length := by
      rcases ks_mset y true d2 with ⟨_, e⟩ | ⟨_, e⟩
      ·have := congrArg List.length e;rw [ks_len, ks_len] at this; omega
      ·have := congrArg List.length e;rw [ks_len, List.length_append, ks_len] at this; simp at this; omega
     omega
    ·rw [List.take_add_one, hy, List.mem_append] at hz;rcases hz with hz | hz
     ·exact (em z).2 (.inr (p5 z hz))
     ·simp only [Option.toList_some, List.mem_singleton] at hz;exact (em z).2 (.inl hz)
   ·obtain ⟨p1, p2, p3, p4, p5⟩ := hd2;rw [List.take_length] at p5;refine ⟨p1, p2, fun x hx => p3 x (q3 x hx), by omega, fun g hg y hy => ?_⟩;rw [List.take_add_one, hf, List.mem_append] at hg;rcases hg with hg | hg
    ·exact p3 y (q5 g hg y hy)
    ·simp only [Option.toList_some, List.mem_singleton] at hg;subst hg;exact p5 y ((hr.2.1 y).2 hy)
  ·obtain ⟨q1, q2, q3, q4, q5⟩ := hd;rw [Nat.zero_add, show (((kl ++ [attr]).length : Int)).toNat = (kl ++ [attr]).length by omega, List.take_length] at q5;refine hself _ ⟨q1, q2, by simp only; omega, by simp only; omega, .inr ⟨kl, k1.nodup, by simp only; omega, fun x hx => q3 x ((k2 x).1 hx), fun f hf y hy => q5 f ?_ y hy⟩⟩ (by simp only; omega);rcases hf with h | rfl
   ·exact List.mem_append.2 (.inl h)
   ·exact List.mem_append.2 (.inr (by simp))
 ·have c : n = (has.length : Int) := by simpa using c
  rcases i5 with h | ⟨kp, p1, p2, p3, p4⟩
  ·omega
  have hall := nd_eq p1 p3 (by rw [ks_len]; omega);have hmem : ∀ x, x ∈ ks has ↔ Lead (lookL b) attr x := fun x => ⟨i2 x, fun h => by
   induction h with
   | one h => exact p4 _ (.inr rfl) _ h
   | more _ h ih => exact p4 _ (.inl (hall _ ih)) _ h⟩
  refine Sm.bind (P := fun p => (SS p.1 /\ ∀ x, x ∈ p.1 ↔ x ∈ ks has) /\ p.2 = has) (Sm.bind (keys_ok fu has i1.1 (by omega)) fun l hl => Sm.some ⟨hl, rfl⟩) fun p hp => Sm.some ⟨hp.1.1, fun x => by rw [hp.1.2 x]; exact hmem x, ?_⟩
  rw [((List.perm_ext_iff_of_nodup hp.1.1.nodup i1.1).2 hp.1.2).length_eq, ks_len];exact hs
end Go.Proofs.YtgpioploehgpdaaGreat
set_option linter.unusedVariables false
namespace Go.PG.PH
def Pc {R : Type} (Q : R -> Prop) (f : Option R) : Prop := ∀ r, f = some r -> Q r
section
variable {A R S α : Type} {Q : R -> Prop}
theorem Pc.triv {f : Option R} (h : ∀ r, Q r) : Pc Q f := fun r _ => h r
theorem Pc.some {r : R} (h : Q r) : Pc Q (Option.some r) := fun _ e => by cases e; exact h
theorem Pc.none : Pc Q (Option.none : Option R) := fun _ e => by cases e
theorem Pc.bind {P : A -> Prop} {f : Option A} {g : A -> Option R} (hf : Pc P f) (hg : ∀ a, f = Option.some a -> P a -> Pc Q (g a)) : Pc Q (f.bind g) := fun r e => by
 cases hfa : f with
 | none => rw [hfa] at e; cases e
 | some a => rw [hfa] at e; exact hg a hfa (hf a hfa) r e
theorem Pc.bind' {f : Option A} {g : A -> Option R} (hg : ∀ a, f = Option.some a -> Pc Q (g a)) : Pc Q (f.bind g) := Pc.bind (P := fun _ => True) (fun _ _ => trivial) fun a h _ => hg a h
theorem Pc.chk {p : Prop} [Decidable p] {g : Unit -> Option R} (hg : p -> Pc Q (g ())) : Pc Q ((PG.chk p).bind g) := by
 unfold PG.chk;by_cases h : p
 ·rw [if_pos h]; exact hg h
 ·rw [if_neg h]; exact Pc.none
theorem Pc.cond {b : Bool} {f g : Option R} (h1 : b = true -> Pc Q f) (h2 : b = false -> Pc Q g) : Pc Q (bif b then f else g) := by
 cases b with
 | true => exact h1 rfl
 | false => exact h2 rfl
theorem Pc.join (I : S -> Prop) {rest : S -> Option R} {body : (S -> Option R) -> Option R} (hr : ∀ d, I d -> Pc Q (rest d)) (hb : ∀ K : S -> Option R, (∀ d, I d -> Pc Q (K d)) -> Pc Q (body K)) : Pc Q (PH.join rest body) := hb rest hr
theorem Pc.forK {body : Nat -> α -> S -> (S -> Option R) -> Option R} {K : S -> Option R} (I : Nat -> S -> Prop) : ∀ (l : List α) (k : Nat) (s : S), I k s ->
  (∀ (i : Nat) (x : α) (s : S) (K : S -> Option R), k <= i -> l[i - k]? = Option.some x -> I i s -> (∀ s', I (i + 1) s' -> Pc Q (K s')) -> Pc Q (body i x s K)) ->
  (∀ s, I (k + l.length) s -> Pc Q (K s)) -> Pc Q (PH.forK body k l s K)
 | [], k, s, hI, _, hK => hK s hI
 | x :: xs, k, s, hI, hb, hK => by
  refine hb k x s _ (Nat.le_refl _) (by simp) hI fun s' hs' => ?_
  refine Pc.forK I xs (k + 1) s' hs' (fun i y s K hi hy => hb i y s K (by omega) ?_) (fun s hs => hK s (by rw [List.length_cons]; rw [show k + (xs.length + 1) = k + 1 + xs.length by omega]; exact hs));rw [show i - k = (i - (k + 1)) + 1 by omega]; simpa using hy
theorem Pc.for0 {body : Nat -> α -> S -> (S -> Option R) -> Option R} {K : S -> Option R} (I : Nat -> S -> Prop) {l : List α} {s : S} (h0 : I 0 s)
  (hb : ∀ (i : Nat) (x : α) (s : S) (K : S -> Option R), i < l.length -> l[i]? = Option.some x -> I i s -> (∀ s', I (i + 1) s' -> Pc Q (K s')) -> Pc Q (body i x s K))
  (hK : ∀ s, I l.length s -> Pc Q (K s)) : Pc Q (PH.forK body 0 l s K) :=
 Pc.forK I l 0 s h0 (fun i x s K _ hx => hb i x s K (List.getElem?_eq_some_iff.1 hx).1 hx) (fun s hs => hK s (by simpa using hs))
theorem Pc.run {f : Option R} {r : R} (h : Pc Q f) (e : f = Option.some r) : Q r := h r e
end
end Go.PG.PH
set_option linter.unusedVariables false
set_option linter.unusedSimpArgs false
set_option maxRecDepth 100000
namespace Go.Proofs.YtgpioploehgpdaaGreat
open Go.PG Go.PG.PH
theorem ff_at {α : Type} {p : α -> Bool} : ∀ {l : List α} {i : Nat} {x : α}, l[i]? = some x -> p x = true -> (∀ j y, j < i -> l[j]? = some y -> p y = false) -> l.find? p = some x
 | [], _, _, h, _, _ => by simp at h
 | y :: l, 0, x, h, hp, _ => by
  simp only [List.getElem?_cons_zero, Option.some.injEq] at h;subst h;simp [List.find?, hp]
 | y :: l, i + 1, x, h, hp, hn => by
  have h0 := hn 0 y (by omega) rfl;simp only [List.find?, h0];exact ff_at (by simpa using h) hp fun j z hj hz => hn (j + 1) z (by omega) (by simpa using hz)
def attrS (b : List Act) (p : ByteArray) : At × Bool := match (flatA b).find? (fun x => x.1.toList == p.toList) with
 | some x => (x, true)
 | none => ((ByteArray.mk (Array.mk []), 0, false, 0, 0, 0, 0), false)
theorem flatA_split (b : List Act) (i : Nat) (a : Act) (h : b[i]? = some a) : flatA b = flatA (b.take i) ++ a.2.2.2.1 ++ flatA (b.drop (i + 1)) := by
 obtain ⟨hi, rfl⟩ := List.getElem?_eq_some_iff.1 h;unfold flatA
 conv => lhs; rw [<- List.take_append_drop i b, List.drop_eq_getElem_cons hi]
 rw [List.flatMap_append, List.flatMap_cons, List.append_assoc]
theorem attr_ok (b : List Act) (p : ByteArray) : body_Attr b p = some (attrS b p) := by
 refine sm_eq ?_;unfold body_Attr;refine Sm.for0 (fun k _ => (flatA (b.take k)).find? (fun x => x.1.toList == p.toList) = none) rfl (fun i a s K hi ha hI hK => ?_) fun s hs => Sm.some ?_
 ·have hsp := flatA_split b i a ha;refine Sm.for0 (fun k _ => ∀ j y, j < k -> a.2.2.2.1[j]? = some y -> (y.1.toList == p.toList) = false) (fun j y h => by omega) (fun j y s2 K2 hj hy hI2 hK2 => ?_) fun s2 hs2 => hK _ ?_
  ·refine Sm.cond (fun e => Sm.some ?_) fun e => hK2 _ fun q z hq hz => ?_
   ·unfold attrS;have hf := ff_at (p := fun x : At => x.1.toList == p.toList) hy e hI2;rw [hsp, List.find?_append, List.find?_append, hI, hf];rfl
   ·by_cases h : q < j
    ·exact hI2 q z h hz
    ·have : q = j := by omega
     subst this;rw [hy] at hz; cases hz; exact e
  ·rw [flatA_take b i a ha, List.find?_append, hI, Option.none_or, List.find?_eq_none];intro y hy;obtain ⟨j, hj, rfl⟩ := List.getElem_of_mem hy;rw [hs2 j _ hj (List.getElem?_eq_getElem hj)]; simp
 ·rw [List.take_length] at hs;unfold attrS;rw [hs]
theorem attrOf_ok (b : List Act) (p : ByteArray) : zq27 b p = some (attrS b p) := attr_ok b p
theorem attrS_mem {b : List Act} {p : ByteArray} (h : (attrS b p).2 = true) : (attrS b p).1 ∈ flatA b /\ (attrS b p).1.1 = p := by
 unfold attrS at h ⊢;cases e : (flatA b).find? (fun x => x.1.toList == p.toList) with
 | none => rw [e] at h; cases h
 | some x =>
  refine ⟨List.mem_of_find?_eq_some e, ?_⟩;have := List.find?_some e;exact bytes_in (by simpa using this)
theorem attrS_of {b : List Act} (hn : ((flatA b).map (·.1)).Nodup) {x : At} (hx : x ∈ flatA b) : attrS b x.1 = (x, true) := by
 unfold attrS;have key : ∀ l : List At, (l.map (·.1)).Nodup -> x ∈ l -> l.find? (fun y => y.1.toList == x.1.toList) = some x := by
  intro l;induction l with
  | nil => intro _ h; cases h
  | cons y l ih =>
   intro hn hx;rw [List.map_cons, List.nodup_cons] at hn;rcases List.mem_cons.1 hx with rfl | hx
   ·simp [List.find?]
   ·have : (y.1.toList == x.1.toList) = false := by
     cases e : y.1.toList == x.1.toList with
     | false => rfl
     | true =>
      have : y.1 = x.1 := bytes_in (by simpa using e);exact absurd (List.mem_map.2 ⟨x, hx, this.symm⟩) hn.1
    rw [List.find?_cons, this];exact ih hn.2 hx
 rw [key _ hn hx]
theorem add_pc (fu : Nat) (s : ByteArray) (d : List (ByteArray × Bool)) (hd : IsSet d) : Pc (fun r => r.1 = 0 -> IsSet r.2 /\ ks r.2 = ks d ++ [s]) ((word_Name fu s).bind fun r =>
  bif !r then some ((15 : Int), d)
  else
   bif (mget Ty.str.beq s d).getD false then some ((5 : Int), d)
   else (chk (d.length + (1 : Nat) <= LIM)).bind fun x_1 => some ((0 : Int), mset Ty.str.beq s true d)) := by
 refine Pc.bind' fun r _ => Pc.cond (fun _ => Pc.some (by intro h; cases h)) fun _ => Pc.cond (fun _ => Pc.some (by intro h; cases h)) fun e => Pc.chk fun _ => Pc.some fun _ => ⟨isSet_mset hd s, ?_⟩
 rcases ks_mset s true d with ⟨h, _⟩ | ⟨_, h⟩
 ·rw [(isSet_get hd s).2 h] at e; cases e
 ·exact h
theorem ne_of {r : Int} {P : Prop} (h : (r != (0 : Int)) = true) : r = 0 -> P := fun e => by subst e; cases h
theorem eq_of {r : Int} (h : (r != (0 : Int)) = false) : r = 0 := by simpa using h
def nms (b : List Act) : List ByteArray := (flatA b).map (·.1)
theorem nms_take (b : List Act) (i : Nat) (x : Act) (h : b[i]? = some x) : nms (b.take (i + 1)) = nms (b.take i) ++ x.2.2.2.1.map (·.1) := by
 unfold nms; rw [flatA_take b i x h, List.map_append]
theorem parts_pc (fu : Nat) (b : List Act) : Pc (fun r => r = 0 -> (nms b).Nodup) (body_parts fu b) := by
 unfold body_parts;refine Pc.for0 (fun k d => IsSet d.1 /\ IsSet d.2.1 /\ ks d.2.1 = nms (b.take k) /\ IsSet d.2.2) ⟨⟨by simp [ks], by simp⟩, ⟨by simp [ks], by simp⟩, rfl, by simp [ks], by simp⟩ (fun i x d K hi hx hI hK => ?_) fun d hd => Pc.some fun _ => ?_
 ·obtain ⟨i1, i2, i3, i4⟩ := hI;refine Pc.bind (add_pc fu x.1 d.1 i1) fun r _ hr => Pc.cond (fun e => Pc.some (ne_of e)) fun e => ?_
  have hr := hr (eq_of e);refine Pc.join (fun _ => True) (fun d1 _ => ?_) fun K2 hK2 => ?_
  ·refine Pc.cond (fun _ => Pc.some (by intro h; cases h)) fun _ => ?_
   refine Pc.for0 (fun k d2 => IsSet d2 /\ ks d2 = nms (b.take i) ++ (x.2.2.2.1.take k).map (·.1)) ⟨i2, by simpa using i3⟩ (fun j y d2 K3 hj hy hI2 hK3 => ?_) fun d2 hd2 => ?_
   ·refine Pc.bind (add_pc fu y.1 d2 hI2.1) fun r2 _ hr2 => Pc.cond (fun e => Pc.some (ne_of e)) fun e => ?_
    have hr2 := hr2 (eq_of e);refine Pc.bind' fun r3 _ => Pc.cond (fun e => Pc.some (ne_of e)) fun _ => hK3 _ ⟨hr2.1, ?_⟩
    rw [hr2.2, hI2.2, List.take_add_one, hy];simp
   ·refine Pc.for0 (fun k d3 => IsSet d3) i4 (fun j y d3 K3 hj hy hI3 hK3 => ?_) fun d3 hd3 => hK _ ⟨hr.1, hd2.1, ?_, hd3⟩
    ·refine Pc.bind (add_pc fu y.1 d3 hI3) fun r2 _ hr2 => Pc.cond (fun e => Pc.some (ne_of e)) fun e => ?_
     exact Pc.bind' fun r3 _ => Pc.cond (fun e => Pc.some (ne_of e)) fun _ => hK3 _ (hr2 (eq_of e)).1
    ·rw [nms_take b i x hx];have := hd2.2;rw [List.take_length] at this;exact this
  ·refine Pc.cond (fun _ => hK2 _ trivial) fun _ => Pc.cond (fun _ => hK2 _ trivial) fun _ => Pc.cond (fun _ => hK2 _ trivial) fun _ => hK2 _ trivial
 ·rw [List.take_length] at hd;rw [<- hd.2.2.1];exact hd.2.1.1
def ArtOk (b : List Act) (x : Ar) : Prop := (attrS b x.2.1).2 = true /\ (attrS b x.2.1).1.2.2.1 = false
theorem article_pc (fu : Nat) (b : List Act) (x : Ar) : Pc (fun r => r = 0 -> ArtOk b x) (body_article fu b x) := by
 unfold body_article;refine Pc.join (fun _ => True) (fun d _ => ?_) fun K hK => Pc.cond (fun _ => hK _ trivial) fun _ => hK _ trivial
 refine Pc.cond (fun _ => Pc.some (by intro h; cases h)) fun _ => Pc.cond (fun _ => Pc.some (by intro h; cases h)) fun _ => ?_
 rw [attr_ok b x.2.1, Option.bind_some];refine Pc.cond (fun _ => Pc.some (by intro h; cases h)) fun e1 => Pc.cond (fun _ => Pc.some (by intro h; cases h)) fun e2 => ?_
 exact Pc.triv fun r _ => ⟨by simpa using e1, e2⟩
structure Good (b : List Act) : Prop where
 lim : Lim b
 nd : (nms b).Nodup
 art : ∀ a ∈ b, ∀ x ∈ a.2.2.2.2.2, ArtOk b x
theorem check_pc (fu : Nat) (b : List Act) [hb : Fit b] : Pc (fun r => r = 0 -> Good b) (body_Check fu b) := by
 unfold body_Check;have hlimits : Pc (fun r => r = 0 -> Lim b) (body_limits b) := fun r e => by
  obtain ⟨r', e', h⟩ := (inferInstance : Tot (body_limits b) (fun r => r = 0 -> Lim b)).h;rw [e] at e'; cases e'; exact h
 refine Pc.bind hlimits fun r _ hr => Pc.cond (fun e => Pc.some (ne_of e)) fun e => ?_
 have hlim := hr (eq_of e);refine Pc.bind (parts_pc fu b) fun r2 _ hr2 => Pc.cond (fun e => Pc.some (ne_of e)) fun e2 => ?_
 have hnd := hr2 (eq_of e2);refine Pc.for0 (fun k _ => ∀ j a, j < k -> b[j]? = some a -> ∀ x ∈ a.2.2.2.2.2, ArtOk b x) (fun j a h => by omega) (fun i a d K hi ha hI hK => ?_) fun d hd => ?_
 ·refine Pc.for0 (fun k _ => ∀ j x, j < k -> a.2.2.2.2.2[j]? = some x -> ArtOk b x) (fun j x h => by omega) (fun j x d2 K2 hj hx hI2 hK2 => ?_) fun d2 hd2 => hK _ fun q c hq hc => ?_
  ·refine Pc.bind' fun r3 _ => Pc.cond (fun e => Pc.some (ne_of e)) fun _ => Pc.bind (article_pc fu b x) fun r4 _ hr4 => Pc.cond (fun e => Pc.some (ne_of e)) fun e4 => Pc.chk fun _ => Pc.chk fun _ => hK2 _ fun q y hq hy => ?_
   by_cases h : q < j
   ·exact hI2 q y h hy
   ·have : q = j := by omega
    subst this;rw [hx] at hy; cases hy;exact hr4 (eq_of e4)
  ·by_cases h : q < i
   ·exact hI q c h hc
   ·have : q = i := by omega
    subst this;rw [ha] at hc; cases hc;intro x hx;obtain ⟨j, hj, rfl⟩ := List.getElem_of_mem hx;exact hd2 j _ hj (List.getElem?_eq_getElem hj)
 ·refine Pc.triv fun r _ => ⟨hlim, hnd, fun a ha x hx => ?_⟩
  obtain ⟨j, hj, rfl⟩ := List.getElem_of_mem ha;exact hd j _ hj (List.getElem?_eq_getElem hj) x hx
end Go.Proofs.YtgpioploehgpdaaGreat
set_option linter.unusedVariables false
set_option linter.unusedSimpArgs false
set_option maxRecDepth 100000
namespace Go.Proofs.YtgpioploehgpdaaGreat
open Go.PG Go.PG.PH
theorem sf_perm {α : Type} {lt : α -> α -> Bool} (hlt : PH.SWO lt) : ∀ {X Y : List α}, SF lt X Y -> X.Perm Y
 | [], [], _ => .refl _
 | [], y :: Y, h => by have := (h.symm).mem hlt (x := y) (by simp); cases this
 | x :: X, Y, h => by
  have hself : same lt x x = true := by simp [same, hlt.irr]
  have key : ∀ Y : List α, (Y.filter (same lt x)).head? = some x -> ∃ p q, Y = p ++ x :: q /\ ∀ z ∈ p, same lt x z = false := by
   intro Y;induction Y with
   | nil => intro h; cases h
   | cons y Y ih =>
    intro h;cases e : same lt x y with
    | true =>
     rw [List.filter_cons_of_pos e] at h;simp only [List.head?_cons, Option.some.injEq] at h;subst h;exact ⟨[], Y, rfl, by simp⟩
    | false =>
     rw [List.filter_cons_of_neg (by rw [e]; simp)] at h;obtain ⟨p, q, h1, h2⟩ := ih h;refine ⟨y :: p, q, by rw [h1]; rfl, fun z hz => ?_⟩;rcases List.mem_cons.1 hz with rfl | hz
     ·exact e
     ·exact h2 z hz
  obtain ⟨p, q, rfl, hp⟩ := key Y (by rw [<- h x, List.filter_cons_of_pos hself]; rfl);have hr : SF lt X (p ++ q) := fun k => by
   have hk := h k;by_cases e : same lt k x = true
   ·have hpk : p.filter (same lt k) = [] := by
     rw [List.filter_eq_nil_iff];intro z hz hs;have h1 := hp z hz;unfold same at h1 e hs;simp only [Bool.and_eq_true, Bool.not_eq_true', Bool.and_eq_false_iff, Bool.not_eq_false'] at h1 e hs;rcases h1 with h1 | h1
     ·have := hlt.ntr z k x hs.1 e.2;rw [h1] at this; cases this
     ·have := hlt.ntr x k z e.1 hs.2;rw [h1] at this; cases this
    rw [List.filter_cons_of_pos e, List.filter_append, hpk, List.filter_cons_of_pos e] at hk;rw [List.filter_append, hpk];simp only [List.nil_append, List.cons.injEq, true_and] at hk ⊢;exact hk
   ·rw [List.filter_cons_of_neg e, List.filter_append, List.filter_cons_of_neg e] at hk;rw [List.filter_append];exact hk
  exact ((sf_perm hlt hr).cons x).trans List.perm_middle.symm
theorem srtA_names {A : List At} (h : PH.Srt ltA A) : SW (A.map (·.1)) := by
 unfold SW;rw [List.pairwise_map];exact h
theorem hasS_ok (l : List ByteArray) (p : ByteArray) : Sm (fun r => r = true ↔ p ∈ l) (zq55 l p) := by
 unfold zq55 zq60;refine Sm.bind (P := fun r => (0 <= r /\ p ∈ l) \/ (r = -1 /\ p ∉ l)) ?_ fun r hr => Sm.some ?_
 ·refine Sm.for0 (fun k _ => ∀ j y, j < k -> l[j]? = some y -> p ≠ y) (fun j y h => by omega) (fun i x s K hi hx hI hK => ?_) fun s hs => Sm.some (.inr ⟨rfl, fun h => ?_⟩)
  ·rw [idx_at hx, Option.bind_some];refine Sm.cond (fun e => Sm.some (.inl ⟨by omega, ?_⟩)) fun e => hK _ fun j y hj hy => ?_
   ·have : p = x := bytes_in (by simpa using e);rw [this]; exact List.mem_of_getElem? hx
   ·by_cases h : j < i
    ·exact hI j y h hy
    ·have : j = i := by omega
     subst this;rw [hx] at hy; cases hy;rintro rfl;simp at e
  ·obtain ⟨j, hj, e⟩ := List.getElem_of_mem h;exact hs j p hj (by rw [List.getElem?_eq_getElem hj, e]) rfl
 ·rcases hr with ⟨h1, h2⟩ | ⟨h1, h2⟩
  ·simp [h1, h2]
  ·rw [h1]; simp [h2]
theorem eqS_self (l : List ByteArray) : zq56 l l = some true := by
 refine sm_eq ?_;unfold zq56;refine Sm.cond (fun e => by simp at e) fun _ => ?_
 refine Sm.for0 (fun _ _ => True) trivial (fun i x s K hi hx _ hK => ?_) fun _ _ => Sm.some rfl
 rw [idx_at hx, Option.bind_some, Option.bind_some];refine Sm.cond (fun e => by simp at e) fun _ => hK _ trivial
theorem deep_none {b : List Act} (hg : Good b) {attr : ByteArray} (hi : (attrS b attr).2 = true -> (attrS b attr).1.2.2.1 = true) {r : List ByteArray} (hr : Deep b attr r) : r = [] := by
 have hnil : lookL b attr = [] := by
  unfold lookL;rw [List.flatMap_eq_nil_iff];intro a ha;rw [List.flatMap_eq_nil_iff];intro x hx;unfold artN;cases e : x.2.1.toList == attr.toList with
  | false => rfl
  | true =>
   obtain ⟨h1, h2⟩ := hg.art a ha x hx;have : x.2.1 = attr := bytes_in (by simpa using e);rw [this] at h1 h2;rw [hi h1] at h2; cases h2
 refine List.eq_nil_iff_forall_not_mem.2 fun x hx => ?_
 have := (hr.2.1 x).1 hx;have hno : ∀ y, ¬ Lead (lookL b) attr y := fun y h => by
  induction h with
  | one h => rw [hnil] at h; cases h
  | more _ _ ih => exact ih
 exact hno x this
def inp (b : List Act) (s : ByteArray) : Bool := (attrS b s).1.2.2.1
theorem attrS_no {b : List Act} {s : ByteArray} (h : inp b s = true) : (attrS b s).2 = true := by
 unfold inp attrS at *;split
 ·rfl
 ·rename_i e; rw [e] at h; cases h
theorem filter_take {α β : Type} (p : α -> Bool) (f : α -> β) {l : List α} {k : Nat} {x : α} (h : l[k]? = some x) :
  ((l.take (k + 1)).filter p).map f = ((l.take k).filter p).map f ++ (bif p x then [f x] else []) := filt_take p f h
theorem inputs_ok (fu : Nat) [hf : Big fu] (b : List Act) [hb : Fit b] (hg : Good b) (attr : ByteArray) (r : List ByteArray) (hr : Deep b attr r) :
  Sm (fun p => p = ((r ++ [attr]).filter (inp b), (0 : Int))) ((chk (r.length + (1 : Nat) <= LIM)).bind fun x =>
     (chk ((↑(r ++ [attr]).length : Int) <= (↑LIM : Int))).bind fun x =>
      cntK
       (fun k d next =>
        (chk ((0 : Int) <= (↑k : Int) /\ (↑k : Int) < (↑(r ++ [attr]).length : Int))).bind fun x =>
         (r ++ [attr])[(↑k : Int).toNat]?.bind fun x =>
          (body_Attr b x).bind fun r => bif r.fst.snd.snd.fst then (chk (d.length + (1 : Nat) <= LIM)).bind fun x_1 => next (d ++ [x]) else next d)
       (0 : Nat) (↑(r ++ [attr]).length : Int).toNat [] fun d => some (d, (0 : Int))) := by
 have hlim := lim_eq
 have hLT : LT = 1006632960 := by unfold LT; rw [M20_eq]
 have hrl := hr.2.2
 have hl2 : (r ++ [attr]).length = r.length + 1 := by simp
 refine Sm.chk (by omega) (Sm.chk (by omega) ?_)
 refine Sm.cntK (fun k d => d = ((r ++ [attr]).take k).filter (inp b)) _ 0 _ (by simp) (fun k d K _ hk hI hK => ?_) fun d hd => Sm.some ?_
 ·have hk' : k < (r ++ [attr]).length := by omega
  refine Sm.chk ⟨by omega, by omega⟩ ?_;rw [show ((k : Int)).toNat = k by omega];refine Sm.get hk' fun x hx => ?_
  have t1 := filter_take (inp b) id hx;simp only [List.map_id] at t1;have t2 : (((r ++ [attr]).take k).filter (inp b)).length <= k := Nat.le_trans (List.length_filter_le _ _) (by simp; omega);rw [attr_ok b x, Option.bind_some];refine Sm.cond (fun e => Sm.chk (by rw [hI]; omega) (hK _ ?_)) fun e => hK _ ?_
  ·rw [t1, hI, show inp b x = true from e]; rfl
  ·rw [t1, hI, show inp b x = false from e]; simp
 ·rw [Nat.zero_add, show (((r ++ [attr]).length : Int)).toNat = (r ++ [attr]).length by omega, List.take_length] at hd;rw [hd]
theorem inputsOf_ok (fu : Nat) [hf : Big fu] (b : List Act) [hb : Fit b] (hg : Good b) (attr : ByteArray) (r : List ByteArray) (hr : Deep b attr r) (ha : (attrS b attr).2 = true) :
  zq28 fu b attr = some ((r ++ [attr]).filter (inp b)) := by
 have hlim := lim_eq
 have hM := M20_eq
 obtain ⟨A, hA, sA⟩ := sorted_ok fu b
 have hperm := (sf_perm swoA sA.1).symm
 have hAl : A.length <= M20 := by rw [hperm.length_eq]; exact hb.tot
 obtain ⟨r', hr', dr'⟩ := reach_ok fu b hg.lim attr
 have : r' = r := deep_uniq dr' hr
 subst this
 obtain ⟨q, hq⟩ : ∃ q : At -> Bool, q = fun a => a.2.2.1 && (a.1.toList == attr.toList || r'.any fun y => a.1.toList == y.toList) := ⟨_, rfl⟩
 have hloop : Sm (fun d => d = (A.filter q).map (·.1)) (zq28 fu b attr) := by
  unfold zq28;rw [hA, Option.bind_some];refine Sm.for0 (fun k d => d = ((A.take k).filter q).map (·.1)) rfl (fun i x d K hi hx hI hK => ?_) fun d hd => Sm.some (by rw [hd, List.take_length])
  have t1 := filt_take q (fun a : At => a.1) hx;have t2 := filt_len q (fun a : At => a.1) A i;refine Sm.join (fun f => f = q x) (fun f hf => ?_) fun K2 hK2 => ?_
  ·refine Sm.cond (fun e => Sm.chk (by rw [hI]; omega) (hK _ ?_)) fun e => hK _ ?_
   ·rw [t1, hI, <- hf, e]; rfl
   ·rw [t1, hI, <- hf, e]; simp
  ·refine Sm.cond (fun e => ?_) fun e => hK2 _ (by rw [hq]; simp only [e]; rfl)
   refine Sm.cond (fun e2 => hK2 _ (by rw [hq]; simp only [e, e2]; rfl)) fun e2 => ?_
   rw [hr', Option.bind_some];refine Sm.bind (hasS_ok r' x.1) fun f hf => hK2 _ ?_
   rw [hq];simp only [e, e2, Bool.true_and, Bool.false_or];rw [Bool.eq_iff_iff, hf, List.any_eq_true];exact ⟨fun h => ⟨_, h, by simp⟩, fun ⟨y, h1, h2⟩ => by rw [bytes_in (a := x.1) (b := y) (by simpa using h2)]; exact h1⟩
 obtain ⟨d, hd, rfl⟩ := hloop
 rw [hd]
 congr 1
 have hnd : (A.map (·.1)).Nodup := (show (A.map (·.1)).Perm (nms b) from hperm.map _).nodup_iff.2 hg.nd
 have hSA : SS (A.map (·.1)) := sw_ss (srtA_names sA.2.2) hnd
 have h1 : SS ((A.filter q).map (·.1)) := hSA.sublist (List.Sublist.map _ (List.filter_sublist))
 have hattr := attrS_mem ha
 have hq' : ∀ a : At, q a = true ↔ a.2.2.1 = true /\ (a.1 = attr \/ a.1 ∈ r') := by
  intro a;rw [hq];simp only [Bool.and_eq_true, Bool.or_eq_true, List.any_eq_true];constructor
  ·rintro ⟨h1, h2⟩;refine ⟨h1, ?_⟩;rcases h2 with h | ⟨y, h3, h4⟩
   ·exact .inl (bytes_in (by simpa using h))
   ·right; rw [bytes_in (a := a.1) (b := y) (by simpa using h4)]; exact h3
  ·rintro ⟨h1, h2⟩;refine ⟨h1, ?_⟩;rcases h2 with h | h
   ·left; rw [h]; simp
   ·right; exact ⟨_, h, by simp⟩
 have hmem : ∀ s, s ∈ (A.filter q).map (·.1) ↔ s ∈ (r' ++ [attr]).filter (inp b) := by
  intro s;rw [List.mem_map, List.mem_filter, List.mem_append, List.mem_singleton];constructor
  ·rintro ⟨a, h1, rfl⟩;obtain ⟨h2, h3⟩ := List.mem_filter.1 h1;obtain ⟨h4, h5⟩ := (hq' a).1 h3;have h6 := attrS_of (b := b) hg.nd (hperm.mem_iff.1 h2);refine ⟨h5.symm, ?_⟩;unfold inp; rw [h6]; exact h4
  ·rintro ⟨h1, h2⟩;have h3 := attrS_mem (attrS_no h2);refine ⟨(attrS b s).1, List.mem_filter.2 ⟨hperm.mem_iff.2 h3.1, (hq' _).2 ⟨h2, ?_⟩⟩, h3.2⟩;rw [h3.2];exact h1.symm
 by_cases hin : inp b attr = true
 ·have hnil := deep_none hg (fun _ => hin) hr;subst hnil;have e : ([] ++ [attr]).filter (inp b) = [attr] := by simp [hin]
  rw [e];rw [e] at hmem;exact ss_uniq h1 (List.pairwise_singleton _ _) hmem
 ·have hin : inp b attr = false := by simpa using hin
  have e : (r' ++ [attr]).filter (inp b) = r'.filter (inp b) := by rw [List.filter_append]; simp [hin]
  rw [e];rw [e] at hmem;exact ss_uniq h1 (hr.1.sublist List.filter_sublist) hmem
theorem users_ok (fu : Nat) [hf : Big fu] (b : List Act) [hb : Fit b] (hg : Good b) (attr : ByteArray) {A : List At} (hA : A.Perm (flatA b)) (sA : PH.Srt ltA A) : ∃ q : At -> Bool,
  (∀ x : At, Sm (fun r => Deep b x.1 r /\ (q x = true ↔ attr ∈ r)) (zq30 fu b x.1)) /\
  Sm (fun p : List ByteArray × Int => p = ((A.filter q).map (·.1), 0)) (forK
    (fun k x d next =>
     forK
      (fun k x d next =>
       (look_deep fu b x.fst).bind fun r =>
        (zq55 r attr).bind fun r => bif r then (chk (d.length + (1 : Nat) <= LIM)).bind fun x_1 => next (d ++ [x.fst]) else next d)
      (0 : Nat) x.snd.snd.snd.fst d fun d => next d)
    (0 : Nat) b [] fun d =>
    ((chk (d.length <= LIM)).bind fun x => some (List.map (fun b => ByteArray.mk b.toArray) ((List.map ByteArray.toList d).mergeSort fun x y => decide (x <= y)))).bind fun r =>
     (chk (r.length = d.length)).bind fun x => some (r, (0 : Int))) := by
 have hlim := lim_eq
 have hM := M20_eq
 have htot : (flatA b).length <= M20 := hb.tot
 have hdeep : ∀ s, ∃ r, zq30 fu b s = some r /\ Deep b s r := fun s => reach_ok fu b hg.lim s
 obtain ⟨q, hq⟩ : ∃ q : At -> Bool, q = fun x => ((hdeep x.1).choose).any fun y => attr.toList == y.toList := ⟨_, rfl⟩
 have hqs : ∀ (x : At) (r : List ByteArray), Deep b x.1 r -> (q x = true ↔ attr ∈ r) := by
  intro x r hr;have h2 := (hdeep x.1).choose_spec.2;have e := deep_uniq h2 hr;rw [hq];simp only [e, List.any_eq_true];exact ⟨fun ⟨y, h1, h2⟩ => by rw [bytes_in (a := attr) (b := y) (by simpa using h2)]; exact h1, fun h => ⟨_, h, by simp⟩⟩
 refine ⟨q, fun x => (reach_ok fu b hg.lim x.1).weak fun r hr => ⟨hr, hqs x r hr⟩, ?_⟩
 refine Sm.for0 (fun k d => d = ((flatA (b.take k)).filter q).map (·.1)) rfl (fun i a d K hi ha hI hK => ?_) fun d hd => ?_
 ·have h1 := flatA_take b i a ha;have h2 := flatA_le b (i + 1);rw [h1, List.length_append] at h2;refine Sm.for0 (fun k d2 => d2 = d ++ ((a.2.2.2.1.take k).filter q).map (·.1)) (by simp) (fun j x d2 K2 hj hx hI2 hK2 => ?_) fun d2 hd2 => hK _ ?_
  ·have t1 := filt_take q (fun a : At => a.1) hx;have t2 := filt_len q (fun a : At => a.1) a.2.2.2.1 j;have t3 : ((flatA (b.take i)).filter q).length <= (flatA (b.take i)).length := List.length_filter_le _ _;refine Sm.bind (deep_ok fu b hg.lim x.1) fun r hr => Sm.bind (hasS_ok r attr) fun f hf => ?_
   have hfq : f = q x := by rw [Bool.eq_iff_iff, hf, hqs x r hr]
   refine Sm.cond (fun e => Sm.chk (by rw [hI2, hI, List.length_append, List.length_map]; omega) (hK2 _ ?_)) fun e => hK2 _ ?_
   ·rw [t1, hI2, <- hfq, e, List.append_assoc]; rfl
   ·rw [t1, hI2, <- hfq, e]; simp
  ·rw [hd2, hI, List.take_length, h1, List.filter_append, List.map_append]
 ·rw [List.take_length] at hd;have t3 : ((flatA b).filter q).length <= (flatA b).length := List.length_filter_le _ _;refine Sm.bind (sort_sm _ (by rw [hd, List.length_map]; omega)) fun r hr => Sm.chk hr.2.length_eq (Sm.some ?_)
  have hp : r.Perm ((A.filter q).map (·.1)) := by
   rw [hd] at hr;exact hr.2.trans ((hA.filter q).map (·.1)).symm
  have hs : SW ((A.filter q).map (·.1)) := (srtA_names sA).sublist (List.Sublist.map _ List.filter_sublist);rw [sw_uniq hr.1 hs hp]
theorem lookNames_plain (fu : Nat) [hf : Big fu] (hlk : zq25 fu = some true) (b : List Act) [hb : Fit b] (attr : ByteArray) : zq24 fu b attr = some true := by
 have hlim := lim_eq;have hM := M20_eq;obtain ⟨c, hc, _⟩ := check_ok fu b;have hgood := (check_pc fu b).run hc;obtain ⟨A, hA, sA⟩ := sorted_ok fu b;have hperm := (sf_perm swoA sA.1).symm;have hAl : A.length <= M20 := by rw [hperm.length_eq]; exact hb.tot
 obtain ⟨dd, hdd⟩ : ∃ dd : Int, dd = if c = 0 then (if (attrS b attr).2 = true then 0 else 15) else c := ⟨_, rfl⟩
 have hck : look_check fu b attr = some dd := by
  unfold look_check;rw [hc, Option.bind_some];by_cases h0 : c = 0
  ·subst h0;rw [attr_ok, if_pos rfl] at *;cases e : (attrS b attr).2 <;> simp [hdd, e]
  ·rw [if_neg h0] at hdd;have : (c != 0) = true := by simpa using h0
   rw [this, hdd]; rfl
 have main : Sm (fun r => r = true) (zq24 fu b attr) := by
  unfold zq24;rw [hc, Option.bind_some];refine Sm.join (fun d => d = dd) (fun d hd => ?_) fun K hK => ?_
  rotate_left
  ·rw [attrOf_ok, Option.bind_some];refine Sm.join (fun f => f = true ↔ (c = 0 /\ (attrS b attr).2 = false)) (fun f hf => ?_) fun K2 hK2 => ?_
   ·refine Sm.cond (fun e => hK _ ?_) fun e => hK _ ?_
    ·obtain ⟨h1, h2⟩ := hf.1 e;rw [hdd, if_pos h1, if_neg (by rw [h2]; simp)]
    ·by_cases h1 : c = 0
     ·have : (attrS b attr).2 = true := by
       cases e2 : (attrS b attr).2 with
       | true => rfl
       | false => rw [hf.2 ⟨h1, e2⟩] at e; cases e
      rw [hdd, if_pos h1, if_pos this, h1]
     ·rw [hdd, if_neg h1]
   ·refine Sm.cond (fun e => ?_) fun e => hK2 _ ?_
    ·have h1 : c = 0 := by simpa using e
     refine hK2 _ ?_;cases (attrS b attr).2 <;> simp [h1]
    ·have h1 : ¬ c = 0 := by simpa using e
     simp [h1]
  ·subst hd;unfold look_Direct look_Deep look_Inputs look_Users;rw [hck];simp only [Option.bind_some];by_cases h0 : d = 0
   rotate_left
   ·have hne : (d != (0 : Int)) = true := by simpa using h0
    rw [hne];simp only [cond_true, Option.bind_some];refine Sm.join (fun f => f = false) (fun f hf => ?_) fun K hK => ?_
    ·subst hf;exact Sm.cond (fun e => by cases e) fun _ => Sm.some (by rfl)
    ·rw [hlk, Option.bind_some];refine Sm.cond (fun e => by cases e) fun _ => Sm.cond (fun e => by simp at e) fun _ => Sm.cond (fun e => by simp at e) fun _ => Sm.cond (fun e => by simp at e) fun _ => hK _ (by simp)
   ·have hcz : c = 0 /\ (attrS b attr).2 = true := by
     rw [h0] at hdd;by_cases h1 : c = 0
     ·rw [if_pos h1] at hdd;by_cases h2 : (attrS b attr).2 = true
      ·exact ⟨h1, h2⟩
      ·rw [if_neg h2] at hdd; cases hdd
     ·rw [if_neg h1] at hdd; exact absurd hdd.symm h1
    have hg := hgood hcz.1;have hne : (d != (0 : Int)) = false := by rw [h0]; rfl
    obtain ⟨q, hqr, hqu⟩ := users_ok fu b hg attr hperm sA.2.2;rw [hne];simp only [cond_false];refine Sm.bind (P := fun p => Cmp (lookL b attr) p.1 /\ p.2 = 0) (Sm.bind (at_ok fu b hg.lim attr) fun r hr => Sm.some ⟨hr, rfl⟩) fun p hp => ?_
    refine Sm.bind (P := fun p => Deep b attr p.1 /\ p.2 = 0) (Sm.bind (deep_ok fu b hg.lim attr) fun r hr => Sm.some ⟨hr, rfl⟩) fun p2 hp2 => ?_
    refine Sm.bind (P := fun p => p = ((p2.1 ++ [attr]).filter (inp b), (0 : Int))) (Sm.bind (deep_ok fu b hg.lim attr : Sm (Deep b attr) (look_deep_w0 fu b attr)) fun r hr => by
     have := deep_uniq hr hp2.1;subst this;exact inputs_ok fu b hg attr _ hr) fun p3 hp3 => ?_
    refine Sm.bind hqu fun p4 hp4 => ?_
    subst hp3 hp4;refine Sm.join (fun f => f = false) (fun f hf => ?_) fun K hK => ?_
    ·subst hf;refine Sm.cond (fun e => by cases e) fun _ => ?_
     rw [hA, Option.bind_some];refine Sm.for0 (fun k d => d = ((A.take k).filter q).map (·.1)) rfl (fun i x d K hi hx hI hK => ?_) fun d hd => ?_
     ·have t1 := filt_take q (fun a : At => a.1) hx;have t2 := filt_len q (fun a : At => a.1) A i;refine Sm.bind (hqr x) fun r hr => Sm.bind (hasS_ok r attr) fun f hf => ?_
      have hfq : f = q x := by rw [Bool.eq_iff_iff, hf, hr.2]
      refine Sm.cond (fun e => Sm.chk (by rw [hI]; omega) (hK _ ?_)) fun e => hK _ ?_
      ·rw [t1, hI, <- hfq, e]; rfl
      ·rw [t1, hI, <- hfq, e]; simp
     ·rw [List.take_length] at hd;subst hd;refine Sm.join (fun f => f = true) (fun f hf => Sm.some hf) fun K hK => ?_
      obtain ⟨L, hL, cL⟩ := looks_set fu b hg.lim attr;obtain ⟨R, hR, dR⟩ := reach_ok fu b hg.lim attr;rw [hL, Option.bind_some, cmp_uniq hp.1 cL, eqS_self, Option.bind_some];refine Sm.cond (fun _ => ?_) fun e => by cases e
      rw [hR, Option.bind_some, deep_uniq hp2.1 dR, eqS_self, Option.bind_some];refine Sm.cond (fun _ => ?_) fun e => by cases e
      rw [inputsOf_ok fu b hg attr R dR hcz.2, Option.bind_some];simp only;rw [eqS_self, Option.bind_some];refine Sm.cond (fun _ => ?_) fun e => by cases e
      rw [eqS_self, Option.bind_some];exact hK _ rfl
    ·rw [hlk, Option.bind_some, h0, hp.2, hp2.2];refine Sm.cond (fun e => by cases e) fun _ => Sm.cond (fun e => by cases e) fun _ => Sm.cond (fun e => by cases e) fun _ => Sm.cond (fun e => by cases e) fun _ => hK _ rfl
 exact sm_eq main
end Go.Proofs.YtgpioploehgpdaaGreat
set_option linter.unusedVariables false
set_option linter.unusedSimpArgs false
set_option maxRecDepth 100000
namespace Go.Proofs.YtgpioploehgpdaaGreat
open Go.PG Go.PG.PH
theorem anyK_one {α S R : Type} (body : α -> S -> (S -> Option R) -> Option R) (x : α) (s : S) (K : S -> Option R) {r : R} (h : body x s K = some r) : anyK body [x] s K = some r := by
 have hK : (fun s' => anyN body [x] 0 ([0].erase 0) s' K) = K := by funext s'; rfl
 unfold anyK
 show anyN body [x] 1 [0] s K = some r
 unfold anyN;have hex : ∃ r, ∀ i ∈ [0], ∀ y, [x][i]? = some y -> body y s (fun s' => anyN body [x] 0 ([0].erase i) s' K) = some r := by
  refine ⟨r, fun i hi y hy => ?_⟩;have : i = 0 := by simpa using hi
  subst this;cases hy;rw [hK]; exact h
 rw [dif_pos hex];have := hex.choose_spec 0 (by simp) x rfl;rw [hK, h] at this;exact this.symm
def nmI : ByteArray := ByteArray.mk #[(105 : UInt8), (110 : UInt8), (45 : UInt8), (97 : UInt8)]
def nmO : ByteArray := ByteArray.mk #[(111 : UInt8), (117 : UInt8), (116 : UInt8), (45 : UInt8), (97 : UInt8)]
def artT : Ar := (ByteArray.mk #[(114 : UInt8), (45 : UInt8), (97 : UInt8)], nmO, [((1 : Int), [], (0 : Int), (0 : Int), nmI)], [((0 : Int), [], (2 : Int), (100 : Int), ByteArray.mk #[])], [], (0 : Int))
def actT : Act := (ByteArray.mk #[(97 : UInt8), (99 : UInt8), (116 : UInt8), (45 : UInt8), (97 : UInt8)], (0 : Int), (0 : Int),
 [(nmI, (1 : Int), true, (0 : Int), (1 : Int), (0 : Int), (0 : Int)), (nmO, (2 : Int), false, (0 : Int), (0 : Int), (0 : Int), (0 : Int))], [], [artT])
theorem t_tiny : zq26 = some [actT] := by kernel_rfl
theorem t_limits : body_limits [actT] = some 0 := by kernel_rfl
theorem t_parts : body_parts (LIM + 1) [actT] = some 0 := by kernel_rfl
theorem t_name : word_Name (LIM + 1) artT.1 = some true := by kernel_rfl
theorem t_art : body_article (LIM + 1) [actT] artT = some 0 := by kernel_rfl
theorem t_over : body_over [actT] (actT.1, artT.1) artT = some 0 := by kernel_rfl
theorem t_circR : (circle_Ref (LIM + 1) [(actT.1, artT.1)] [((actT.1, artT.1), [])]).map (·.1) = some false := by kernel_rfl
theorem t_circS : (zq7 (LIM + 1) [nmO] [(nmO, [nmI])]).map (·.1) = some false := by kernel_rfl
theorem t_attr : (attrS [actT] nmO).2 = true := by kernel_rfl
theorem fit_tiny : Fit [actT] := by
 have hM := M20_eq;refine ⟨by rw [hM]; decide, by rw [hM]; decide, fun a ha => ?_⟩;have : a = actT := by simpa using ha
 subst this;refine ⟨by rw [hM]; decide, by rw [hM]; decide, by rw [hM]; decide, fun t ht => (by cases ht), fun x hx => ?_⟩;have : x = artT := by simpa [actT] using hx
 subst this;refine ⟨⟨by rw [hM]; decide, fun n hn => ?_⟩, ⟨by rw [hM]; decide, fun n hn => ?_⟩, by rw [hM]; decide⟩
 ·have : n = ((1 : Int), [], (0 : Int), (0 : Int), nmI) := by simpa [artT] using hn
  subst this; simp
 ·have : n = ((0 : Int), [], (2 : Int), (100 : Int), ByteArray.mk #[]) := by simpa [artT] using hn
  subst this; simp
theorem lim_tiny : Lim [actT] := by
 refine ⟨by decide, fun a ha => ?_⟩;have : a = actT := by simpa using ha
 subst this;exact ⟨by decide, by decide⟩
theorem one_cmp (x : ByteArray) : Cmp [x] [x] := ⟨List.pairwise_singleton _ _, fun _ => .rfl, Nat.le_refl _⟩
theorem nil_cmp : Cmp [] [] := ⟨List.Pairwise.nil, fun _ => .rfl, Nat.le_refl _⟩
theorem t_looks (fu : Nat) [Big fu] : body_looks fu [actT] = some [(nmO, [nmI])] := by
 have hM := M20_eq;obtain ⟨p, hp, cp⟩ := names_cmp fu artT.2.2.1 (by rw [hM]; decide);obtain ⟨p2, hp2, cp2⟩ := names_cmp fu artT.2.2.2.1 (by rw [hM]; decide);have e1 : p.1 = [nmI] := cmp_uniq cp (one_cmp nmI);have e2 : p2.1 = [] := cmp_uniq cp2 nil_cmp;have a1 : actT.2.2.2.2.2 = [artT] := rfl;have a2 : artT.2.1 = nmO := rfl;unfold body_looks;simp only [forK, a1, hp, hp2, Option.bind_some, e1, e2, a2];have hb : Ty.str.beq nmO nmO = true := (beq_str _ _).2 rfl;have hlim := lim_eq;simp [mget, mset, hb, PG.chk, hlim]
theorem t_check : body_Check (LIM + 1) [actT] = some 0 := by
 haveI : Big (LIM + 1) := ⟨Nat.lt_succ_self _⟩;have hlim := lim_eq;have a1 : actT.2.2.2.2.2 = [artT] := rfl;have a2 : artT.2.2.2.2.1 = [] := rfl;have hart : body_article (LIM + 1) [actT] (artT.fst, artT.snd.fst, artT.snd.snd.fst, artT.snd.snd.snd.fst, [], artT.snd.snd.snd.snd.snd) = some 0 := t_art;have hover : body_over [actT] (actT.1, artT.1) (artT.fst, artT.snd.fst, artT.snd.snd.fst, artT.snd.snd.snd.fst, [], artT.snd.snd.snd.snd.snd) = some 0 := t_over;obtain ⟨c1, h1, h1'⟩ := Option.map_eq_some_iff.1 t_circR;obtain ⟨c2, h2, h2'⟩ := Option.map_eq_some_iff.1 t_circS;unfold body_Check;rw [t_limits, Option.bind_some];simp only [bne_self_eq_false, cond_false];rw [t_parts, Option.bind_some];simp only [bne_self_eq_false, cond_false, forK, a1];rw [t_name];simp only [Option.bind_some, Bool.not_true, cond_false, mget, Option.getD_none, List.length_nil];rw [chk_of (show (0 + 1 <= LIM) by omega)];simp only [Option.bind_some, List.nil_append, mset, a2];simp only [hart, hover, Option.bind_some, bne_self_eq_false, cond_false, h1, h1', t_looks];rw [allR_same];refine anyK_one _ _ _ _ ?_;simp only [List.length_nil, List.nil_append];rw [chk_of (show (0 + 1 <= LIM) by omega)];simp only [Option.bind_some, h2, h2', cond_false]
theorem looked_ok : zq25 (LIM + 1) = some true := by
 haveI : Big (LIM + 1) := ⟨Nat.lt_succ_self _⟩;haveI := fit_tiny;obtain ⟨r, hr, cr⟩ := at_ok (LIM + 1) [actT] lim_tiny nmO;have hl : lookL [actT] nmO = [nmI] := by kernel_rfl
 rw [hl] at cr;have e : r = [nmI] := cmp_uniq cr (one_cmp nmI);subst e;have hc : look_check (LIM + 1) [actT] nmO = some 0 := by
  unfold look_check;rw [t_check, Option.bind_some, attr_ok];simp only [bne_self_eq_false, cond_false, Option.bind_some, t_attr];rfl
 unfold zq25;rw [t_tiny, Option.bind_some];unfold look_Direct;have hc' : look_check (LIM + 1) [actT] (ByteArray.mk #[(111 : UInt8), (117 : UInt8), (116 : UInt8), (45 : UInt8), (97 : UInt8)]) = some 0 := hc;have hr' : look_at (LIM + 1) [actT] (ByteArray.mk #[(111 : UInt8), (117 : UInt8), (116 : UInt8), (45 : UInt8), (97 : UInt8)]) = some [nmI] := hr;rw [hc'];simp only [Option.bind_some, bne_self_eq_false, cond_false, hr', beq_self_eq_true, cond_true];have he : zq56 [nmI] [ByteArray.mk #[(105 : UInt8), (110 : UInt8), (45 : UInt8), (97 : UInt8)]] = some true := eqS_self [nmI];rw [he];rfl
end Go.Proofs.YtgpioploehgpdaaGreat
