/- The engine: what an operation reads; stepping through a region whose order is open. -/
import Derived.Test.YtfhddbnacbcppaaKPgR
set_option linter.unusedVariables false
set_option linter.unnecessarySimpa false
set_option linter.unusedSimpArgs false
namespace Go.PG

def slotOf : Operand → List Key
  | .tmp t => [.s t]
  | _ => []

def idOf (v : V) : List Key :=
  match v.tok with
  | some (n, _) => [.h n]
  | none => []

/-- What an operation reads: its operands' slots, the ids that these name, the id of its own result. -/
def rdOf (ops : Array Oper) (o : Oper) (e : Env) : List Key :=
  (o.op.operands.toList.flatMap fun x => slotOf x ++ idOf (e.ev x)) ++ (match o.dst with | some d => [.h d] | none => [.h 0]) ++
  (match o.guard with | some (j, _) => (match (ops[j]?).bind (·.dst) with | some d => [.s d] | none => []) | none => [])

def Same (h h2 : Heap) (a : V) : Prop := ∀ n g, a.tok = some (n, g) → hget h2 n = hget h n

theorem live_same {h h2 : Heap} {n g : Nat} (hs : hget h2 n = hget h n) : live h2 n g = live h n g := by unfold live; rw [hs]

theorem effLoad_same {P t a h h2} (hs : Same h h2 a) : effLoad P t a h2 = effLoad P t a h := by
  unfold effLoad
  cases a with
  | ep n g sz k off => simp only [hs n g rfl]
  | _ => rfl

theorem effField_same {P s a f h h2} (hs : Same h h2 a) : effField P s a f h2 = effField P s a f h := by
  unfold effField
  cases a with
  | ep n g sz k off => simp only [live_same (hs n g rfl)]
  | _ => rfl

theorem effIndex_same {P t a ix h h2} (hs : Same h h2 a) : effIndex P t a ix h2 = effIndex P t a ix h := by
  unfold effIndex
  cases a with
  | ep n g sz k off => simp only [live_same (hs n g rfl)]
  | so n g sz off len => simp only [live_same (hs n g rfl)]
  | _ => rfl

theorem effNil_same {a h h2} (hs : Same h h2 a) : effNil a h2 = effNil a h := by
  unfold effNil
  cases a with
  | ep n g sz k off => simp only [live_same (hs n g rfl)]
  | fn f cs => cases f <;> rfl
  | _ => rfl

theorem effLen_same {P t a h h2} (hs : Same h h2 a) : effLen P t a h2 = effLen P t a h := by
  unfold effLen
  cases tab P t with
  | none => rfl
  | some i =>
    simp only
    cases i.kind <;> cases a <;> first | rfl | simp only [live_same (hs _ _ rfl)]

theorem effSlice_same {P t a lo hi h h2} (hs : Same h h2 a) : effSlice P t a lo hi h2 = effSlice P t a lo hi h := by
  unfold effSlice
  cases a with
  | so n g sz off len => simp only [live_same (hs n g rfl)]
  | _ => rfl

theorem effStore_same {P t a x h h2} (hs : Same h h2 a) : effStore P t a x h2 = effStore P t a x h := by
  unfold effStore
  cases tab P t <;> cases a <;> first | rfl | simp only [hs _ _ rfl]

theorem elems_same {sz a h h2} (hs : Same h h2 a) : elems h2 sz a = elems h sz a := by
  unfold elems
  cases a with
  | so n g s off len => simp only [hs n g rfl]
  | _ => rfl

theorem effAppend_same {P t t' a b d h h2} (ha : Same h h2 a) (hb : Same h h2 b) (hd : hget h2 d = hget h d) : effAppend P t t' a b d h2 = effAppend P t t' a b d h := by
  unfold effAppend
  simp only [elems_same hb, hd]
  cases a with
  | so n g s off len => simp only [ha n g rfl]
  | _ => rfl

theorem buildFill_same {P : Program} {r r2 : Operand → V} (fs : List (Nat × Nat)) : ∀ (parts : List (Nat × Operand)) (cs : List V), (∀ p ∈ parts, r2 p.2 = r p.2) → buildFill P fs r2 parts cs = buildFill P fs r parts cs
  | [], _, _ => rfl
  | (i, x) :: rest, cs, h => by
    have h0 : r2 x = r x := h (i, x) (by simp)
    unfold buildFill
    simp only [h0]
    split
    · rfl
    · split
      · rfl
      · split
        · exact buildFill_same fs rest _ fun p hp => h p (by simp [hp])
        · rfl

theorem listFill_same {r r2 : Operand → V} (sz : Nat) : ∀ (parts : List (Nat × Operand)) (l : List V), (∀ p ∈ parts, r2 p.2 = r p.2) → listFill r2 sz parts l = listFill r sz parts l
  | [], _, _ => rfl
  | (i, x) :: rest, l, h => by
    have h0 : r2 x = r x := h (i, x) (by simp)
    unfold listFill
    simp only [h0]
    split
    · exact listFill_same sz rest _ fun p hp => h p (by simp [hp])
    · rfl

theorem effBin2_same {P op t a b h h2} (hs : Same h h2 a) : effBin2 P op t a b h2 = effBin2 P op t a b h := by
  have key : ∀ k, isNilV k a h2 = isNilV k a h := by
    intro k
    unfold isNilV
    cases k <;> cases a <;> first | rfl | (rename_i len; cases len <;> first | rfl | simp only [live_same (hs _ _ rfl)]) | simp only [live_same (hs _ _ rfl)]
  unfold effBin2 effNilEq
  simp only [key]

theorem look_slot {e e2 : Env} {x : Nat} (h : look e2 (.s x) = look e (.s x)) : e2.t[x]? = e.t[x]? := by
  simp only [look] at h
  cases h1 : e2.t[x]? <;> cases h2 : e.t[x]? <;> simp [h1, h2] at h ⊢
  exact h

theorem look_id {e e2 : Env} {n : Nat} (h : look e2 (.h n) = look e (.h n)) : hget e2.h n = hget e.h n := by
  simp only [look] at h
  cases h1 : hget e2.h n <;> cases h2 : hget e.h n <;> simp [h1, h2] at h ⊢
  exact h

theorem eff_local {P : Program} {ops : Array Oper} {o : Oper} {e e2 : Env} (hk : ∀ k ∈ rdOf ops o e, look e2 k = look e k) : eff P o e2 = eff P o e := by
  have hop : ∀ x ∈ o.op.operands.toList, ∀ k ∈ slotOf x ++ idOf (e.ev x), look e2 k = look e k := fun x hx k hk' =>
    hk k (by unfold rdOf; simp only [List.mem_append, List.mem_flatMap]; exact .inl (.inl ⟨x, hx, by simpa using hk'⟩))
  have hev : ∀ x ∈ o.op.operands.toList, e2.ev x = e.ev x := by
    intro x hx
    cases x with
    | tmp t =>
      have := look_slot (hop _ hx (.s t) (by simp [slotOf]))
      simp only [Env.ev, List.getD_eq_getElem?_getD, this]
    | _ => rfl
  have hsame : ∀ x ∈ o.op.operands.toList, Same e.h e2.h (e.ev x) := by
    intro x hx n g ht
    exact look_id (hop x hx (.h n) (by simp [idOf, ht]))
  have hd : hget e2.h (o.dst.getD 0) = hget e.h (o.dst.getD 0) := by
    refine look_id (hk _ ?_)
    unfold rdOf
    simp only [List.mem_append]
    cases o.dst <;> simp
  unfold eff
  split
  · rename_i x ho; rw [hev x (by simp [ho, Op.operands])]
  · rename_i x ho; rw [hev x (by simp [ho, Op.operands])]
  · rename_i c x y ho
    rw [hev c (by simp [ho, Op.operands]), hev x (by simp [ho, Op.operands]), hev y (by simp [ho, Op.operands])]
  · simp only [effAlloc, hd]
  · rename_i t x ho
    simp only [effBox, hd, hev x (by simp [ho, Op.operands])]
  · rename_i t ps ho
    have hp : ∀ p ∈ ps.toList, e2.ev p.2 = e.ev p.2 := fun p hp => hev p.2 (by simp only [ho, Op.operands]; simp; exact ⟨p.1, by simpa using hp⟩)
    simp only [effBuild, buildFill_same _ ps.toList _ hp]
  · rename_i t n ps ho
    have hp : ∀ p ∈ ps.toList, e2.ev p.2 = e.ev p.2 := fun p hp => hev p.2 (by simp only [ho, Op.operands]; simp; exact ⟨p.1, by simpa using hp⟩)
    simp only [effBuildSlice, hd, listFill_same _ ps.toList _ hp]
  · rename_i t x ho
    rw [hev x (by simp [ho, Op.operands]), effLoad_same (hsame x (by simp [ho, Op.operands]))]
  · rename_i t x y ho
    rw [hev x (by simp [ho, Op.operands]), hev y (by simp [ho, Op.operands]), effStore_same (hsame x (by simp [ho, Op.operands]))]
  · rename_i x ho
    rw [hev x (by simp [ho, Op.operands]), effNil_same (hsame x (by simp [ho, Op.operands]))]
  · rename_i op t x y t' ho
    rw [hev x (by simp [ho, Op.operands]), hev y (by simp [ho, Op.operands]), effBin2_same (hsame x (by simp [ho, Op.operands]))]
  · rename_i op t x ho
    rw [hev x (by simp [ho, Op.operands])]
  · rename_i s d x ho
    rw [hev x (by simp [ho, Op.operands])]
  · rename_i f first caps ho
    have : caps.toList.map e2.ev = caps.toList.map e.ev := List.map_congr_left fun x hx => hev x (by simp [ho, Op.operands]; exact .inr (by simpa using hx))
    rw [this]
  · rename_i t x y ho
    simp only [effMake, hd, hev x (by simp [ho, Op.operands]), hev y (by simp [ho, Op.operands])]
  · rename_i t x lo hi ho
    have h1 : lo.map e2.ev = lo.map e.ev := by
      cases lo with
      | none => rfl
      | some y => rw [Option.map_some, Option.map_some, hev y (by simp [ho, Op.operands])]
    have h2 : hi.map e2.ev = hi.map e.ev := by
      cases hi with
      | none => rfl
      | some y => rw [Option.map_some, Option.map_some, hev y (by simp [ho, Op.operands])]
    rw [hev x (by simp [ho, Op.operands]), h1, h2, effSlice_same (hsame x (by simp [ho, Op.operands]))]
  · rename_i s x f ho
    rw [hev x (by simp [ho, Op.operands]), effField_same (hsame x (by simp [ho, Op.operands]))]
  · rename_i s x f ho
    rw [hev x (by simp [ho, Op.operands])]
  · rename_i t x i ho
    rw [hev x (by simp [ho, Op.operands]), hev i (by simp [ho, Op.operands]), effIndex_same (hsame x (by simp [ho, Op.operands]))]
  · rename_i t x i ho
    rw [hev x (by simp [ho, Op.operands]), hev i (by simp [ho, Op.operands])]
  · rename_i x k ho
    rw [hev x (by simp [ho, Op.operands])]
  · rename_i c ho
    split
    · split
      · rename_i x t hx ht
        have hm : x ∈ o.op.operands.toList := by
          rw [ho]; simp [Op.operands, Call.operands]
          exact .inr (by rw [← Array.mem_toList_iff, hx]; simp)
        rw [hev x hm, effLen_same (hsame x hm)]
      · rfl
    · split
      · rename_i x y t t' hx ht
        have hm : x ∈ o.op.operands.toList := by
          rw [ho]; simp [Op.operands, Call.operands]
          exact .inr (by rw [← Array.mem_toList_iff, hx]; simp)
        have hm' : y ∈ o.op.operands.toList := by
          rw [ho]; simp [Op.operands, Call.operands]
          exact .inr (by rw [← Array.mem_toList_iff, hx]; simp)
        rw [hev x hm, hev y hm', effAppend_same (hsame x hm) (hsame y hm') hd]
      · rfl
    · split
      · rename_i x y hx
        have hm : x ∈ o.op.operands.toList := by
          rw [ho]; simp [Op.operands, Call.operands]
          exact .inr (by rw [← Array.mem_toList_iff, hx]; simp)
        have hm' : y ∈ o.op.operands.toList := by
          rw [ho]; simp [Op.operands, Call.operands]
          exact .inr (by rw [← Array.mem_toList_iff, hx]; simp)
        rw [hev x hm, hev y hm']
      · rfl
    · split
      · rename_i x y hx
        have hm : x ∈ o.op.operands.toList := by
          rw [ho]; simp [Op.operands, Call.operands]
          exact .inr (by rw [← Array.mem_toList_iff, hx]; simp)
        have hm' : y ∈ o.op.operands.toList := by
          rw [ho]; simp [Op.operands, Call.operands]
          exact .inr (by rw [← Array.mem_toList_iff, hx]; simp)
        rw [hev x hm, hev y hm']
      · rfl
    · rfl
  · rfl

theorem gd_local {ops : Array Oper} {o : Oper} {e e2 : Env} (hk : ∀ k ∈ rdOf ops o e, look e2 k = look e k) : gd ops e2 o = gd ops e o := by
  unfold gd
  split
  · rfl
  · rename_i j want hg
    split
    · rename_i d hd
      rw [look_slot (hk (.s d) (by unfold rdOf; simp only [List.mem_append]; right; rw [hg]; simp [hd]))]
    · rfl

end Go.PG
