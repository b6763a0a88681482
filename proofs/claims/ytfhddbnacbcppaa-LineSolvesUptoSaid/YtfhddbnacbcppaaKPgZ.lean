/- The engine: what the printed proofs name. -/
import Derived.Test.YtfhddbnacbcppaaKPgY
set_option linter.unusedVariables false
set_option linter.unnecessarySimpa false
set_option linter.unusedSimpArgs false
namespace Go.PG

/-- A condition without which the function would not come to an answer. -/
def chk (p : Prop) [Decidable p] : Option Unit := if p then some () else none

theorem chk_some {p : Prop} [Decidable p] {u : Unit} (h : chk p = some u) : p := by
  unfold chk at h; split at h
  · assumption
  · cases h

theorem chk_of {p : Prop} [Decidable p] (h : p) : chk p = some () := by unfold chk; rw [if_pos h]

theorem get_lt {α : Type} {l : List α} {k : Nat} {x : α} (h : l[k]? = some x) : (k : Int) < (l.length : Int) := by
  have := (List.getElem?_eq_some_iff.1 h).1; omega

theorem idx_below {α : Type} {l : List α} {i : Int} {x : α} (h : idx l i = some x) : i < (l.length : Int) := by
  obtain ⟨h0, h1⟩ := idx_some h
  have := (List.getElem?_eq_some_iff.1 h1).1; omega

theorem tr_condS {P : Program} {t : Nat} {x y : Code} {n : Nat} {S : List (Nat × V)} {h : Heap} {b : Bool} {Q : Post} (ht : decide (t < n) = true) (hc : aget S t = .bool b) (h1 : b = true → Tr P x (SE n S h) Q) (h2 : b = false → Tr P y (SE n S h) Q) :
    Tr P (.cond (.tmp t) x y) (SE n S h) Q :=
  tr_cond (by rw [se_ev _ _ _ _ (of_decide_eq_true ht)]; exact hc) h1 h2

theorem tr_lim_sl {P : Program} {c : Code} {n : Nat} {S : List (Nat × V)} {h : Heap} {Q : Post} {t sz : Nat} {l : List V} (ht : aget S t = .sl sz l) (hlt : decide (t < n) = true) (hk : l.length ≤ LIM → Tr P c (SE n S h) Q) : Tr P c (SE n S h) Q := by
  intro st a w hr
  have := hr.ev (.tmp t)
  rw [se_ev _ _ _ _ (of_decide_eq_true hlt), ht] at this
  exact hk (rep_sl this).1 st a w hr

theorem tr_lim_ob {P : Program} {c : Code} {n : Nat} {S : List (Nat × V)} {h : Heap} {Q : Post} {m g sz : Nat} {p : Bool} {l : List V} (hm : hget h m = some (.arr g p sz l)) (hk : l.length ≤ LIM → Tr P c (SE n S h) Q) : Tr P c (SE n S h) Q := by
  intro st a w hr
  exact hk (hr.heap.ob m _ hm).1 st a w hr

theorem le_new_se {n : Nat} {S : List (Nat × V)} {h : Heap} (id g : Nat) (p : Bool) (sz : Nat) (hn : hget h id = none) : Le (SE n S h) (SE n S (hset h id (.arr g p sz []))) := le_new id g p sz hn

theorem fix_dead (n g sz : Nat) (l : List V) : V.fix n g sz l .dead = .dead := rfl

theorem aget_map (f : V → V) (hf : f .dead = .dead) (S : List (Nat × V)) (j : Nat) : aget (S.map fun x => (x.1, f x.2)) j = f (aget S j) := by
  induction S with
  | nil => exact hf.symm
  | cons a S ih =>
    simp only [List.map_cons, aget]
    split
    · rfl
    · exact ih

theorem le_sealS {k : Nat} {S : List (Nat × V)} {h : Heap} (n g sz : Nat) (l : List V) (hn : hget h n = some (.arr g true sz l)) :
    Le (SE k S h) (SE k (S.map fun x => (x.1, V.fix n g sz l x.2)) (hfix n g sz l h)) := by
  have := le_seal (e := SE k S h) n g sz l hn
  have e1 : (SE k S h).fix n g sz l = SE k (S.map fun x => (x.1, V.fix n g sz l x.2)) (hfix n g sz l h) := by
    simp only [Env.fix, SE, Env.mk.injEq, and_true, List.map_map]
    apply List.map_congr_left
    intro i _
    exact (aget_map (V.fix n g sz l) rfl S i).symm
  rwa [e1] at this

theorem le_pure {k : Nat} {S : List (Nat × V)} {h : Heap} (n g sz : Nat) (l : List V) (hn : hget h n = some (.arr g true sz l)) : Le (SE k S h) (SE k S (hset h n (.arr g false sz l))) := by
  intro st a w hr
  refine ⟨st, ⟨hr.defers, hr.size, hr.tmps, ⟨fun m x hx => ?_, fun b m g' o hb => ?_, hr.heap.inj, hr.heap.shut⟩⟩, Hist.refl w st⟩
  · rw [se_h, hget_hset] at hx
    split at hx
    · rename_i e
      subst e
      cases hx
      obtain ⟨a1, a2, a3, a4⟩ := hr.heap.ob _ _ hn
      exact ⟨a1, a2, by simp, a4⟩
    · exact hr.heap.ob m x hx
  · obtain ⟨h1, x, h2, h3⟩ := hr.heap.dom b m g' o hb
    refine ⟨h1, ?_⟩
    rw [se_h, hget_hset]
    split
    · rename_i e
      subst e
      rw [se_h, hn] at h2
      cases h2
      exact ⟨_, rfl, h3⟩
    · exact ⟨x, h2, h3⟩

theorem le_nils {k : Nat} {S : List (Nat × V)} {h : Heap} (n g m sz : Nat) (hn : hget h n = some (.arr g true 1 (List.replicate m .nil))) : Le (SE k S h) (SE k S (hset h n (.arr g true 1 (List.replicate m (.sl sz []))))) := by
  intro st a w hr
  refine ⟨st, ⟨hr.defers, hr.size, hr.tmps, ⟨fun q x hx => ?_, fun b q g' o hb => ?_, hr.heap.inj, hr.heap.shut⟩⟩, Hist.refl w st⟩
  · rw [se_h, hget_hset] at hx
    split at hx
    · rename_i e
      subst e
      cases hx
      obtain ⟨a1, a2, a3, a4⟩ := hr.heap.ob _ _ hn
      refine ⟨by simpa using a1, fun x hx => by rw [(List.mem_replicate.1 hx).2]; rfl, fun _ x hx => by rw [(List.mem_replicate.1 hx).2]; rfl, ?_⟩
      rcases a4 with ⟨e0, hno⟩ | ⟨b, o, cells, ty, hb, hc, hR⟩
      · left
        refine ⟨?_, hno⟩
        have : m = 0 := by simpa using congrArg List.length e0
        subst this; rfl
      · refine .inr ⟨b, o, cells, ty, hb, hc, fun i j y d hy hd => ?_⟩
        have hy' := List.mem_replicate.1 (List.mem_of_getElem? hy)
        rw [hy'.2] at hd
        have hi : i < m := by simpa using (List.getElem?_eq_some_iff.1 hy).1
        have hj : j = 0 ∧ d = .sl sz [] := by
          cases j with
          | zero => simp at hd; exact ⟨rfl, hd.symm⟩
          | succ j => simp at hd
        obtain ⟨rfl, rfl⟩ := hj
        obtain ⟨r1, r2, r3⟩ := hR i 0 .nil .nil (by simp [hi]) rfl
        refine ⟨r1, r2, ?_⟩
        rw [rep_nil r3]
        exact .s .slnil
    · exact hr.heap.ob q x hx
  · obtain ⟨h1, x, h2, h3⟩ := hr.heap.dom b q g' o hb
    refine ⟨h1, ?_⟩
    rw [se_h, hget_hset]
    split
    · rename_i e
      subst e
      rw [se_h, hn] at h2
      cases h2
      exact ⟨_, rfl, h3⟩
    · exact ⟨x, h2, h3⟩

theorem le_purify {k : Nat} {S : List (Nat × V)} {h : Heap} (n g sz : Nat) (l : List V) (hn : hget h n = some (.arr g false sz l)) (hi : V.idfreeL l = true) : Le (SE k S h) (SE k S (hset h n (.arr g true sz l))) := by
  intro st a w hr
  refine ⟨st, ⟨hr.defers, hr.size, hr.tmps, ⟨fun m x hx => ?_, fun b m g' o hb => ?_, hr.heap.inj, hr.heap.shut⟩⟩, Hist.refl w st⟩
  · rw [se_h, hget_hset] at hx
    split at hx
    · rename_i e
      subst e
      cases hx
      obtain ⟨a1, a2, a3, a4⟩ := hr.heap.ob _ _ hn
      exact ⟨a1, a2, fun _ => (V.idfreeL_iff l).1 hi, a4⟩
    · exact hr.heap.ob m x hx
  · obtain ⟨h1, x, h2, h3⟩ := hr.heap.dom b m g' o hb
    refine ⟨h1, ?_⟩
    rw [se_h, hget_hset]
    split
    · rename_i e
      subst e
      rw [se_h, hn] at h2
      cases h2
      exact ⟨_, rfl, h3⟩
    · exact ⟨x, h2, h3⟩

/-- Cells of which less is known: nil, seen as an empty window or an empty list. -/
def cellsLe : List V → List V → Prop
  | [], [] => True
  | c :: cs, d :: ds => (d = c ∨ (c = .nil ∧ ((∃ n g sz, d = .so n g sz 0 0) ∨ ∃ sz, d = .sl sz []))) ∧ cellsLe cs ds
  | _, _ => False

theorem cellsLe_get : ∀ {cs ds : List V}, cellsLe cs ds → cs.length = ds.length ∧ ∀ (j : Nat) (c d : V), cs[j]? = some c → ds[j]? = some d → (d = c ∨ (c = .nil ∧ ((∃ n g sz, d = .so n g sz 0 0) ∨ ∃ sz, d = .sl sz [])))
  | [], [], _ => ⟨rfl, by simp⟩
  | c :: cs, d :: ds, h => by
    obtain ⟨h1, h2⟩ := cellsLe_get h.2
    refine ⟨by simp [h1], fun j x y hx hy => ?_⟩
    cases j with
    | zero => simp at hx hy; subst hx hy; exact h.1
    | succ j => exact h2 j x y (by simpa using hx) (by simpa using hy)
  | [], _ :: _, h => h.elim
  | _ :: _, [], h => h.elim

def objLe : List V → List V → Prop
  | [], [] => True
  | x :: xs, y :: ys => cellsLe x.cells y.cells ∧ objLe xs ys
  | _, _ => False

theorem objLe_get : ∀ {xs ys : List V}, objLe xs ys → xs.length = ys.length ∧ ∀ (j : Nat) (x y : V), xs[j]? = some x → ys[j]? = some y → cellsLe x.cells y.cells
  | [], [], _ => ⟨rfl, by simp⟩
  | x :: xs, y :: ys, h => by
    obtain ⟨h1, h2⟩ := objLe_get h.2
    refine ⟨by simp [h1], fun j a b ha hb => ?_⟩
    cases j with
    | zero => simp at ha hb; subst ha hb; exact h.1
    | succ j => exact h2 j a b (by simpa using ha) (by simpa using hb)
  | [], _ :: _, h => h.elim
  | _ :: _, [], h => h.elim

theorem le_obj {k : Nat} {S : List (Nat × V)} {h : Heap} (n g sz : Nat) (p : Bool) (l l' : List V) (hn : hget h n = some (.arr g p sz l)) (hl : objLe l l') : Le (SE k S h) (SE k S (hset h n (.arr g false sz l'))) := by
  intro st a w hr
  obtain ⟨e1, e2⟩ := objLe_get hl
  refine ⟨st, ⟨hr.defers, hr.size, hr.tmps, ⟨fun m x hx => ?_, fun b m g' o hb => ?_, hr.heap.inj, hr.heap.shut⟩⟩, Hist.refl w st⟩
  · rw [se_h, hget_hset] at hx
    split at hx
    · rename_i e
      subst e
      cases hx
      obtain ⟨a1, a2, a3, a4⟩ := hr.heap.ob _ _ hn
      refine ⟨by omega, fun y hy => ?_, by simp, ?_⟩
      · obtain ⟨j, hj, rfl⟩ := List.mem_iff_getElem.1 hy
        have hj' : j < l.length := by omega
        have := (cellsLe_get (e2 j l[j] l'[j] (List.getElem?_eq_getElem hj') (List.getElem?_eq_getElem hj))).1
        rw [← this]
        exact a2 _ (List.getElem_mem hj')
      · rcases a4 with ⟨e0, hno⟩ | ⟨b, o, cells, ty, hb, hc, hR⟩
        · left
          subst e0
          exact ⟨List.eq_nil_of_length_eq_zero (by simpa using e1.symm), hno⟩
        · refine .inr ⟨b, o, cells, ty, hb, hc, fun i j y d hy hd => ?_⟩
          have hi' : i < l.length := by have := (List.getElem?_eq_some_iff.1 hy).1; omega
          obtain ⟨c1, c2⟩ := cellsLe_get (e2 i l[i] y (List.getElem?_eq_getElem hi') hy)
          have hj' : j < l[i].cells.length := by have := (List.getElem?_eq_some_iff.1 hd).1; omega
          obtain ⟨r1, r2, r3⟩ := hR i j l[i] l[i].cells[j] (List.getElem?_eq_getElem hi') (List.getElem?_eq_getElem hj')
          refine ⟨r1, r2, ?_⟩
          rcases c2 j _ d (List.getElem?_eq_getElem hj') hd with rfl | ⟨h0, h1⟩
          · exact r3
          · rw [h0] at r3
            rw [rep_nil r3]
            rcases h1 with ⟨n, g, sz, rfl⟩ | ⟨sz, rfl⟩
            · exact .so0
            · exact .s .slnil
    · exact hr.heap.ob m x hx
  · obtain ⟨h1, x, h2, h3⟩ := hr.heap.dom b m g' o hb
    refine ⟨h1, ?_⟩
    rw [se_h, hget_hset]
    split
    · rename_i e
      subst e
      rw [se_h, hn] at h2
      cases h2
      exact ⟨_, rfl, h3⟩
    · exact ⟨x, h2, h3⟩

/-- A piece of code at the end: what it leaves, by a state. -/
theorem tr_tail_ex {P : Program} {x : Code} {e : Env} {Q : Post} {ι : Type} (F : ι → Prop) (EX : ι → Env) (h1 : Tr P x e (Post.andThen (St F EX) Q)) (h2 : ∀ i e', F i → Le e' (EX i) → Q .normal e') : Tr P x e Q :=
  h1.mono fun ex e' hq => by
    cases ex with
    | normal =>
      obtain ⟨i, hF, hle⟩ := hq
      exact h2 i e' hF hle
    | _ => exact hq

section
variable {P : Program} {ops : Array Oper} {dst : Option Nat} {x : Operand} {args : List Operand} {ats : Array TypeId} {ty : TypeId} {pos : String} {aft : Array Edge} {os : List Oper} {e : Env} {K : Env → Prop}
theorem evl_callS {f : FuncId} {caps vs : List V} {r : V} (hp : PC P f vs r) (hh : e.ev x = .fn (.func f) caps ∧ args.map e.ev ++ caps = vs ∧ V.idfreeL vs = true)
    (h : EvL P ops os (e.upd dst r []) K) : EvL P ops (⟨dst, .call ⟨.value x, args.toArray, ats⟩, ty, pos, aft, none⟩ :: os) e K := evl_call hh.1 (by simpa using hh.2.1) hh.2.2 hp h

/-- A call for which some of what is owned is sealed. -/
theorem evl_callW {e1 : Env} {f : FuncId} {caps vs : List V} {r : V} (hl : Le e e1) (hp : PC P f vs r) (hh : e1.ev x = .fn (.func f) caps ∧ args.map e1.ev ++ caps = vs ∧ V.idfreeL vs = true)
    (h : EvL P ops os (e1.upd dst r []) K) : EvL P ops (⟨dst, .call ⟨.value x, args.toArray, ats⟩, ty, pos, aft, none⟩ :: os) e K := by
  obtain ⟨h1, h2, h3⟩ := hh
  subst h2
  exact .inr (.inr ⟨rfl, rfl, e1, hl, r, [], ⟨f, caps, h1, .pure (by simpa using h3) (by simpa using hp), rfl⟩, h⟩)

theorem evl_lentS {f : FuncId} {caps vs : List V} {r : V} (hp : PC P f vs r) (hh : e.ev x = .fn (.func f) caps ∧ (args.map e.ev ++ caps).mapM (resV e.h 4) = some vs ∧ r.flat = true)
    (h : EvL P ops os (e.upd dst r []) K) : EvL P ops (⟨dst, .call ⟨.value x, args.toArray, ats⟩, ty, pos, aft, none⟩ :: os) e K := evl_lent hh.1 (by simpa using hh.2.1) hp hh.2.2 h
end

section
variable {P : Program} {ops : Array Oper} {i : Nat} {dst : Option Nat} {x : Operand} {args : List Operand} {ats : Array TypeId} {ty : TypeId} {pos : String} {aft : Array Edge} {os : List (Nat × Oper)} {e : Env} {acc : List Inf} {K : List Inf → Env → Prop}
theorem evd_callS {f : FuncId} {caps vs : List V} {r : V} (hx : e.ev x = .fn (.func f) caps) (ha : args.map e.ev ++ caps = vs) (hi : V.idfreeL vs = true) (hp : PC P f vs r)
    (h : EvD P ops os (e.upd dst r []) (⟨i, wkOf dst [], rdOf ops ⟨dst, .call ⟨.value x, args.toArray, ats⟩, ty, pos, aft, none⟩ e⟩ :: acc) K) : EvD P ops ((i, ⟨dst, .call ⟨.value x, args.toArray, ats⟩, ty, pos, aft, none⟩) :: os) e acc K :=
  evd_call hx (by simpa using ha) hi hp h

theorem evd_gsplit {o : Oper} {c : Bool} (hg : gd ops e o = some c) (hn : c = false → EvD P ops os (e.upd o.dst (.tup []) []) (⟨i, wkOf o.dst [], rdOf ops o e⟩ :: acc) K) (hy : c = true → EvD P ops ((i, o) :: os) e acc K) : EvD P ops ((i, o) :: os) e acc K := by
  cases c with
  | false => exact .inl ⟨hg, hn rfl⟩
  | true => exact hy rfl

/-- A guarded call whose guard says yes. -/
theorem evd_callSg {g : Nat × Bool} {f : FuncId} {caps vs : List V} {r : V} (hg : gd ops e ⟨dst, .call ⟨.value x, args.toArray, ats⟩, ty, pos, aft, some g⟩ = some true) (hx : e.ev x = .fn (.func f) caps) (ha : args.map e.ev ++ caps = vs) (hi : V.idfreeL vs = true) (hp : PC P f vs r)
    (h : EvD P ops os (e.upd dst r []) (⟨i, wkOf dst [], rdOf ops ⟨dst, .call ⟨.value x, args.toArray, ats⟩, ty, pos, aft, some g⟩ e⟩ :: acc) K) : EvD P ops ((i, ⟨dst, .call ⟨.value x, args.toArray, ats⟩, ty, pos, aft, some g⟩) :: os) e acc K := by
  subst ha
  refine .inr (.inr ⟨rfl, r, _, fun e2 hk => ?_, h⟩)
  have hgd : gd ops e2 ⟨dst, .call ⟨.value x, args.toArray, ats⟩, ty, pos, aft, some g⟩ = some true := by rw [gd_local hk]; exact hg
  have hev : ∀ y ∈ #[x].toList ++ args, e2.ev y = e.ev y := by
    intro y hy
    cases y with
    | tmp t =>
      have := look_slot (hk (.s t) (by
        unfold rdOf
        simp only [List.mem_append, List.mem_flatMap]
        refine .inl (.inl ⟨.tmp t, ?_, by simp [slotOf]⟩)
        simp only [Op.operands, Call.operands, Array.toList_append]
        exact hy))
      simp only [Env.ev, List.getD_eq_getElem?_getD, this]
    | _ => rfl
  have hargs : args.map e2.ev = args.map e.ev := List.map_congr_left fun y hy => hev y (by simp; exact .inr hy)
  refine ⟨hgd, f, caps, by rw [hev x (by simp)]; exact hx, ?_, rfl⟩
  show CallOk P e2.h f (args.toArray.toList.map e2.ev ++ caps) r
  simp only [hargs]
  exact .pure hi hp
end

theorem take_get {α : Type} {l : List α} {n k : Nat} {x : α} (h : (l.take n)[k]? = some x) : l[k]? = some x ∧ (k : Int) < (n : Int) := by
  rw [List.getElem?_take] at h
  split at h
  · exact ⟨h, by omega⟩
  · cases h

theorem take_len {α β : Type} (f : α → β) (l : List α) : (l.map f).take l.length = l.map f := by rw [List.take_of_length_le (by simp)]
@[go_sem] theorem lim1 : (1 ≤ LIM) = True := by simp [LIM]
theorem withinL_of {h : Heap} {cs : List V} (hi : V.idfreeL cs = true) : V.withinL h cs = true := by
  rw [V.idfreeL_iff] at hi
  rw [V.withinL_iff]
  exact fun c hc => idfree_within (hi c hc)

theorem idfreeL_app (a b : List V) : V.idfreeL (a ++ b) = (V.idfreeL a && V.idfreeL b) := by
  induction a with
  | nil => simp [V.idfreeL]
  | cons x a ih => simp [V.idfreeL, ih, Bool.and_assoc]
@[go_sem] theorem toList_lit {α : Type} (l : List α) : l.toArray.toList = l := rfl

attribute [go_sem] seLe slotLe V.within V.withinL heapKeep objLe cellsLe rangePost Nat.zero_add Nat.zero_le Nat.sub_zero Nat.le_refl Int.le_refl List.map_cons List.map_nil List.drop_zero take_len not_false_eq_true not_true_eq_false

end Go.PG
