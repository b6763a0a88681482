/- The engine: new memory, stores, append. -/
import Derived.Test.YtfhddbnacbcppaaKPgF
set_option linter.unusedVariables false
set_option linter.unnecessarySimpa false
set_option linter.unusedSimpArgs false
namespace Go.PG

theorem flat_len (sz : Nat) : ∀ (l : List V), (∀ x ∈ l, x.cells.length = sz) → (l.flatMap V.cells).length = l.length * sz
  | [], _ => by simp
  | x :: l, h => by
    have := flat_len sz l fun y hy => h y (by simp [hy])
    have h0 := h x (by simp)
    simp only [List.flatMap_cons, List.length_append, this, h0, List.length_cons, Nat.add_mul]
    omega

theorem flat_get (sz : Nat) : ∀ (l : List V), (∀ x ∈ l, x.cells.length = sz) → ∀ (i j : Nat) (x c : V), l[i]? = some x → x.cells[j]? = some c → (l.flatMap V.cells)[i * sz + j]? = some c
  | [], _, i, j, x, c, hx, _ => by simp at hx
  | y :: l, h, i, j, x, c, hx, hc => by
    have h0 := h y (by simp)
    rw [List.flatMap_cons, List.getElem?_append]
    cases i with
    | zero =>
      simp at hx
      subst hx
      have hj : j < y.cells.length := (List.getElem?_eq_some_iff.1 hc).1
      rw [if_pos (by omega)]
      simpa using hc
    | succ i =>
      have ih := flat_get sz l (fun z hz => h z (by simp [hz])) i j x c (by simpa using hx) hc
      rw [h0, Nat.add_mul]
      rw [if_neg (by omega)]
      rw [show i * sz + 1 * sz + j - sz = i * sz + j by omega]
      exact ih

/-- An array object over a block whose cells stand for the elements. -/
theorem ob_arr {w : World} {st : Nat → Own} {n g o b : Nat} {p : Bool} {sz : Nat} {l : List V} {cells : Array Value} {ty : TypeId}
    (hlim : l.length ≤ LIM) (hsz : ∀ x ∈ l, x.cells.length = sz) (hp : p = true → ∀ x ∈ l, x.idfree = true)
    (hs : st b = .id n g o) (hb : w.heap[b]? = some (.cells cells ty (0, 0)))
    (hr : ∀ (j : Nat) (c : V), (l.flatMap V.cells)[j]? = some c → o + j < cells.size ∧ (cells.getD (o + j) undef).oneCell' = true ∧ Rep w st c (cells.getD (o + j) undef)) :
    ObOk w st n (.arr g p sz l) := by
  refine ⟨hlim, hsz, hp, .inr ⟨b, o, cells, ty, hs, hb, fun i j x c hx hc => ?_⟩⟩
  have := hr _ c (flat_get sz l hsz i j x c hx hc)
  rw [← Nat.add_assoc] at this
  exact this

/-- The cells of a list in a row of cells. -/
theorem repL_row {w : World} {st : Nat → Own} {cs : List V} {vs : List Value} (h : RepL w st cs vs) (cells : Array Value) (o : Nat)
    (he : ∀ j, j < vs.length → cells[o + j]? = vs[j]?) : ∀ (j : Nat) (c : V), cs[j]? = some c → o + j < cells.size ∧ (cells.getD (o + j) undef).oneCell' = true ∧ Rep w st c (cells.getD (o + j) undef) := by
  intro j c hc
  obtain ⟨v, hv, h1, h2⟩ := h.get hc
  have hj : j < vs.length := (List.getElem?_eq_some_iff.1 hv).1
  have hcell := (he j hj).trans hv
  have hlt : o + j < cells.size := (Array.getElem?_eq_some_iff.1 hcell).1
  have e : cells.getD (o + j) undef = v := by
    rw [Array.getD_eq_getD_getElem?, hcell]; rfl
  rw [e]
  exact ⟨hlt, h2, h1⟩

theorem RepL.frame {w st w' st' cs vs} (h : RepL w st cs vs) (hs : ∀ b, st b = .shut → b < w.heap.size) (hf : Fr w st w' st') : RepL w' st' cs vs :=
  ⟨h.1, fun j c v hc hv => ⟨(h.2 j c v hc hv).1.frame hs hf, (h.2 j c v hc hv).2⟩⟩

/-- A new variable or a new row under the id d. -/
theorem new_ok {w : World} {st : Nat → Own} {h : Heap} (hh : HeapOk w st h) {d : Nat} (hd : hget h d = none) {p : Bool} {sz : Nat} {l : List V} {vs : List Value} (cells : Array Value) (ty : TypeId)
    (hlim : l.length ≤ LIM) (hsz : ∀ x ∈ l, x.cells.length = sz) (hp : p = true → ∀ x ∈ l, x.idfree = true) (hr : RepL w st (l.flatMap V.cells) vs)
    (he : ∀ j, j < vs.length → cells[j]? = vs[j]?) :
    HeapOk (w.alloc (.cells cells ty)) (updO st w.heap.size (.id d 0 0)) (hset h d (.arr 0 p sz l)) ∧ Fr w st (w.alloc (.cells cells ty)) (updO st w.heap.size (.id d 0 0)) := by
  have hf := fr_alloc hh (.cells cells ty) (.id d 0 0)
  refine ⟨heap_alloc_id hh hd (.arr 0 p sz l) _ 0 ?_, hf⟩
  refine ob_arr (b := w.heap.size) (o := 0) hlim hsz hp (by simp [updO, Ob.gen]) (heap_alloc_new w _) ?_
  exact repL_row (hr.frame hh.shut hf) cells 0 (by simpa using he)

theorem repS_free {w S c v} (h : RepS w S c v) : c.idfree = true := by
  induction h with
  | agg hl h1 _ ih =>
    rw [V.idfree, V.idfreeL_iff]
    intro c hc
    obtain ⟨j, hj, rfl⟩ := List.mem_iff_getElem.1 hc
    exact ih j _ _ (List.getElem?_eq_getElem hj) (Array.getElem?_eq_getElem (by omega))
  | tup hl _ ih =>
    rw [V.idfree, V.idfreeL_iff]
    intro c hc
    obtain ⟨j, hj, rfl⟩ := List.mem_iff_getElem.1 hc
    exact ih j _ _ (List.getElem?_eq_getElem hj) (Array.getElem?_eq_getElem (by omega))
  | fn hl _ ih =>
    rw [V.idfree, V.idfreeL_iff]
    intro c hc
    obtain ⟨j, hj, rfl⟩ := List.mem_iff_getElem.1 hc
    exact ih j _ _ (List.getElem?_eq_getElem hj) (Array.getElem?_eq_getElem (by omega))
  | _ => rfl

def effAlloc (P : Program) (t d : Nat) (h : Heap) : Option (V × List (Nat × Ob)) :=
  match tab P t with
  | none => none
  | some i => match hget h d with
    | none => some (.ep d 0 i.size 0 0, [(d, .arr 0 true i.size [i.zero])])
    | some _ => none

theorem alloc_good {P ρ o w st h t d v ups} (ho : o.op = .alloc t) (hh : HeapOk w st h) (he : effAlloc P t d h = some (v, ups)) : Good P ρ o w st h v ups := by
  unfold effAlloc at he
  split at he
  · cases he
  · rename_i i hi
    obtain ⟨info, ds, z, hT⟩ := tab_ok hi
    split at he
    · rename_i hd
      cases he
      have hz : Rep w st i.zero z := .s (vOf_sound hT.zv w _)
      have hok : okv i.zero = true := by
        have := hT.free
        have hzz := vOf_sound hT.zv w (fun _ => False)
        have hzv := hT.zv
        cases e : i.zero <;> first | rfl | (rw [e] at this; simp [V.idfree] at this; done) | skip
        rw [e] at hzv
        cases z with
        | agg cs => simp only [vOf, Option.map_eq_some_iff, reduceCtorEq, and_false, exists_false] at hzv
        | _ => simp only [vOf] at hzv; have := (vOf1_sound hzv w (fun _ => False)).1; cases this <;> simp [vOf1] at hzv
      have hrl := rep_cells hz hok
      obtain ⟨h1, h2⟩ := new_ok (p := true) (sz := i.size) (l := [i.zero]) hh hd z.cells t (by simp [LIM]) (by simpa using hT.len) (by simpa using hT.free) (by simpa using hrl) (by simp)
      refine ⟨.pointer (some ⟨w.heap.size, 0, none⟩), _, _, .inl ?_, ?_, h1, h2⟩
      · unfold execOp
        simp [ho, Instr.alloc, hT.run_zero, newVar, newRow]
      · have := Rep.ep (w := w.alloc (.cells z.cells t)) (st := updO st w.heap.size (.id d 0 0)) (n := d) (g := 0) (o := 0) (sz := i.size) (i := 0) (off := 0) (b := w.heap.size) (by simp [updO])
        simpa using this
    · cases he

def effBox (P : Program) (t d : Nat) (x : V) (h : Heap) : Option (V × List (Nat × Ob)) :=
  match tab P t with
  | none => none
  | some i => match hget h d with
    | none => if x.cells.length = i.size ∧ okv x = true then some (.ep d 0 i.size 0 0, [(d, .arr 0 x.idfree i.size [x])]) else none
    | some _ => none

theorem box_good {P ρ o w st h t d x a v ups} (ho : o.op = .box t x) (hρ : Rep w st a (ρ x)) (hh : HeapOk w st h) (he : effBox P t d a h = some (v, ups)) : Good P ρ o w st h v ups := by
  unfold effBox at he
  split at he
  · cases he
  · rename_i i hi
    split at he
    · rename_i hd
      split at he
      · rename_i hc
        cases he
        have hrl := rep_cells hρ hc.2
        obtain ⟨h1, h2⟩ := new_ok (p := a.idfree) (sz := i.size) (l := [a]) hh hd (ρ x).cells t (by simp [LIM]) (by simpa using hc.1) (by simp) (by simpa using hrl) (by simp)
        refine ⟨.pointer (some ⟨w.heap.size, 0, none⟩), _, _, .inl ?_, ?_, h1, h2⟩
        · unfold execOp
          simp [ho, Instr.box, newVar, newRow]
        · have := Rep.ep (w := w.alloc (.cells (ρ x).cells t)) (st := updO st w.heap.size (.id d 0 0)) (n := d) (g := 0) (o := 0) (sz := i.size) (i := 0) (off := 0) (b := w.heap.size) (by simp [updO])
          simpa using this
      · cases he
    · cases he

/-- Putting cells into cells. -/
def splice (cs : List V) (o : Nat) (new : List V) : List V := cs.take o ++ new ++ cs.drop (o + new.length)

theorem splice_len (cs : List V) (o : Nat) (new : List V) (h : o + new.length ≤ cs.length) : (splice cs o new).length = cs.length := by
  simp [splice]; omega

theorem zipIdx_fold (off : Nat) : ∀ (new : List Value) (k : Nat) (cells : Array Value), off + k + new.length ≤ cells.size →
    ((new.zipIdx k).foldl (fun cs (x : Value × Nat) => cs.setIfInBounds (off + x.2) x.1) cells).toList = cells.toList.take (off + k) ++ new ++ cells.toList.drop (off + k + new.length)
  | [], k, cells, _ => by simp
  | v :: new, k, cells, h => by
    simp only [List.length_cons] at h
    simp only [List.zipIdx_cons, List.foldl_cons]
    rw [zipIdx_fold off new (k + 1) _ (by simp; omega)]
    simp only [Array.toList_setIfInBounds]
    apply List.ext_getElem?
    intro j
    simp only [List.getElem?_append, List.length_append, List.length_take, List.length_set, List.length_cons, List.getElem?_take, List.getElem?_drop, List.getElem?_set, Array.length_toList]
    have e1 : min (off + (k + 1)) cells.size = off + k + 1 := by omega
    have e2 : min (off + k) cells.size = off + k := by omega
    rw [e1, e2]
    by_cases h1 : j < off + k
    · have : ¬ off + k = j := by omega
      simp [h1, this, show j < off + k + 1 by omega, show j < off + k + 1 + new.length by omega, show j < off + (k + 1) by omega, show j < off + k + (new.length + 1) by omega]
    · by_cases h2 : j = off + k
      · subst h2
        simp [show off + k < off + k + 1 + new.length by omega, show off + k < off + (k + 1) by omega, show off + k < cells.size by omega]
      · have h3 : ¬ j < off + k + 1 := by omega
        simp only [h1, h3, if_false]
        by_cases h4 : j < off + k + 1 + new.length
        · rw [if_pos h4, if_pos (by omega)]
          obtain ⟨m, hm⟩ : ∃ m, j - (off + k) = m + 1 := ⟨j - (off + k) - 1, by omega⟩
          rw [hm, List.getElem?_cons_succ]
          congr 1
          omega
        · rw [if_neg h4, if_neg (by omega)]
          try rw [if_neg (by omega)]
          congr 1
          omega

def buildFill (P : Program) (fs : List (Nat × Nat)) (r : Operand → V) : List (Nat × Operand) → List V → Option (List V)
  | [], cs => some cs
  | (i, x) :: rest, cs =>
    match fs[i]? with
    | none => none
    | some (o, t) =>
      match tab P t with
      | none => none
      | some ti => if (r x).cells.length = ti.size ∧ o + (r x).cells.length ≤ cs.length ∧ okv (r x) = true then buildFill P fs r rest (splice cs o (r x).cells) else none

theorem buildFill_ok {P : Program} {w st} {ρ : Operand → Value} {r : Operand → V} (hr : ∀ x, Rep w st (r x) (ρ x)) (fields : Array Field) (places : Array (Nat × Nat))
    (hp : ∀ (i : Nat) (f : Field) (ti : TI), fields[i]? = some f → tab P f.type = some ti → places[i]? = some (f.offset, ti.size)) :
    ∀ (parts : List (Nat × Operand)) (cs : List V) (cells : Array Value) (out : List V), RepL w st cs cells.toList →
      buildFill P (fields.toList.map fun f => (f.offset, f.type)) r parts cs = some out →
      ∃ cells', Instr.fill (places[·]?) cells (parts.map fun (i, x) => (i, ρ x)) = some cells' ∧ RepL w st out cells'.toList
  | [], cs, cells, out, h, he => by
    simp only [buildFill, Option.some.injEq] at he
    subst he
    exact ⟨cells, rfl, h⟩
  | (i, x) :: rest, cs, cells, out, h, he => by
    unfold buildFill at he
    split at he
    · cases he
    · rename_i o t hf
      simp only [List.getElem?_map, Option.map_eq_some_iff, Prod.mk.injEq] at hf
      obtain ⟨f, hf, rfl, rfl⟩ := hf
      split at he
      · cases he
      · rename_i ti hti
        split at he
        · rename_i hc
          obtain ⟨h1, h2, h3⟩ := hc
          have hrl := rep_cells (hr x) h3
          have hz : (ρ x).cells.size = ti.size := by rw [← h1]; exact hrl.1.symm
          have hcs : cs.length = cells.size := by simpa using h.1
          have hpl := hp i f ti (by simpa using hf) hti
          have hfold := zipIdx_fold f.offset (ρ x).cells.toList 0 cells (by simp; rw [hz]; omega)
          simp only [Nat.add_zero] at hfold
          have hnew : RepL w st (splice cs f.offset (r x).cells) ((ρ x).cells.zipIdx.foldl (fun cs (c, j) => cs.setIfInBounds (f.offset + j) c) cells).toList := by
            have e : ((ρ x).cells.zipIdx.foldl (fun cs (c, j) => cs.setIfInBounds (f.offset + j) c) cells) = ((ρ x).cells.toList.zipIdx 0).foldl (fun cs (x : Value × Nat) => cs.setIfInBounds (f.offset + x.2) x.1) cells := by
              rw [← Array.foldl_toList, Array.toList_zipIdx]
            rw [e, hfold]
            refine ((h.take _).append hrl).append ?_
            have := h.drop (f.offset + (r x).cells.length)
            have e2 : (r x).cells.length = (ρ x).cells.toList.length := hrl.1
            rw [← e2]
            exact this
          obtain ⟨cells', r1, r2⟩ := buildFill_ok hr fields places hp rest _ _ out hnew he
          refine ⟨cells', ?_, r2⟩
          simp only [List.map_cons, Instr.fill, hpl]
          rw [if_neg (by simp [hz]; omega)]
          exact r1
        · cases he

def effBuild (P : Program) (t : Nat) (parts : Array (Nat × Operand)) (r : Operand → V) : Option V :=
  match tab P t with
  | none => none
  | some i =>
    match i.kind, i.zero with
    | .struct fs, .agg cs =>
      if fs.all (fun f => (tab P f.2).isSome) = true then (buildFill P fs r parts.toList cs).map .agg else none
    | _, _ => none

theorem places_run {P : Program} (w : World) : ∀ (fs : List Field), (∀ f ∈ fs, (tab P f.type).isSome = true) →
    ∃ places : List (Nat × Nat), (fs.mapM (m := Sem) (fun f => do pure (f.offset, ← sizeOf f.type))).run P w = .ok places w ∧ places.length = fs.length ∧
      ∀ (i : Nat) (f : Field) (ti : TI), fs[i]? = some f → tab P f.type = some ti → places[i]? = some (f.offset, ti.size)
  | [], _ => ⟨[], rfl, rfl, by simp⟩
  | f :: fs, h => by
    obtain ⟨pl, h1, h2, h3⟩ := places_run w fs (fun g hg => h g (by simp [hg]))
    obtain ⟨ti, hti⟩ := Option.isSome_iff_exists.1 (h f (by simp))
    obtain ⟨_, _, _, hT⟩ := tab_ok hti
    refine ⟨(f.offset, ti.size) :: pl, ?_, by simp [h2], fun i g tj hg htj => ?_⟩
    · simp only [List.mapM_cons, Sem.run_bind, hT.run_size, Result.andThen_ok, Sem.run_pure, h1]
    · cases i with
      | zero => simp at hg; subst hg; rw [hti] at htj; cases htj; rfl
      | succ i => simp at hg; simpa using h3 i g tj hg htj

theorem build_good {P ρ o w st h t parts v} {r : Operand → V} (ho : o.op = .build t parts) (hr : ∀ x, Rep w st (r x) (ρ x)) (hh : HeapOk w st h) (he : effBuild P t parts r = some v) : Good P ρ o w st h v [] := by
  unfold effBuild at he
  split at he
  · cases he
  · rename_i i hi
    obtain ⟨info, d, z, hT⟩ := tab_ok hi
    split at he
    · rename_i fs cs hk hz
      obtain ⟨fields, rfl, rfl⟩ := kind_struct (hT.kind.symm.trans hk)
      split at he
      · rename_i hall
        simp only [Option.map_eq_some_iff] at he
        obtain ⟨out, hout, rfl⟩ := he
        have hzr : Rep w st (.agg cs) z := by rw [← hz]; exact .s (vOf_sound hT.zv w _)
        have hrl := rep_cells hzr rfl
        obtain ⟨pl, p1, p2, p3⟩ := places_run (P := P) w fields.toList (by
          intro f hf
          have := List.all_eq_true.1 hall (f.offset, f.type) (by simpa using ⟨f, by simpa using hf, rfl, rfl⟩)
          exact this)
        obtain ⟨cells', c1, c2⟩ := buildFill_ok hr fields pl.toArray (fun i f ti hf hti => by simpa using p3 i f ti (by simpa using hf) hti) parts.toList cs z.cells out hrl hout
        refine good_pure (m := .agg cells') ?_ (by have := c2.agg; rwa [Array.toArray_toList] at this) hh
        have hm : (fields.mapM (m := Sem) (fun f => do pure (f.offset, ← sizeOf f.type))).run P w = .ok pl.toArray w := by
          rw [Array.mapM_eq_mapM_toList]
          rw [Sem.run_map, p1]
          rfl
        unfold execOp
        simp only [ho, Instr.build, Sem.run_bind, hT.run_zero, hT.run_und, Result.andThen_ok, hm]
        have e : (parts.map fun (x : Nat × Operand) => (x.1, ρ x.2)).toList = parts.toList.map fun (i, x) => (i, ρ x) := by simp
        simp only [e, c1, Sem.run_pure, Result.andThen_ok]
      · cases he
    · cases he

end Go.PG
