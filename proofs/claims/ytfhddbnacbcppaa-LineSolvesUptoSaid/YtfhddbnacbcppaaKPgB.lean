/- The engine: what is known of types, what an operation does to abstract values, and the ground of its proof. -/
import Derived.Test.YtfhddbnacbcppaaKPgA
import Derived.Laws.AppendOwn
set_option linter.unusedSimpArgs false
set_option linter.unusedVariables false
set_option linter.unnecessarySimpa false
namespace Go.PG

inductive TK where
  | int (k : IntKind)
  | bool
  | str
  | slice (e : Nat)
  | ptr (e : Nat)
  | struct (fs : List (Nat × Nat))
  | array (n e : Nat)
  | map (k e : Nat)
  | other
  deriving Inhabited, DecidableEq

structure TI where
  size : Nat
  bytes : Nat
  isA : Bool
  zero : V
  kind : TK
  deriving Inhabited

def kindOf : TypeDesc → TK
  | .int k => .int k
  | .bool => .bool
  | .string => .str
  | .slice e => .slice e
  | .pointer e => .ptr e
  | .struct fs => .struct (fs.toList.map fun f => (f.offset, f.type))
  | .array n e => .array n e
  | .map k e => .map k e
  | _ => .other

def aggOf : TypeDesc → Bool
  | .struct _ => true
  | .array _ _ => true
  | _ => false

def tab (P : Program) (t : Nat) : Option TI :=
  match P.info? t with
  | none => none
  | some i =>
    match P.underlying t with
    | none => none
    | some d =>
      match i.zero with
      | none => none
      | some z =>
        match vOf z with
        | none => none
        | some zv => if zv.cells.length = i.size ∧ zv.idfree = true ∧ i.bytes ≤ 4096 then some ⟨i.size, i.bytes, aggOf d, zv, kindOf d⟩ else none

structure TabOk (P : Program) (t : Nat) (i : TI) (info : TypeInfo) (d : TypeDesc) (z : Value) : Prop where
  inf : P.info? t = some info
  und : P.underlying t = some d
  zero : info.zero = some z
  size : info.size = i.size
  bytes : info.bytes = i.bytes
  zv : vOf z = some i.zero
  isA : i.isA = aggOf d
  kind : i.kind = kindOf d
  len : i.zero.cells.length = i.size
  free : i.zero.idfree = true
  small : i.bytes ≤ 4096

theorem tab_ok {P : Program} {t : Nat} {i : TI} (h : tab P t = some i) : ∃ info d z, TabOk P t i info d z := by
  unfold tab at h
  split at h
  · cases h
  · rename_i info hi
    split at h
    · cases h
    · rename_i d hd
      split at h
      · cases h
      · rename_i z hz
        split at h
        · cases h
        · rename_i zv hv
          split at h
          · rename_i hc
            cases h
            exact ⟨info, d, z, hi, hd, hz, rfl, rfl, hv, rfl, rfl, hc.1, hc.2.1, hc.2.2⟩
          · cases h

section runs
variable {P : Program} {t : Nat} {i : TI} {info : TypeInfo} {d : TypeDesc} {z : Value}
theorem TabOk.run_und (h : TabOk P t i info d z) (w : World) : (underlying t).run P w = .ok d w := run_underlying h.und w
theorem TabOk.run_info (h : TabOk P t i info d z) (w : World) : (typeInfo t).run P w = .ok info w := by simp [typeInfo, h.inf]
theorem TabOk.run_size (h : TabOk P t i info d z) (w : World) : (sizeOf t).run P w = .ok i.size w := by simp [sizeOf, h.run_info, h.size]
theorem TabOk.run_zero (h : TabOk P t i info d z) (w : World) : (zeroValue t).run P w = .ok z w := by simp [zeroValue, h.run_info, h.zero]
theorem TabOk.run_isAgg (h : TabOk P t i info d z) (w : World) : (isAgg t).run P w = .ok i.isA w := by
  rw [h.isA]
  unfold isAgg
  rw [Sem.run_bind, h.run_und]
  cases d <;> rfl
end runs

theorem size_alloc (w : World) (o : Obj) : (w.alloc o).heap.size = w.heap.size + 1 := by show (w.heap.push o).size = _; simp

def updO (st : Nat → Own) (b : Nat) (x : Own) : Nat → Own := fun c => if c = b then x else st c

theorem ObOk.keep {w w' : World} {st st' : Nat → Own} {n : Nat} {x : Ob} (h : ObOk w st n x) (hs : ∀ b, st b = .shut → b < w.heap.size) (hf : Fr w st w' st')
    (h1 : ∀ b g o, st b = .id n g o → st' b = .id n g o ∧ w'.heap[b]? = w.heap[b]?) (h2 : ∀ b g o, st' b = .id n g o → ∃ b' g' o', st b' = .id n g' o') : ObOk w' st' n x := by
  cases x with
  | arr g p sz l =>
    obtain ⟨a1, a2, a3, a4⟩ := h
    refine ⟨a1, a2, a3, ?_⟩
    rcases a4 with ⟨e, hn⟩ | ⟨b, o, cells, ty, hb, hc, hr⟩
    · refine .inl ⟨e, fun b g o hb => ?_⟩
      obtain ⟨b', g', o', hb'⟩ := h2 b g o hb
      exact hn _ _ _ hb'
    · exact .inr ⟨b, o, cells, ty, (h1 _ _ _ hb).1, (h1 _ _ _ hb).2.trans hc, fun i j x c hx hc' => ⟨(hr i j x c hx hc').1, (hr i j x c hx hc').2.1, ((hr i j x c hx hc').2.2).frame hs hf⟩⟩
  | map g ks vs =>
    obtain ⟨b, es, clock, hb, hc, e1, e2, e3, r1, r2⟩ := h
    exact ⟨b, es, clock, (h1 _ _ _ hb).1, (h1 _ _ _ hb).2.trans hc, e1, e2, e3, fun j e k he hk => (r1 j e k he hk).frame hs hf, fun j e k he hk => (r2 j e k he hk).frame hs hf⟩

theorem HeapOk.drew {w : World} {st h} (hh : HeapOk w st h) : HeapOk w.drew st h :=
  ⟨fun n x hx => (hh.ob n x hx).keep hh.shut ⟨⟨rfl, rfl, rfl⟩, Nat.le_refl _, fun _ _ _ => ⟨rfl, rfl⟩, fun _ _ _ _ hs => .inl ⟨hs, fun _ _ hb => ⟨_, hb, rfl⟩⟩⟩ (fun _ _ _ hb => ⟨hb, rfl⟩) (fun b g o hb => ⟨b, g, o, hb⟩), hh.dom, hh.inj, hh.shut⟩

theorem Fr.drew (w : World) (st : Nat → Own) : Fr w st w.drew st :=
  ⟨⟨rfl, rfl, rfl⟩, Nat.le_refl _, fun _ _ _ => ⟨rfl, rfl⟩, fun _ _ _ _ hs => .inl ⟨hs, fun _ _ hb => ⟨_, hb, rfl⟩⟩⟩

theorem HeapOk.top {w : World} {st h} (hh : HeapOk w st h) : st w.heap.size = .none := by
  cases e : st w.heap.size with
  | none => rfl
  | shut => exact absurd (hh.shut _ e) (Nat.lt_irrefl _)
  | id n g o => exact absurd (hh.dom _ _ _ _ e).1 (Nat.lt_irrefl _)

theorem HeapOk.nil_of {w : World} {st h n} (hh : HeapOk w st h) (hn : hget h n = none) : ∀ b g o, st b ≠ .id n g o := by
  intro b g o e
  obtain ⟨_, x, hx, _⟩ := hh.dom _ _ _ _ e
  rw [hn] at hx; cases hx

/-- A new block. -/
theorem fr_alloc {w : World} {st : Nat → Own} {h : Heap} (hh : HeapOk w st h) (obj : Obj) (x : Own) : Fr w st (w.alloc obj) (updO st w.heap.size x) := by
  refine ⟨⟨rfl, rfl, rfl⟩, by rw [size_alloc]; omega, fun b hb hn => ⟨?_, heap_alloc_old w obj b hb⟩, fun b n g o hs => .inl ⟨?_, fun cells ty hb => ⟨cells, ?_, rfl⟩⟩⟩
  · unfold updO; rw [if_neg (by omega)]
  · unfold updO; rw [if_neg (by have := (hh.dom _ _ _ _ hs).1; omega)]; exact hs
  · rw [heap_alloc_old w obj b (hh.dom _ _ _ _ hs).1]; exact hb

theorem heap_alloc_id {w : World} {st : Nat → Own} {h : Heap} (hh : HeapOk w st h) {d : Nat} (hd : hget h d = none) (x : Ob) (obj : Obj) (o : Nat)
    (hx : ObOk (w.alloc obj) (updO st w.heap.size (.id d x.gen o)) d x) :
    HeapOk (w.alloc obj) (updO st w.heap.size (.id d x.gen o)) (hset h d x) := by
  have hf := fr_alloc hh obj (.id d x.gen o)
  refine ⟨fun n y hy => ?_, fun b n g o' hs => ?_, fun b b' n g o1 g' o2 h1 h2 => ?_, fun b hb => ?_⟩
  · rw [hget_hset] at hy
    by_cases e : n = d
    · rw [if_pos e] at hy; cases hy; rw [e]; exact hx
    · rw [if_neg e] at hy
      refine (hh.ob n y hy).keep hh.shut hf (fun b g o' hb => ?_) (fun b g o' hb => ?_)
      · have hlt := (hh.dom _ _ _ _ hb).1
        exact ⟨by unfold updO; rw [if_neg (by omega)]; exact hb, heap_alloc_old w obj b hlt⟩
      · unfold updO at hb
        split at hb
        · injection hb with e1 _ _; exact absurd e1.symm e
        · exact ⟨_, _, _, hb⟩
  · unfold updO at hs
    split at hs
    · rename_i e
      injection hs with e1 e2 e3
      refine ⟨by rw [size_alloc]; omega, x, ?_, e2⟩
      rw [hget_hset, if_pos e1.symm]
    · obtain ⟨h1, y, h2, h3⟩ := hh.dom _ _ _ _ hs
      refine ⟨by rw [size_alloc]; omega, y, ?_, h3⟩
      rw [hget_hset, if_neg (by rintro rfl; rw [hd] at h2; cases h2)]; exact h2
  · unfold updO at h1 h2
    split at h1 <;> split at h2
    · omega
    · injection h1 with e1 _ _
      exact absurd h2 (by rw [← e1]; exact hh.nil_of hd _ _ _)
    · injection h2 with e1 _ _
      exact absurd h1 (by rw [← e1]; exact hh.nil_of hd _ _ _)
    · exact hh.inj _ _ _ _ _ _ _ h1 h2
  · unfold updO at hb
    split at hb
    · cases hb
    · have := hh.shut b hb; rw [size_alloc]; omega

/-- An id that owns no block yet gets a block; or the id's own block is left behind for a new one. -/
def mvO (w : World) (st : Nat → Own) (d g o : Nat) : Nat → Own :=
  fun b => if b = w.heap.size then .id d g o else match st b with | .id n g o => if n = d then .none else .id n g o | y => y

theorem fr_move {w : World} {st : Nat → Own} {h : Heap} (hh : HeapOk w st h) {d : Nat} (g' : Nat) (obj : Obj) (o : Nat)
    (hg : ∀ b g o, st b = .id d g o → g < g') : Fr w st (w.alloc obj) (mvO w st d g' o) := by
  have hf : Fr w st (w.alloc obj) (mvO w st d g' o) := by
    refine ⟨⟨rfl, rfl, rfl⟩, by rw [size_alloc]; omega, fun b hb hn => ⟨?_, heap_alloc_old w obj b hb⟩, fun b n g o' hs => ?_⟩
    · show (if b = w.heap.size then _ else _) = _
      rw [if_neg (by omega)]
      cases e : st b with
      | id n g o' => exact absurd e (hn _ _ _)
      | _ => rfl
    · by_cases e : n = d
      · subst e
        exact .inr ⟨w.heap.size, g', o, by simp [mvO], hg _ _ _ hs⟩
      · refine .inl ⟨?_, fun cells ty hb => ⟨cells, ?_, rfl⟩⟩
        · show (if b = w.heap.size then _ else _) = _
          rw [if_neg (by have := (hh.dom _ _ _ _ hs).1; omega), hs]; simp [e]
        · rw [heap_alloc_old w obj b (hh.dom _ _ _ _ hs).1]; exact hb
  exact hf

theorem heap_move_id {w : World} {st : Nat → Own} {h : Heap} (hh : HeapOk w st h) {d : Nat} (x : Ob) (obj : Obj) (o : Nat)
    (hg : ∀ b g o, st b = .id d g o → g < x.gen)
    (hx : ObOk (w.alloc obj) (mvO w st d x.gen o) d x) : HeapOk (w.alloc obj) (mvO w st d x.gen o) (hset h d x) := by
  have hf := fr_move hh x.gen obj o hg
  unfold mvO at hx hf ⊢
  refine ⟨fun n y hy => ?_, fun b n g o' hs => ?_, fun b b' n g o1 g' o2 h1 h2 => ?_, fun b hb => ?_⟩
  · rw [hget_hset] at hy
    by_cases e : n = d
    · rw [if_pos e] at hy; cases hy; rw [e]; exact hx
    · rw [if_neg e] at hy
      refine (hh.ob n y hy).keep hh.shut hf (fun b g o' hb => ?_) (fun b g o' hb => ?_)
      · have hlt := (hh.dom _ _ _ _ hb).1
        refine ⟨?_, heap_alloc_old w obj b hlt⟩
        show (if b = w.heap.size then _ else _) = _
        rw [if_neg (by omega), hb]; simp [e]
      · skip
        split at hb
        · injection hb with e1 _ _; exact absurd e1.symm e
        · split at hb
          · rename_i e2
            split at hb
            · cases hb
            · injection hb with f1 f2 f3; subst f1 f2 f3; exact ⟨_, _, _, e2⟩
          · exact ⟨_, _, _, hb⟩
  · skip
    split at hs
    · rename_i e
      injection hs with e1 e2 e3
      refine ⟨by rw [size_alloc]; omega, x, ?_, e2⟩
      rw [hget_hset, if_pos e1.symm]
    · split at hs
      · rename_i e2
        split at hs
        · cases hs
        · rename_i hne
          injection hs with f1 f2 f3; subst f1 f2 f3
          obtain ⟨h1, y, h2, h3⟩ := hh.dom _ _ _ _ e2
          refine ⟨by rw [size_alloc]; omega, y, ?_, h3⟩
          rw [hget_hset, if_neg hne]; exact h2
      · rename_i hno
        exact absurd hs (hno _ _ _)
  · skip
    have key : ∀ c gg oo, (match st c with | .id n g o => if n = d then Own.none else .id n g o | y => y) = .id n gg oo → st c = .id n gg oo ∧ n ≠ d := by
      intro c gg oo hc
      split at hc
      · split at hc
        · cases hc
        · rename_i e2 hne
          injection hc with f1 f2 f3; subst f1 f2 f3; exact ⟨e2, hne⟩
      · rename_i hno
        exact absurd hc (hno _ _ _)
    split at h1 <;> split at h2
    · omega
    · injection h1 with e1 _ _
      exact absurd e1.symm (key _ _ _ h2).2
    · injection h2 with e1 _ _
      exact absurd e1.symm (key _ _ _ h1).2
    · exact hh.inj _ _ _ _ _ _ _ (key _ _ _ h1).1 (key _ _ _ h2).1
  · skip
    split at hb
    · cases hb
    · have : st b = .shut := by
        split at hb
        · split at hb <;> cases hb
        · exact hb
      have := hh.shut b this
      rw [size_alloc]; omega

/-- The id's own block is written: the same block, as many cells, perhaps a later generation. -/
theorem fr_write {w : World} {st : Nat → Own} {h : Heap} (hh : HeapOk w st h) {d b : Nat} {g o : Nat} (hb : st b = .id d g o) {cells : Array Value} {ty : TypeId}
    (hc : w.heap[b]? = some (.cells cells ty (0, 0))) (cells' : Array Value) (hz : cells'.size = cells.size) (gg : Nat) (o' : Nat) (hg : (gg = g ∧ o' = o) ∨ g < gg) : Fr w st (w.setRow b cells') (updO st b (.id d gg o')) := by
  have hf : Fr w st (w.setRow b cells') (updO st b (.id d gg o')) := by
    refine ⟨⟨rfl, rfl, rfl⟩, by simp, fun c hcl hn => ?_, fun c n g1 o1 hs => ?_⟩
    · have hne : c ≠ b := by rintro rfl; exact hn _ _ _ hb
      exact ⟨by unfold updO; rw [if_neg hne], setRow_other w b c cells' hne⟩
    · by_cases e : c = b
      · subst e
        rw [hb] at hs
        injection hs with e1 e2 e3
        subst e1 e2 e3
        rcases hg with ⟨hg, ho⟩ | hg
        · refine .inl ⟨by unfold updO; rw [if_pos rfl, hg, ho], fun c1 ty1 h1 => ⟨cells', ?_, ?_⟩⟩
          · rw [hc] at h1; cases h1
            exact setRow_heap w c cells cells' ty (0, 0) hc
          · rw [hc] at h1; cases h1; exact hz
        · exact .inr ⟨c, gg, o', by unfold updO; rw [if_pos rfl], hg⟩
      · refine .inl ⟨by unfold updO; rw [if_neg e]; exact hs, fun c1 ty1 h1 => ⟨c1, ?_, rfl⟩⟩
        rw [setRow_other w b c cells' e]; exact h1
  exact hf

theorem heap_write_id {w : World} {st : Nat → Own} {h : Heap} (hh : HeapOk w st h) {d b : Nat} {g o : Nat} (hb : st b = .id d g o) {cells : Array Value} {ty : TypeId}
    (hc : w.heap[b]? = some (.cells cells ty (0, 0))) (cells' : Array Value) (hz : cells'.size = cells.size) (x : Ob) (o' : Nat) (hg : (x.gen = g ∧ o' = o) ∨ g < x.gen)
    (hx : ObOk (w.setRow b cells') (updO st b (.id d x.gen o')) d x) :
    HeapOk (w.setRow b cells') (updO st b (.id d x.gen o')) (hset h d x) := by
  have hf := fr_write hh hb hc cells' hz x.gen o' hg
  refine ⟨fun n y hy => ?_, fun c n g1 o1 hs => ?_, fun c c' n g1 o1 g2 o2 h1 h2 => ?_, fun c hcs => ?_⟩
  · rw [hget_hset] at hy
    by_cases e : n = d
    · rw [if_pos e] at hy; cases hy; rw [e]; exact hx
    · rw [if_neg e] at hy
      refine (hh.ob n y hy).keep hh.shut hf (fun c g1 o1 h1 => ?_) (fun c g1 o1 h1 => ?_)
      · have hne : c ≠ b := by rintro rfl; rw [hb] at h1; injection h1 with e1 _ _; exact e e1.symm
        exact ⟨by unfold updO; rw [if_neg hne]; exact h1, setRow_other w b c cells' hne⟩
      · unfold updO at h1
        split at h1
        · injection h1 with e1 _ _; exact absurd e1.symm e
        · exact ⟨_, _, _, h1⟩
  · unfold updO at hs
    split at hs
    · rename_i e
      injection hs with e1 e2 e3
      exact ⟨by rw [setRow_size, e]; exact (hh.dom _ _ _ _ hb).1, x, by rw [hget_hset, if_pos e1.symm], e2⟩
    · rename_i hne
      obtain ⟨h1, y, h2, h3⟩ := hh.dom _ _ _ _ hs
      refine ⟨by rw [setRow_size]; exact h1, y, ?_, h3⟩
      rw [hget_hset, if_neg ?_]
      · exact h2
      · rintro rfl; exact hne (hh.inj _ _ _ _ _ _ _ hs hb)
  · unfold updO at h1 h2
    split at h1 <;> split at h2
    · omega
    · rename_i e1 e2
      injection h1 with f1 _ _; subst f1
      exact e1.trans (hh.inj _ _ _ _ _ _ _ hb h2)
    · rename_i e1 e2
      injection h2 with f1 _ _; subst f1
      exact (hh.inj _ _ _ _ _ _ _ h1 hb).trans e2.symm
    · exact hh.inj _ _ _ _ _ _ _ h1 h2
  · unfold updO at hcs
    rw [setRow_size]
    split at hcs
    · cases hcs
    · exact hh.shut c hcs

end Go.PG
