/- The engine: literals of slices, make, stores. -/
import Derived.Test.YtfhddbnacbcppaaKPgG
set_option linter.unusedVariables false
set_option linter.unnecessarySimpa false
set_option linter.unusedSimpArgs false
namespace Go.PG

theorem range0 {α : Type} (f : Nat → α) : (Array.range 0).map f = #[] := by apply Array.ext'; simp

theorem flat_set (sz : Nat) : ∀ (l : List V), (∀ x ∈ l, x.cells.length = sz) → ∀ (k : Nat) (x : V), k < l.length → x.cells.length = sz →
    (l.set k x).flatMap V.cells = splice (l.flatMap V.cells) (k * sz) x.cells
  | [], _, k, x, hk, _ => by simp at hk
  | y :: l, h, k, x, hk, hx => by
    have h0 := h y (by simp)
    cases k with
    | zero =>
      simp only [List.set_cons_zero, List.flatMap_cons, splice, Nat.zero_mul, List.take_zero, List.nil_append, Nat.zero_add, hx]
      rw [List.drop_append_of_le_length (by omega), ← h0, List.drop_length, List.nil_append]
    | succ k =>
      have ih := flat_set sz l (fun z hz => h z (by simp [hz])) k x (by simpa using hk) hx
      simp only [List.set_cons_succ, List.flatMap_cons, ih, splice]
      rw [List.take_append, List.drop_append]
      rw [h0, Nat.add_mul, Nat.one_mul]
      rw [List.take_of_length_le (l := y.cells) (by omega), List.drop_eq_nil_of_le (as := y.cells) (by omega)]
      simp only [List.append_assoc, List.nil_append]
      rw [show k * sz + sz - sz = k * sz by omega, show k * sz + sz + x.cells.length - sz = k * sz + x.cells.length by omega]

def listFill (r : Operand → V) (sz : Nat) : List (Nat × Operand) → List V → Option (List V)
  | [], l => some l
  | (k, x) :: rest, l => if k < l.length ∧ (r x).cells.length = sz ∧ okv (r x) = true then listFill r sz rest (l.set k (r x)) else none

theorem listFill_ok {w st} {ρ : Operand → Value} {r : Operand → V} (hr : ∀ x, Rep w st (r x) (ρ x)) (sz : Nat) :
    ∀ (parts : List (Nat × Operand)) (l : List V) (cells : Array Value) (out : List V), (∀ x ∈ l, x.cells.length = sz) → RepL w st (l.flatMap V.cells) cells.toList →
      listFill r sz parts l = some out →
      ∃ cells', Instr.fill (fun i => some (i * sz, sz)) cells (parts.map fun (i, x) => (i, ρ x)) = some cells' ∧ RepL w st (out.flatMap V.cells) cells'.toList ∧ (∀ x ∈ out, x.cells.length = sz) ∧ out.length = l.length
  | [], l, cells, out, hl, h, he => by
    simp only [listFill, Option.some.injEq] at he
    subst he
    exact ⟨cells, rfl, h, hl, rfl⟩
  | (k, x) :: rest, l, cells, out, hl, h, he => by
    unfold listFill at he
    split at he
    · rename_i hc
      obtain ⟨h1, h2, h3⟩ := hc
      have hrl := rep_cells (hr x) h3
      have hz : (ρ x).cells.size = sz := by rw [← h2]; exact hrl.1.symm
      have hfl := flat_len sz l hl
      have hcs : l.length * sz = cells.size := by rw [← hfl]; simpa using h.1
      have hle : k * sz + sz ≤ l.length * sz := by rw [← Nat.succ_mul]; exact Nat.mul_le_mul_right sz h1
      have hfold := zipIdx_fold (k * sz) (ρ x).cells.toList 0 cells (by simp; rw [hz]; omega)
      simp only [Nat.add_zero] at hfold
      have hl' : ∀ y ∈ l.set k (r x), y.cells.length = sz := by
        intro y hy
        rcases List.mem_or_eq_of_mem_set hy with hy | rfl
        · exact hl y hy
        · exact h2
      have hnew : RepL w st ((l.set k (r x)).flatMap V.cells) ((ρ x).cells.zipIdx.foldl (fun cs (c, j) => cs.setIfInBounds (k * sz + j) c) cells).toList := by
        have e : ((ρ x).cells.zipIdx.foldl (fun cs (c, j) => cs.setIfInBounds (k * sz + j) c) cells) = ((ρ x).cells.toList.zipIdx 0).foldl (fun cs (x : Value × Nat) => cs.setIfInBounds (k * sz + x.2) x.1) cells := by
          rw [← Array.foldl_toList, Array.toList_zipIdx]
        rw [e, hfold, flat_set sz l hl k (r x) h1 h2]
        refine ((h.take _).append hrl).append ?_
        have := h.drop (k * sz + (r x).cells.length)
        have e2 : (r x).cells.length = (ρ x).cells.toList.length := hrl.1
        rw [← e2]
        exact this
      obtain ⟨cells', r1, r2, r3, r4⟩ := listFill_ok hr sz rest _ _ out hl' hnew he
      refine ⟨cells', ?_, r2, r3, by simpa using r4⟩
      simp only [List.map_cons, Instr.fill]
      rw [if_neg (by simp [hz]; omega)]
      exact r1
    · cases he

theorem zero_okv {P t i info d z} (hT : TabOk P t i info d z) : okv i.zero = true := by
  have hfr := hT.free
  have hzv := hT.zv
  cases e : i.zero <;> first | rfl | (rw [e] at hfr; simp [V.idfree] at hfr; done) | skip
  rw [e] at hzv
  have := vOf_sound hzv (default : World) (fun _ => False)
  cases z with
  | agg cs => simp only [vOf, Option.map_eq_some_iff, reduceCtorEq, and_false, exists_false] at hzv
  | _ => simp only [vOf] at hzv; cases this <;> simp [vOf1] at hzv

/-- A row of zeros. -/
theorem zeros_rep {P t i info d z} (hT : TabOk P t i info d z) (w : World) (st : Nat → Own) (n : Nat) :
    RepL w st ((List.replicate n i.zero).flatMap V.cells) ((List.range (n * i.size)).map fun k => z.cells[k % z.cells.size]!) := by
  have hz : Rep w st i.zero z := .s (vOf_sound hT.zv w _)
  have hrl := rep_cells hz (zero_okv hT)
  have hzs : z.cells.size = i.size := by have := hrl.1; rw [hT.len] at this; simpa using this.symm
  have hall : ∀ x ∈ List.replicate n i.zero, x.cells.length = i.size := by
    intro x hx
    rw [(List.mem_replicate.1 hx).2]; exact hT.len
  refine ⟨by rw [flat_len i.size _ hall]; simp, fun j c v hc hv => ?_⟩
  have hj : j < n * i.size := by
    have := (List.getElem?_eq_some_iff.1 hv).1
    simpa using this
  have hpos : 0 < i.size := by
    rcases Nat.eq_zero_or_pos i.size with h0 | h0
    · rw [h0] at hj; simp at hj
    · exact h0
  simp only [List.getElem?_map, List.getElem?_range hj, Option.map_some, Option.some.injEq] at hv
  have hlt : j % i.size < i.size := Nat.mod_lt _ hpos
  have hdiv : j / i.size < n := (Nat.div_lt_iff_lt_mul hpos).2 hj
  have hc' : i.zero.cells[j % i.size]? = some c := by
    obtain ⟨c', hcc⟩ : ∃ c', i.zero.cells[j % i.size]? = some c' := ⟨_, List.getElem?_eq_getElem (by rw [hT.len]; exact hlt)⟩
    have := flat_get i.size _ hall (j / i.size) (j % i.size) i.zero c' (by simp [hdiv]) hcc
    rw [Nat.mul_comm, Nat.div_add_mod] at this
    rw [hc] at this
    rw [hcc, ← this]
  have hv' : z.cells.toList[j % i.size]? = some v := by
    rw [← hv, hzs]
    have : j % i.size < z.cells.size := by omega
    simp [this]
  exact hrl.2 _ c v hc' hv'

def effBuildSlice (P : Program) (t len : Nat) (parts : Array (Nat × Operand)) (r : Operand → V) (d : Nat) (h : Heap) : Option (V × List (Nat × Ob)) :=
  match tab P t with
  | none => none
  | some i =>
    match i.kind with
    | .slice e =>
      match tab P e with
      | none => none
      | some ei =>
        if len * ei.size ≤ 16777216 ∧ len ≤ LIM then
          match hget h d, listFill r ei.size parts.toList (List.replicate len ei.zero) with
          | none, some l => some (.so d 0 ei.size 0 len, [(d, .arr 0 (V.idfreeL l) ei.size l)])
          | _, _ => none
        else none
    | _ => none

theorem buildSlice_good {P ρ o w st h t len parts d v ups} {r : Operand → V} (ho : o.op = .buildSlice t len parts) (hr : ∀ x, Rep w st (r x) (ρ x)) (hh : HeapOk w st h)
    (he : effBuildSlice P t len parts r d h = some (v, ups)) : Good P ρ o w st h v ups := by
  unfold effBuildSlice at he
  split at he
  · cases he
  · rename_i i hi
    obtain ⟨info, ds, z, hT⟩ := tab_ok hi
    split at he
    · rename_i e hk
      have hd := kind_slice (hT.kind.symm.trans hk)
      subst hd
      split at he
      · cases he
      · rename_i ei hei
        obtain ⟨info', d', z', hT'⟩ := tab_ok hei
        split at he
        · rename_i hle
          obtain ⟨hle, hlim⟩ := hle
          split at he
          · rename_i l hd hl
            cases he
            have hzs := zeros_rep hT' w st len
            have hall : ∀ x ∈ List.replicate len ei.zero, x.cells.length = ei.size := by
              intro x hx
              rw [(List.mem_replicate.1 hx).2]; exact hT'.len
            obtain ⟨cells', c1, c2, c3, c4⟩ := listFill_ok hr ei.size parts.toList _ ((Array.range (len * ei.size)).map fun k => z'.cells[k % z'.cells.size]!) l hall (by simpa using hzs) hl
            simp only [List.length_replicate] at c4
            obtain ⟨h1, h2⟩ := new_ok (p := V.idfreeL l) (sz := ei.size) (l := l) hh hd cells' e (by omega) c3 (fun hp => (V.idfreeL_iff l).1 hp) c2 (by simp)
            refine ⟨.slice (some ⟨w.heap.size, 0, none⟩) len len, _, _, .inl ?_, ?_, h1, h2⟩
            · have e1 : (parts.map fun (x : Nat × Operand) => (x.1, ρ x.2)).toList = parts.toList.map fun (i, x) => (i, ρ x) := by simp
              unfold execOp
              simp only [ho, Instr.buildSlice, Sem.run_bind, hT.run_und, hT'.run_size, Result.andThen_ok]
              rw [if_neg (by omega)]
              by_cases h0 : len * ei.size = 0
              · simp only [h0, if_true, Sem.run_pure, Result.andThen_ok] at c1 ⊢
                simp only [e1]
                rw [range0] at c1
                simp only [range0]
                simp [c1, newRow]
              · simp only [h0, if_false, Sem.run_bind, hT'.run_zero, Sem.run_pure, Result.andThen_ok, e1, c1]
                simp [newRow]
            · refine Rep.so (o := 0) (b := w.heap.size) (cells := cells') (ty := e) (by simp [updO]) (heap_alloc_new w _) (Nat.le_refl _) ?_ (by simp)
              have := c2.1
              rw [flat_len ei.size l c3, c4] at this
              simp at this ⊢
              omega
          · cases he
        · cases he
    · cases he

def effMake (P : Program) (t : Nat) (a b : V) (d : Nat) (h : Heap) : Option (V × List (Nat × Ob)) :=
  match tab P t with
  | none => none
  | some i =>
    match i.kind, a, b with
    | .slice e, .int _ n, .int _ m =>
      match tab P e with
      | none => none
      | some ei =>
        if 0 ≤ n ∧ n ≤ m ∧ m ≤ LIM then
          match hget h d with
          | none => some (.so d 0 ei.size 0 n.toNat, [(d, .arr 0 true ei.size (List.replicate n.toNat ei.zero))])
          | some _ => none
        else none
    | _, _, _ => none

theorem makeSlice_good {P ρ o w st h t x y a b d v ups} (ho : o.op = .makeSlice t x y) (hx : Rep w st a (ρ x)) (hy : Rep w st b (ρ y)) (hh : HeapOk w st h)
    (he : effMake P t a b d h = some (v, ups)) : Good P ρ o w st h v ups := by
  unfold effMake at he
  split at he
  · cases he
  · rename_i i hi
    obtain ⟨info, ds, z, hT⟩ := tab_ok hi
    split at he
    · rename_i e k1 n k2 m hk
      have hd := kind_slice (hT.kind.symm.trans hk)
      subst hd
      split at he
      · cases he
      · rename_i ei hei
        obtain ⟨info', d', z', hT'⟩ := tab_ok hei
        split at he
        · rename_i hc
          obtain ⟨h0, hnm, hlim⟩ := hc
          split at he
          · rename_i hd
            cases he
            have hzs := zeros_rep hT' w st n.toNat
            have hall : ∀ x ∈ List.replicate n.toNat ei.zero, x.cells.length = ei.size := by
              intro x hx
              rw [(List.mem_replicate.1 hx).2]; exact hT'.len
            have hlim' : n.toNat ≤ LIM := by omega
            obtain ⟨h1, h2⟩ := new_ok (p := true) (sz := ei.size) (l := List.replicate n.toNat ei.zero) hh hd ((Array.range (m.toNat * ei.size)).map fun k => z'.cells[k % z'.cells.size]!) e (by simpa using hlim') hall
              (fun _ x hx => by rw [(List.mem_replicate.1 hx).2]; exact hT'.free) hzs (by
                intro j hj
                simp at hj
                have hj2 : j < m.toNat * ei.size := Nat.lt_of_lt_of_le hj (Nat.mul_le_mul_right _ (by omega))
                simp [hj, hj2])
            refine ⟨.slice (some ⟨w.heap.size, 0, none⟩) n.toNat m.toNat, _, _, .inl ?_, ?_, h1, h2⟩
            · have ex := rep_int hx
              have ey := rep_int hy
              unfold LIM at hlim
              have w1 : IntKind.i64.wrap n = n := by
                unfold IntKind.wrap; simp [IntKind.signed, IntKind.bits]; omega
              have w2 : IntKind.i64.wrap m = m := by
                unfold IntKind.wrap; simp [IntKind.signed, IntKind.bits]; omega
              have hby : info'.bytes ≤ 4096 := by rw [hT'.bytes]; exact hT'.small
              have hmul : (info'.bytes : Int) * m ≤ 281474976710656 := by
                have := Int.mul_le_mul (show (info'.bytes : Int) ≤ 4096 by omega) hlim (by omega) (by omega)
                omega
              have t1 : ¬ (281474976710656 < (info'.bytes : Int) * m) := by omega
              unfold execOp
              simp only [ho, Instr.makeSlice, Sem.run_bind, hT.run_und, Result.andThen_ok, ex, ey, asInt, asIntOf, pure_bind, hT'.run_info, Sem.run_pure, w1, w2]
              rw [if_neg (by simp; omega)]
              simp only [Sem.run_bind, run_askRoom, Result.andThen_ok, hT'.run_size]
              by_cases h0 : m.toNat * ei.size = 0
              · simp only [h0, range0]
                simp [newRow]
              · simp [h0, hT'.run_zero, newRow]
            · refine Rep.so (o := 0) (b := w.heap.size) (ty := e) (by simp [updO]) (heap_alloc_new w _) (by omega) ?_ (by simp)
              simp
          · cases he
        · cases he
    · cases he

end Go.PG
