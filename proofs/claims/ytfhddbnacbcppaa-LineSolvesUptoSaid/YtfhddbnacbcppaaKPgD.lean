/- The engine: places, parts, and the small operations. -/
import Derived.Test.YtfhddbnacbcppaaKPgC
set_option linter.unusedSimpArgs false
set_option linter.unusedVariables false
set_option linter.unnecessarySimpa false
namespace Go.PG

def live (h : Heap) (n g : Nat) : Bool :=
  match hget h n with
  | some x => x.gen == g
  | none => false

theorem live_not {w st h n g b g' o} (hh : HeapOk w st h) (hl : live h n g = true) (hs : st b = .id n g' o) : ¬ g < g' := by
  obtain ⟨_, y, hy, hgen⟩ := hh.dom _ _ _ _ hs
  unfold live at hl
  rw [hy] at hl
  have : y.gen = g := by simpa using hl
  omega

theorem live_ep {w st h n g sz k off m} (hh : HeapOk w st h) (hl : live h n g = true) (hr : Rep w st (.ep n g sz k off) m) :
    ∃ b o, m = .pointer (some ⟨b, o + k * sz + off, none⟩) ∧ st b = .id n g o := by
  cases hr with
  | s hs => cases hs
  | ep hs => exact ⟨_, _, rfl, hs⟩
  | stale ht hs hgt _ =>
    simp only [V.tok, Option.some.injEq, Prod.mk.injEq] at ht
    obtain ⟨rfl, rfl⟩ := ht
    exact absurd hgt (live_not hh hl hs)

theorem live_so {w st h n g sz off len m} (hh : HeapOk w st h) (hl : live h n g = true) (hr : Rep w st (.so n g sz off len) m) :
    (m = .slice none 0 0 ∧ off = 0 ∧ len = 0) ∨
    ∃ b o a cap cells ty, m = .slice (some ⟨b, a, none⟩) len cap ∧ st b = .id n g o ∧ w.heap[b]? = some (.cells cells ty (0, 0)) ∧ len ≤ cap ∧ o + (off + cap) * sz ≤ cells.size ∧ (cap ≠ 0 → a = o + off * sz) := by
  cases hr with
  | s hs => cases hs
  | so0 => exact .inl ⟨rfl, rfl, rfl⟩
  | so hs hb hc hf ha => exact .inr ⟨_, _, _, _, _, _, rfl, hs, hb, hc, hf, ha⟩
  | stale ht hs hgt _ =>
    simp only [V.tok, Option.some.injEq, Prod.mk.injEq] at ht
    obtain ⟨rfl, rfl⟩ := ht
    exact absurd hgt (live_not hh hl hs)

theorem rep_pr {w st cs m} (h : Rep w st (.pr cs) m) : ∃ b o, m = .pointer (some ⟨b, o, none⟩) ∧ ∀ k n, Rep w st (.pr ((cs.drop k).take n)) (.pointer (some ⟨b, o + k, none⟩)) := by
  cases h with
  | s hs =>
    cases hs with
    | @pr _ b off cells ty fr hS hb h1 hR =>
      refine ⟨b, off, rfl, fun o n => ?_⟩
      have key : ∀ j c, ((cs.drop o).take n)[j]? = some c → cs[o + j]? = some c := by
        intro j c hc
        rw [List.getElem?_take] at hc
        split at hc
        · rw [List.getElem?_drop] at hc; exact hc
        · cases hc
      refine .s (.pr hS hb (fun j c hc => ?_) (fun j c hc => ?_))
      · have := h1 _ _ (key j c hc); rw [← Nat.add_assoc] at this; exact this
      · have := hR _ _ (key j c hc); rw [← Nat.add_assoc] at this; exact this
  | stale ht => simp [V.tok] at ht

/-- A field's place. -/
def effField (P : Program) (s : Nat) (a : V) (f : Nat) (h : Heap) : Option V :=
  match tab P s with
  | none => none
  | some i =>
    match i.kind with
    | .struct fs =>
      match fs[f]? with
      | none => none
      | some (fo, ft) =>
        match tab P ft with
        | none => none
        | some fi =>
          if fi.size = 0 then none else
          match a with
          | .ep n g sz k off => if live h n g = true then some (.ep n g sz k (off + fo)) else none
          | .pr cs => some (.pr ((cs.drop fo).take fi.size))
          | _ => none
    | _ => none

theorem kind_struct {d : TypeDesc} {fs : List (Nat × Nat)} (h : kindOf d = .struct fs) : ∃ fields : Array Field, d = .struct fields ∧ fs = fields.toList.map fun f => (f.offset, f.type) := by
  cases d <;> simp [kindOf] at h
  exact ⟨_, rfl, h.symm⟩

theorem kind_slice {d : TypeDesc} {e : Nat} (h : kindOf d = .slice e) : d = .slice e := by
  cases d <;> simp [kindOf] at h
  rw [h]

theorem kind_array {d : TypeDesc} {n e : Nat} (h : kindOf d = .array n e) : d = .array n e := by
  cases d <;> simp [kindOf] at h
  rw [h.1, h.2]

theorem fieldAddr_good {P ρ o w st h s x f a v} (ho : o.op = .fieldAddr s x f) (hρ : Rep w st a (ρ x)) (hh : HeapOk w st h) (he : effField P s a f h = some v) : Good P ρ o w st h v [] := by
  unfold effField at he
  split at he
  · cases he
  · rename_i i hi
    obtain ⟨info, d, z, hT⟩ := tab_ok hi
    split at he
    · rename_i fs hk
      obtain ⟨fields, rfl, rfl⟩ := kind_struct (hT.kind.symm.trans hk)
      split at he
      · cases he
      · rename_i fo ft hf
        simp only [List.getElem?_map, Option.map_eq_some_iff, Prod.mk.injEq] at hf
        obtain ⟨fl, hfl, rfl, rfl⟩ := hf
        split at he
        · cases he
        · rename_i fi hfi
          obtain ⟨info', d', z', hT'⟩ := tab_ok hfi
          split at he
          · cases he
          · rename_i hne
            have run : ∀ b oo, ρ x = .pointer (some ⟨b, oo, none⟩) → (execOp ρ o).run P w = .ok (.value (.pointer (some ⟨b, oo + fl.offset, none⟩))) w := by
              intro b oo hx
              have hfl' : fields[f]? = some fl := by simpa using hfl
              unfold execOp
              simp only [ho, Instr.fieldAt, Sem.run_bind, hT.run_und, Result.andThen_ok, hx, hfl', Instr.sureAddr, pure_bind, fieldPlace, hT'.run_size, hne, if_false, Sem.run_pure, add_lit']
            split at he
            · rename_i n g sz k off
              split at he
              · rename_i hl
                cases he
                obtain ⟨b, oo, hm, hs⟩ := live_ep hh hl hρ
                refine good_pure (run _ _ hm) ?_ hh
                rw [Nat.add_assoc]
                exact .ep hs
              · cases he
            · cases he
              obtain ⟨b, oo, hm, hp⟩ := rep_pr hρ
              exact good_pure (run _ _ hm) (hp _ _) hh
            · cases he
    · cases he

/-- The k-th element's place. -/
def effIndex (P : Program) (t : Nat) (a ix : V) (h : Heap) : Option V :=
  match tab P t with
  | none => none
  | some i =>
    match ix with
    | .int _ n =>
      match i.kind with
      | .slice e =>
        match tab P e with
        | none => none
        | some ei =>
          match a with
          | .sl sz l => if sz = ei.size ∧ 0 ≤ n then (l[n.toNat]?).map fun x => .pr x.cells else none
          | .so m g sz off len => if live h m g = true ∧ sz = ei.size ∧ 0 ≤ n ∧ n < len then some (.ep m g sz (off + n.toNat) 0) else none
          | _ => none
      | .array len e =>
        match tab P e with
        | none => none
        | some ei =>
          if 0 ≤ n ∧ n < len then
            match a with
            | .ep m g sz k off => if live h m g = true then some (.ep m g sz k (off + n.toNat * ei.size)) else none
            | .pr cs => some (.pr ((cs.drop (n.toNat * ei.size)).take ei.size))
            | _ => none
          else none
      | _ => none
    | _ => none

theorem rep_int {w st k n m} (h : Rep w st (.int k n) m) : m = .int k n := by
  cases h with
  | s h => cases h; rfl
  | stale ht => simp [V.tok] at ht

theorem rep_bool {w st b m} (h : Rep w st (.bool b) m) : m = .bool b := by
  cases h with
  | s h => cases h; rfl
  | stale ht => simp [V.tok] at ht

theorem rep_str {w st s m} (h : Rep w st (.str s) m) : m = .string s ∧ s.size ≤ LIM := by
  cases h with
  | s h => cases h; exact ⟨rfl, by assumption⟩
  | stale ht => simp [V.tok] at ht

theorem rep_agg {w st cs m} (h : Rep w st (.agg cs) m) : ∃ vs : List Value, m = .agg vs.toArray ∧ RepL w st cs vs := by
  have hc := rep_cells h rfl
  cases h with
  | s h => cases h; exact ⟨_, by rw [Array.toArray_toList]; rfl, hc⟩
  | agg => exact ⟨_, by rw [Array.toArray_toList]; rfl, hc⟩
  | stale ht => simp [V.tok] at ht

theorem rep_tup {w st cs m} (h : Rep w st (.tup cs) m) : ∃ vs : Array Value, m = .tuple vs ∧ vs.size = cs.length ∧ ∀ (j : Nat) (c : V) (v : Value), cs[j]? = some c → vs[j]? = some v → Rep w st c v := by
  cases h with
  | s h => cases h with | tup hl h => exact ⟨_, rfl, hl, fun j c v h1 h2 => .s (h j c v h1 h2)⟩
  | tup hl h => exact ⟨_, rfl, hl, h⟩
  | stale ht => simp [V.tok] at ht

theorem rep_nil {w st m} (h : Rep w st .nil m) : m = .slice none 0 0 := by
  cases h with
  | s h => cases h; rfl
  | stale ht => simp [V.tok] at ht

/-- A sealed list: nil, or a row of cells. -/
theorem rep_sl {w st sz l m} (h : Rep w st (.sl sz l) m) : l.length ≤ LIM ∧
    ((m = .slice none 0 0 ∧ l = []) ∨ (∃ a cap, m = .slice (some a) 0 cap ∧ l = []) ∨
    ∃ b off cap cells ty fr, m = .slice (some ⟨b, off, none⟩) l.length cap ∧ l.length ≤ cap ∧ st b = .shut ∧ w.heap[b]? = some (.cells cells ty fr) ∧ (∀ x ∈ l, x.cells.length = sz) ∧
      (∀ (i j : Nat) (x c : V), l[i]? = some x → x.cells[j]? = some c → off + i * sz + j < cells.size ∧ (cells.getD (off + i * sz + j) undef).oneCell' = true ∧
        RepS w (fun b => st b = .shut) c (cells.getD (off + i * sz + j) undef))) := by
  cases h with
  | s h =>
    cases h with
    | slnil => exact ⟨by simp [LIM], .inl ⟨rfl, rfl⟩⟩
    | sle => exact ⟨by simp [LIM], .inr (.inl ⟨_, _, rfl, rfl⟩)⟩
    | sl hcap hlim hs hb hsz h1 h => exact ⟨hlim, .inr (.inr ⟨_, _, _, _, _, _, rfl, hcap, hs, hb, hsz, fun i j x c hx hc => ⟨(h1 i j x c hx hc).1, (h1 i j x c hx hc).2, h i j x c hx hc⟩⟩)⟩
  | stale ht => simp [V.tok] at ht

theorem rep_emp {w st sz m} (h : Rep w st (.emp sz) m) : ∃ a cap, m = .slice (some a) 0 cap := by
  cases h with
  | s h =>
    cases h with
    | emp => exact ⟨_, _, rfl⟩
  | stale ht => simp [V.tok] at ht

theorem indexAddr_good {P ρ o w st h t x y a ix v} (ho : o.op = .indexAddr t x y) (hρ : Rep w st a (ρ x)) (hy : Rep w st ix (ρ y)) (hh : HeapOk w st h) (he : effIndex P t a ix h = some v) :
    Good P ρ o w st h v [] := by
  unfold effIndex at he
  split at he
  · cases he
  · rename_i i hi
    obtain ⟨info, d, z, hT⟩ := tab_ok hi
    split at he
    · rename_i kk n
      have hy' := rep_int hy
      split at he
      · rename_i e hk
        have hd := kind_slice (hT.kind.symm.trans hk)
        subst hd
        split at he
        · cases he
        · rename_i ei hei
          obtain ⟨info', d', z', hT'⟩ := tab_ok hei
          have run : ∀ b oo len cap, ρ x = .slice (some ⟨b, oo, none⟩) len cap → 0 ≤ n → n < len →
              (execOp ρ o).run P w = .ok (.value (.pointer (some ⟨b, oo + n.toNat * ei.size, none⟩))) w := by
            intro b oo len cap hx h0 h1
            unfold execOp
            simp only [ho, Instr.indexAt, Sem.run_bind, hT.run_und, Result.andThen_ok, hx, hy', asIntOf, pure_bind, h0, h1, and_self, if_true, hT'.run_size, Sem.run_pure, add_lit']
          split at he
          · rename_i sz l
            split at he
            · rename_i hc
              obtain ⟨rfl, h0⟩ := hc
              obtain ⟨_, hm⟩ := rep_sl hρ
              simp only [Option.map_eq_some_iff] at he
              obtain ⟨y', hy2, rfl⟩ := he
              have hlt : n.toNat < l.length := (List.getElem?_eq_some_iff.1 hy2).1
              rcases hm with ⟨_, rfl⟩ | ⟨_, _, _, rfl⟩ | ⟨b, off, cap, cells, ty, fr, hm, hcap, hs, hb, hsz, hR⟩
              · simp at hlt
              · simp at hlt
              · refine good_pure (run b off _ cap hm h0 (by omega)) (.s (.pr hs hb (fun j c hc => ?_) (fun j c hc => ?_))) hh
                · exact ⟨(hR _ j y' c hy2 hc).1, (hR _ j y' c hy2 hc).2.1⟩
                · exact (hR _ j y' c hy2 hc).2.2
            · cases he
          · rename_i m g sz off len
            split at he
            · rename_i hc
              obtain ⟨hl, rfl, h0, h1⟩ := hc
              cases he
              rcases live_so hh hl hρ with ⟨_, _, rfl⟩ | ⟨b, oo, ad, cap, cells, ty, hm, hs, hb, hcap, hf, ha⟩
              · simp at h1; omega
              · have e := ha (by omega)
                subst e
                refine good_pure (run b _ _ cap hm h0 h1) ?_ hh
                have : oo + off * ei.size + n.toNat * ei.size = oo + (off + n.toNat) * ei.size + 0 := by rw [Nat.add_mul]; omega
                rw [this]
                exact .ep hs
            · cases he
          · cases he
      · rename_i len e hk
        have hd := kind_array (hT.kind.symm.trans hk)
        subst hd
        split at he
        · cases he
        · rename_i ei hei
          obtain ⟨info', d', z', hT'⟩ := tab_ok hei
          split at he
          · rename_i hc
            obtain ⟨h0, h1⟩ := hc
            have run : ∀ b oo, ρ x = .pointer (some ⟨b, oo, none⟩) →
                (execOp ρ o).run P w = .ok (.value (.pointer (some ⟨b, oo + n.toNat * ei.size, none⟩))) w := by
              intro b oo hx
              unfold execOp
              simp only [ho, Instr.indexAt, Instr.sureAddr, Sem.run_bind, hT.run_und, Result.andThen_ok, hx, hy', asIntOf, pure_bind, h0, h1, and_self, if_true, hT'.run_size, Sem.run_pure, add_lit']
            split at he
            · rename_i m g sz k off
              split at he
              · rename_i hl
                cases he
                obtain ⟨b, oo, hm, hs⟩ := live_ep hh hl hρ
                refine good_pure (run _ _ hm) ?_ hh
                rw [Nat.add_assoc]
                exact .ep hs
              · cases he
            · cases he
              obtain ⟨b, oo, hm, hp⟩ := rep_pr hρ
              exact good_pure (run _ _ hm) (hp _ _) hh
            · cases he
          · cases he
      · cases he
    · cases he

/-- A part of a struct's value. -/
def effPart (P : Program) (s : Nat) (a : V) (f : Nat) : Option V :=
  match tab P s with
  | none => none
  | some i =>
    match i.kind with
    | .struct fs =>
      match fs[f]? with
      | none => none
      | some (fo, ft) =>
        match tab P ft with
        | none => none
        | some fi =>
          match a with
          | .agg cs => if fi.isA = true then some (.agg ((cs.drop fo).take fi.size)) else cs[fo]?
          | _ => none
    | _ => none

theorem field_good {P ρ o w st h s x f a v} (ho : o.op = .field s x f) (hρ : Rep w st a (ρ x)) (hh : HeapOk w st h) (he : effPart P s a f = some v) : Good P ρ o w st h v [] := by
  unfold effPart at he
  split at he
  · cases he
  · rename_i i hi
    obtain ⟨info, d, z, hT⟩ := tab_ok hi
    split at he
    · rename_i fs hk
      obtain ⟨fields, rfl, rfl⟩ := kind_struct (hT.kind.symm.trans hk)
      split at he
      · cases he
      · rename_i fo ft hf
        simp only [List.getElem?_map, Option.map_eq_some_iff, Prod.mk.injEq] at hf
        obtain ⟨fl, hfl, rfl, rfl⟩ := hf
        split at he
        · cases he
        · rename_i fi hfi
          obtain ⟨info', d', z', hT'⟩ := tab_ok hfi
          split at he
          · rename_i cs
            obtain ⟨vs, hm, hr⟩ := rep_agg hρ
            have hfl' : fields[f]? = some fl := by simpa using hfl
            have run : ∀ m, (part fl.type vs.toArray fl.offset).run P w = .ok m w → (execOp ρ o).run P w = .ok (.value m) w := by
              intro m hm'
              unfold execOp
              simp only [ho, Instr.field, Sem.run_bind, hT.run_und, Result.andThen_ok, hm, hfl', asAgg, pure_bind, hm', Sem.run_pure]
            split at he
            · rename_i hA
              cases he
              refine good_pure (run (.agg (vs.drop fl.offset |>.take fi.size).toArray) ?_) ((hr.drop _).take _).agg hh
              simp only [part, Sem.run_bind, hT'.run_isAgg, Result.andThen_ok, hA, if_true, hT'.run_size, Sem.run_pure]
              congr 2
              apply Array.ext'
              simp [List.take_drop, Nat.add_comm]
            · rename_i hA
              obtain ⟨v', hv', h1, _⟩ := hr.get he
              refine good_pure (run v' ?_) h1 hh
              have hA' : fi.isA = false := by simpa using hA
              simp only [part, Sem.run_bind, hT'.run_isAgg, Result.andThen_ok, hA', Bool.false_eq_true, if_false]
              simp [hv']
          · cases he
    · cases he

end Go.PG
