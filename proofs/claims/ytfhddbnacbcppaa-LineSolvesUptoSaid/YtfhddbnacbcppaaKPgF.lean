/- The engine: conversions, lengths, windows, strings. -/
import Derived.Test.YtfhddbnacbcppaaKPgE
set_option linter.unusedVariables false
set_option linter.unnecessarySimpa false
set_option linter.unusedSimpArgs false
namespace Go.PG

theorem kind_int {d : TypeDesc} {k : IntKind} (h : kindOf d = .int k) : d = .int k := by
  cases d <;> simp [kindOf] at h
  rw [h]

theorem kind_str {d : TypeDesc} (h : kindOf d = .str) : d = .string := by
  cases d <;> simp [kindOf] at h
  rfl

def effConv (P : Program) (src dst : Nat) (a : V) : Option V :=
  match tab P src, tab P dst with
  | some i, some j =>
    match i.kind, j.kind, a with
    | .int _, .int k, .int _ n => some (.int k (k.wrap n))
    | .str, .str, .str s => some (.str s)
    | _, _, _ => none
  | _, _ => none

theorem conv_good {P ρ o w st h src dst x a v} (ho : o.op = .convert src dst x) (hρ : Rep w st a (ρ x)) (hh : HeapOk w st h) (he : effConv P src dst a = some v) : Good P ρ o w st h v [] := by
  unfold effConv at he
  split at he
  · rename_i i j hi hj
    obtain ⟨_, d, _, hT⟩ := tab_ok hi
    obtain ⟨_, d', _, hT'⟩ := tab_ok hj
    split at he
    · rename_i k1 k k2 n h1 h2
      cases he
      have e1 := kind_int (hT.kind.symm.trans h1)
      have e2 := kind_int (hT'.kind.symm.trans h2)
      subst e1 e2
      have e := rep_int hρ
      refine good_int hh ?_
      unfold execOp
      simp only [ho, convert, Sem.run_bind, hT.run_und, hT'.run_und, Result.andThen_ok, e, Conv.intToInt, Sem.run_pure]
    · rename_i s h1 h2
      cases he
      have e1 := kind_str (hT.kind.symm.trans h1)
      have e2 := kind_str (hT'.kind.symm.trans h2)
      subst e1 e2
      have e := (rep_str hρ).1
      refine good_pure (m := .string s) ?_ (by rw [← e]; exact hρ) hh
      unfold execOp
      simp only [ho, convert, Sem.run_bind, hT.run_und, hT'.run_und, Result.andThen_ok, e, Sem.run_pure]
    · cases he
  · cases he

/-- len of a string, a slice. -/
def effLen (P : Program) (t : Nat) (a : V) (h : Heap) : Option V :=
  match tab P t with
  | none => none
  | some i =>
    match i.kind, a with
    | .str, .str s => some (.int .i64 s.size)
    | .slice _, .sl _ l => some (.int .i64 l.length)
    | .slice _, .nil => some (.int .i64 0)
    | .slice _, .emp _ => some (.int .i64 0)
    | .slice _, .so n g _ _ len => if live h n g = true then some (.int .i64 len) else none
    | _, _ => none

theorem len_good {P ρ o w st h t x a v} (ho : o.op = .call { callee := .builtin .len, args := #[x], argTypes := #[t] }) (hρ : Rep w st a (ρ x)) (hh : HeapOk w st h) (he : effLen P t a h = some v) : Good P ρ o w st h v [] := by
  unfold effLen at he
  split at he
  · cases he
  · rename_i i hi
    obtain ⟨info, d, z, hT⟩ := tab_ok hi
    have run : ∀ n, (Builtin.len_ #[t] o.type #[ρ x]).run P w = .ok (.int .i64 n) w → (execOp ρ o).run P w = .ok (.value (.int .i64 n)) w := by
      intro n hn
      unfold execOp
      simp [ho, resolve, invoke, builtin, hn]
    have slice : ∀ e a len cap, i.kind = .slice e → ρ x = .slice a len cap → (Builtin.len_ #[t] o.type #[ρ x]).run P w = .ok (.int .i64 len) w := by
      intro e a len cap hk hx
      have hd := kind_slice (hT.kind.symm.trans hk)
      subst hd
      simp [Builtin.len_, hT.run_und, hx, goInt]
    split at he
    · rename_i s hk
      cases he
      have hd := kind_str (hT.kind.symm.trans hk)
      subst hd
      have e := (rep_str hρ).1
      refine good_int hh (run _ ?_)
      simp [Builtin.len_, hT.run_und, e, goInt]
    · rename_i e sz l hk
      cases he
      refine good_int hh (run _ ?_)
      rcases (rep_sl hρ).2 with ⟨hm, rfl⟩ | ⟨a, cap, hm, rfl⟩ | ⟨b, off, cap, cells, ty, fr, hm, _⟩
      · exact slice e _ _ _ hk hm
      · exact slice e _ _ _ hk hm
      · exact slice e _ _ _ hk hm
    · rename_i e hk
      cases he
      exact good_int hh (run _ (slice e _ _ _ hk (rep_nil hρ)))
    · rename_i e sz hk
      cases he
      obtain ⟨a, cap, hm⟩ := rep_emp hρ
      exact good_int hh (run _ (slice e _ _ _ hk hm))
    · rename_i e n g sz off len hk
      split at he
      · rename_i hl
        cases he
        refine good_int hh (run _ ?_)
        rcases live_so hh hl hρ with ⟨hm, _, rfl⟩ | ⟨b, oo, ad, cap, cells, ty, hm, _⟩
        · exact slice e _ _ _ hk hm
        · exact slice e _ _ _ hk hm
      · cases he
    · cases he

/-- A byte of a string. -/
def effByte (P : Program) (t : Nat) (a ix : V) : Option V :=
  match tab P t with
  | none => none
  | some i =>
    match i.kind, a, ix with
    | .str, .str s, .int _ n => if 0 ≤ n then (s[n.toNat]?).map fun b => .int .u8 b.toNat else none
    | _, _, _ => none

theorem index_good {P ρ o w st h t x y a ix v} (ho : o.op = .index t x y) (hρ : Rep w st a (ρ x)) (hy : Rep w st ix (ρ y)) (hh : HeapOk w st h) (he : effByte P t a ix = some v) : Good P ρ o w st h v [] := by
  unfold effByte at he
  split at he
  · cases he
  · rename_i i hi
    obtain ⟨info, d, z, hT⟩ := tab_ok hi
    split at he
    · rename_i s kk n hk
      have hd := kind_str (hT.kind.symm.trans hk)
      subst hd
      split at he
      · rename_i h0
        simp only [Option.map_eq_some_iff] at he
        obtain ⟨b, hb, rfl⟩ := he
        refine good_int hh ?_
        unfold execOp
        simp [ho, Instr.index, rep_int hy, (rep_str hρ).1, asIntOf, hT.run_und, h0, hb]
      · cases he
    · cases he

/-- A bound of a slice expression. -/
def bnd (d : Nat) : Option V → Option Nat
  | none => some d
  | some (.int _ n) => if 0 ≤ n then some n.toNat else none
  | _ => none

def effSlice (P : Program) (t : Nat) (a : V) (lo hi : Option V) (h : Heap) : Option V :=
  match tab P t with
  | none => none
  | some i =>
    match i.kind with
    | .slice e =>
      match tab P e with
      | none => none
      | some ei =>
        match a with
        | .sl sz l =>
          match bnd 0 lo, bnd l.length hi with
          | some p, some q => if p ≤ q ∧ q ≤ l.length ∧ sz = ei.size then some (.sl sz ((l.drop p).take (q - p))) else none
          | _, _ => none
        | .so n g sz off len =>
          match bnd 0 lo, bnd len hi with
          | some p, some q => if live h n g = true ∧ p ≤ q ∧ q ≤ len ∧ sz = ei.size then some (.so n g sz (off + p) (q - p)) else none
          | _, _ => none
        | .nil =>
          match bnd 0 lo, bnd 0 hi with
          | some p, some q => if p = 0 ∧ q = 0 then some .nil else none
          | _, _ => none
        | _ => none
    | .str =>
      match a with
      | .str s =>
        match bnd 0 lo, bnd s.size hi with
        | some p, some q => if p ≤ q ∧ q ≤ s.size then some (.str (s.extract p q)) else none
        | _, _ => none
      | _ => none
    | _ => none

/-- The bounds' own reckoning. -/
theorem sliceBounds_run {P : Program} {w : World} {ρ : Operand → Value} (isSlice : Bool) (len cap : Nat) (lo hi : Option Operand) (vlo vhi : Option V) (p q : Nat) {st}
    (hlo : ∀ x, lo = some x → ∃ c, vlo = some c ∧ Rep w st c (ρ x)) (hlo0 : lo = none → vlo = none)
    (hhi : ∀ x, hi = some x → ∃ c, vhi = some c ∧ Rep w st c (ρ x)) (hhi0 : hi = none → vhi = none)
    (hp : bnd 0 vlo = some p) (hq : bnd len vhi = some q) (h1 : p ≤ q) (h2 : q ≤ cap) :
    (Instr.sliceBounds isSlice len cap (lo.map ρ) (hi.map ρ) none).run P w = .ok (p, q, cap) w := by
  have hb : ∀ (x : Operand) (c : V) (y n dd : Nat) (code : BoundsCode), Rep w st c (ρ x) → bnd dd (some c) = some n → n ≤ y → (Instr.sliceBound (ρ x) y code).run P w = .ok n w := by
    intro x c y n dd code hr hn hle
    unfold bnd at hn
    split at hn
    · rename_i h; cases h
    · rename_i k m h
      cases h
      split at hn
      · rename_i h0
        cases hn
        rw [rep_int hr]
        have : m ≤ (y : Int) := by omega
        simp [Instr.sliceBound, asIntOf, h0, this]
      · cases hn
    · cases hn
  unfold Instr.sliceBounds
  cases hi with
  | none =>
    rw [hhi0 rfl] at hq
    simp only [bnd, Option.some.injEq] at hq
    subst hq
    cases lo with
    | none =>
      rw [hlo0 rfl] at hp
      simp only [bnd, Option.some.injEq] at hp
      subst hp
      simp
    | some x =>
      obtain ⟨c, rfl, hr⟩ := hlo x rfl
      have := hb x c len p 0 (if (none : Option Value).isSome then .slice3C else .sliceB) hr hp h1
      simp at this
      simp [this]
  | some y =>
    obtain ⟨c', rfl, hr'⟩ := hhi y rfl
    have e2 := hb y c' cap q len (if isSlice then .sliceAcap else .sliceAlen) hr' hq h2
    cases lo with
    | none =>
      rw [hlo0 rfl] at hp
      simp only [bnd, Option.some.injEq] at hp
      subst hp
      simp [e2]
    | some x =>
      obtain ⟨c, rfl, hr⟩ := hlo x rfl
      have := hb x c q p 0 (if (none : Option Value).isSome then .slice3C else .sliceB) hr hp h1
      simp at this
      simp [this, e2]

theorem slice_good {P ρ o w st h t x lo hi a vlo vhi v} (ho : o.op = .slice t x lo hi none) (hρ : Rep w st a (ρ x))
    (hlo : ∀ x, lo = some x → ∃ c, vlo = some c ∧ Rep w st c (ρ x)) (hlo0 : lo = none → vlo = none)
    (hhi : ∀ x, hi = some x → ∃ c, vhi = some c ∧ Rep w st c (ρ x)) (hhi0 : hi = none → vhi = none)
    (hh : HeapOk w st h) (he : effSlice P t a vlo vhi h = some v) : Good P ρ o w st h v [] := by
  unfold effSlice at he
  split at he
  · cases he
  · rename_i i hi'
    obtain ⟨info, d, z, hT⟩ := tab_ok hi'
    split at he
    · rename_i e hk
      have hd := kind_slice (hT.kind.symm.trans hk)
      subst hd
      split at he
      · cases he
      · rename_i ei hei
        obtain ⟨_, _, _, hT'⟩ := tab_ok hei
        have run : ∀ (ad : Option Addr) (len cap p q : Nat), ρ x = .slice ad len cap → bnd 0 vlo = some p → bnd len vhi = some q → p ≤ q → q ≤ cap →
            (execOp ρ o).run P w = .ok (.value (.slice (if cap = p then ad else ad.map (·.add (p * ei.size))) (q - p) (cap - p))) w := by
          intro ad len cap p q hx hp hq h1 h2
          have hb := sliceBounds_run (P := P) (w := w) true len cap lo hi vlo vhi p q hlo hlo0 hhi hhi0 hp hq h1 h2
          unfold execOp
          simp only [ho, Instr.sliceAt, Instr.slice, Sem.run_bind, hT.run_und, Result.andThen_ok, hx, Option.map_none, hb, hT'.run_size, Sem.run_pure]
        split at he
        · rename_i sz l
          split at he
          · rename_i p q hp hq
            split at he
            · rename_i hc
              obtain ⟨h1, h2, rfl⟩ := hc
              cases he
              obtain ⟨hlim, hm⟩ := rep_sl hρ
              rcases hm with ⟨hm, rfl⟩ | ⟨a, cap, hm, rfl⟩ | ⟨b, off, cap, cells, ty, fr, hm, hcap, hs, hb, hsz, hR⟩
              · simp at h2
                subst h2
                have : p = 0 := by omega
                subst this
                refine good_pure (run _ _ _ _ _ hm hp hq h1 (Nat.le_refl 0)) (.s ?_) hh
                simp
                exact .slnil
              · simp at h2
                subst h2
                have : p = 0 := by omega
                subst this
                have r := run _ _ _ _ _ hm hp hq h1 (Nat.zero_le _)
                by_cases hcp : cap = 0
                · rw [if_pos hcp] at r
                  refine good_pure r (.s ?_) hh
                  simp
                  exact .sle
                · rw [if_neg hcp] at r
                  refine good_pure r (.s ?_) hh
                  simp
                  exact .sle
              · have hlen : ((l.drop p).take (q - p)).length = q - p := by simp; omega
                have key : ∀ (k : Nat) (y : V), ((l.drop p).take (q - p))[k]? = some y → l[p + k]? = some y := by
                  intro k y hy
                  rw [List.getElem?_take] at hy
                  split at hy
                  · rw [List.getElem?_drop] at hy; exact hy
                  · cases hy
                have r := run _ _ _ _ _ hm hp hq h1 (by omega)
                by_cases hcp : cap = p
                · have : q = p := by omega
                  subst this
                  rw [if_pos hcp] at r
                  refine good_pure r (.s ?_) hh
                  have : ((l.drop q).take (q - q)) = [] := by simp
                  rw [this, Nat.sub_self]
                  exact .sl (l := []) (Nat.zero_le _) (by simp [LIM]) hs hb (by simp) (by simp) (by simp)
                · rw [if_neg hcp] at r
                  refine good_pure r (.s ?_) hh
                  simp only [Option.map_some, add_lit']
                  rw [show Value.slice (some ⟨b, off + p * ei.size, none⟩) (q - p) (cap - p) = Value.slice (some ⟨b, off + p * ei.size, none⟩) ((l.drop p).take (q - p)).length (cap - p) by rw [hlen]]
                  refine RepS.sl (S := fun b => st b = .shut) (cap := cap - p) (by rw [hlen]; omega) (by rw [hlen]; omega) hs hb (fun y hy => hsz y (List.mem_of_mem_drop (List.mem_of_mem_take hy))) (fun k j y c hy hc => ?_) (fun k j y c hy hc => ?_)
                  · have := hR _ j y c (key k y hy) hc
                    rw [Nat.add_mul] at this
                    rw [Nat.add_assoc off]
                    exact ⟨this.1, this.2.1⟩
                  · have := hR _ j y c (key k y hy) hc
                    rw [Nat.add_mul] at this
                    rw [Nat.add_assoc off]
                    exact this.2.2
            · cases he
          · cases he
        · rename_i n g sz off len
          split at he
          · rename_i p q hp hq
            split at he
            · rename_i hc
              obtain ⟨hl, h1, h2, rfl⟩ := hc
              cases he
              rcases live_so hh hl hρ with ⟨hm, rfl, rfl⟩ | ⟨b, oo, ad, cap, cells, ty, hm, hs, hb, hcap, hf, ha⟩
              · have : q = 0 := by omega
                subst this
                have : p = 0 := by omega
                subst this
                refine good_pure (run _ _ _ _ _ hm hp hq h1 (Nat.le_refl 0)) ?_ hh
                simp
                exact .so0
              · have r := run _ _ _ _ _ hm hp hq h1 (by omega)
                by_cases hcp : cap = p
                · rw [if_pos hcp] at r
                  refine good_pure r (.so hs hb (by omega) ?_ (by omega)) hh
                  rw [show off + p + (cap - p) = off + cap by omega]; exact hf
                · rw [if_neg hcp] at r
                  refine good_pure r ?_ hh
                  simp only [Option.map_some, add_lit']
                  refine .so hs hb (by omega) ?_ (fun _ => ?_)
                  · rw [show off + p + (cap - p) = off + cap by omega]; exact hf
                  · rw [ha (by omega), Nat.add_mul]; omega
            · cases he
          · cases he
        · split at he
          · rename_i p q hp hq
            split at he
            · rename_i hc
              obtain ⟨rfl, rfl⟩ := hc
              cases he
              refine good_pure (run _ _ _ _ _ (rep_nil hρ) hp hq (Nat.le_refl 0) (Nat.le_refl 0)) (.s ?_) hh
              simp
              exact .nil
            · cases he
          · cases he
        · cases he
    · rename_i hk
      have hd := kind_str (hT.kind.symm.trans hk)
      subst hd
      split at he
      · rename_i s
        obtain ⟨hm, hlim⟩ := rep_str hρ
        split at he
        · rename_i p q hp hq
          split at he
          · rename_i hc
            cases he
            have hb := sliceBounds_run (P := P) (w := w) false s.size s.size lo hi vlo vhi p q hlo hlo0 hhi hhi0 hp hq hc.1 hc.2
            refine good_pure (m := .string (s.extract p q)) ?_ (.s (.str ?_)) hh
            · unfold execOp
              simp [ho, Instr.sliceAt, Instr.slice, hT.run_und, hm, hb]
            · have : (s.extract p q).size ≤ s.size := by simp; omega
              omega
          · cases he
        · cases he
      · cases he
    · cases he

end Go.PG
