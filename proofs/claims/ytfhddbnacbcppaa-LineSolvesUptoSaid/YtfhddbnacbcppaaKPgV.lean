/- The engine: an id that nobody will change any more becomes sealed. -/
import Derived.Test.YtfhddbnacbcppaaKPgU
set_option linter.unusedVariables false
set_option linter.unnecessarySimpa false
set_option linter.unusedSimpArgs false
namespace Go.PG

mutual
/-- The id n's windows, seen as sealed lists. -/
def V.fix (n g sz : Nat) (l : List V) : V → V
  | .so m k s off len => if m = n then (if k = g ∧ s = sz ∧ off + len ≤ l.length then .sl sz ((l.drop off).take len) else .dead) else .so m k s off len
  | .ep m k s i off => if m = n then .dead else .ep m k s i off
  | .mo m k => if m = n then .dead else .mo m k
  | .agg cs => .agg (fixL n g sz l cs)
  | .tup cs => .tup (fixL n g sz l cs)
  | .fn f cs => .fn f (fixL n g sz l cs)
  | .bool b => .bool b | .int k x => .int k x | .str s => .str s | .nil => .nil | .sl s x => .sl s x | .emp s => .emp s | .nilp => .nilp | .pr cs => .pr cs
  | .nilfn => .nilfn | .nilm => .nilm | .mp ks vs => .mp ks vs | .dead => .dead
def V.fixL (n g sz : Nat) (l : List V) : List V → List V
  | [] => []
  | c :: cs => V.fix n g sz l c :: fixL n g sz l cs
end

theorem fixL_map (n g sz : Nat) (l : List V) (cs : List V) : V.fixL n g sz l cs = cs.map (V.fix n g sz l) := by
  induction cs with
  | nil => rfl
  | cons c cs ih => simp [V.fixL, ih]

def Ob.fix (n g sz : Nat) (l : List V) : Ob → Ob
  | .arr k p s x => .arr k p s (if p = true then x else x.map (V.fix n g sz l))
  | .map k ks vs => .map k (ks.map (V.fix n g sz l)) (vs.map (V.fix n g sz l))

def hfix (n g sz : Nat) (l : List V) : Heap → Heap
  | [] => []
  | (k, x) :: r => if k = n then hfix n g sz l r else (k, x.fix n g sz l) :: hfix n g sz l r

theorem hget_hfix (n g sz : Nat) (l : List V) (m : Nat) : ∀ h : Heap, hget (hfix n g sz l h) m = if m = n then none else (hget h m).map (Ob.fix n g sz l)
  | [] => by simp [hfix, hget]
  | (k, x) :: r => by
    have ih := hget_hfix n g sz l m r
    simp only [hfix]
    by_cases hk : k = n
    · rw [if_pos hk, ih]
      by_cases hm : m = n
      · simp [hm]
      · simp only [hm, if_false, hget]
        rw [if_neg (by rw [hk]; exact hm)]
    · rw [if_neg hk]
      simp only [hget]
      by_cases hmk : m = k
      · rw [if_pos hmk, if_pos hmk, if_neg (by rw [hmk]; exact hk)]; rfl
      · rw [if_neg hmk, if_neg hmk, ih]

def Env.fix (e : Env) (n g sz : Nat) (l : List V) : Env := ⟨e.t.map (V.fix n g sz l), hfix n g sz l e.h⟩

theorem fix_cells (n g sz : Nat) (l : List V) (x : V) : (V.fix n g sz l x).cells = x.cells.map (V.fix n g sz l) := by
  cases x with
  | agg cs => simp [V.fix, fixL_map]
  | so m k s off len =>
    have hr : (V.so m k s off len).cells.map (V.fix n g sz l) = [V.fix n g sz l (.so m k s off len)] := rfl
    rw [hr]
    by_cases h1 : m = n
    · by_cases h2 : k = g ∧ s = sz ∧ off + len ≤ l.length
      · simp only [V.fix, if_pos h1, if_pos h2]
      · simp only [V.fix, if_pos h1, if_neg h2]
    · simp only [V.fix, if_neg h1]
  | ep m k s i off =>
    have hr : (V.ep m k s i off).cells.map (V.fix n g sz l) = [V.fix n g sz l (.ep m k s i off)] := rfl
    rw [hr]
    by_cases h1 : m = n
    · simp only [V.fix, if_pos h1]
    · simp only [V.fix, if_neg h1]
  | mo m k =>
    have hr : (V.mo m k).cells.map (V.fix n g sz l) = [V.fix n g sz l (.mo m k)] := rfl
    rw [hr]
    by_cases h1 : m = n
    · simp only [V.fix, if_pos h1]
    · simp only [V.fix, if_neg h1]
  | _ => rfl

theorem le_seal {e : Env} (n g sz : Nat) (l : List V) (hn : hget e.h n = some (.arr g true sz l)) : Le e (e.fix n g sz l) := by
  intro st a w hr
  let st' : Nat → Own := fun b => match st b with
    | .id m k o => if m = n then .shut else .id m k o
    | y => y
  have k1 : ∀ b, st b = .shut → st' b = .shut := fun b hb => by show (match st b with | .id m k o => _ | y => y) = _; rw [hb]
  have k2 : ∀ b m k o, st b = .id m k o → m ≠ n → st' b = .id m k o := fun b m k o hb hm => by
    show (match st b with | .id m k o => if m = n then Own.shut else .id m k o | y => y) = _
    rw [hb]; simp [hm]
  have k2' : ∀ b k o, st b = .id n k o → st' b = .shut := fun b k o hb => by
    show (match st b with | .id m k o => if m = n then Own.shut else .id m k o | y => y) = _
    rw [hb]; simp
  have k3 : ∀ b m k o, st' b = .id m k o → st b = .id m k o ∧ m ≠ n := fun b m k o hb => by
    have hb' : (match st b with | .id m k o => if m = n then Own.shut else .id m k o | y => y) = .id m k o := hb
    split at hb'
    · rename_i e1
      split at hb'
      · cases hb'
      · rename_i hne
        injection hb' with f1 f2 f3; subst f1 f2 f3
        exact ⟨e1, hne⟩
    · rename_i hno
      exact absurd hb' (hno _ _ _)
  have k4 : ∀ b, st' b = .shut → st b = .shut ∨ ∃ k o, st b = .id n k o := fun b hb => by
    have hb' : (match st b with | .id m k o => if m = n then Own.shut else .id m k o | y => y) = .shut := hb
    split at hb'
    · rename_i m k o e1
      split at hb'
      · rename_i hm; subst hm; exact .inr ⟨k, o, e1⟩
      · cases hb'
    · exact .inl hb'
  have hS : ∀ {c v}, RepS w (fun b => st b = .shut) c v → RepS w (fun b => st' b = .shut) c v := fun h => h.frame fun b hb => ⟨k1 b hb, rfl⟩
  obtain ⟨hlim, hlsz, hlfree, hlob⟩ := hr.heap.ob n _ hn
  have key : ∀ {c v}, Rep w st c v → Rep w st' (V.fix n g sz l c) v := by
    intro c v h
    induction h with
    | @s c v h =>
      have := repS_free h
      have hfix : V.fix n g sz l c = c := by
        have key : ∀ (k : Nat) (c : V), SizeOf.sizeOf c < k → c.idfree = true → V.fix n g sz l c = c := by
          intro k
          induction k with
          | zero => intro c hc; omega
          | succ k ih =>
            intro c hc hi
            have kids : ∀ cs : List V, SizeOf.sizeOf cs ≤ k → (∀ c ∈ cs, c.idfree = true) → V.fixL n g sz l cs = cs := by
              intro cs hs hcs
              rw [fixL_map]
              have : ∀ c ∈ cs, V.fix n g sz l c = c := fun c hmem => ih c (by have := List.sizeOf_lt_of_mem hmem; omega) (hcs c hmem)
              calc cs.map (V.fix n g sz l) = cs.map id := List.map_congr_left this
                _ = cs := List.map_id cs
            cases c <;> simp only [V.idfree, V.fix, V.idfreeL_iff] at hi ⊢ <;> first
              | rfl
              | (rw [kids _ (by simp at hc; omega) hi])
              | (simp at hi; done)
        exact key _ c (Nat.lt_succ_self _) this
      rw [hfix]; exact .s (hS h)
    | agg hl h1 _ ih =>
      simp only [V.fix, fixL_map]
      refine .agg (by simpa using hl) h1 (fun j c v hc hv => ?_)
      simp only [List.getElem?_map, Option.map_eq_some_iff] at hc
      obtain ⟨c0, hc0, rfl⟩ := hc
      exact ih j c0 v hc0 hv
    | tup hl _ ih =>
      simp only [V.fix, fixL_map]
      refine .tup (by simpa using hl) (fun j c v hc hv => ?_)
      simp only [List.getElem?_map, Option.map_eq_some_iff] at hc
      obtain ⟨c0, hc0, rfl⟩ := hc
      exact ih j c0 v hc0 hv
    | so0 =>
      simp only [V.fix]
      split
      · split
        · rename_i hc
          obtain ⟨_, rfl, _⟩ := hc
          simp
          exact .s .slnil
        · exact .dead
      · exact .so0
    | @so m k o s off len cap b ad cells ty hs hb hc hf ha =>
      simp only [V.fix]
      split
      · rename_i hm
        subst hm
        split
        · rename_i hcond
          obtain ⟨rfl, rfl, hle⟩ := hcond
          rcases hlob with ⟨rfl, hno⟩ | ⟨b', o', cells', ty', hb', hc', hR⟩
          · exact absurd hs (hno _ _ _)
          · have e1 := hr.heap.inj _ _ _ _ _ _ _ hs hb'
            subst e1
            rw [hs] at hb'
            injection hb' with _ _ e3
            subst e3
            rw [hb] at hc'
            cases hc'
            have hlen : ((l.drop off).take len).length = len := by simp; omega
            have hval : Value.slice (some ⟨b, ad, none⟩) len cap = Value.slice (some ⟨b, ad, none⟩) ((l.drop off).take len).length cap := by rw [hlen]
            rw [hval]
            refine .s (.sl (by rw [hlen]; exact hc) (by omega) (k2' b _ _ hs) hb (fun x hx => hlsz x (mem_window hx)) (fun i j x c hx hcj => ?_) (fun i j x c hx hcj => ?_))
            all_goals
              have hil := (window_get hx).2
              have e := ha (by omega)
              subst e
              have := hR _ j x c (window_get hx).1 hcj
              rw [Nat.add_mul, ← Nat.add_assoc] at this
            · exact ⟨this.1, this.2.1⟩
            · exact hS (this.2.2.shut (cells_free (hlfree rfl x (mem_window (List.mem_of_getElem? hx))) c (List.mem_of_getElem? hcj)))
        · exact .dead
      · rename_i hm
        exact .so (k2 _ _ _ _ hs hm) hb hc hf ha
    | @ep m k o s i off b hs =>
      simp only [V.fix]
      split
      · exact .dead
      · rename_i hm; exact .ep (k2 _ _ _ _ hs hm)
    | @mo m k o b hs =>
      simp only [V.fix]
      split
      · exact .dead
      · rename_i hm; exact .mo (k2 _ _ _ _ hs hm)
    | @stale c m k k' o b v ht hs hg hv =>
      cases c <;> simp [V.tok] at ht
      all_goals
        obtain ⟨rfl, rfl⟩ := ht
        simp only [V.fix]
        split
        · first
          | exact .dead
          | (split
             · rename_i hm hcond
               obtain ⟨rfl, _, _⟩ := hcond
               subst hm
               obtain ⟨_, y, hy, hgn⟩ := hr.heap.dom _ _ _ _ hs
               rw [hn] at hy
               cases hy
               simp only [Ob.gen] at hgn
               omega
             · exact .dead)
        · rename_i hm
          exact .stale rfl (k2 _ _ _ _ hs hm) hg hv
    | fn hl _ ih =>
      simp only [V.fix, fixL_map]
      refine .fn (by simpa using hl) (fun j c v hc hv => ?_)
      simp only [List.getElem?_map, Option.map_eq_some_iff] at hc
      obtain ⟨c0, hc0, rfl⟩ := hc
      exact ih j c0 v hc0 hv
    | dead => exact .dead
  refine ⟨st', ⟨hr.defers, by simp [Env.fix, hr.size], fun i c v hc hv => ?_, ⟨fun m x hx => ?_, fun b m k o hb => ?_, fun b b' m k o k' o' h1 h2 => hr.heap.inj _ _ _ _ _ _ _ (k3 _ _ _ _ h1).1 (k3 _ _ _ _ h2).1, fun b hb => ?_⟩⟩, ⟨Same3.refl w, Nat.le_refl _, fun b hb hno => ⟨?_, rfl⟩⟩⟩
  · simp only [Env.fix, List.getElem?_map, Option.map_eq_some_iff] at hc
    obtain ⟨c0, hc0, rfl⟩ := hc
    exact key (hr.tmps i c0 v hc0 hv)
  · simp only [Env.fix, hget_hfix] at hx
    split at hx
    · cases hx
    · rename_i hm
      simp only [Option.map_eq_some_iff] at hx
      obtain ⟨x0, hx0, rfl⟩ := hx
      have hob := hr.heap.ob m x0 hx0
      cases x0 with
      | arr k p s x =>
        obtain ⟨a1, a2, a3, a4⟩ := hob
        by_cases hp : p = true
        · simp only [Ob.fix, hp, if_true]
          refine ⟨a1, a2, fun _ => a3 hp, ?_⟩
          rcases a4 with ⟨e0, hno⟩ | ⟨b, o, cells, ty, hb, hc, hR⟩
          · exact .inl ⟨e0, fun b g o hb => hno _ _ _ (k3 _ _ _ _ hb).1⟩
          · refine .inr ⟨b, o, cells, ty, k2 _ _ _ _ hb hm, hc, fun i j y c hy hcj => ⟨(hR i j y c hy hcj).1, (hR i j y c hy hcj).2.1, .s (hS ((hR i j y c hy hcj).2.2.shut (cells_free (a3 hp y (List.mem_of_getElem? hy)) c (List.mem_of_getElem? hcj))))⟩⟩
        · simp only [Ob.fix, hp, if_false, Bool.false_eq_true]
          refine ⟨by simpa using a1, fun y hy => ?_, fun h => absurd h (by simpa using hp), ?_⟩
          · obtain ⟨y0, hy0, rfl⟩ := List.mem_map.1 hy
            rw [fix_cells]; simpa using a2 y0 hy0
          · rcases a4 with ⟨e0, hno⟩ | ⟨b, o, cells, ty, hb, hc, hR⟩
            · exact .inl ⟨by rw [e0]; rfl, fun b g o hb => hno _ _ _ (k3 _ _ _ _ hb).1⟩
            · refine .inr ⟨b, o, cells, ty, k2 _ _ _ _ hb hm, hc, fun i j y c hy hcj => ?_⟩
              simp only [List.getElem?_map, Option.map_eq_some_iff] at hy
              obtain ⟨y0, hy0, rfl⟩ := hy
              rw [fix_cells] at hcj
              simp only [List.getElem?_map, Option.map_eq_some_iff] at hcj
              obtain ⟨c0, hc0, rfl⟩ := hcj
              exact ⟨(hR i j y0 c0 hy0 hc0).1, (hR i j y0 c0 hy0 hc0).2.1, key (hR i j y0 c0 hy0 hc0).2.2⟩
      | map k ks vs =>
        obtain ⟨b, es, clock, hb, hc, e1, e2, e3, r1, r2⟩ := hob
        refine ⟨b, es, clock, k2 _ _ _ _ hb hm, hc, by simpa using e1, by simpa using e2, e3, fun j e kk he hk => ?_, fun j e kk he hk => ?_⟩
        · simp only [List.getElem?_map, Option.map_eq_some_iff] at hk
          obtain ⟨c0, hc0, rfl⟩ := hk
          exact key (r1 j e c0 he hc0)
        · simp only [List.getElem?_map, Option.map_eq_some_iff] at hk
          obtain ⟨c0, hc0, rfl⟩ := hk
          exact key (r2 j e c0 he hc0)
  · obtain ⟨h1, h2⟩ := k3 _ _ _ _ hb
    obtain ⟨r1, y, r2, r3⟩ := hr.heap.dom _ _ _ _ h1
    refine ⟨r1, y.fix n g sz l, ?_, ?_⟩
    · simp only [Env.fix, hget_hfix]
      rw [if_neg h2, r2]; rfl
    · rw [← r3]; cases y <;> rfl
  · rcases k4 b hb with h | ⟨k, o, h⟩
    · exact hr.heap.shut b h
    · exact (hr.heap.dom _ _ _ _ h).1
  · show (match st b with | .id m k o => _ | y => y) = st b
    cases e1 : st b with
    | id m k o => exact absurd e1 (hno _ _ _)
    | _ => rfl

theorem tr_seal {P c e} {Q : Post} (n g sz : Nat) (l : List V) (hn : hget e.h n = some (.arr g true sz l)) (h : Tr P c (e.fix n g sz l) Q) : Tr P c e Q := tr_le (le_seal n g sz l hn) h

theorem tr_env {P c e e'} {Q : Post} (he : e = e') (h : Tr P c e' Q) : Tr P c e Q := he ▸ h

attribute [go_sem] V.fix V.fixL Ob.fix hfix Env.fix

end Go.PG
