/- The abstract values of the proof engine: what machine values and memory stand for. -/
import Derived.Calls
import Derived.Laws.Append
import Derived.Laws.CopyRow
import Derived.Tactics
set_option linter.unusedSimpArgs false
set_option linter.unusedVariables false
set_option linter.unnecessarySimpa false
namespace Go.PG

def LIM : Nat := 4294967296

/-- Abstract values. -/
inductive V where
  | bool (b : Bool)
  | int (k : IntKind) (n : Int)
  | str (s : ByteArray)
  | agg (cs : List V)
  | tup (vs : List V)
  | nil
  | sl (sz : Nat) (l : List V)
  | emp (sz : Nat)
  | so (n g sz off len : Nat)
  | nilp
  | ep (n g sz i off : Nat)
  | pr (cs : List V)
  | fn (f : Fn) (cap : List V)
  | nilfn
  | nilm
  | mo (n g : Nat)
  | mp (ks vs : List V)
  | dead
  deriving Inhabited

@[reducible] def V.cells : V → List V
  | .agg cs => cs
  | v => [v]

/-- The id and the generation that a value refers to. -/
def V.tok : V → Option (Nat × Nat)
  | .so n g _ _ _ => some (n, g)
  | .ep n g _ _ _ => some (n, g)
  | .mo n g => some (n, g)
  | _ => none

mutual
def V.idfree : V → Bool
  | .agg cs => idfreeL cs
  | .tup cs => idfreeL cs
  | .fn _ cs => idfreeL cs
  | .so .. => false
  | .ep .. => false
  | .mo .. => false
  | .dead => false
  | .bool _ => true | .int _ _ => true | .str _ => true | .nil => true | .sl _ _ => true | .emp _ => true | .nilp => true | .pr _ => true
  | .nilfn => true | .nilm => true | .mp _ _ => true
def V.idfreeL : List V → Bool
  | [] => true
  | c :: cs => c.idfree && idfreeL cs
end

theorem V.idfreeL_iff (cs : List V) : V.idfreeL cs = true ↔ ∀ c ∈ cs, c.idfree = true := by
  induction cs with
  | nil => simp [V.idfreeL]
  | cons c cs ih => simp [V.idfreeL, ih]

/-- Sealed memory: blocks of S never change. -/
inductive RepS (w : World) (S : Nat → Prop) : V → Value → Prop
  | bool {b} : RepS w S (.bool b) (.bool b)
  | int {k n} : RepS w S (.int k n) (.int k n)
  | str {s} (h : s.size ≤ LIM) : RepS w S (.str s) (.string s)
  | agg {cs : List V} {vs : Array Value} (hl : vs.size = cs.length) (h1 : ∀ (j : Nat) (v : Value), vs[j]? = some v → v.oneCell' = true)
      (h : ∀ (j : Nat) (c : V) (v : Value), cs[j]? = some c → vs[j]? = some v → RepS w S c v) : RepS w S (.agg cs) (.agg vs)
  | tup {cs : List V} {vs : Array Value} (hl : vs.size = cs.length)
      (h : ∀ (j : Nat) (c : V) (v : Value), cs[j]? = some c → vs[j]? = some v → RepS w S c v) : RepS w S (.tup cs) (.tuple vs)
  | nil : RepS w S .nil (.slice none 0 0)
  | slnil {sz} : RepS w S (.sl sz []) (.slice none 0 0)
  | sl {sz l b off cap cells ty fr} (hcap : l.length ≤ cap) (hlim : l.length ≤ LIM) (hs : S b) (hb : w.heap[b]? = some (.cells cells ty fr))
      (hsz : ∀ x ∈ l, x.cells.length = sz)
      (h1 : ∀ i j x c, l[i]? = some x → x.cells[j]? = some c → off + i * sz + j < cells.size ∧ (cells.getD (off + i * sz + j) undef).oneCell' = true)
      (h : ∀ i j x c, l[i]? = some x → x.cells[j]? = some c → RepS w S c (cells.getD (off + i * sz + j) undef)) :
      RepS w S (.sl sz l) (.slice (some ⟨b, off, none⟩) l.length cap)
  | sle {sz a cap} : RepS w S (.sl sz []) (.slice (some a) 0 cap)
  | emp {sz a cap} : RepS w S (.emp sz) (.slice (some a) 0 cap)
  | nilp : RepS w S .nilp (.pointer none)
  | pr {cs : List V} {b off cells ty fr} (hs : S b) (hb : w.heap[b]? = some (.cells cells ty fr))
      (h1 : ∀ j c, cs[j]? = some c → off + j < cells.size ∧ (cells.getD (off + j) undef).oneCell' = true)
      (h : ∀ j c, cs[j]? = some c → RepS w S c (cells.getD (off + j) undef)) :
      RepS w S (.pr cs) (.pointer (some ⟨b, off, none⟩))
  | fn {f} {cs : List V} {vs : Array Value} (hl : vs.size = cs.length)
      (h : ∀ (j : Nat) (c : V) (v : Value), cs[j]? = some c → vs[j]? = some v → RepS w S c v) : RepS w S (.fn f cs) (.func f #[] vs)
  | nilfn : RepS w S .nilfn .nilFunc
  | nilm : RepS w S .nilm (.map none)
  | mpnil : RepS w S (.mp [] []) (.map none)
  | mp {ks vs b es clock} (hs : S b) (hb : w.heap[b]? = some (.map es clock)) (hk : ks.length = es.size) (hv : vs.length = es.size) (hlim : es.size ≤ LIM)
      (h1 : ∀ (j : Nat) (e : MapEntry) (k : V), es[j]? = some e → ks[j]? = some k → RepS w S k e.key)
      (h2 : ∀ (j : Nat) (e : MapEntry) (x : V), es[j]? = some e → vs[j]? = some x → RepS w S x e.val) : RepS w S (.mp ks vs) (.map (some b))

/-- Who has a block: nobody here, nobody ever more (sealed), or the id n (in its generation g, from the cell o on). -/
inductive Own where
  | none
  | shut
  | id (n g o : Nat)
  deriving DecidableEq, Inhabited

/-- Values with what is owned. -/
inductive Rep (w : World) (st : Nat → Own) : V → Value → Prop
  | s {c v} (h : RepS w (fun b => st b = .shut) c v) : Rep w st c v
  | agg {cs : List V} {vs : Array Value} (hl : vs.size = cs.length) (h1 : ∀ (j : Nat) (v : Value), vs[j]? = some v → v.oneCell' = true)
      (h : ∀ (j : Nat) (c : V) (v : Value), cs[j]? = some c → vs[j]? = some v → Rep w st c v) : Rep w st (.agg cs) (.agg vs)
  | tup {cs : List V} {vs : Array Value} (hl : vs.size = cs.length)
      (h : ∀ (j : Nat) (c : V) (v : Value), cs[j]? = some c → vs[j]? = some v → Rep w st c v) : Rep w st (.tup cs) (.tuple vs)
  | so0 {n g sz} : Rep w st (.so n g sz 0 0) (.slice none 0 0)
  | so {n g o sz off len cap b a cells ty} (hs : st b = .id n g o) (hb : w.heap[b]? = some (.cells cells ty (0, 0))) (hc : len ≤ cap) (hf : o + (off + cap) * sz ≤ cells.size)
      (ha : cap ≠ 0 → a = o + off * sz) : Rep w st (.so n g sz off len) (.slice (some ⟨b, a, none⟩) len cap)
  | ep {n g o sz i off b} (hs : st b = .id n g o) : Rep w st (.ep n g sz i off) (.pointer (some ⟨b, o + i * sz + off, none⟩))
  | mo {n g o b} (hs : st b = .id n g o) : Rep w st (.mo n g) (.map (some b))
  | stale {c n g g' o b v} (ht : c.tok = some (n, g)) (hs : st b = .id n g' o) (hg : g < g') (hv : v.oneCell' = true) : Rep w st c v
  | fn {f} {cs : List V} {vs : Array Value} (hl : vs.size = cs.length)
      (h : ∀ (j : Nat) (c : V) (v : Value), cs[j]? = some c → vs[j]? = some v → Rep w st c v) : Rep w st (.fn f cs) (.func f #[] vs)
  | dead {v} : Rep w st .dead v

/-- What an id holds. -/
inductive Ob where
  | arr (g : Nat) (p : Bool) (sz : Nat) (l : List V)
  | map (g : Nat) (ks vs : List V)
  deriving Inhabited

def Ob.gen : Ob → Nat
  | .arr g _ _ _ => g
  | .map g _ _ => g

abbrev Heap := List (Nat × Ob)

def hget : Heap → Nat → Option Ob
  | [], _ => none
  | (k, o) :: r, n => if n = k then some o else hget r n

def hset : Heap → Nat → Ob → Heap
  | [], n, x => [(n, x)]
  | (k, o) :: r, n, x => if n = k then (k, x) :: r else (k, o) :: hset r n x

theorem hget_hset (h : Heap) (n m : Nat) (x : Ob) : hget (hset h n x) m = if m = n then some x else hget h m := by
  induction h with
  | nil => simp only [hset, hget]
  | cons a r ih =>
    obtain ⟨k, o⟩ := a
    by_cases hnk : n = k
    · subst hnk
      simp only [hset, if_true, hget]
      split <;> rfl
    · simp only [hset, if_neg hnk, hget, ih]
      by_cases hmk : m = k
      · subst hmk
        rw [if_pos rfl, if_neg (fun e => hnk e.symm), if_pos rfl]
      · simp only [if_neg hmk]

def hsets (h : Heap) : List (Nat × Ob) → Heap
  | [] => h
  | (n, x) :: r => hsets (hset h n x) r

def ObOk (w : World) (st : Nat → Own) (n : Nat) : Ob → Prop
  | .arr g p sz l => l.length ≤ LIM ∧ (∀ x ∈ l, x.cells.length = sz) ∧ (p = true → ∀ x ∈ l, x.idfree = true) ∧
      ((l = [] ∧ ∀ b g o, st b ≠ .id n g o) ∨
       ∃ b o cells ty, st b = .id n g o ∧ w.heap[b]? = some (.cells cells ty (0, 0)) ∧
        (∀ i j x c, l[i]? = some x → x.cells[j]? = some c → o + i * sz + j < cells.size ∧ (cells.getD (o + i * sz + j) undef).oneCell' = true ∧
          Rep w st c (cells.getD (o + i * sz + j) undef)))
  | .map g ks vs => ∃ b es clock, st b = .id n g 0 ∧ w.heap[b]? = some (.map es clock) ∧ ks.length = es.size ∧ vs.length = es.size ∧ es.size ≤ LIM ∧
      (∀ (j : Nat) (e : MapEntry) (k : V), es[j]? = some e → ks[j]? = some k → Rep w st k e.key) ∧
      (∀ (j : Nat) (e : MapEntry) (x : V), es[j]? = some e → vs[j]? = some x → Rep w st x e.val)

structure HeapOk (w : World) (st : Nat → Own) (h : Heap) : Prop where
  ob : ∀ n x, hget h n = some x → ObOk w st n x
  dom : ∀ b n g o, st b = .id n g o → b < w.heap.size ∧ ∃ x, hget h n = some x ∧ x.gen = g
  inj : ∀ b b' n g o g' o', st b = .id n g o → st b' = .id n g' o' → b = b'
  shut : ∀ b, st b = .shut → b < w.heap.size

/-- From (w, st) to (w', st'): what is not owned has not changed; what is owned is still there, or is there in a later generation. -/
structure Same3 (w w' : World) : Prop where
  os : w'.os = w.os
  tape : w'.tape = w.tape
  output : w'.output = w.output

theorem Same3.refl (w : World) : Same3 w w := ⟨rfl, rfl, rfl⟩
theorem Same3.trans {a b c : World} (h : Same3 a b) (k : Same3 b c) : Same3 a c := ⟨k.os.trans h.os, k.tape.trans h.tape, k.output.trans h.output⟩

structure Fr (w : World) (st : Nat → Own) (w' : World) (st' : Nat → Own) : Prop where
  env : Same3 w w'
  size : w.heap.size ≤ w'.heap.size
  non : ∀ b, b < w.heap.size → (∀ n g o, st b ≠ .id n g o) → st' b = st b ∧ w'.heap[b]? = w.heap[b]?
  id : ∀ b n g o, st b = .id n g o →
    (st' b = .id n g o ∧ (∀ cells ty, w.heap[b]? = some (.cells cells ty (0, 0)) → ∃ cells', w'.heap[b]? = some (.cells cells' ty (0, 0)) ∧ cells'.size = cells.size)) ∨
    (∃ b' g' o', st' b' = .id n g' o' ∧ g < g')

theorem Fr.refl (w : World) (st : Nat → Own) : Fr w st w st :=
  ⟨Same3.refl w, Nat.le_refl _, fun _ _ _ => ⟨rfl, rfl⟩, fun _ _ _ _ h => .inl ⟨h, fun _ _ hb => ⟨_, hb, rfl⟩⟩⟩

theorem Fr.trans {w st w1 st1 w2 st2} (h : Fr w st w1 st1) (h' : Fr w1 st1 w2 st2) : Fr w st w2 st2 := by
  refine ⟨h.env.trans h'.env, Nat.le_trans h.size h'.size, fun b hb hn => ?_, fun b n g o hs => ?_⟩
  · obtain ⟨e1, e2⟩ := h.non b hb hn
    obtain ⟨f1, f2⟩ := h'.non b (Nat.lt_of_lt_of_le hb h.size) (by rw [e1]; exact hn)
    exact ⟨f1.trans e1, f2.trans e2⟩
  · rcases h.id b n g o hs with ⟨hs1, hc⟩ | ⟨b', g', o', hs1, hg⟩
    · rcases h'.id b n g o hs1 with ⟨hs2, hc'⟩ | h2
      · refine .inl ⟨hs2, fun cells ty hb => ?_⟩
        obtain ⟨c1, hb1, hz1⟩ := hc cells ty hb
        obtain ⟨c2, hb2, hz2⟩ := hc' c1 ty hb1
        exact ⟨c2, hb2, hz2.trans hz1⟩
      · exact .inr h2
    · rcases h'.id b' n g' o' hs1 with ⟨hs2, _⟩ | ⟨b2, g2, o2, hs2, hg2⟩
      · exact .inr ⟨b', g', o', hs2, hg⟩
      · exact .inr ⟨b2, g2, o2, hs2, Nat.lt_trans hg hg2⟩

theorem RepS.frame {w w' : World} {S S' : Nat → Prop} {c v} (h : RepS w S c v) (hf : ∀ b, S b → S' b ∧ w'.heap[b]? = w.heap[b]?) : RepS w' S' c v := by
  induction h with
  | bool => exact .bool
  | int => exact .int
  | str h => exact .str h
  | agg hl h1 _ ih => exact .agg hl h1 ih
  | tup hl _ ih => exact .tup hl ih
  | nil => exact .nil
  | slnil => exact .slnil
  | sl hcap hlim hs hb hsz h1 _ ih => exact .sl hcap hlim (hf _ hs).1 ((hf _ hs).2.trans hb) hsz h1 ih
  | sle => exact .sle
  | emp => exact .emp
  | nilp => exact .nilp
  | pr hs hb h1 _ ih => exact .pr (hf _ hs).1 ((hf _ hs).2.trans hb) h1 ih
  | fn hl _ ih => exact .fn hl ih
  | nilfn => exact .nilfn
  | nilm => exact .nilm
  | mpnil => exact .mpnil
  | mp hs hb hk hv hlim _ _ ih1 ih2 => exact .mp (hf _ hs).1 ((hf _ hs).2.trans hb) hk hv hlim ih1 ih2

theorem Rep.frame {w w' : World} {st st' : Nat → Own} {c v} (h : Rep w st c v) (hs : ∀ b, st b = .shut → b < w.heap.size) (hf : Fr w st w' st') : Rep w' st' c v := by
  have hS : ∀ b, st b = .shut → st' b = .shut ∧ w'.heap[b]? = w.heap[b]? := fun b hb => by
    obtain ⟨e1, e2⟩ := hf.non b (hs b hb) (by rw [hb]; intro _ _ _ e; cases e)
    exact ⟨e1.trans hb, e2⟩
  induction h with
  | s h => exact .s (h.frame hS)
  | agg hl h1 _ ih => exact .agg hl h1 ih
  | tup hl _ ih => exact .tup hl ih
  | so0 => exact .so0
  | so h1 hb hc hsz ha =>
    rcases hf.id _ _ _ _ h1 with ⟨h2, hk⟩ | ⟨b', g', o', h2, hg⟩
    · obtain ⟨c', hb', he⟩ := hk _ _ hb
      exact .so h2 hb' hc (by omega) ha
    · exact .stale rfl h2 hg rfl
  | ep h1 =>
    rcases hf.id _ _ _ _ h1 with ⟨h2, _⟩ | ⟨b', g', o', h2, hg⟩
    · exact .ep h2
    · exact .stale rfl h2 hg rfl
  | mo h1 =>
    rcases hf.id _ _ _ _ h1 with ⟨h2, _⟩ | ⟨b', g', o', h2, hg⟩
    · exact .mo h2
    · exact .stale rfl h2 hg rfl
  | stale ht h1 hg hv =>
    rcases hf.id _ _ _ _ h1 with ⟨h2, _⟩ | ⟨b', g', o', h2, hg'⟩
    · exact .stale ht h2 hg hv
    · exact .stale ht h2 (Nat.lt_trans hg hg') hv
  | fn hl _ ih => exact .fn hl ih
  | dead => exact .dead

theorem Rep.shut {w st c v} (h : Rep w st c v) (hi : c.idfree = true) : RepS w (fun b => st b = .shut) c v := by
  induction h with
  | s h => exact h
  | agg hl h1 _ ih =>
    rw [V.idfree, V.idfreeL_iff] at hi
    exact .agg hl h1 fun j c v hc hv => ih j c v hc hv (hi c (List.mem_of_getElem? hc))
  | tup hl _ ih =>
    rw [V.idfree, V.idfreeL_iff] at hi
    exact .tup hl fun j c v hc hv => ih j c v hc hv (hi c (List.mem_of_getElem? hc))
  | so0 => simp [V.idfree] at hi
  | so => simp [V.idfree] at hi
  | ep => simp [V.idfree] at hi
  | mo => simp [V.idfree] at hi
  | @stale c _ _ _ _ _ _ ht _ _ _ => cases c <;> simp [V.tok, V.idfree] at ht hi
  | fn hl _ ih =>
    rw [V.idfree, V.idfreeL_iff] at hi
    exact .fn hl fun j c v hc hv => ih j c v hc hv (hi c (List.mem_of_getElem? hc))
  | dead => simp [V.idfree] at hi

/-- The machine's one-cell constants. -/
def vOf1 : Value → Option V
  | .bool b => some (.bool b)
  | .int k n => some (.int k n)
  | .string s => if s.size ≤ LIM then some (.str s) else none
  | .pointer none => some .nilp
  | .slice none 0 0 => some .nil
  | .map none => some .nilm
  | .nilFunc => some .nilfn
  | _ => none

def vOf : Value → Option V
  | .agg cs => (cs.toList.mapM vOf1).map .agg
  | v => vOf1 v

theorem vOf1_sound {v c} (h : vOf1 v = some c) (w : World) (S : Nat → Prop) : RepS w S c v ∧ v.oneCell' = true ∧ c.cells = [c] := by
  unfold vOf1 at h
  split at h <;> first
    | (cases h; refine ⟨?_, rfl, rfl⟩; constructor; done)
    | (split at h <;> first | (cases h; rename_i hs; exact ⟨.str hs, rfl, rfl⟩) | cases h)
    | cases h

theorem mapM_vOf1 : ∀ (l : List Value) (cs : List V), l.mapM vOf1 = some cs → l.length = cs.length ∧ ∀ (j : Nat) (c : V) (v : Value), cs[j]? = some c → l[j]? = some v → vOf1 v = some c
  | [], cs, h => by simp at h; subst h; simp
  | v :: l, cs, h => by
    simp only [List.mapM_cons, Option.bind_eq_bind, Option.bind_eq_some_iff, Option.pure_def, Option.some.injEq] at h
    obtain ⟨c, hc, cs', hcs, rfl⟩ := h
    obtain ⟨h1, h2⟩ := mapM_vOf1 l cs' hcs
    refine ⟨by simp [h1], fun j c' v' hj hv => ?_⟩
    cases j with
    | zero => simp at hj hv; subst hj; subst hv; exact hc
    | succ j => simp at hj hv; exact h2 j c' v' hj hv

theorem vOf_sound {v c} (h : vOf v = some c) (w : World) (S : Nat → Prop) : RepS w S c v := by
  cases v with
  | agg cs =>
    simp only [vOf, Option.map_eq_some_iff] at h
    obtain ⟨l, hl, rfl⟩ := h
    obtain ⟨h1, h2⟩ := mapM_vOf1 _ _ hl
    refine .agg (by simpa using h1) (fun j v hv => ?_) (fun j c v hc hv => (vOf1_sound (h2 j c v hc (by simpa using hv)) w S).1)
    have hj : j < l.length := by
      have := (Array.getElem?_eq_some_iff.1 hv).1
      simp at h1; omega
    exact (vOf1_sound (h2 j l[j] v (by simp [hj]) (by simpa using hv)) w S).2.1
  | _ => simp only [vOf] at h; exact (vOf1_sound h w S).1

end Go.PG
