import Derived.Calls
import Derived.Laws.Append
import Derived.Laws.CopyRow
import Derived.Tactics
import Derived.Laws.AppendOwn
import Derived.Lib.ConvBytes
import Derived.Laws.StructEq
set_option linter.unusedSimpArgs false
set_option linter.unusedVariables false
set_option linter.unnecessarySimpa false
set_option linter.unusedSectionVars false

namespace Go.PG
def LIM : Nat := 4294967296
inductive V where
 | bool (b : Bool)
 | int (k : IntKind) (n : Int)
 | str (s : ByteArray)
 | agg (cs : List V)
 | tup (vs : List V)
 | nil
 | sl (sz : Nat) (l : List V)
 | emp (sz : Nat)
 | so (n g sz off len : Nat)
 | nilp
 | ep (n g sz i off : Nat)
 | pr (cs : List V)
 | fn (f : Fn) (cap : List V)
 | nilfn
 | nilm
 | mo (n g : Nat)
 | mp (ks vs : List V)
 | blk (b : Nat)
 | hl (s sz : Nat) (l : List V)
 | hm (s : Nat) (ks vs : List V)
 | dead
 deriving Inhabited
@[reducible] def V.cells : V -> List V
 | .agg cs => cs
 | v => [v]
def V.tok : V -> Option (Nat × Nat)
 | .so n g _ _ _ => some (n, g)
 | .ep n g _ _ _ => some (n, g)
 | .mo n g => some (n, g)
 | _ => none
mutual
def V.idfree : V -> Bool
 | .agg cs => idfreeL cs
 | .tup cs => idfreeL cs
 | .fn _ cs => idfreeL cs
 | .so .. => false
 | .ep .. => false
 | .mo .. => false
 | .blk _ => false
 | .hl .. => false
 | .hm .. => false
 | .dead => false
 | .bool _ => true | .int _ _ => true | .str _ => true | .nil => true | .sl _ _ => true | .emp _ => true | .nilp => true | .pr _ => true
 | .nilfn => true | .nilm => true | .mp _ _ => true
def V.idfreeL : List V -> Bool
 | [] => true
 | c :: cs => c.idfree && idfreeL cs
end
theorem V.idfreeL_iff (cs : List V) : V.idfreeL cs = true ↔ ∀ c ∈ cs, c.idfree = true := by
 induction cs with
 | nil => simp [V.idfreeL]
 | cons c cs ih => simp [V.idfreeL, ih]
def BornOk (es : Array MapEntry) (clock : Nat) : Prop := (es.toList.map (·.born)).Nodup /\ ∀ e ∈ es.toList, e.born < clock
inductive RepS (w : World) (S : Nat -> Prop) : V -> Value -> Prop
 | bool {b} : RepS w S (.bool b) (.bool b)
 | int {k n} : RepS w S (.int k n) (.int k n)
 | str {s} (h : s.size <= LIM) : RepS w S (.str s) (.string s)
 | agg {cs : List V} {vs : Array Value} (hl : vs.size = cs.length) (h1 : ∀ (j : Nat) (v : Value), vs[j]? = some v -> v.oneCell' = true)
   (h : ∀ (j : Nat) (c : V) (v : Value), cs[j]? = some c -> vs[j]? = some v -> RepS w S c v) : RepS w S (.agg cs) (.agg vs)
 | tup {cs : List V} {vs : Array Value} (hl : vs.size = cs.length)
   (h : ∀ (j : Nat) (c : V) (v : Value), cs[j]? = some c -> vs[j]? = some v -> RepS w S c v) : RepS w S (.tup cs) (.tuple vs)
 | nil : RepS w S .nil (.slice none 0 0)
 | slnil {sz} : RepS w S (.sl sz []) (.slice none 0 0)
 | sl {sz l b off cap cells ty fr} (hcap : l.length <= cap) (hlim : l.length <= LIM) (hs : S b) (hb : w.heap[b]? = some (.cells cells ty fr))
   (hsz : ∀ x ∈ l, x.cells.length = sz)
   (h1 : ∀ i j x c, l[i]? = some x -> x.cells[j]? = some c -> off + i * sz + j < cells.size /\ (cells.getD (off + i * sz + j) undef).oneCell' = true)
   (h : ∀ i j x c, l[i]? = some x -> x.cells[j]? = some c -> RepS w S c (cells.getD (off + i * sz + j) undef)) :
   RepS w S (.sl sz l) (.slice (some ⟨b, off, none⟩) l.length cap)
 | sle {sz a cap} : RepS w S (.sl sz []) (.slice (some a) 0 cap)
 | emp {sz a cap} : RepS w S (.emp sz) (.slice (some a) 0 cap)
 | nilp : RepS w S .nilp (.pointer none)
 | pr {cs : List V} {b off cells ty fr} (hs : S b) (hb : w.heap[b]? = some (.cells cells ty fr))
   (h1 : ∀ j c, cs[j]? = some c -> off + j < cells.size /\ (cells.getD (off + j) undef).oneCell' = true)
   (h : ∀ j c, cs[j]? = some c -> RepS w S c (cells.getD (off + j) undef)) :
   RepS w S (.pr cs) (.pointer (some ⟨b, off, none⟩))
 | fn {f} {cs : List V} {vs : Array Value} (hl : vs.size = cs.length)
   (h : ∀ (j : Nat) (c : V) (v : Value), cs[j]? = some c -> vs[j]? = some v -> RepS w S c v) : RepS w S (.fn f cs) (.func f #[] vs)
 | nilfn : RepS w S .nilfn .nilFunc
 | nilm : RepS w S .nilm (.map none)
 | mpnil : RepS w S (.mp [] []) (.map none)
 | mp {ks vs b es clock} (hs : S b) (hb : w.heap[b]? = some (.map es clock)) (hk : ks.length = es.size) (hv : vs.length = es.size) (hlim : es.size <= LIM /\ BornOk es clock)
   (h1 : ∀ (j : Nat) (e : MapEntry) (k : V), es[j]? = some e -> ks[j]? = some k -> RepS w S k e.key)
   (h2 : ∀ (j : Nat) (e : MapEntry) (x : V), es[j]? = some e -> vs[j]? = some x -> RepS w S x e.val) : RepS w S (.mp ks vs) (.map (some b))
inductive Own where
 | none
 | shut
 | id (n g o : Nat)
 | hid (s : Nat)
 deriving DecidableEq, Inhabited
inductive Rep (w : World) (st : Nat -> Own) : V -> Value -> Prop
 | s {c v} (h : RepS w (fun b => st b = .shut) c v) : Rep w st c v
 | agg {cs : List V} {vs : Array Value} (hl : vs.size = cs.length) (h1 : ∀ (j : Nat) (v : Value), vs[j]? = some v -> v.oneCell' = true)
   (h : ∀ (j : Nat) (c : V) (v : Value), cs[j]? = some c -> vs[j]? = some v -> Rep w st c v) : Rep w st (.agg cs) (.agg vs)
 | tup {cs : List V} {vs : Array Value} (hl : vs.size = cs.length)
   (h : ∀ (j : Nat) (c : V) (v : Value), cs[j]? = some c -> vs[j]? = some v -> Rep w st c v) : Rep w st (.tup cs) (.tuple vs)
 | so0 {n g sz base} : Rep w st (.so n g sz 0 0) (.slice base 0 0)
 | so {n g o sz off len cap b a cells ty} (hs : st b = .id n g o) (hb : w.heap[b]? = some (.cells cells ty (0, 0))) (hc : len <= cap) (hf : o + (off + cap) * sz <= cells.size)
   (ha : cap ≠ 0 -> a = o + off * sz) : Rep w st (.so n g sz off len) (.slice (some ⟨b, a, none⟩) len cap)
 | ep {n g o sz i off b} (hs : st b = .id n g o) : Rep w st (.ep n g sz i off) (.pointer (some ⟨b, o + i * sz + off, none⟩))
 | mo {n g o b} (hs : st b = .id n g o) : Rep w st (.mo n g) (.map (some b))
 | stale {c n g g' o b v} (ht : c.tok = some (n, g)) (hs : st b = .id n g' o) (hg : g < g') (hv : v.oneCell' = true) : Rep w st c v
 | fn {f} {cs : List V} {vs : Array Value} (hl : vs.size = cs.length)
   (h : ∀ (j : Nat) (c : V) (v : Value), cs[j]? = some c -> vs[j]? = some v -> Rep w st c v) : Rep w st (.fn f cs) (.func f #[] vs)
 | blk {b} : Rep w st (.blk b) (.pointer (some ⟨b, 0, none⟩))
 | hl0 {s sz base} : Rep w st (.hl s sz []) (.slice base 0 0)
 | hl {s sz l b a len cap cells ty} (hs : st b = .hid s) (hb : w.heap[b]? = some (.cells cells ty (0, 0))) (hc : l.length <= cap) (hlen : len = l.length) (hlim : l.length <= LIM) (hf : a + cap * sz <= cells.size)
   (hsz : ∀ x ∈ l, x.cells.length = sz /\ x.idfree = true)
   (h1 : ∀ i j x c, l[i]? = some x -> x.cells[j]? = some c -> a + i * sz + j < cells.size /\ (cells.getD (a + i * sz + j) undef).oneCell' = true)
   (h : ∀ i j x c, l[i]? = some x -> x.cells[j]? = some c -> RepS w (fun b => st b = .shut) c (cells.getD (a + i * sz + j) undef)) :
   Rep w st (.hl s sz l) (.slice (some ⟨b, a, none⟩) len cap)
 | hm {s ks vs b es clock} (hs : st b = .hid s) (hb : w.heap[b]? = some (.map es clock)) (hk : ks.length = es.size) (hv : vs.length = es.size) (hlim : es.size <= LIM /\ BornOk es clock)
   (hi : (∀ x ∈ ks, x.idfree = true) /\ ∀ x ∈ vs, x.idfree = true)
   (h1 : ∀ (j : Nat) (e : MapEntry) (k : V), es[j]? = some e -> ks[j]? = some k -> RepS w (fun b => st b = .shut) k e.key)
   (h2 : ∀ (j : Nat) (e : MapEntry) (x : V), es[j]? = some e -> vs[j]? = some x -> RepS w (fun b => st b = .shut) x e.val) : Rep w st (.hm s ks vs) (.map (some b))
 | dead {v} : Rep w st .dead v
inductive Ob where
 | arr (g : Nat) (p : Bool) (sz : Nat) (l : List V)
 | map (g : Nat) (ks vs : List V)
 deriving Inhabited
def Ob.gen : Ob -> Nat
 | .arr g _ _ _ => g
 | .map g _ _ => g
abbrev Heap := List (Nat × Ob)
def hget : Heap -> Nat -> Option Ob
 | [], _ => none
 | (k, o) :: r, n => if n = k then some o else hget r n
def hset : Heap -> Nat -> Ob -> Heap
 | [], n, x => [(n, x)]
 | (k, o) :: r, n, x => if n = k then (k, x) :: r else (k, o) :: hset r n x
theorem hget_hset (h : Heap) (n m : Nat) (x : Ob) : hget (hset h n x) m = if m = n then some x else hget h m := by
 induction h with
 | nil => simp only [hset, hget]
 | cons a r ih =>
  obtain ⟨k, o⟩ := a;by_cases hnk : n = k
  ·subst hnk;simp only [hset, if_true, hget];split <;> rfl
  ·simp only [hset, if_neg hnk, hget, ih];by_cases hmk : m = k
   ·subst hmk;rw [if_pos rfl, if_neg (fun e => hnk e.symm), if_pos rfl]
   ·simp only [if_neg hmk]
def hsets (h : Heap) : List (Nat × Ob) -> Heap
 | [] => h
 | (n, x) :: r => hsets (hset h n x) r
def ObOk (w : World) (st : Nat -> Own) (n : Nat) : Ob -> Prop
  | .arr g p sz l => l.length <= LIM /\ (∀ x ∈ l, x.cells.length = sz) /\ (p = true -> ∀ x ∈ l, x.idfree = true) /\
      ((l = [] /\ ∀ b g o, st b ≠ .id n g o) \/
       ∃ b o cells ty, st b = .id n g o /\ w.heap[b]? = some (.cells cells ty (0, 0)) /\
        (∀ i j x c, l[i]? = some x -> x.cells[j]? = some c -> o + i * sz + j < cells.size /\ (cells.getD (o + i * sz + j) undef).oneCell' = true /\
          Rep w st c (cells.getD (o + i * sz + j) undef)))
  | .map g ks vs => ∃ b es clock, st b = .id n g 0 /\ w.heap[b]? = some (.map es clock) /\ ks.length = es.size /\ vs.length = es.size /\ (es.size <= LIM /\ BornOk es clock) /\
      (∀ (j : Nat) (e : MapEntry) (k : V), es[j]? = some e -> ks[j]? = some k -> Rep w st k e.key) /\
      (∀ (j : Nat) (e : MapEntry) (x : V), es[j]? = some e -> vs[j]? = some x -> Rep w st x e.val)
structure HeapOk (w : World) (st : Nat -> Own) (h : Heap) : Prop where
 ob : ∀ n x, hget h n = some x -> ObOk w st n x
 dom : ∀ b n g o, st b = .id n g o -> b < w.heap.size /\ ∃ x, hget h n = some x /\ x.gen = g
 inj : ∀ b b' n g o g' o', st b = .id n g o -> st b' = .id n g' o' -> b = b'
 shut : ∀ b, st b = .shut -> b < w.heap.size
 hid : ∀ b s, st b = .hid s -> b < w.heap.size
structure Same3 (w w' : World) : Prop where
 os : w'.os = w.os
 tape : w'.tape = w.tape
 output : w'.output = w.output
 drawn : w.drawn <= w'.drawn
theorem Same3.refl (w : World) : Same3 w w := ⟨rfl, rfl, rfl, Nat.le_refl _⟩
theorem Same3.trans {a b c : World} (h : Same3 a b) (k : Same3 b c) : Same3 a c := ⟨k.os.trans h.os, k.tape.trans h.tape, k.output.trans h.output, Nat.le_trans h.drawn k.drawn⟩
structure Fr (w : World) (st : Nat -> Own) (w' : World) (st' : Nat -> Own) : Prop where
 env : Same3 w w'
 size : w.heap.size <= w'.heap.size
 non : ∀ b, b < w.heap.size -> (∀ n g o, st b ≠ .id n g o) -> st' b = st b /\ w'.heap[b]? = w.heap[b]?
 id : ∀ b n g o, st b = .id n g o ->
  (st' b = .id n g o /\ (∀ cells ty, w.heap[b]? = some (.cells cells ty (0, 0)) -> ∃ cells', w'.heap[b]? = some (.cells cells' ty (0, 0)) /\ cells'.size = cells.size)) \/
  (∃ b' g' o', st' b' = .id n g' o' /\ g < g')
theorem Fr.refl (w : World) (st : Nat -> Own) : Fr w st w st :=
 ⟨Same3.refl w, Nat.le_refl _, fun _ _ _ => ⟨rfl, rfl⟩, fun _ _ _ _ h => .inl ⟨h, fun _ _ hb => ⟨_, hb, rfl⟩⟩⟩
theorem Fr.trans {w st w1 st1 w2 st2} (h : Fr w st w1 st1) (h' : Fr w1 st1 w2 st2) : Fr w st w2 st2 := by
 refine ⟨h.env.trans h'.env, Nat.le_trans h.size h'.size, fun b hb hn => ?_, fun b n g o hs => ?_⟩
 ·obtain ⟨e1, e2⟩ := h.non b hb hn;obtain ⟨f1, f2⟩ := h'.non b (Nat.lt_of_lt_of_le hb h.size) (by rw [e1]; exact hn);exact ⟨f1.trans e1, f2.trans e2⟩
 ·rcases h.id b n g o hs with ⟨hs1, hc⟩ | ⟨b', g', o', hs1, hg⟩
  ·rcases h'.id b n g o hs1 with ⟨hs2, hc'⟩ | h2
   ·refine .inl ⟨hs2, fun cells ty hb => ?_⟩;obtain ⟨c1, hb1, hz1⟩ := hc cells ty hb;obtain ⟨c2, hb2, hz2⟩ := hc' c1 ty hb1;exact ⟨c2, hb2, hz2.trans hz1⟩
   ·exact .inr h2
  ·rcases h'.id b' n g' o' hs1 with ⟨hs2, _⟩ | ⟨b2, g2, o2, hs2, hg2⟩
   ·exact .inr ⟨b', g', o', hs2, hg⟩
   ·exact .inr ⟨b2, g2, o2, hs2, Nat.lt_trans hg hg2⟩
theorem RepS.frame {w w' : World} {S S' : Nat -> Prop} {c v} (h : RepS w S c v) (hf : ∀ b, S b -> S' b /\ w'.heap[b]? = w.heap[b]?) : RepS w' S' c v := by
 induction h with
 | bool => exact .bool
 | int => exact .int
 | str h => exact .str h
 | agg hl h1 _ ih => exact .agg hl h1 ih
 | tup hl _ ih => exact .tup hl ih
 | nil => exact .nil
 | slnil => exact .slnil
 | sl hcap hlim hs hb hsz h1 _ ih => exact .sl hcap hlim (hf _ hs).1 ((hf _ hs).2.trans hb) hsz h1 ih
 | sle => exact .sle
 | emp => exact .emp
 | nilp => exact .nilp
 | pr hs hb h1 _ ih => exact .pr (hf _ hs).1 ((hf _ hs).2.trans hb) h1 ih
 | fn hl _ ih => exact .fn hl ih
 | nilfn => exact .nilfn
 | nilm => exact .nilm
 | mpnil => exact .mpnil
 | mp hs hb hk hv hlim _ _ ih1 ih2 => exact .mp (hf _ hs).1 ((hf _ hs).2.trans hb) hk hv hlim ih1 ih2
theorem Rep.frame {w w' : World} {st st' : Nat -> Own} {c v} (h : Rep w st c v) (hs : ∀ b, st b = .shut -> b < w.heap.size) (hf : Fr w st w' st') : Rep w' st' c v := by
 have hS : ∀ b, st b = .shut -> st' b = .shut /\ w'.heap[b]? = w.heap[b]? := fun b hb => by
  obtain ⟨e1, e2⟩ := hf.non b (hs b hb) (by rw [hb]; intro _ _ _ e; cases e);exact ⟨e1.trans hb, e2⟩
 induction h with
 | s h => exact .s (h.frame hS)
 | agg hl h1 _ ih => exact .agg hl h1 ih
 | tup hl _ ih => exact .tup hl ih
 | so0 => exact .so0
 | so h1 hb hc hsz ha =>
  rcases hf.id _ _ _ _ h1 with ⟨h2, hk⟩ | ⟨b', g', o', h2, hg⟩
  ·obtain ⟨c', hb', he⟩ := hk _ _ hb;exact .so h2 hb' hc (by omega) ha
  ·exact .stale rfl h2 hg rfl
 | ep h1 =>
  rcases hf.id _ _ _ _ h1 with ⟨h2, _⟩ | ⟨b', g', o', h2, hg⟩
  ·exact .ep h2
  ·exact .stale rfl h2 hg rfl
 | mo h1 =>
  rcases hf.id _ _ _ _ h1 with ⟨h2, _⟩ | ⟨b', g', o', h2, hg⟩
  ·exact .mo h2
  ·exact .stale rfl h2 hg rfl
 | stale ht h1 hg hv =>
  rcases hf.id _ _ _ _ h1 with ⟨h2, _⟩ | ⟨b', g', o', h2, hg'⟩
  ·exact .stale ht h2 hg hv
  ·exact .stale ht h2 (Nat.lt_trans hg hg') hv
 | fn hl _ ih => exact .fn hl ih
 | blk => exact .blk
 | hl0 => exact .hl0
 | @hl s sz l b a len cap cells ty h0 hb hc hlen hlim hsz hx h1 h2 =>
  obtain ⟨e1, e2⟩ := hf.non b (by cases hb' : w.heap[b]? with | none => rw [hb'] at hb; cases hb | some _ => exact (Array.getElem?_eq_some_iff.1 hb').1) (by rw [h0]; intro _ _ _ e; cases e);exact .hl (e1.trans h0) (e2.trans hb) hc hlen hlim hsz hx h1 fun i j x c hi hj => (h2 i j x c hi hj).frame hS
 | @hm s ks vs b es clock h0 hb hk hv hlim hi h1 h2 =>
  obtain ⟨e1, e2⟩ := hf.non b (by cases hb' : w.heap[b]? with | none => rw [hb'] at hb; cases hb | some _ => exact (Array.getElem?_eq_some_iff.1 hb').1) (by rw [h0]; intro _ _ _ e; cases e);exact .hm (e1.trans h0) (e2.trans hb) hk hv hlim hi (fun j e k he hk => (h1 j e k he hk).frame hS) fun j e k he hk => (h2 j e k he hk).frame hS
 | dead => exact .dead
theorem Rep.shut {w st c v} (h : Rep w st c v) (hi : c.idfree = true) : RepS w (fun b => st b = .shut) c v := by
 induction h with
 | s h => exact h
 | agg hl h1 _ ih =>
  rw [V.idfree, V.idfreeL_iff] at hi;exact .agg hl h1 fun j c v hc hv => ih j c v hc hv (hi c (List.mem_of_getElem? hc))
 | tup hl _ ih =>
  rw [V.idfree, V.idfreeL_iff] at hi;exact .tup hl fun j c v hc hv => ih j c v hc hv (hi c (List.mem_of_getElem? hc))
 | so0 => simp [V.idfree] at hi
 | so => simp [V.idfree] at hi
 | ep => simp [V.idfree] at hi
 | mo => simp [V.idfree] at hi
 | @stale c _ _ _ _ _ _ ht _ _ _ => cases c <;> simp [V.tok, V.idfree] at ht hi
 | fn hl _ ih =>
  rw [V.idfree, V.idfreeL_iff] at hi;exact .fn hl fun j c v hc hv => ih j c v hc hv (hi c (List.mem_of_getElem? hc))
 | blk => simp [V.idfree] at hi
 | hl0 => simp [V.idfree] at hi
 | hl => simp [V.idfree] at hi
 | hm => simp [V.idfree] at hi
 | dead => simp [V.idfree] at hi
def vOf1 : Value -> Option V
 | .bool b => some (.bool b)
 | .int k n => some (.int k n)
 | .string s => if s.size <= LIM then some (.str s) else none
 | .pointer none => some .nilp
 | .slice none 0 0 => some .nil
 | .map none => some .nilm
 | .nilFunc => some .nilfn
 | _ => none
def vOf : Value -> Option V
 | .agg cs => (cs.toList.mapM vOf1).map .agg
 | v => vOf1 v
theorem vOf1_sound {v c} (h : vOf1 v = some c) (w : World) (S : Nat -> Prop) : RepS w S c v /\ v.oneCell' = true /\ c.cells = [c] := by
 unfold vOf1 at h;split at h <;> first
  | (cases h; refine ⟨?_, rfl, rfl⟩; constructor; done)
  | (split at h <;> first | (cases h; rename_i hs; exact ⟨.str hs, rfl, rfl⟩) | cases h)
  | cases h
theorem mapM_vOf1 : ∀ (l : List Value) (cs : List V), l.mapM vOf1 = some cs -> l.length = cs.length /\ ∀ (j : Nat) (c : V) (v : Value), cs[j]? = some c -> l[j]? = some v -> vOf1 v = some c
 | [], cs, h => by simp at h; subst h; simp
 | v :: l, cs, h => by
  simp only [List.mapM_cons, Option.bind_eq_bind, Option.bind_eq_some_iff, Option.pure_def, Option.some.injEq] at h;obtain ⟨c, hc, cs', hcs, rfl⟩ := h;obtain ⟨h1, h2⟩ := mapM_vOf1 l cs' hcs;refine ⟨by simp [h1], fun j c' v' hj hv => ?_⟩;cases j with
  | zero => simp at hj hv; subst hj; subst hv; exact hc
  | succ j => simp at hj hv; exact h2 j c' v' hj hv
theorem vOf_sound {v c} (h : vOf v = some c) (w : World) (S : Nat -> Prop) : RepS w S c v := by
 cases v with
 | agg cs =>
  simp only [vOf, Option.map_eq_some_iff] at h;obtain ⟨l, hl, rfl⟩ := h;obtain ⟨h1, h2⟩ := mapM_vOf1 _ _ hl;refine .agg (by simpa using h1) (fun j v hv => ?_) (fun j c v hc hv => (vOf1_sound (h2 j c v hc (by simpa using hv)) w S).1);have hj : j < l.length := by
   have := (Array.getElem?_eq_some_iff.1 hv).1;simp at h1; omega
  exact (vOf1_sound (h2 j l[j] v (by simp [hj]) (by simpa using hv)) w S).2.1
 | _ => simp only [vOf] at h; exact (vOf1_sound h w S).1
end Go.PG
namespace Go.PG
inductive TK where
 | int (k : IntKind)
 | bool
 | str
 | slice (e : Nat)
 | ptr (e : Nat)
 | struct (fs : List (Nat × Nat))
 | array (n e : Nat)
 | map (k e : Nat)
 | other
 deriving Inhabited, DecidableEq
structure TI where
 size : Nat
 bytes : Nat
 isA : Bool
 zero : V
 kind : TK
 deriving Inhabited
def kindOf : TypeDesc -> TK
 | .int k => .int k
 | .bool => .bool
 | .string => .str
 | .slice e => .slice e
 | .pointer e => .ptr e
 | .struct fs => .struct (fs.toList.map fun f => (f.offset, f.type))
 | .array n e => .array n e
 | .map k e => .map k e
 | _ => .other
def aggOf : TypeDesc -> Bool
 | .struct _ => true
 | .array _ _ => true
 | _ => false
def tab (P : Program) (t : Nat) : Option TI :=
 match P.info? t with
 | none => none
 | some i =>
  match P.underlying t with
  | none => none
  | some d =>
   match i.zero with
   | none => none
   | some z =>
    match vOf z with
    | none => none
    | some zv => if zv.cells.length = i.size /\ zv.idfree = true /\ i.bytes <= 4096 then some ⟨i.size, i.bytes, aggOf d, zv, kindOf d⟩ else none
structure TabOk (P : Program) (t : Nat) (i : TI) (info : TypeInfo) (d : TypeDesc) (z : Value) : Prop where
 inf : P.info? t = some info
 und : P.underlying t = some d
 zero : info.zero = some z
 size : info.size = i.size
 bytes : info.bytes = i.bytes
 zv : vOf z = some i.zero
 isA : i.isA = aggOf d
 kind : i.kind = kindOf d
 len : i.zero.cells.length = i.size
 free : i.zero.idfree = true
 small : i.bytes <= 4096
theorem tab_ok {P : Program} {t : Nat} {i : TI} (h : tab P t = some i) : ∃ info d z, TabOk P t i info d z := by
 unfold tab at h;split at h
 ·cases h
 ·rename_i info hi;split at h
  ·cases h
  ·rename_i d hd;split at h
   ·cases h
   ·rename_i z hz;split at h
    ·cases h
    ·rename_i zv hv;split at h
     ·rename_i hc;cases h;exact ⟨info, d, z, hi, hd, hz, rfl, rfl, hv, rfl, rfl, hc.1, hc.2.1, hc.2.2⟩
     ·cases h
section runs
variable {P : Program} {t : Nat} {i : TI} {info : TypeInfo} {d : TypeDesc} {z : Value}
theorem TabOk.run_und (h : TabOk P t i info d z) (w : World) : (underlying t).run P w = .ok d w := run_underlying h.und w
theorem TabOk.run_info (h : TabOk P t i info d z) (w : World) : (typeInfo t).run P w = .ok info w := by simp [typeInfo, h.inf]
theorem TabOk.run_size (h : TabOk P t i info d z) (w : World) : (sizeOf t).run P w = .ok i.size w := by simp [sizeOf, h.run_info, h.size]
theorem TabOk.run_zero (h : TabOk P t i info d z) (w : World) : (zeroValue t).run P w = .ok z w := by simp [zeroValue, h.run_info, h.zero]
theorem TabOk.run_isAgg (h : TabOk P t i info d z) (w : World) : (isAgg t).run P w = .ok i.isA w := by
 rw [h.isA];unfold isAgg;rw [Sem.run_bind, h.run_und];cases d <;> rfl
end runs
theorem size_alloc (w : World) (o : Obj) : (w.alloc o).heap.size = w.heap.size + 1 := by show (w.heap.push o).size = _; simp
def updO (st : Nat -> Own) (b : Nat) (x : Own) : Nat -> Own := fun c => if c = b then x else st c
theorem ObOk.keep {w w' : World} {st st' : Nat -> Own} {n : Nat} {x : Ob} (h : ObOk w st n x) (hs : ∀ b, st b = .shut -> b < w.heap.size) (hf : Fr w st w' st')
  (h1 : ∀ b g o, st b = .id n g o -> st' b = .id n g o /\ w'.heap[b]? = w.heap[b]?) (h2 : ∀ b g o, st' b = .id n g o -> ∃ b' g' o', st b' = .id n g' o') : ObOk w' st' n x := by
 cases x with
 | arr g p sz l =>
  obtain ⟨a1, a2, a3, a4⟩ := h;refine ⟨a1, a2, a3, ?_⟩;rcases a4 with ⟨e, hn⟩ | ⟨b, o, cells, ty, hb, hc, hr⟩
  ·refine .inl ⟨e, fun b g o hb => ?_⟩;obtain ⟨b', g', o', hb'⟩ := h2 b g o hb;exact hn _ _ _ hb'
  ·exact .inr ⟨b, o, cells, ty, (h1 _ _ _ hb).1, (h1 _ _ _ hb).2.trans hc, fun i j x c hx hc' => ⟨(hr i j x c hx hc').1, (hr i j x c hx hc').2.1, ((hr i j x c hx hc').2.2).frame hs hf⟩⟩
 | map g ks vs =>
  obtain ⟨b, es, clock, hb, hc, e1, e2, e3, r1, r2⟩ := h;exact ⟨b, es, clock, (h1 _ _ _ hb).1, (h1 _ _ _ hb).2.trans hc, e1, e2, e3, fun j e k he hk => (r1 j e k he hk).frame hs hf, fun j e k he hk => (r2 j e k he hk).frame hs hf⟩
theorem HeapOk.drew {w : World} {st h} (hh : HeapOk w st h) : HeapOk w.drew st h :=
 ⟨fun n x hx => (hh.ob n x hx).keep hh.shut ⟨⟨rfl, rfl, rfl, by first | exact Nat.le_refl _ | exact Nat.le_succ _⟩, Nat.le_refl _, fun _ _ _ => ⟨rfl, rfl⟩, fun _ _ _ _ hs => .inl ⟨hs, fun _ _ hb => ⟨_, hb, rfl⟩⟩⟩ (fun _ _ _ hb => ⟨hb, rfl⟩) (fun b g o hb => ⟨b, g, o, hb⟩), hh.dom, hh.inj, hh.shut, hh.hid⟩
theorem Fr.drew (w : World) (st : Nat -> Own) : Fr w st w.drew st :=
 ⟨⟨rfl, rfl, rfl, by first | exact Nat.le_refl _ | exact Nat.le_succ _⟩, Nat.le_refl _, fun _ _ _ => ⟨rfl, rfl⟩, fun _ _ _ _ hs => .inl ⟨hs, fun _ _ hb => ⟨_, hb, rfl⟩⟩⟩
theorem HeapOk.top {w : World} {st h} (hh : HeapOk w st h) : st w.heap.size = .none := by
 cases e : st w.heap.size with
 | none => rfl
 | shut => exact absurd (hh.shut _ e) (Nat.lt_irrefl _)
 | id n g o => exact absurd (hh.dom _ _ _ _ e).1 (Nat.lt_irrefl _)
 | hid s => exact absurd (hh.hid _ _ e) (Nat.lt_irrefl _)
theorem HeapOk.nil_of {w : World} {st h n} (hh : HeapOk w st h) (hn : hget h n = none) : ∀ b g o, st b ≠ .id n g o := by
 intro b g o e;obtain ⟨_, x, hx, _⟩ := hh.dom _ _ _ _ e;rw [hn] at hx; cases hx
theorem fr_alloc {w : World} {st : Nat -> Own} {h : Heap} (hh : HeapOk w st h) (obj : Obj) (x : Own) : Fr w st (w.alloc obj) (updO st w.heap.size x) := by
 refine ⟨⟨rfl, rfl, rfl, by first | exact Nat.le_refl _ | exact Nat.le_succ _⟩, by rw [size_alloc]; omega, fun b hb hn => ⟨?_, heap_alloc_old w obj b hb⟩, fun b n g o hs => .inl ⟨?_, fun cells ty hb => ⟨cells, ?_, rfl⟩⟩⟩
 ·unfold updO; rw [if_neg (by omega)]
 ·unfold updO; rw [if_neg (by have := (hh.dom _ _ _ _ hs).1; omega)]; exact hs
 ·rw [heap_alloc_old w obj b (hh.dom _ _ _ _ hs).1]; exact hb
theorem heap_alloc_id {w : World} {st : Nat -> Own} {h : Heap} (hh : HeapOk w st h) {d : Nat} (hd : hget h d = none) (x : Ob) (obj : Obj) (o : Nat)
  (hx : ObOk (w.alloc obj) (updO st w.heap.size (.id d x.gen o)) d x) :
  HeapOk (w.alloc obj) (updO st w.heap.size (.id d x.gen o)) (hset h d x) := by
 have hf := fr_alloc hh obj (.id d x.gen o)
 refine ⟨fun n y hy => ?_, fun b n g o' hs => ?_, fun b b' n g o1 g' o2 h1 h2 => ?_, fun b hb => ?_, fun b s hb => ?_⟩
 ·rw [hget_hset] at hy;by_cases e : n = d
  ·rw [if_pos e] at hy; cases hy; rw [e]; exact hx
  ·rw [if_neg e] at hy;refine (hh.ob n y hy).keep hh.shut hf (fun b g o' hb => ?_) (fun b g o' hb => ?_)
   ·have hlt := (hh.dom _ _ _ _ hb).1;exact ⟨by unfold updO; rw [if_neg (by omega)]; exact hb, heap_alloc_old w obj b hlt⟩
   ·unfold updO at hb;split at hb
    ·injection hb with e1 _ _; exact absurd e1.symm e
    ·exact ⟨_, _, _, hb⟩
 ·unfold updO at hs;split at hs
  ·rename_i e;injection hs with e1 e2 e3
   refine ⟨by rw [size_alloc]; omega, x, ?_, e2⟩;rw [hget_hset, if_pos e1.symm]
  ·obtain ⟨h1, y, h2, h3⟩ := hh.dom _ _ _ _ hs;refine ⟨by rw [size_alloc]; omega, y, ?_, h3⟩;rw [hget_hset, if_neg (by rintro rfl; rw [hd] at h2; cases h2)]; exact h2
 ·unfold updO at h1 h2;split at h1 <;> split at h2
  ·omega
  ·injection h1 with e1 _ _
   exact absurd h2 (by rw [<- e1]; exact hh.nil_of hd _ _ _)
  ·injection h2 with e1 _ _
   exact absurd h1 (by rw [<- e1]; exact hh.nil_of hd _ _ _)
  ·exact hh.inj _ _ _ _ _ _ _ h1 h2
 ·unfold updO at hb;split at hb
  ·cases hb
  ·have := hh.shut b hb; rw [size_alloc]; omega
 ·unfold updO at hb;split at hb
  ·cases hb
  ·have := hh.hid b s hb; rw [size_alloc]; omega
def mvO (w : World) (st : Nat -> Own) (d g o : Nat) : Nat -> Own :=
 fun b => if b = w.heap.size then .id d g o else match st b with | .id n g o => if n = d then .none else .id n g o | y => y
theorem fr_move {w : World} {st : Nat -> Own} {h : Heap} (hh : HeapOk w st h) {d : Nat} (g' : Nat) (obj : Obj) (o : Nat)
  (hg : ∀ b g o, st b = .id d g o -> g < g') : Fr w st (w.alloc obj) (mvO w st d g' o) := by
 have hf : Fr w st (w.alloc obj) (mvO w st d g' o) := by
  refine ⟨⟨rfl, rfl, rfl, by first | exact Nat.le_refl _ | exact Nat.le_succ _⟩, by rw [size_alloc]; omega, fun b hb hn => ⟨?_, heap_alloc_old w obj b hb⟩, fun b n g o' hs => ?_⟩
  ·show (if b = w.heap.size then _ else _) = _
   rw [if_neg (by omega)];cases e : st b with
   | id n g o' => exact absurd e (hn _ _ _)
   | _ => rfl
  ·by_cases e : n = d
   ·subst e;exact .inr ⟨w.heap.size, g', o, by simp [mvO], hg _ _ _ hs⟩
   ·refine .inl ⟨?_, fun cells ty hb => ⟨cells, ?_, rfl⟩⟩
    ·show (if b = w.heap.size then _ else _) = _
     rw [if_neg (by have := (hh.dom _ _ _ _ hs).1; omega), hs]; simp [e]
    ·rw [heap_alloc_old w obj b (hh.dom _ _ _ _ hs).1]; exact hb
 exact hf
theorem heap_move_id {w : World} {st : Nat -> Own} {h : Heap} (hh : HeapOk w st h) {d : Nat} (x : Ob) (obj : Obj) (o : Nat)
  (hg : ∀ b g o, st b = .id d g o -> g < x.gen)
  (hx : ObOk (w.alloc obj) (mvO w st d x.gen o) d x) : HeapOk (w.alloc obj) (mvO w st d x.gen o) (hset h d x) := by
 have hf := fr_move hh x.gen obj o hg
 unfold mvO at hx hf ⊢
 refine ⟨fun n y hy => ?_, fun b n g o' hs => ?_, fun b b' n g o1 g' o2 h1 h2 => ?_, fun b hb => ?_, fun b s hb => ?_⟩
 ·rw [hget_hset] at hy;by_cases e : n = d
  ·rw [if_pos e] at hy; cases hy; rw [e]; exact hx
  ·rw [if_neg e] at hy;refine (hh.ob n y hy).keep hh.shut hf (fun b g o' hb => ?_) (fun b g o' hb => ?_)
   ·have hlt := (hh.dom _ _ _ _ hb).1;refine ⟨?_, heap_alloc_old w obj b hlt⟩
    show (if b = w.heap.size then _ else _) = _
    rw [if_neg (by omega), hb]; simp [e]
   ·skip
    split at hb
    ·injection hb with e1 _ _; exact absurd e1.symm e
    ·split at hb
     ·rename_i e2;split at hb
      ·cases hb
      ·injection hb with f1 f2 f3; subst f1 f2 f3; exact ⟨_, _, _, e2⟩
     ·exact ⟨_, _, _, hb⟩
 ·skip
  split at hs
  ·rename_i e;injection hs with e1 e2 e3
   refine ⟨by rw [size_alloc]; omega, x, ?_, e2⟩;rw [hget_hset, if_pos e1.symm]
  ·split at hs
   ·rename_i e2;split at hs
    ·cases hs
    ·rename_i hne;injection hs with f1 f2 f3; subst f1 f2 f3
     obtain ⟨h1, y, h2, h3⟩ := hh.dom _ _ _ _ e2;refine ⟨by rw [size_alloc]; omega, y, ?_, h3⟩;rw [hget_hset, if_neg hne]; exact h2
   ·rename_i hno;exact absurd hs (hno _ _ _)
 ·skip
  have key : ∀ c gg oo, (match st c with | .id n g o => if n = d then Own.none else .id n g o | y => y) = .id n gg oo -> st c = .id n gg oo /\ n ≠ d := by
   intro c gg oo hc;split at hc
   ·split at hc
    ·cases hc
    ·rename_i e2 hne;injection hc with f1 f2 f3; subst f1 f2 f3; exact ⟨e2, hne⟩
   ·rename_i hno;exact absurd hc (hno _ _ _)
  split at h1 <;> split at h2
  ·omega
  ·injection h1 with e1 _ _
   exact absurd e1.symm (key _ _ _ h2).2
  ·injection h2 with e1 _ _
   exact absurd e1.symm (key _ _ _ h1).2
  ·exact hh.inj _ _ _ _ _ _ _ (key _ _ _ h1).1 (key _ _ _ h2).1
 ·skip
  split at hb
  ·cases hb
  ·have : st b = .shut := by
    split at hb
    ·split at hb <;> cases hb
    ·exact hb
   have := hh.shut b this;rw [size_alloc]; omega
 ·skip
  split at hb
  ·cases hb
  ·have : st b = .hid s := by
    split at hb
    ·split at hb <;> cases hb
    ·exact hb
   have := hh.hid b s this;rw [size_alloc]; omega
theorem fr_write {w : World} {st : Nat -> Own} {h : Heap} (hh : HeapOk w st h) {d b : Nat} {g o : Nat} (hb : st b = .id d g o) {cells : Array Value} {ty : TypeId}
  (hc : w.heap[b]? = some (.cells cells ty (0, 0))) (cells' : Array Value) (hz : cells'.size = cells.size) (gg : Nat) (o' : Nat) (hg : (gg = g /\ o' = o) \/ g < gg) : Fr w st (w.setRow b cells') (updO st b (.id d gg o')) := by
 have hf : Fr w st (w.setRow b cells') (updO st b (.id d gg o')) := by
  refine ⟨⟨rfl, rfl, rfl, by first | exact Nat.le_refl _ | exact Nat.le_succ _⟩, by simp, fun c hcl hn => ?_, fun c n g1 o1 hs => ?_⟩
  ·have hne : c ≠ b := by rintro rfl; exact hn _ _ _ hb
   exact ⟨by unfold updO; rw [if_neg hne], setRow_other w b c cells' hne⟩
  ·by_cases e : c = b
   ·subst e;rw [hb] at hs;injection hs with e1 e2 e3
    subst e1 e2 e3;rcases hg with ⟨hg, ho⟩ | hg
    ·refine .inl ⟨by unfold updO; rw [if_pos rfl, hg, ho], fun c1 ty1 h1 => ⟨cells', ?_, ?_⟩⟩
     ·rw [hc] at h1; cases h1;exact setRow_heap w c cells cells' ty (0, 0) hc
     ·rw [hc] at h1; cases h1; exact hz
    ·exact .inr ⟨c, gg, o', by unfold updO; rw [if_pos rfl], hg⟩
   ·refine .inl ⟨by unfold updO; rw [if_neg e]; exact hs, fun c1 ty1 h1 => ⟨c1, ?_, rfl⟩⟩;rw [setRow_other w b c cells' e]; exact h1
 exact hf
theorem heap_write_id {w : World} {st : Nat -> Own} {h : Heap} (hh : HeapOk w st h) {d b : Nat} {g o : Nat} (hb : st b = .id d g o) {cells : Array Value} {ty : TypeId}
  (hc : w.heap[b]? = some (.cells cells ty (0, 0))) (cells' : Array Value) (hz : cells'.size = cells.size) (x : Ob) (o' : Nat) (hg : (x.gen = g /\ o' = o) \/ g < x.gen)
  (hx : ObOk (w.setRow b cells') (updO st b (.id d x.gen o')) d x) :
  HeapOk (w.setRow b cells') (updO st b (.id d x.gen o')) (hset h d x) := by
 have hf := fr_write hh hb hc cells' hz x.gen o' hg
 refine ⟨fun n y hy => ?_, fun c n g1 o1 hs => ?_, fun c c' n g1 o1 g2 o2 h1 h2 => ?_, fun c hcs => ?_, fun c s hcs => ?_⟩
 ·rw [hget_hset] at hy;by_cases e : n = d
  ·rw [if_pos e] at hy; cases hy; rw [e]; exact hx
  ·rw [if_neg e] at hy;refine (hh.ob n y hy).keep hh.shut hf (fun c g1 o1 h1 => ?_) (fun c g1 o1 h1 => ?_)
   ·have hne : c ≠ b := by rintro rfl; rw [hb] at h1; injection h1 with e1 _ _; exact e e1.symm
    exact ⟨by unfold updO; rw [if_neg hne]; exact h1, setRow_other w b c cells' hne⟩
   ·unfold updO at h1;split at h1
    ·injection h1 with e1 _ _; exact absurd e1.symm e
    ·exact ⟨_, _, _, h1⟩
 ·unfold updO at hs;split at hs
  ·rename_i e;injection hs with e1 e2 e3
   exact ⟨by rw [setRow_size, e]; exact (hh.dom _ _ _ _ hb).1, x, by rw [hget_hset, if_pos e1.symm], e2⟩
  ·rename_i hne;obtain ⟨h1, y, h2, h3⟩ := hh.dom _ _ _ _ hs;refine ⟨by rw [setRow_size]; exact h1, y, ?_, h3⟩;rw [hget_hset, if_neg ?_]
   ·exact h2
   ·rintro rfl; exact hne (hh.inj _ _ _ _ _ _ _ hs hb)
 ·unfold updO at h1 h2;split at h1 <;> split at h2
  ·omega
  ·rename_i e1 e2;injection h1 with f1 _ _; subst f1
   exact e1.trans (hh.inj _ _ _ _ _ _ _ hb h2)
  ·rename_i e1 e2;injection h2 with f1 _ _; subst f1
   exact (hh.inj _ _ _ _ _ _ _ h1 hb).trans e2.symm
  ·exact hh.inj _ _ _ _ _ _ _ h1 h2
 ·unfold updO at hcs;rw [setRow_size];split at hcs
  ·cases hcs
  ·exact hh.shut c hcs
 ·unfold updO at hcs;rw [setRow_size];split at hcs
  ·cases hcs
  ·exact hh.hid c s hcs
end Go.PG
namespace Go.PG
def RunV (P : Program) (ρ : Operand -> Value) (o : Oper) (w : World) (m : Value) (w' : World) : Prop :=
 (execOp ρ o).run P w = .ok (.value m) w' \/ ((execOp ρ o).run P w = .ok .skip w' /\ m = undef)
def Good (P : Program) (ρ : Operand -> Value) (o : Oper) (w : World) (st : Nat -> Own) (h : Heap) (v : V) (ups : List (Nat × Ob)) : Prop :=
 ∃ m w' st', RunV P ρ o w m w' /\ Rep w' st' v m /\ HeapOk w' st' (hsets h ups) /\ Fr w st w' st'
def RepL (w : World) (st : Nat -> Own) (cs : List V) (vs : List Value) : Prop :=
 cs.length = vs.length /\ ∀ (j : Nat) (c : V) (v : Value), cs[j]? = some c -> vs[j]? = some v -> Rep w st c v /\ v.oneCell' = true
theorem RepL.get {w st cs vs} (h : RepL w st cs vs) {j : Nat} {c : V} (hc : cs[j]? = some c) : ∃ v, vs[j]? = some v /\ Rep w st c v /\ v.oneCell' = true := by
 have hj : j < vs.length := by have := (List.getElem?_eq_some_iff.1 hc).1; have := h.1; omega
 exact ⟨vs[j], List.getElem?_eq_getElem hj, h.2 j c _ hc (List.getElem?_eq_getElem hj)⟩
theorem RepL.nil {w st} : RepL w st [] [] := ⟨rfl, by simp⟩
theorem RepL.append {w st a b x y} (h : RepL w st a x) (h' : RepL w st b y) : RepL w st (a ++ b) (x ++ y) := by
 refine ⟨by simp [h.1, h'.1], fun j c v hc hv => ?_⟩;rw [List.getElem?_append] at hc hv;rw [<- h.1] at hv;by_cases hj : j < a.length
 ·rw [if_pos hj] at hc hv; exact h.2 j c v hc hv
 ·rw [if_neg hj] at hc hv; exact h'.2 _ c v hc hv
theorem RepL.take {w st a x} (h : RepL w st a x) (n : Nat) : RepL w st (a.take n) (x.take n) := by
 refine ⟨by simp [h.1], fun j c v hc hv => ?_⟩;rw [List.getElem?_take] at hc hv;split at hc
 ·rename_i hj; rw [if_pos hj] at hv; exact h.2 j c v hc hv
 ·cases hc
theorem RepL.drop {w st a x} (h : RepL w st a x) (n : Nat) : RepL w st (a.drop n) (x.drop n) := by
 refine ⟨by simp [h.1], fun j c v hc hv => ?_⟩;rw [List.getElem?_drop] at hc hv;exact h.2 _ c v hc hv
theorem RepL.agg {w st cs vs} (h : RepL w st cs vs) : Rep w st (.agg cs) (.agg vs.toArray) := by
 refine .agg (by simp [h.1]) (fun j v hv => ?_) (fun j c v hc hv => (h.2 j c v hc (by simpa using hv)).1);have hv' : vs[j]? = some v := by simpa using hv
 have hj : j < cs.length := by have := (List.getElem?_eq_some_iff.1 hv').1; have := h.1; omega
 exact (h.2 j cs[j] v (List.getElem?_eq_getElem hj) hv').2
def okv : V -> Bool
 | .dead => false
 | .tup _ => false
 | _ => true
theorem repS_cells {w S c v} (h : RepS w S c v) (hk : okv c = true) :
  c.cells.length = v.cells.size /\ ∀ (j : Nat) (c' : V) (v' : Value), c.cells[j]? = some c' -> v.cells.toList[j]? = some v' -> RepS w S c' v' /\ v'.oneCell' = true := by
 have one : ∀ {c : V} {v : Value}, RepS w S c v -> c.cells = [c] -> v.cells = #[v] -> v.oneCell' = true ->
   c.cells.length = v.cells.size /\ ∀ (j : Nat) (c' : V) (v' : Value), c.cells[j]? = some c' -> v.cells.toList[j]? = some v' -> RepS w S c' v' /\ v'.oneCell' = true := by
  intro c v h h1 h2 h3
  rw [h1, h2]
  refine ⟨rfl, fun j c' v' hc hv => ?_⟩
  cases j with
  | zero => simp at hc hv; subst hc; subst hv; exact ⟨h, h3⟩
  | succ j => simp at hc
 cases h with
 | agg hl h1 h => exact ⟨hl.symm, fun j c' v' hc hv => ⟨h j c' v' hc (by simpa [Value.cells] using hv), h1 j v' (by simpa [Value.cells] using hv)⟩⟩
 | tup => simp [okv] at hk
 | bool => exact one .bool rfl rfl rfl
 | int => exact one .int rfl rfl rfl
 | str h => exact one (.str h) rfl rfl rfl
 | nil => exact one .nil rfl rfl rfl
 | slnil => exact one .slnil rfl rfl rfl
 | sl a b c d e f g => exact one (.sl a b c d e f g) rfl rfl rfl
 | sle => exact one .sle rfl rfl rfl
 | emp => exact one .emp rfl rfl rfl
 | nilp => exact one .nilp rfl rfl rfl
 | pr a b c d => exact one (.pr a b c d) rfl rfl rfl
 | fn a b => exact one (.fn a b) rfl rfl rfl
 | nilfn => exact one .nilfn rfl rfl rfl
 | nilm => exact one .nilm rfl rfl rfl
 | mpnil => exact one .mpnil rfl rfl rfl
 | mp a b c d e f g => exact one (.mp a b c d e f g) rfl rfl rfl
theorem rep_cells {w st c v} (h : Rep w st c v) (hk : okv c = true) : RepL w st c.cells v.cells.toList := by
 have one : ∀ {c : V} {v : Value}, Rep w st c v -> c.cells = [c] -> v.cells = #[v] -> v.oneCell' = true -> RepL w st c.cells v.cells.toList := by
  intro c v h h1 h2 h3;rw [h1, h2];refine ⟨rfl, fun j c' v' hc hv => ?_⟩;cases j with
  | zero => simp at hc hv; subst hc; subst hv; exact ⟨h, h3⟩
  | succ j => simp at hc
 cases h with
 | s h => exact ⟨by simpa using (repS_cells h hk).1, fun j c' v' hc hv => ⟨.s ((repS_cells h hk).2 j c' v' hc hv).1, ((repS_cells h hk).2 j c' v' hc hv).2⟩⟩
 | agg hl h1 h => exact ⟨by simpa [Value.cells] using hl.symm, fun j c' v' hc hv => ⟨h j c' v' hc (by simpa [Value.cells] using hv), h1 j v' (by simpa [Value.cells] using hv)⟩⟩
 | tup => simp [okv] at hk
 | so0 => exact one .so0 rfl rfl rfl
 | so a b c d e => exact one (.so a b c d e) rfl rfl rfl
 | ep a => exact one (.ep a) rfl rfl rfl
 | mo a => exact one (.mo a) rfl rfl rfl
 | stale ht hs hg hv =>
  refine one (.stale ht hs hg hv) ?_ ?_ hv
  ·cases c <;> simp [V.tok] at ht <;> rfl
  ·cases v <;> simp [Value.oneCell'] at hv <;> rfl
 | fn a b => exact one (.fn a b) rfl rfl rfl
 | blk => exact one .blk rfl rfl rfl
 | hl0 => exact one .hl0 rfl rfl rfl
 | hl a b c d e f g h i => exact one (.hl a b c d e f g h i) rfl rfl rfl
 | hm a b c d e f g h => exact one (.hm a b c d e f g h) rfl rfl rfl
 | dead => simp [okv] at hk
theorem vcells_one {w st c v} (h : Rep w st c v) (hv : v.oneCell' = true) : c.cells = [c] := by
 cases h with
 | s h => cases h <;> first | rfl | simp [Value.oneCell'] at hv
 | agg => simp [Value.oneCell'] at hv
 | tup => rfl
 | stale ht _ _ _ => cases c <;> simp [V.tok] at ht <;> rfl
 | _ => rfl
theorem good_pure {P ρ o w st h v m} (hr : (execOp ρ o).run P w = .ok (.value m) w) (hv : Rep w st v m) (hh : HeapOk w st h) : Good P ρ o w st h v [] :=
 ⟨m, w, st, .inl hr, hv, hh, Fr.refl w st⟩
theorem run_loadVar_list {P t i info d z} (hT : TabOk P t i info d z) (w : World) (a : Addr) (vs : List Value) (hl : vs.length = i.size)
  (h : ∀ j v, vs[j]? = some v -> w.cell? (a.add j) = some v) (h1 : i.isA = false -> vs.length = 1) :
  (loadVar t a).run P w = .ok (if i.isA then .agg vs.toArray else vs.headD undef) w := by
 unfold loadVar
 rw [Sem.run_bind, hT.run_isAgg]
 cases e : i.isA with
 | true =>
  simp only [Result.andThen_ok, if_true, Sem.run_bind, hT.run_size, Sem.run_pure];rw [<- hl, run_loadCells_list w a vs h];rfl
 | false =>
  have hl1 := h1 e;obtain ⟨v, rfl⟩ : ∃ v, vs = [v] := by
   cases vs with
   | nil => simp at hl1
   | cons v r => cases r with
    | nil => exact ⟨v, rfl⟩
    | cons => simp at hl1
  have hc := h 0 v rfl;have ha : a.add 0 = a := by simp [Addr.add]
  rw [ha] at hc;simp [hc]
def single (a : Bool) (cs : List V) : Option V :=
 if a then some (.agg cs) else match cs with
  | [c] => some c
  | _ => none
theorem single_rep {P t i info d z} (hT : TabOk P t i info d z) {w st} (a : Addr) {cs : List V} {vs : List Value} (hr : RepL w st cs vs) (hl : cs.length = i.size)
  (h : ∀ j v, vs[j]? = some v -> w.cell? (a.add j) = some v) {x : V} (hx : single i.isA cs = some x) :
  ∃ m, (loadVar t a).run P w = .ok m w /\ Rep w st x m := by
 unfold single at hx
 cases e : i.isA with
 | true =>
  rw [e] at hx;simp at hx;subst hx;exact ⟨_, run_loadVar_list hT w a vs (by rw [<- hr.1]; exact hl) h (by rw [e]; simp), by rw [e]; exact hr.agg⟩
 | false =>
  rw [e] at hx;simp only [Bool.false_eq_true, if_false] at hx;split at hx
  ·rename_i c;cases hx;obtain ⟨v, hv, h1, _⟩ := hr.get (j := 0) (c := x) rfl;refine ⟨_, run_loadVar_list hT w a vs (by rw [<- hr.1]; exact hl) h (fun _ => by rw [<- hr.1]; rfl), ?_⟩;rw [e];cases vs with
   | nil => simp at hv
   | cons y r => simp at hv; subst hv; exact h1
  ·cases hx
theorem add_lit' (b o n : Nat) : Addr.add ⟨b, o, none⟩ n = ⟨b, o + n, none⟩ := Addr.add_lit b o n
theorem cell_at {w : World} {b : Nat} {cells : Array Value} {ty fr} (hb : w.heap[b]? = some (.cells cells ty fr)) {o : Nat} (ho : o < cells.size) :
  w.cell? ⟨b, o, none⟩ = some (cells.getD o undef) := by
 simp [World.cell?, hb, ho]
theorem repL_at {w st} {cs : List V} {cells : Array Value} (o : Nat) (h : ∀ (j : Nat) (c : V), cs[j]? = some c -> o + j < cells.size /\ (cells.getD (o + j) undef).oneCell' = true /\ Rep w st c (cells.getD (o + j) undef)) :
  RepL w st cs ((List.range cs.length).map fun j => cells.getD (o + j) undef) := by
 refine ⟨by simp, fun j c v hc hv => ?_⟩
 have hj : j < cs.length := (List.getElem?_eq_some_iff.1 hc).1
 simp [hj] at hv
 have := h j c hc
 simp at this
 rw [<- hv]
 exact ⟨by simpa using this.2.2, by simpa using this.2.1⟩
theorem cells_at {w : World} {b : Nat} {cells : Array Value} {ty fr} (hb : w.heap[b]? = some (.cells cells ty fr)) (o n : Nat) (h : ∀ j, j < n -> o + j < cells.size) :
  ∀ (j : Nat) (v : Value), ((List.range n).map fun j => cells.getD (o + j) undef)[j]? = some v -> w.cell? ((⟨b, o, none⟩ : Addr).add j) = some v := by
 intro j v hv
 have hj : j < n := by
  have := (List.getElem?_eq_some_iff.1 hv).1;simpa using this
 simp only [List.getElem?_map, List.getElem?_range hj, Option.map_some, Option.some.injEq] at hv
 rw [add_lit', cell_at hb (h j hj), hv]
def effLoad (P : Program) (t : Nat) (a : V) (h : Heap) : Option V :=
 match tab P t with
 | none => none
 | some i =>
  match a with
  | .pr cs => if cs.length = i.size then single i.isA cs else none
  | .ep n g sz k off =>
   match hget h n with
   | some (.arr g' _ s l) =>
    if g' = g /\ s = sz then
     match l[k]? with
     | some x => if off + i.size <= x.cells.length then single i.isA ((x.cells.drop off).take i.size) else none
     | none => none
    else none
   | _ => none
  | _ => none
theorem load_spec {P w st h t a mm v} (hρ : Rep w st a mm) (hh : HeapOk w st h) (he : effLoad P t a h = some v) :
  ∃ ad u, mm = .pointer (some ad) /\ (loadVar t ad).run P w = .ok u w /\ Rep w st v u := by
 unfold effLoad at he
 split at he
 ·cases he
 ·rename_i i hi;obtain ⟨info, d, z, hT⟩ := tab_ok hi;have fin : ∀ (ad : Addr) (m : Value), mm = .pointer (some ad) -> (loadVar t ad).run P w = .ok m w -> Rep w st v m -> ∃ ad u, mm = .pointer (some ad) /\ (loadVar t ad).run P w = .ok u w /\ Rep w st v u :=
   fun ad m h1 h2 h3 => ⟨ad, m, h1, h2, h3⟩
  split at he
  ·rename_i cs;split at he
   ·rename_i hl;cases hρ with
    | s hs =>
     generalize hm : mm = m at hs;cases hs with
     | @pr _ b off cells ty fr hS hb h1 hR =>
      have hrl : RepL w st cs ((List.range cs.length).map fun j => cells.getD (off + j) undef) := repL_at off fun j c hc => ⟨(h1 j c hc).1, (h1 j c hc).2, .s (hR j c hc)⟩
      obtain ⟨m, r1, r2⟩ := single_rep hT ⟨b, off, none⟩ hrl hl (cells_at hb off cs.length fun j hj => (h1 j cs[j] (List.getElem?_eq_getElem hj)).1) he;exact hm ▸ fin _ m hm r1 r2
    | stale ht => simp [V.tok] at ht
   ·cases he
  ·rename_i n g sz k off;split at he
   ·rename_i g' p s l hg;split at he
    ·rename_i hc;obtain ⟨rfl, rfl⟩ := hc;split at he
     ·rename_i y hy;split at he
      ·rename_i hle;have hob := hh.ob _ _ hg;obtain ⟨_, _, _, hob⟩ := hob;generalize hm : mm = m at hρ;cases hρ with
       | s hs => cases hs
       | @ep _ _ oo _ _ _ b hs =>
        rcases hob with ⟨rfl, _⟩ | ⟨b', o', cells, ty, hb', hc', hR⟩
        ·simp at hy
        ·have : b = b' := hh.inj _ _ _ _ _ _ _ hs hb';subst this;rw [hs] at hb';injection hb' with _ _ e3
         subst e3;have hlen : ((y.cells.drop off).take i.size).length = i.size := by simp; omega
         have hrl : RepL w st ((y.cells.drop off).take i.size) ((List.range ((y.cells.drop off).take i.size).length).map fun j => cells.getD (oo + k * s + off + j) undef) := by
          refine repL_at _ fun j c hc => ?_
          rw [List.getElem?_take] at hc;split at hc
          ·rw [List.getElem?_drop] at hc;have := hR k (off + j) y c hy hc;rw [<- Nat.add_assoc] at this;exact this
          ·cases hc
         obtain ⟨m, r1, r2⟩ := single_rep hT ⟨b, oo + k * s + off, none⟩ hrl hlen (cells_at hc' _ _ fun j hj => by
          obtain ⟨c, hc⟩ : ∃ c, y.cells[off + j]? = some c := ⟨_, List.getElem?_eq_getElem (by omega)⟩;have := (hR k (off + j) y c hy hc).1;omega) he
         exact hm ▸ fin _ m hm r1 r2
       | stale ht hs hgt _ =>
        simp only [V.tok, Option.some.injEq, Prod.mk.injEq] at ht;obtain ⟨rfl, rfl⟩ := ht;obtain ⟨_, y', hy', hgen⟩ := hh.dom _ _ _ _ hs;rw [hg] at hy';cases hy';simp only [Ob.gen] at hgen;omega
      ·cases he
     ·cases he
    ·cases he
   ·cases he
  ·cases he
theorem load_good {P ρ o w st h t x a v} (ho : o.op = .load t x) (hρ : Rep w st a (ρ x)) (hh : HeapOk w st h) (he : effLoad P t a h = some v) : Good P ρ o w st h v [] := by
 obtain ⟨ad, u, h1, h2, h3⟩ := load_spec hρ hh he;refine good_pure ?_ h3 hh;unfold execOp;simp only [ho, Instr.loadAt, Instr.sureAddr, h1, pure_bind, Sem.run_bind, h2, Result.andThen_ok, Sem.run_pure]
end Go.PG
namespace Go.PG
def live (h : Heap) (n g : Nat) : Bool :=
 match hget h n with
 | some x => x.gen == g
 | none => false
theorem live_not {w st h n g b g' o} (hh : HeapOk w st h) (hl : live h n g = true) (hs : st b = .id n g' o) : ¬ g < g' := by
 obtain ⟨_, y, hy, hgen⟩ := hh.dom _ _ _ _ hs;unfold live at hl;rw [hy] at hl;have : y.gen = g := by simpa using hl
 omega
theorem live_ep {w st h n g sz k off m} (hh : HeapOk w st h) (hl : live h n g = true) (hr : Rep w st (.ep n g sz k off) m) :
  ∃ b o, m = .pointer (some ⟨b, o + k * sz + off, none⟩) /\ st b = .id n g o := by
 cases hr with
 | s hs => cases hs
 | ep hs => exact ⟨_, _, rfl, hs⟩
 | stale ht hs hgt _ =>
  simp only [V.tok, Option.some.injEq, Prod.mk.injEq] at ht;obtain ⟨rfl, rfl⟩ := ht;exact absurd hgt (live_not hh hl hs)
theorem live_so {w st h n g sz off len m} (hh : HeapOk w st h) (hl : live h n g = true) (hr : Rep w st (.so n g sz off len) m) :
  (∃ base, m = .slice base 0 0 /\ off = 0 /\ len = 0) \/
  ∃ b o a cap cells ty, m = .slice (some ⟨b, a, none⟩) len cap /\ st b = .id n g o /\ w.heap[b]? = some (.cells cells ty (0, 0)) /\ len <= cap /\ o + (off + cap) * sz <= cells.size /\ (cap ≠ 0 -> a = o + off * sz) := by
 cases hr with
 | s hs => cases hs
 | so0 => exact .inl ⟨_, rfl, rfl, rfl⟩
 | so hs hb hc hf ha => exact .inr ⟨_, _, _, _, _, _, rfl, hs, hb, hc, hf, ha⟩
 | stale ht hs hgt _ =>
  simp only [V.tok, Option.some.injEq, Prod.mk.injEq] at ht;obtain ⟨rfl, rfl⟩ := ht;exact absurd hgt (live_not hh hl hs)
theorem rep_pr {w st cs m} (h : Rep w st (.pr cs) m) : ∃ b o, m = .pointer (some ⟨b, o, none⟩) /\ ∀ k n, Rep w st (.pr ((cs.drop k).take n)) (.pointer (some ⟨b, o + k, none⟩)) := by
 cases h with
 | s hs =>
  cases hs with
  | @pr _ b off cells ty fr hS hb h1 hR =>
   refine ⟨b, off, rfl, fun o n => ?_⟩;have key : ∀ j c, ((cs.drop o).take n)[j]? = some c -> cs[o + j]? = some c := by
    intro j c hc;rw [List.getElem?_take] at hc;split at hc
    ·rw [List.getElem?_drop] at hc; exact hc
    ·cases hc
   refine .s (.pr hS hb (fun j c hc => ?_) (fun j c hc => ?_))
   ·have := h1 _ _ (key j c hc); rw [<- Nat.add_assoc] at this; exact this
   ·have := hR _ _ (key j c hc); rw [<- Nat.add_assoc] at this; exact this
 | stale ht => simp [V.tok] at ht
def effField (P : Program) (s : Nat) (a : V) (f : Nat) (h : Heap) : Option V :=
 match tab P s with
 | none => none
 | some i =>
  match i.kind with
  | .struct fs =>
   match fs[f]? with
   | none => none
   | some (fo, ft) =>
    match tab P ft with
    | none => none
    | some fi =>
     if fi.size = 0 then none else
     match a with
     | .ep n g sz k off => if live h n g = true then some (.ep n g sz k (off + fo)) else none
     | .pr cs => some (.pr ((cs.drop fo).take fi.size))
     | _ => none
  | _ => none
theorem kind_struct {d : TypeDesc} {fs : List (Nat × Nat)} (h : kindOf d = .struct fs) : ∃ fields : Array Field, d = .struct fields /\ fs = fields.toList.map fun f => (f.offset, f.type) := by
 cases d <;> simp [kindOf] at h;exact ⟨_, rfl, h.symm⟩
theorem kind_slice {d : TypeDesc} {e : Nat} (h : kindOf d = .slice e) : d = .slice e := by
 cases d <;> simp [kindOf] at h;rw [h]
theorem kind_array {d : TypeDesc} {n e : Nat} (h : kindOf d = .array n e) : d = .array n e := by
 cases d <;> simp [kindOf] at h;rw [h.1, h.2]
theorem fieldAddr_good {P ρ o w st h s x f a v} (ho : o.op = .fieldAddr s x f) (hρ : Rep w st a (ρ x)) (hh : HeapOk w st h) (he : effField P s a f h = some v) : Good P ρ o w st h v [] := by
 unfold effField at he;split at he
 ·cases he
 ·rename_i i hi;obtain ⟨info, d, z, hT⟩ := tab_ok hi;split at he
  ·rename_i fs hk;obtain ⟨fields, rfl, rfl⟩ := kind_struct (hT.kind.symm.trans hk);split at he
   ·cases he
   ·rename_i fo ft hf;simp only [List.getElem?_map, Option.map_eq_some_iff, Prod.mk.injEq] at hf;obtain ⟨fl, hfl, rfl, rfl⟩ := hf;split at he
    ·cases he
    ·rename_i fi hfi;obtain ⟨info', d', z', hT'⟩ := tab_ok hfi;split at he
     ·cases he
     ·rename_i hne;have run : ∀ b oo, ρ x = .pointer (some ⟨b, oo, none⟩) -> (execOp ρ o).run P w = .ok (.value (.pointer (some ⟨b, oo + fl.offset, none⟩))) w := by
       intro b oo hx;have hfl' : fields[f]? = some fl := by simpa using hfl
       unfold execOp;simp only [ho, Instr.fieldAt, Sem.run_bind, hT.run_und, Result.andThen_ok, hx, hfl', Instr.sureAddr, pure_bind, fieldPlace, hT'.run_size, hne, if_false, Sem.run_pure, add_lit']
      split at he
      ·rename_i n g sz k off;split at he
       ·rename_i hl;cases he;obtain ⟨b, oo, hm, hs⟩ := live_ep hh hl hρ;refine good_pure (run _ _ hm) ?_ hh;rw [Nat.add_assoc];exact .ep hs
       ·cases he
      ·cases he;obtain ⟨b, oo, hm, hp⟩ := rep_pr hρ;exact good_pure (run _ _ hm) (hp _ _) hh
      ·cases he
  ·cases he
def effIndex (P : Program) (t : Nat) (a ix : V) (h : Heap) : Option V :=
 match tab P t with
 | none => none
 | some i =>
  match ix with
  | .int _ n =>
   match i.kind with
   | .slice e =>
    match tab P e with
    | none => none
    | some ei =>
     match a with
     | .sl sz l => if sz = ei.size /\ 0 <= n then (l[n.toNat]?).map fun x => .pr x.cells else none
     | .so m g sz off len => if live h m g = true /\ sz = ei.size /\ 0 <= n /\ n < len then some (.ep m g sz (off + n.toNat) 0) else none
     | _ => none
   | .array len e =>
    match tab P e with
    | none => none
    | some ei =>
     if 0 <= n /\ n < len then
      match a with
      | .ep m g sz k off => if live h m g = true then some (.ep m g sz k (off + n.toNat * ei.size)) else none
      | .pr cs => some (.pr ((cs.drop (n.toNat * ei.size)).take ei.size))
      | _ => none
     else none
   | _ => none
  | _ => none
theorem rep_int {w st k n m} (h : Rep w st (.int k n) m) : m = .int k n := by
 cases h with
 | s h => cases h; rfl
 | stale ht => simp [V.tok] at ht
theorem rep_bool {w st b m} (h : Rep w st (.bool b) m) : m = .bool b := by
 cases h with
 | s h => cases h; rfl
 | stale ht => simp [V.tok] at ht
theorem rep_str {w st s m} (h : Rep w st (.str s) m) : m = .string s /\ s.size <= LIM := by
 cases h with
 | s h => cases h; exact ⟨rfl, by assumption⟩
 | stale ht => simp [V.tok] at ht
theorem rep_agg {w st cs m} (h : Rep w st (.agg cs) m) : ∃ vs : List Value, m = .agg vs.toArray /\ RepL w st cs vs := by
 have hc := rep_cells h rfl;cases h with
 | s h => cases h; exact ⟨_, by rw [Array.toArray_toList]; rfl, hc⟩
 | agg => exact ⟨_, by rw [Array.toArray_toList]; rfl, hc⟩
 | stale ht => simp [V.tok] at ht
theorem rep_tup {w st cs m} (h : Rep w st (.tup cs) m) : ∃ vs : Array Value, m = .tuple vs /\ vs.size = cs.length /\ ∀ (j : Nat) (c : V) (v : Value), cs[j]? = some c -> vs[j]? = some v -> Rep w st c v := by
 cases h with
 | s h => cases h with | tup hl h => exact ⟨_, rfl, hl, fun j c v h1 h2 => .s (h j c v h1 h2)⟩
 | tup hl h => exact ⟨_, rfl, hl, h⟩
 | stale ht => simp [V.tok] at ht
theorem rep_nil {w st m} (h : Rep w st .nil m) : m = .slice none 0 0 := by
 cases h with
 | s h => cases h; rfl
 | stale ht => simp [V.tok] at ht
theorem rep_sl {w st sz l m} (h : Rep w st (.sl sz l) m) : l.length <= LIM /\
  ((m = .slice none 0 0 /\ l = []) \/ (∃ a cap, m = .slice (some a) 0 cap /\ l = []) \/
  ∃ b off cap cells ty fr, m = .slice (some ⟨b, off, none⟩) l.length cap /\ l.length <= cap /\ st b = .shut /\ w.heap[b]? = some (.cells cells ty fr) /\ (∀ x ∈ l, x.cells.length = sz) /\
   (∀ (i j : Nat) (x c : V), l[i]? = some x -> x.cells[j]? = some c -> off + i * sz + j < cells.size /\ (cells.getD (off + i * sz + j) undef).oneCell' = true /\
    RepS w (fun b => st b = .shut) c (cells.getD (off + i * sz + j) undef))) := by
 cases h with
 | s h =>
  cases h with
  | slnil => exact ⟨by simp [LIM], .inl ⟨rfl, rfl⟩⟩
  | sle => exact ⟨by simp [LIM], .inr (.inl ⟨_, _, rfl, rfl⟩)⟩
  | sl hcap hlim hs hb hsz h1 h => exact ⟨hlim, .inr (.inr ⟨_, _, _, _, _, _, rfl, hcap, hs, hb, hsz, fun i j x c hx hc => ⟨(h1 i j x c hx hc).1, (h1 i j x c hx hc).2, h i j x c hx hc⟩⟩)⟩
 | stale ht => simp [V.tok] at ht
theorem rep_emp {w st sz m} (h : Rep w st (.emp sz) m) : ∃ a cap, m = .slice (some a) 0 cap := by
 cases h with
 | s h =>
  cases h with
  | emp => exact ⟨_, _, rfl⟩
 | stale ht => simp [V.tok] at ht
theorem indexAddr_good {P ρ o w st h t x y a ix v} (ho : o.op = .indexAddr t x y) (hρ : Rep w st a (ρ x)) (hy : Rep w st ix (ρ y)) (hh : HeapOk w st h) (he : effIndex P t a ix h = some v) :
  Good P ρ o w st h v [] := by
 unfold effIndex at he
 split at he
 ·cases he
 ·rename_i i hi;obtain ⟨info, d, z, hT⟩ := tab_ok hi;split at he
  ·rename_i kk n;have hy' := rep_int hy;split at he
   ·rename_i e hk;have hd := kind_slice (hT.kind.symm.trans hk);subst hd;split at he
    ·cases he
    ·rename_i ei hei;obtain ⟨info', d', z', hT'⟩ := tab_ok hei;have run : ∀ b oo len cap, ρ x = .slice (some ⟨b, oo, none⟩) len cap -> 0 <= n -> n < len ->
       (execOp ρ o).run P w = .ok (.value (.pointer (some ⟨b, oo + n.toNat * ei.size, none⟩))) w := by
      intro b oo len cap hx h0 h1
      unfold execOp
      simp only [ho, Instr.indexAt, Sem.run_bind, hT.run_und, Result.andThen_ok, hx, hy', asIntOf, pure_bind, h0, h1, and_self, if_true, hT'.run_size, Sem.run_pure, add_lit']
     split at he
     ·rename_i sz l;split at he
      ·rename_i hc;obtain ⟨rfl, h0⟩ := hc;obtain ⟨_, hm⟩ := rep_sl hρ;simp only [Option.map_eq_some_iff] at he;obtain ⟨y', hy2, rfl⟩ := he;have hlt : n.toNat < l.length := (List.getElem?_eq_some_iff.1 hy2).1;rcases hm with ⟨_, rfl⟩ | ⟨_, _, _, rfl⟩ | ⟨b, off, cap, cells, ty, fr, hm, hcap, hs, hb, hsz, hR⟩
       ·simp at hlt
       ·simp at hlt
       ·refine good_pure (run b off _ cap hm h0 (by omega)) (.s (.pr hs hb (fun j c hc => ?_) (fun j c hc => ?_))) hh
        ·exact ⟨(hR _ j y' c hy2 hc).1, (hR _ j y' c hy2 hc).2.1⟩
        ·exact (hR _ j y' c hy2 hc).2.2
      ·cases he
     ·rename_i m g sz off len;split at he
      ·rename_i hc;obtain ⟨hl, rfl, h0, h1⟩ := hc;cases he;rcases live_so hh hl hρ with ⟨_, _, _, rfl⟩ | ⟨b, oo, ad, cap, cells, ty, hm, hs, hb, hcap, hf, ha⟩
       ·simp at h1; omega
       ·have e := ha (by omega);subst e;refine good_pure (run b _ _ cap hm h0 h1) ?_ hh;have : oo + off * ei.size + n.toNat * ei.size = oo + (off + n.toNat) * ei.size + 0 := by rw [Nat.add_mul]; omega
        rw [this];exact .ep hs
      ·cases he
     ·cases he
   ·rename_i len e hk;have hd := kind_array (hT.kind.symm.trans hk);subst hd;split at he
    ·cases he
    ·rename_i ei hei;obtain ⟨info', d', z', hT'⟩ := tab_ok hei;split at he
     ·rename_i hc;obtain ⟨h0, h1⟩ := hc;have run : ∀ b oo, ρ x = .pointer (some ⟨b, oo, none⟩) ->
        (execOp ρ o).run P w = .ok (.value (.pointer (some ⟨b, oo + n.toNat * ei.size, none⟩))) w := by
       intro b oo hx
       unfold execOp
       simp only [ho, Instr.indexAt, Instr.sureAddr, Sem.run_bind, hT.run_und, Result.andThen_ok, hx, hy', asIntOf, pure_bind, h0, h1, and_self, if_true, hT'.run_size, Sem.run_pure, add_lit']
      split at he
      ·rename_i m g sz k off;split at he
       ·rename_i hl;cases he;obtain ⟨b, oo, hm, hs⟩ := live_ep hh hl hρ;refine good_pure (run _ _ hm) ?_ hh;rw [Nat.add_assoc];exact .ep hs
       ·cases he
      ·cases he;obtain ⟨b, oo, hm, hp⟩ := rep_pr hρ;exact good_pure (run _ _ hm) (hp _ _) hh
      ·cases he
     ·cases he
   ·cases he
  ·cases he
def effPart (P : Program) (s : Nat) (a : V) (f : Nat) : Option V :=
 match tab P s with
 | none => none
 | some i =>
  match i.kind with
  | .struct fs =>
   match fs[f]? with
   | none => none
   | some (fo, ft) =>
    match tab P ft with
    | none => none
    | some fi =>
     match a with
     | .agg cs => if fi.isA = true then some (.agg ((cs.drop fo).take fi.size)) else cs[fo]?
     | _ => none
  | _ => none
theorem field_good {P ρ o w st h s x f a v} (ho : o.op = .field s x f) (hρ : Rep w st a (ρ x)) (hh : HeapOk w st h) (he : effPart P s a f = some v) : Good P ρ o w st h v [] := by
 unfold effPart at he;split at he
 ·cases he
 ·rename_i i hi;obtain ⟨info, d, z, hT⟩ := tab_ok hi;split at he
  ·rename_i fs hk;obtain ⟨fields, rfl, rfl⟩ := kind_struct (hT.kind.symm.trans hk);split at he
   ·cases he
   ·rename_i fo ft hf;simp only [List.getElem?_map, Option.map_eq_some_iff, Prod.mk.injEq] at hf;obtain ⟨fl, hfl, rfl, rfl⟩ := hf;split at he
    ·cases he
    ·rename_i fi hfi;obtain ⟨info', d', z', hT'⟩ := tab_ok hfi;split at he
     ·rename_i cs;obtain ⟨vs, hm, hr⟩ := rep_agg hρ;have hfl' : fields[f]? = some fl := by simpa using hfl
      have run : ∀ m, (part fl.type vs.toArray fl.offset).run P w = .ok m w -> (execOp ρ o).run P w = .ok (.value m) w := by
       intro m hm';unfold execOp;simp only [ho, Instr.field, Sem.run_bind, hT.run_und, Result.andThen_ok, hm, hfl', asAgg, pure_bind, hm', Sem.run_pure]
      split at he
      ·rename_i hA;cases he;refine good_pure (run (.agg (vs.drop fl.offset |>.take fi.size).toArray) ?_) ((hr.drop _).take _).agg hh;simp only [part, Sem.run_bind, hT'.run_isAgg, Result.andThen_ok, hA, if_true, hT'.run_size, Sem.run_pure];congr 2;apply Array.ext';simp [List.take_drop, Nat.add_comm]
      ·rename_i hA;obtain ⟨v', hv', h1, _⟩ := hr.get he;refine good_pure (run v' ?_) h1 hh;have hA' : fi.isA = false := by simpa using hA
       simp only [part, Sem.run_bind, hT'.run_isAgg, Result.andThen_ok, hA', Bool.false_eq_true, if_false];simp [hv']
     ·cases he
  ·cases he
end Go.PG
set_option linter.unusedSimpArgs false
namespace Go.PG
theorem move_good {P ρ o w st h x v} (ho : o.op = .move x \/ o.op = .assign x) (hρ : Rep w st v (ρ x)) (hh : HeapOk w st h) : Good P ρ o w st h v [] := by
 refine good_pure ?_ hρ hh;unfold execOp;rcases ho with ho | ho <;> simp only [ho, Sem.run_pure]
theorem pick_good {P ρ o w st h c x y b vx vy} (ho : o.op = .pick c x y) (hc : Rep w st (.bool b) (ρ c)) (hx : b = true -> Rep w st vx (ρ x)) (hy : b = false -> Rep w st vy (ρ y)) (hh : HeapOk w st h) :
  Good P ρ o w st h (if b then vx else vy) [] := by
 have e := rep_bool hc
 refine good_pure (m := if b then ρ x else ρ y) ?_ ?_ hh
 ·unfold execOp;simp only [ho, e, asBool, pure_bind, Sem.run_pure]
 ·cases b
  ·exact hy rfl
  ·exact hx rfl
def effNil (a : V) (h : Heap) : Option V :=
 match a with
 | .ep n g sz k off => if live h n g = true then some (.ep n g sz k off) else none
 | .pr cs => some (.pr cs)
 | .fn (.func f) cs => some (.fn (.func f) cs)
 | _ => none
theorem nilCheck_good {P ρ o w st h x a v} (ho : o.op = .nilCheck x) (hρ : Rep w st a (ρ x)) (hh : HeapOk w st h) (he : effNil a h = some v) : Good P ρ o w st h v [] := by
 unfold effNil at he;split at he
 ·split at he
  ·rename_i hl;cases he;obtain ⟨b, oo, hm, hs⟩ := live_ep hh hl hρ;refine good_pure (m := ρ x) ?_ hρ hh;unfold execOp;simp only [ho, hm, Sem.run_pure]
  ·cases he
 ·cases he;obtain ⟨b, oo, hm, hp⟩ := rep_pr hρ;refine good_pure (m := ρ x) ?_ hρ hh;unfold execOp;simp only [ho, hm, Sem.run_pure]
 ·rename_i f cs;cases he;have : ∃ vs, ρ x = .func (.func f) #[] vs := by
   generalize ρ x = m at hρ;cases hρ with
   | s h => cases h; exact ⟨_, rfl⟩
   | fn => exact ⟨_, rfl⟩
   | stale ht => simp [V.tok] at ht
  obtain ⟨vs, hm⟩ := this;refine good_pure (m := ρ x) ?_ hρ hh;unfold execOp;simp only [ho, hm, Sem.run_pure]
 ·cases he
theorem extract_good {P ρ o w st h x k cs v} (ho : o.op = .extract x k) (hρ : Rep w st (.tup cs) (ρ x)) (hh : HeapOk w st h) (he : cs[k]? = some v) : Good P ρ o w st h v [] := by
 obtain ⟨vs, hm, hl, hr⟩ := rep_tup hρ;have hk : k < vs.size := by have := (List.getElem?_eq_some_iff.1 he).1; omega
 refine good_pure (m := vs[k]) ?_ (hr k v _ he (by simp [hk])) hh;unfold execOp;simp [ho, hm, Instr.extract, hk]
theorem makeFunc_good {P ρ o w st h f} {caps : Array Operand} {cs : List V} (ho : o.op = .makeFunc f #[] caps) (hl : cs.length = caps.size)
  (hr : ∀ (j : Nat) (c : V) (x : Operand), cs[j]? = some c -> caps[j]? = some x -> Rep w st c (ρ x)) (hh : HeapOk w st h) : Good P ρ o w st h (.fn f cs) [] := by
 refine good_pure (m := .func f #[] (caps.map ρ)) ?_ (.fn (by simp [hl]) fun j c v hc hv => ?_) hh
 ·unfold execOp;simp [ho, Instr.makeFunc]
 ·simp only [Array.getElem?_map, Option.map_eq_some_iff] at hv;obtain ⟨x, hx, rfl⟩ := hv;exact hr j c x hc hx
def effUn (op : UnOp) (a : V) : Option V :=
 match op, a with
 | .neg, .int k n => some (.int k (k.wrap (0 - n)))
 | .not, .bool b => some (.bool !b)
 | _, _ => none
theorem unOp_good {P ρ o w st h op t x a v} (ho : o.op = .unOp op t x) (hρ : Rep w st a (ρ x)) (hh : HeapOk w st h) (he : effUn op a = some v) : Good P ρ o w st h v [] := by
 unfold effUn at he;split at he
 ·cases he;have e := rep_int hρ;refine good_pure (m := .int _ _) ?_ (.s .int) hh;unfold execOp;simp only [ho, e, Op.unary, Op.intArith, Sem.run_bind, Sem.run_pure, Result.andThen_ok]
 ·cases he;have e := rep_bool hρ;refine good_pure (m := .bool _) ?_ (.s .bool) hh;unfold execOp;simp only [ho, e, Op.unary, Sem.run_bind, Sem.run_pure, Result.andThen_ok]
 ·cases he
def effBin (op : BinOp) (a b : V) : Option V :=
 match a, b with
 | .int k x, .int k' y =>
  if k = k' then
   match op with
   | .add => some (.int k (k.wrap (x + y)))
   | .sub => some (.int k (k.wrap (x - y)))
   | .mul => some (.int k (k.wrap (x * y)))
   | .quo => if y = 0 then none else some (.int k (k.wrap (x.tdiv y)))
   | .rem => if y = 0 then none else some (.int k (x.tmod y))
   | .eql => some (.bool (x == y))
   | .neq => some (.bool (x != y))
   | .lss => some (.bool (decide (x < y)))
   | .leq => some (.bool (decide (x <= y)))
   | .gtr => some (.bool (decide (x > y)))
   | .geq => some (.bool (decide (x >= y)))
   | .or => some (.int k (k.wrap (BitVec.ofInt k.bits x ||| BitVec.ofInt k.bits y).toNat))
   | .and => some (.int k (k.wrap (BitVec.ofInt k.bits x &&& BitVec.ofInt k.bits y).toNat))
   | .xor => some (.int k (k.wrap (BitVec.ofInt k.bits x ^^^ BitVec.ofInt k.bits y).toNat))
   | _ => none
  else none
 | .str x, .str y =>
  match op with
  | .add => if x.size + y.size <= LIM then some (.str (x ++ y)) else none
  | .eql => some (.bool (x.toList == y.toList))
  | .neq => some (.bool (!(x.toList == y.toList)))
  | .lss => some (.bool (Op.bytesLess x.toList y.toList))
  | .leq => some (.bool (Op.bytesLess x.toList y.toList || x.toList == y.toList))
  | .gtr => some (.bool (!(Op.bytesLess x.toList y.toList || x.toList == y.toList)))
  | .geq => some (.bool (!(Op.bytesLess x.toList y.toList)))
  | _ => none
 | _, _ => none
theorem good_int {P ρ o w st h k n} (hh : HeapOk w st h) (hr : (execOp ρ o).run P w = .ok (.value (.int k n)) w) : Good P ρ o w st h (.int k n) [] := good_pure hr (.s .int) hh
theorem good_bool {P ρ o w st h b} (hh : HeapOk w st h) (hr : (execOp ρ o).run P w = .ok (.value (.bool b)) w) : Good P ρ o w st h (.bool b) [] := good_pure hr (.s .bool) hh
theorem binOp_good {P ρ o w st h op t t' x y a b v} (ho : o.op = .binOp op t x y t') (hx : Rep w st a (ρ x)) (hy : Rep w st b (ρ y)) (hh : HeapOk w st h) (he : effBin op a b = some v) : Good P ρ o w st h v [] := by
  unfold effBin at he
  split at he
  · rename_i k n k' n'
    split at he
    · rename_i e
      subst e
      have ex := rep_int hx
      have ey := rep_int hy
      have run : ∀ m, (binOp op t (.int k n) (.int k n')).run P w = .ok m w -> (execOp ρ o).run P w = .ok (.value m) w := by
        intro m hm
        unfold execOp
        simp only [ho, ex, ey, Sem.run_bind]
        have : (eqGuard op t x y (.int k n) (.int k n')).run P w = .ok () w := by
          unfold eqGuard
          cases op <;> rfl
        simp only [this, Result.andThen_ok, hm, Sem.run_pure]
      cases op <;> simp only [reduceCtorEq] at he <;> first
        | (cases he; exact good_int hh (run _ (by simp [binOp, Op.intArith, Op.intBits])))
        | (cases he; exact good_bool hh (run _ (by simp [binOp, Op.intCmp])))
        | (split at he
           · cases he
           · rename_i hne; cases he; exact good_int hh (run _ (by simp [binOp, Op.intDiv, hne])))
        | cases he
    · cases he
  · rename_i s s'
    obtain ⟨ex, lx⟩ := rep_str hx
    obtain ⟨ey, ly⟩ := rep_str hy
    have run : ∀ m, (binOp op t (.string s) (.string s')).run P w = .ok m w -> (execOp ρ o).run P w = .ok (.value m) w := by
      intro m hm
      unfold execOp
      simp only [ho, ex, ey, Sem.run_bind]
      have : (eqGuard op t x y (.string s) (.string s')).run P w = .ok () w := by
        unfold eqGuard
        cases op <;> rfl
      simp only [this, Result.andThen_ok, hm, Sem.run_pure]
    cases op
    case add =>
      simp only at he
      split at he
      · rename_i hle
        cases he
        refine good_pure (run (.string (s ++ s')) ?_) (.s (.str ?_)) hh
        · have : ¬ ((s.size : Int) + (s'.size : Int) > IntKind.i64.max) := by
            have : IntKind.i64.max = 9223372036854775807 := rfl
            unfold LIM at hle; omega
          simp only [binOp, Op.stringOp, Int.natCast_add, this, if_false, Sem.run_pure]
        · simpa using hle
      · cases he
    all_goals first
      | (cases he; exact good_bool hh (run _ (by simp [binOp, Op.stringOp])))
      | cases he
  · cases he
end Go.PG
set_option linter.unusedSimpArgs false
namespace Go.PG
theorem kind_int {d : TypeDesc} {k : IntKind} (h : kindOf d = .int k) : d = .int k := by
 cases d <;> simp [kindOf] at h;rw [h]
theorem kind_str {d : TypeDesc} (h : kindOf d = .str) : d = .string := by
 cases d <;> simp [kindOf] at h;rfl
def effConv (P : Program) (src dst : Nat) (a : V) : Option V :=
 match tab P src, tab P dst with
 | some i, some j =>
  match i.kind, j.kind, a with
  | .int _, .int k, .int _ n => some (.int k (k.wrap n))
  | .str, .str, .str s => some (.str s)
  | .str, .slice e, .str s => match tab P e with
   | some ei => match ei.kind with
    | .int .u8 => some (.sl 1 (s.data.toList.map fun b => .int .u8 b.toNat))
    | _ => none
   | none => none
  | _, _, _ => none
 | _, _ => none
theorem bytes_good {w : World} {st : Nat -> Own} {h : Heap} (hh : HeapOk w st h) (e : Nat) (s : ByteArray) (hs : s.size <= LIM) :
  Rep (Lib.bytesWorld w e s) (updO st w.heap.size .shut) (.sl 1 (s.data.toList.map fun b => .int .u8 b.toNat)) (.slice (some ⟨w.heap.size, 0, none⟩) s.size (grownCap w s.size 0 e)) /\
   HeapOk (Lib.bytesWorld w e s) (updO st w.heap.size .shut) h /\ Fr w st (Lib.bytesWorld w e s) (updO st w.heap.size .shut) := by
 have hf : Fr w st (Lib.bytesWorld w e s) (updO st w.heap.size .shut) := by
  refine ⟨⟨rfl, rfl, rfl, by first | exact Nat.le_refl _ | exact Nat.le_succ _⟩, by rw [Lib.bytesWorld_size]; omega, fun b hb hn => ⟨?_, Lib.bytesWorld_at_old w e s b hb⟩, fun b n g o hs => .inl ⟨?_, fun cells ty hb => ⟨cells, ?_, rfl⟩⟩⟩
  ·unfold updO; rw [if_neg (by omega)]
  ·unfold updO; rw [if_neg (by have := (hh.dom _ _ _ _ hs).1; omega)]; exact hs
  ·rw [Lib.bytesWorld_at_old w e s b (hh.dom _ _ _ _ hs).1]; exact hb
 have hsz : s.size = s.data.toList.length := by rw [Array.length_toList]; rfl
 have hat : ∀ (i j : Nat) (x c : V), (s.data.toList.map fun b => V.int .u8 b.toNat)[i]? = some x -> x.cells[j]? = some c ->
   ∃ b : UInt8, s.data.toList[i]? = some b /\ j = 0 /\ c = .int .u8 b.toNat := by
  intro i j x c h1 h2
  simp only [List.getElem?_map, Option.map_eq_some_iff] at h1
  obtain ⟨b, hb, rfl⟩ := h1
  cases j with
  | zero => simp [V.cells] at h2; exact ⟨b, hb, rfl, h2.symm⟩
  | succ j => simp [V.cells] at h2
 have hcell : ∀ (i : Nat) (b : UInt8), s.data.toList[i]? = some b -> i < (Lib.bytesCells w e s).size /\ (Lib.bytesCells w e s).getD i undef = .int .u8 b.toNat := by
  intro i b hb;have hi : i < s.data.toList.length := (List.getElem?_eq_some_iff.1 hb).1;have hi' : i < s.data.size := by simpa using hi
  have hb' : s.data[i] = b := by
   have := (List.getElem?_eq_some_iff.1 hb).2;simpa using this
  have h1 : (Lib.bytesCells w e s)[i]? = some (.int .u8 b.toNat) := by
   unfold Lib.bytesCells;rw [Array.getElem?_append_left (by simpa using hi')];simp only [Array.getElem?_map, Array.getElem?_eq_getElem hi', hb', Option.map_some]
  exact ⟨(Array.getElem?_eq_some_iff.1 h1).1, by simp [Array.getD_eq_getD_getElem?, h1]⟩
 refine ⟨.s ?_, ⟨fun n x hx => (hh.ob n x hx).keep hh.shut hf (fun b g o hb => ?_) (fun b g o hb => ?_), fun b n g o hb => ?_, fun b b' n g o g' o' h1 h2 => ?_, fun b hb => ?_, fun b s hb => ?_⟩, hf⟩
 ·have := RepS.sl (w := Lib.bytesWorld w e s) (S := fun b => updO st w.heap.size .shut b = .shut) (sz := 1) (l := s.data.toList.map fun b => V.int .u8 b.toNat) (b := w.heap.size) (off := 0) (cap := grownCap w s.size 0 e)
   (by have := grownCap_ge w s.size 0 e; simp; rw [hsz] at this; simpa using this) (by simp; rw [hsz] at hs; simpa using hs) (by simp [updO]) (Lib.bytesWorld_at_new w e s) (by intro x hx; simp at hx; obtain ⟨b, _, rfl⟩ := hx; rfl)
   (fun i j x c h1 h2 => by
    obtain ⟨b, hb, rfl, rfl⟩ := hat i j x c h1 h2;obtain ⟨g1, g2⟩ := hcell i b hb;simp only [Nat.zero_add, Nat.mul_one, Nat.add_zero];exact ⟨g1, by rw [g2]; rfl⟩)
   (fun i j x c h1 h2 => by
    obtain ⟨b, hb, rfl, rfl⟩ := hat i j x c h1 h2;obtain ⟨g1, g2⟩ := hcell i b hb;simp only [Nat.zero_add, Nat.mul_one, Nat.add_zero];rw [g2]; exact .int)
  rw [show (s.data.toList.map fun b => V.int .u8 b.toNat).length = s.size by rw [hsz]; simp] at this;exact this
 ·have hlt := (hh.dom _ _ _ _ hb).1;exact ⟨by unfold updO; rw [if_neg (by omega)]; exact hb, Lib.bytesWorld_at_old w e s b hlt⟩
 ·unfold updO at hb;split at hb
  ·cases hb
  ·exact ⟨_, _, _, hb⟩
 ·unfold updO at hb;split at hb
  ·cases hb
  ·obtain ⟨h1, x, h2, h3⟩ := hh.dom _ _ _ _ hb;exact ⟨by rw [Lib.bytesWorld_size]; omega, x, h2, h3⟩
 ·unfold updO at h1 h2;split at h1
  ·cases h1
  ·split at h2
   ·cases h2
   ·exact hh.inj _ _ _ _ _ _ _ h1 h2
 ·unfold updO at hb;rw [Lib.bytesWorld_size];split at hb
  ·omega
  ·have := hh.shut b hb; omega
 ·unfold updO at hb;rw [Lib.bytesWorld_size];split at hb
  ·omega
  ·have := hh.hid b s hb; omega
theorem conv_good {P ρ o w st h src dst x a v} (ho : o.op = .convert src dst x) (hρ : Rep w st a (ρ x)) (hh : HeapOk w st h) (he : effConv P src dst a = some v) : Good P ρ o w st h v [] := by
 unfold effConv at he;split at he
 ·rename_i i j hi hj;obtain ⟨_, d, _, hT⟩ := tab_ok hi;obtain ⟨_, d', _, hT'⟩ := tab_ok hj;split at he
  ·rename_i k1 k k2 n h1 h2;cases he;have e1 := kind_int (hT.kind.symm.trans h1);have e2 := kind_int (hT'.kind.symm.trans h2);subst e1 e2;have e := rep_int hρ;refine good_int hh ?_;unfold execOp;simp only [ho, convert, Sem.run_bind, hT.run_und, hT'.run_und, Result.andThen_ok, e, Conv.intToInt, Sem.run_pure]
  ·rename_i s h1 h2;cases he;have e1 := kind_str (hT.kind.symm.trans h1);have e2 := kind_str (hT'.kind.symm.trans h2);subst e1 e2;have e := (rep_str hρ).1;refine good_pure (m := .string s) ?_ (by rw [<- e]; exact hρ) hh;unfold execOp;simp only [ho, convert, Sem.run_bind, hT.run_und, hT'.run_und, Result.andThen_ok, e, Sem.run_pure]
  ·rename_i e s h1 h2;split at he
   ·rename_i ei hei;split at he
    ·rename_i hk;cases he;obtain ⟨_, de, _, hE⟩ := tab_ok hei;have e1 := kind_str (hT.kind.symm.trans h1);have e2 := kind_slice (hT'.kind.symm.trans h2);have e3 := kind_int (hE.kind.symm.trans hk);subst e1 e2 e3;obtain ⟨em, hlim⟩ := rep_str hρ;obtain ⟨g1, g2, g3⟩ := bytes_good hh e s hlim;refine ⟨_, _, _, .inl ?_, g1, g2, g3⟩;unfold execOp;simp only [ho, Sem.run_bind, em, Lib.run_convert_string_bytes w src dst e s hT.und hT'.und hE.und, Result.andThen_ok, Sem.run_pure]
    ·cases he
   ·cases he
  ·cases he
 ·cases he
def effLen (P : Program) (t : Nat) (a : V) (h : Heap) : Option V :=
 match tab P t with
 | none => none
 | some i =>
  match i.kind, a with
  | .str, .str s => some (.int .i64 s.size)
  | .slice _, .sl _ l => some (.int .i64 l.length)
  | .slice _, .nil => some (.int .i64 0)
  | .slice _, .emp _ => some (.int .i64 0)
  | .slice _, .so n g _ _ len => if live h n g = true then some (.int .i64 len) else none
  | _, _ => none
theorem len_good {P ρ o w st h t x a v} (ho : o.op = .call { callee := .builtin .len, args := #[x], argTypes := #[t] }) (hρ : Rep w st a (ρ x)) (hh : HeapOk w st h) (he : effLen P t a h = some v) : Good P ρ o w st h v [] := by
 unfold effLen at he;split at he
 ·cases he
 ·rename_i i hi;obtain ⟨info, d, z, hT⟩ := tab_ok hi;have run : ∀ n, (Builtin.len_ #[t] o.type #[ρ x]).run P w = .ok (.int .i64 n) w -> (execOp ρ o).run P w = .ok (.value (.int .i64 n)) w := by
   intro n hn;unfold execOp;simp [ho, resolve, invoke, builtin, hn]
  have slice : ∀ e a len cap, i.kind = .slice e -> ρ x = .slice a len cap -> (Builtin.len_ #[t] o.type #[ρ x]).run P w = .ok (.int .i64 len) w := by
   intro e a len cap hk hx;have hd := kind_slice (hT.kind.symm.trans hk);subst hd;simp [Builtin.len_, hT.run_und, hx, goInt]
  split at he
  ·rename_i s hk;cases he;have hd := kind_str (hT.kind.symm.trans hk);subst hd;have e := (rep_str hρ).1;refine good_int hh (run _ ?_);simp [Builtin.len_, hT.run_und, e, goInt]
  ·rename_i e sz l hk;cases he;refine good_int hh (run _ ?_);rcases (rep_sl hρ).2 with ⟨hm, rfl⟩ | ⟨a, cap, hm, rfl⟩ | ⟨b, off, cap, cells, ty, fr, hm, _⟩
   ·exact slice e _ _ _ hk hm
   ·exact slice e _ _ _ hk hm
   ·exact slice e _ _ _ hk hm
  ·rename_i e hk;cases he;exact good_int hh (run _ (slice e _ _ _ hk (rep_nil hρ)))
  ·rename_i e sz hk;cases he;obtain ⟨a, cap, hm⟩ := rep_emp hρ;exact good_int hh (run _ (slice e _ _ _ hk hm))
  ·rename_i e n g sz off len hk;split at he
   ·rename_i hl;cases he;refine good_int hh (run _ ?_);rcases live_so hh hl hρ with ⟨_, hm, _, rfl⟩ | ⟨b, oo, ad, cap, cells, ty, hm, _⟩
    ·exact slice e _ _ _ hk hm
    ·exact slice e _ _ _ hk hm
   ·cases he
  ·cases he
def effByte (P : Program) (t : Nat) (a ix : V) : Option V :=
 match tab P t with
 | none => none
 | some i =>
  match i.kind, a, ix with
  | .str, .str s, .int _ n => if 0 <= n then (s[n.toNat]?).map fun b => .int .u8 b.toNat else none
  | _, _, _ => none
theorem index_good {P ρ o w st h t x y a ix v} (ho : o.op = .index t x y) (hρ : Rep w st a (ρ x)) (hy : Rep w st ix (ρ y)) (hh : HeapOk w st h) (he : effByte P t a ix = some v) : Good P ρ o w st h v [] := by
 unfold effByte at he;split at he
 ·cases he
 ·rename_i i hi;obtain ⟨info, d, z, hT⟩ := tab_ok hi;split at he
  ·rename_i s kk n hk;have hd := kind_str (hT.kind.symm.trans hk);subst hd;split at he
   ·rename_i h0;simp only [Option.map_eq_some_iff] at he;obtain ⟨b, hb, rfl⟩ := he;refine good_int hh ?_;unfold execOp;simp [ho, Instr.index, rep_int hy, (rep_str hρ).1, asIntOf, hT.run_und, h0, hb]
   ·cases he
  ·cases he
def bnd (d : Nat) : Option V -> Option Nat
 | none => some d
 | some (.int _ n) => if 0 <= n then some n.toNat else none
 | _ => none
def effSlice (P : Program) (t : Nat) (a : V) (lo hi : Option V) (h : Heap) : Option V :=
 match tab P t with
 | none => none
 | some i =>
  match i.kind with
  | .slice e =>
   match tab P e with
   | none => none
   | some ei =>
    match a with
    | .sl sz l =>
     match bnd 0 lo, bnd l.length hi with
     | some p, some q => if p <= q /\ q <= l.length /\ sz = ei.size then some (.sl sz ((l.drop p).take (q - p))) else none
     | _, _ => none
    | .so n g sz off len =>
     match bnd 0 lo, bnd len hi with
     | some p, some q => if live h n g = true /\ p <= q /\ q <= len /\ sz = ei.size then some (.so n g sz (off + p) (q - p)) else none
     | _, _ => none
    | .nil =>
     match bnd 0 lo, bnd 0 hi with
     | some p, some q => if p = 0 /\ q = 0 then some .nil else none
     | _, _ => none
    | _ => none
  | .str =>
   match a with
   | .str s =>
    match bnd 0 lo, bnd s.size hi with
    | some p, some q => if p <= q /\ q <= s.size then some (.str (s.extract p q)) else none
    | _, _ => none
   | _ => none
  | _ => none
theorem sliceBounds_run {P : Program} {w : World} {ρ : Operand -> Value} (isSlice : Bool) (len cap : Nat) (lo hi : Option Operand) (vlo vhi : Option V) (p q : Nat) {st}
  (hlo : ∀ x, lo = some x -> ∃ c, vlo = some c /\ Rep w st c (ρ x)) (hlo0 : lo = none -> vlo = none)
  (hhi : ∀ x, hi = some x -> ∃ c, vhi = some c /\ Rep w st c (ρ x)) (hhi0 : hi = none -> vhi = none)
  (hp : bnd 0 vlo = some p) (hq : bnd len vhi = some q) (h1 : p <= q) (h2 : q <= cap) :
  (Instr.sliceBounds isSlice len cap (lo.map ρ) (hi.map ρ) none).run P w = .ok (p, q, cap) w := by
 have hb : ∀ (x : Operand) (c : V) (y n dd : Nat) (code : BoundsCode), Rep w st c (ρ x) -> bnd dd (some c) = some n -> n <= y -> (Instr.sliceBound (ρ x) y code).run P w = .ok n w := by
  intro x c y n dd code hr hn hle;unfold bnd at hn;split at hn
  ·rename_i h; cases h
  ·rename_i k m h;cases h;split at hn
   ·rename_i h0;cases hn;rw [rep_int hr];have : m <= (y : Int) := by omega
    simp [Instr.sliceBound, asIntOf, h0, this]
   ·cases hn
  ·cases hn
 unfold Instr.sliceBounds
 cases hi with
 | none =>
  rw [hhi0 rfl] at hq;simp only [bnd, Option.some.injEq] at hq;subst hq;cases lo with
  | none =>
   rw [hlo0 rfl] at hp;simp only [bnd, Option.some.injEq] at hp;subst hp;simp
  | some x =>
   obtain ⟨c, rfl, hr⟩ := hlo x rfl;have := hb x c len p 0 (if (none : Option Value).isSome then .slice3C else .sliceB) hr hp h1;simp at this;simp [this]
 | some y =>
  obtain ⟨c', rfl, hr'⟩ := hhi y rfl;have e2 := hb y c' cap q len (if isSlice then .sliceAcap else .sliceAlen) hr' hq h2;cases lo with
  | none =>
   rw [hlo0 rfl] at hp;simp only [bnd, Option.some.injEq] at hp;subst hp;simp [e2]
  | some x =>
   obtain ⟨c, rfl, hr⟩ := hlo x rfl;have := hb x c q p 0 (if (none : Option Value).isSome then .slice3C else .sliceB) hr hp h1;simp at this;simp [this, e2]
theorem slice_good {P ρ o w st h t x lo hi a vlo vhi v} (ho : o.op = .slice t x lo hi none) (hρ : Rep w st a (ρ x))
  (hlo : ∀ x, lo = some x -> ∃ c, vlo = some c /\ Rep w st c (ρ x)) (hlo0 : lo = none -> vlo = none)
  (hhi : ∀ x, hi = some x -> ∃ c, vhi = some c /\ Rep w st c (ρ x)) (hhi0 : hi = none -> vhi = none)
  (hh : HeapOk w st h) (he : effSlice P t a vlo vhi h = some v) : Good P ρ o w st h v [] := by
 unfold effSlice at he
 split at he
 ·cases he
 ·rename_i i hi';obtain ⟨info, d, z, hT⟩ := tab_ok hi';split at he
  ·rename_i e hk;have hd := kind_slice (hT.kind.symm.trans hk);subst hd;split at he
   ·cases he
   ·rename_i ei hei;obtain ⟨_, _, _, hT'⟩ := tab_ok hei;have run : ∀ (ad : Option Addr) (len cap p q : Nat), ρ x = .slice ad len cap -> bnd 0 vlo = some p -> bnd len vhi = some q -> p <= q -> q <= cap ->
      (execOp ρ o).run P w = .ok (.value (.slice (if cap = p then ad else ad.map (·.add (p * ei.size))) (q - p) (cap - p))) w := by
     intro ad len cap p q hx hp hq h1 h2
     have hb := sliceBounds_run (P := P) (w := w) true len cap lo hi vlo vhi p q hlo hlo0 hhi hhi0 hp hq h1 h2
     unfold execOp
     simp only [ho, Instr.sliceAt, Instr.slice, Sem.run_bind, hT.run_und, Result.andThen_ok, hx, Option.map_none, hb, hT'.run_size, Sem.run_pure]
    split at he
    ·rename_i sz l;split at he
     ·rename_i p q hp hq;split at he
      ·rename_i hc;obtain ⟨h1, h2, rfl⟩ := hc;cases he;obtain ⟨hlim, hm⟩ := rep_sl hρ;rcases hm with ⟨hm, rfl⟩ | ⟨a, cap, hm, rfl⟩ | ⟨b, off, cap, cells, ty, fr, hm, hcap, hs, hb, hsz, hR⟩
       ·simp at h2;subst h2;have : p = 0 := by omega
        subst this;refine good_pure (run _ _ _ _ _ hm hp hq h1 (Nat.le_refl 0)) (.s ?_) hh;simp;exact .slnil
       ·simp at h2;subst h2;have : p = 0 := by omega
        subst this;have r := run _ _ _ _ _ hm hp hq h1 (Nat.zero_le _);by_cases hcp : cap = 0
        ·rw [if_pos hcp] at r;refine good_pure r (.s ?_) hh;simp;exact .sle
        ·rw [if_neg hcp] at r;refine good_pure r (.s ?_) hh;simp;exact .sle
       ·have hlen : ((l.drop p).take (q - p)).length = q - p := by simp; omega
        have key : ∀ (k : Nat) (y : V), ((l.drop p).take (q - p))[k]? = some y -> l[p + k]? = some y := by
         intro k y hy;rw [List.getElem?_take] at hy;split at hy
         ·rw [List.getElem?_drop] at hy; exact hy
         ·cases hy
        have r := run _ _ _ _ _ hm hp hq h1 (by omega);by_cases hcp : cap = p
        ·have : q = p := by omega
         subst this;rw [if_pos hcp] at r;refine good_pure r (.s ?_) hh;have : ((l.drop q).take (q - q)) = [] := by simp
         rw [this, Nat.sub_self];exact .sl (l := []) (Nat.zero_le _) (by simp [LIM]) hs hb (by simp) (by simp) (by simp)
        ·rw [if_neg hcp] at r;refine good_pure r (.s ?_) hh;simp only [Option.map_some, add_lit'];rw [show Value.slice (some ⟨b, off + p * ei.size, none⟩) (q - p) (cap - p) = Value.slice (some ⟨b, off + p * ei.size, none⟩) ((l.drop p).take (q - p)).length (cap - p) by rw [hlen]];refine RepS.sl (S := fun b => st b = .shut) (cap := cap - p) (by rw [hlen]; omega) (by rw [hlen]; omega) hs hb (fun y hy => hsz y (List.mem_of_mem_drop (List.mem_of_mem_take hy))) (fun k j y c hy hc => ?_) (fun k j y c hy hc => ?_)
         ·have := hR _ j y c (key k y hy) hc;rw [Nat.add_mul] at this;rw [Nat.add_assoc off];exact ⟨this.1, this.2.1⟩
         ·have := hR _ j y c (key k y hy) hc;rw [Nat.add_mul] at this;rw [Nat.add_assoc off];exact this.2.2
      ·cases he
     ·cases he
    ·rename_i n g sz off len;split at he
     ·rename_i p q hp hq;split at he
      ·rename_i hc;obtain ⟨hl, h1, h2, rfl⟩ := hc;cases he;rcases live_so hh hl hρ with ⟨base, hm, rfl, rfl⟩ | ⟨b, oo, ad, cap, cells, ty, hm, hs, hb, hcap, hf, ha⟩
       ·have : q = 0 := by omega
        subst this;have : p = 0 := by omega
        subst this;refine good_pure (run _ _ _ _ _ hm hp hq h1 (Nat.le_refl 0)) ?_ hh;simp;exact .so0
       ·have r := run _ _ _ _ _ hm hp hq h1 (by omega);by_cases hcp : cap = p
        ·rw [if_pos hcp] at r;refine good_pure r (.so hs hb (by omega) ?_ (by omega)) hh;rw [show off + p + (cap - p) = off + cap by omega]; exact hf
        ·rw [if_neg hcp] at r;refine good_pure r ?_ hh;simp only [Option.map_some, add_lit'];refine .so hs hb (by omega) ?_ (fun _ => ?_)
         ·rw [show off + p + (cap - p) = off + cap by omega]; exact hf
         ·rw [ha (by omega), Nat.add_mul]; omega
      ·cases he
     ·cases he
    ·split at he
     ·rename_i p q hp hq;split at he
      ·rename_i hc;obtain ⟨rfl, rfl⟩ := hc;cases he;refine good_pure (run _ _ _ _ _ (rep_nil hρ) hp hq (Nat.le_refl 0) (Nat.le_refl 0)) (.s ?_) hh;simp;exact .nil
      ·cases he
     ·cases he
    ·cases he
  ·rename_i hk;have hd := kind_str (hT.kind.symm.trans hk);subst hd;split at he
   ·rename_i s;obtain ⟨hm, hlim⟩ := rep_str hρ;split at he
    ·rename_i p q hp hq;split at he
     ·rename_i hc;cases he;have hb := sliceBounds_run (P := P) (w := w) false s.size s.size lo hi vlo vhi p q hlo hlo0 hhi hhi0 hp hq hc.1 hc.2;refine good_pure (m := .string (s.extract p q)) ?_ (.s (.str ?_)) hh
      ·unfold execOp;simp [ho, Instr.sliceAt, Instr.slice, hT.run_und, hm, hb]
      ·have : (s.extract p q).size <= s.size := by simp; omega
       omega
     ·cases he
    ·cases he
   ·cases he
  ·cases he
end Go.PG
set_option linter.unusedSimpArgs false
namespace Go.PG
theorem flat_len (sz : Nat) : ∀ (l : List V), (∀ x ∈ l, x.cells.length = sz) -> (l.flatMap V.cells).length = l.length * sz
 | [], _ => by simp
 | x :: l, h => by
  have := flat_len sz l fun y hy => h y (by simp [hy])
  have h0 := h x (by simp);simp only [List.flatMap_cons, List.length_append, this, h0, List.length_cons, Nat.add_mul];omega
theorem flat_get (sz : Nat) : ∀ (l : List V), (∀ x ∈ l, x.cells.length = sz) -> ∀ (i j : Nat) (x c : V), l[i]? = some x -> x.cells[j]? = some c -> (l.flatMap V.cells)[i * sz + j]? = some c
 | [], _, i, j, x, c, hx, _ => by simp at hx
 | y :: l, h, i, j, x, c, hx, hc => by
  have h0 := h y (by simp);rw [List.flatMap_cons, List.getElem?_append];cases i with
  | zero =>
   simp at hx;subst hx;have hj : j < y.cells.length := (List.getElem?_eq_some_iff.1 hc).1;rw [if_pos (by omega)];simpa using hc
  | succ i =>
   have ih := flat_get sz l (fun z hz => h z (by simp [hz])) i j x c (by simpa using hx) hc;rw [h0, Nat.add_mul];rw [if_neg (by omega)];rw [show i * sz + 1 * sz + j - sz = i * sz + j by omega];exact ih
theorem ob_arr {w : World} {st : Nat -> Own} {n g o b : Nat} {p : Bool} {sz : Nat} {l : List V} {cells : Array Value} {ty : TypeId}
  (hlim : l.length <= LIM) (hsz : ∀ x ∈ l, x.cells.length = sz) (hp : p = true -> ∀ x ∈ l, x.idfree = true)
  (hs : st b = .id n g o) (hb : w.heap[b]? = some (.cells cells ty (0, 0)))
  (hr : ∀ (j : Nat) (c : V), (l.flatMap V.cells)[j]? = some c -> o + j < cells.size /\ (cells.getD (o + j) undef).oneCell' = true /\ Rep w st c (cells.getD (o + j) undef)) :
  ObOk w st n (.arr g p sz l) := by
 refine ⟨hlim, hsz, hp, .inr ⟨b, o, cells, ty, hs, hb, fun i j x c hx hc => ?_⟩⟩
 have := hr _ c (flat_get sz l hsz i j x c hx hc)
 rw [<- Nat.add_assoc] at this
 exact this
theorem repL_row {w : World} {st : Nat -> Own} {cs : List V} {vs : List Value} (h : RepL w st cs vs) (cells : Array Value) (o : Nat)
  (he : ∀ j, j < vs.length -> cells[o + j]? = vs[j]?) : ∀ (j : Nat) (c : V), cs[j]? = some c -> o + j < cells.size /\ (cells.getD (o + j) undef).oneCell' = true /\ Rep w st c (cells.getD (o + j) undef) := by
 intro j c hc
 obtain ⟨v, hv, h1, h2⟩ := h.get hc
 have hj : j < vs.length := (List.getElem?_eq_some_iff.1 hv).1
 have hcell := (he j hj).trans hv
 have hlt : o + j < cells.size := (Array.getElem?_eq_some_iff.1 hcell).1
 have e : cells.getD (o + j) undef = v := by
  rw [Array.getD_eq_getD_getElem?, hcell]; rfl
 rw [e]
 exact ⟨hlt, h2, h1⟩
theorem RepL.frame {w st w' st' cs vs} (h : RepL w st cs vs) (hs : ∀ b, st b = .shut -> b < w.heap.size) (hf : Fr w st w' st') : RepL w' st' cs vs :=
 ⟨h.1, fun j c v hc hv => ⟨(h.2 j c v hc hv).1.frame hs hf, (h.2 j c v hc hv).2⟩⟩
theorem new_ok {w : World} {st : Nat -> Own} {h : Heap} (hh : HeapOk w st h) {d : Nat} (hd : hget h d = none) {p : Bool} {sz : Nat} {l : List V} {vs : List Value} (cells : Array Value) (ty : TypeId)
  (hlim : l.length <= LIM) (hsz : ∀ x ∈ l, x.cells.length = sz) (hp : p = true -> ∀ x ∈ l, x.idfree = true) (hr : RepL w st (l.flatMap V.cells) vs)
  (he : ∀ j, j < vs.length -> cells[j]? = vs[j]?) :
  HeapOk (w.alloc (.cells cells ty)) (updO st w.heap.size (.id d 0 0)) (hset h d (.arr 0 p sz l)) /\ Fr w st (w.alloc (.cells cells ty)) (updO st w.heap.size (.id d 0 0)) := by
 have hf := fr_alloc hh (.cells cells ty) (.id d 0 0)
 refine ⟨heap_alloc_id hh hd (.arr 0 p sz l) _ 0 ?_, hf⟩
 refine ob_arr (b := w.heap.size) (o := 0) hlim hsz hp (by simp [updO, Ob.gen]) (heap_alloc_new w _) ?_
 exact repL_row (hr.frame hh.shut hf) cells 0 (by simpa using he)
theorem repS_free {w S c v} (h : RepS w S c v) : c.idfree = true := by
 induction h with
 | agg hl h1 _ ih =>
  rw [V.idfree, V.idfreeL_iff];intro c hc;obtain ⟨j, hj, rfl⟩ := List.mem_iff_getElem.1 hc;exact ih j _ _ (List.getElem?_eq_getElem hj) (Array.getElem?_eq_getElem (by omega))
 | tup hl _ ih =>
  rw [V.idfree, V.idfreeL_iff];intro c hc;obtain ⟨j, hj, rfl⟩ := List.mem_iff_getElem.1 hc;exact ih j _ _ (List.getElem?_eq_getElem hj) (Array.getElem?_eq_getElem (by omega))
 | fn hl _ ih =>
  rw [V.idfree, V.idfreeL_iff];intro c hc;obtain ⟨j, hj, rfl⟩ := List.mem_iff_getElem.1 hc;exact ih j _ _ (List.getElem?_eq_getElem hj) (Array.getElem?_eq_getElem (by omega))
 | _ => rfl
def effAlloc (P : Program) (t d : Nat) (h : Heap) : Option (V × List (Nat × Ob)) :=
 match tab P t with
 | none => none
 | some i => match hget h d with
  | none => some (.ep d 0 i.size 0 0, [(d, .arr 0 true i.size [i.zero])])
  | some _ => none
theorem alloc_good {P ρ o w st h t d v ups} (ho : o.op = .alloc t) (hh : HeapOk w st h) (he : effAlloc P t d h = some (v, ups)) : Good P ρ o w st h v ups := by
 unfold effAlloc at he;split at he
 ·cases he
 ·rename_i i hi;obtain ⟨info, ds, z, hT⟩ := tab_ok hi;split at he
  ·rename_i hd;cases he;have hz : Rep w st i.zero z := .s (vOf_sound hT.zv w _);have hok : okv i.zero = true := by
    have := hT.free;have hzz := vOf_sound hT.zv w (fun _ => False);have hzv := hT.zv;cases e : i.zero <;> first | rfl | (rw [e] at this; simp [V.idfree] at this; done) | skip
    rw [e] at hzv;cases z with
    | agg cs => simp only [vOf, Option.map_eq_some_iff, reduceCtorEq, and_false, exists_false] at hzv
    | _ => simp only [vOf] at hzv; have := (vOf1_sound hzv w (fun _ => False)).1; cases this <;> simp [vOf1] at hzv
   have hrl := rep_cells hz hok;obtain ⟨h1, h2⟩ := new_ok (p := true) (sz := i.size) (l := [i.zero]) hh hd z.cells t (by simp [LIM]) (by simpa using hT.len) (by simpa using hT.free) (by simpa using hrl) (by simp);refine ⟨.pointer (some ⟨w.heap.size, 0, none⟩), _, _, .inl ?_, ?_, h1, h2⟩
   ·unfold execOp;simp [ho, Instr.alloc, hT.run_zero, newVar, newRow]
   ·have := Rep.ep (w := w.alloc (.cells z.cells t)) (st := updO st w.heap.size (.id d 0 0)) (n := d) (g := 0) (o := 0) (sz := i.size) (i := 0) (off := 0) (b := w.heap.size) (by simp [updO]);simpa using this
  ·cases he
def effBox (P : Program) (t d : Nat) (x : V) (h : Heap) : Option (V × List (Nat × Ob)) :=
 match tab P t with
 | none => none
 | some i => match hget h d with
  | none => if x.cells.length = i.size /\ okv x = true then some (.ep d 0 i.size 0 0, [(d, .arr 0 x.idfree i.size [x])]) else none
  | some _ => none
theorem box_good {P ρ o w st h t d x a v ups} (ho : o.op = .box t x) (hρ : Rep w st a (ρ x)) (hh : HeapOk w st h) (he : effBox P t d a h = some (v, ups)) : Good P ρ o w st h v ups := by
 unfold effBox at he;split at he
 ·cases he
 ·rename_i i hi;split at he
  ·rename_i hd;split at he
   ·rename_i hc;cases he;have hrl := rep_cells hρ hc.2;obtain ⟨h1, h2⟩ := new_ok (p := a.idfree) (sz := i.size) (l := [a]) hh hd (ρ x).cells t (by simp [LIM]) (by simpa using hc.1) (by simp) (by simpa using hrl) (by simp);refine ⟨.pointer (some ⟨w.heap.size, 0, none⟩), _, _, .inl ?_, ?_, h1, h2⟩
    ·unfold execOp;simp [ho, Instr.box, newVar, newRow]
    ·have := Rep.ep (w := w.alloc (.cells (ρ x).cells t)) (st := updO st w.heap.size (.id d 0 0)) (n := d) (g := 0) (o := 0) (sz := i.size) (i := 0) (off := 0) (b := w.heap.size) (by simp [updO]);simpa using this
   ·cases he
  ·cases he
def splice (cs : List V) (o : Nat) (new : List V) : List V := cs.take o ++ new ++ cs.drop (o + new.length)
theorem splice_len (cs : List V) (o : Nat) (new : List V) (h : o + new.length <= cs.length) : (splice cs o new).length = cs.length := by
 simp [splice]; omega
theorem zipIdx_fold (off : Nat) : ∀ (new : List Value) (k : Nat) (cells : Array Value), off + k + new.length <= cells.size ->
  ((new.zipIdx k).foldl (fun cs (x : Value × Nat) => cs.setIfInBounds (off + x.2) x.1) cells).toList = cells.toList.take (off + k) ++ new ++ cells.toList.drop (off + k + new.length)
 | [], k, cells, _ => by simp
 | v :: new, k, cells, h => by
  simp only [List.length_cons] at h;simp only [List.zipIdx_cons, List.foldl_cons];rw [zipIdx_fold off new (k + 1) _ (by simp; omega)];simp only [Array.toList_setIfInBounds];apply List.ext_getElem?;intro j;simp only [List.getElem?_append, List.length_append, List.length_take, List.length_set, List.length_cons, List.getElem?_take, List.getElem?_drop, List.getElem?_set, Array.length_toList];have e1 : min (off + (k + 1)) cells.size = off + k + 1 := by omega
  have e2 : min (off + k) cells.size = off + k := by omega
  rw [e1, e2];by_cases h1 : j < off + k
  ·have : ¬ off + k = j := by omega
   simp [h1, this, show j < off + k + 1 by omega, show j < off + k + 1 + new.length by omega, show j < off + (k + 1) by omega, show j < off + k + (new.length + 1) by omega]
  ·by_cases h2 : j = off + k
   ·subst h2;simp [show off + k < off + k + 1 + new.length by omega, show off + k < off + (k + 1) by omega, show off + k < cells.size by omega]
   ·have h3 : ¬ j < off + k + 1 := by omega
    simp only [h1, h3, if_false];by_cases h4 : j < off + k + 1 + new.length
    ·rw [if_pos h4, if_pos (by omega)];obtain ⟨m, hm⟩ : ∃ m, j - (off + k) = m + 1 := ⟨j - (off + k) - 1, by omega⟩;rw [hm, List.getElem?_cons_succ];congr 1;omega
    ·rw [if_neg h4, if_neg (by omega)]
     try rw [if_neg (by omega)]
     congr 1;omega
def buildFill (P : Program) (fs : List (Nat × Nat)) (r : Operand -> V) : List (Nat × Operand) -> List V -> Option (List V)
 | [], cs => some cs
 | (i, x) :: rest, cs =>
  match fs[i]? with
  | none => none
  | some (o, t) =>
   match tab P t with
   | none => none
   | some ti => if (r x).cells.length = ti.size /\ o + (r x).cells.length <= cs.length /\ okv (r x) = true then buildFill P fs r rest (splice cs o (r x).cells) else none
theorem buildFill_ok {P : Program} {w st} {ρ : Operand -> Value} {r : Operand -> V} (hr : ∀ x, Rep w st (r x) (ρ x)) (fields : Array Field) (places : Array (Nat × Nat))
  (hp : ∀ (i : Nat) (f : Field) (ti : TI), fields[i]? = some f -> tab P f.type = some ti -> places[i]? = some (f.offset, ti.size)) :
  ∀ (parts : List (Nat × Operand)) (cs : List V) (cells : Array Value) (out : List V), RepL w st cs cells.toList ->
   buildFill P (fields.toList.map fun f => (f.offset, f.type)) r parts cs = some out ->
   ∃ cells', Instr.fill (places[·]?) cells (parts.map fun (i, x) => (i, ρ x)) = some cells' /\ RepL w st out cells'.toList
 | [], cs, cells, out, h, he => by
  simp only [buildFill, Option.some.injEq] at he;subst he;exact ⟨cells, rfl, h⟩
 | (i, x) :: rest, cs, cells, out, h, he => by
  unfold buildFill at he;split at he
  ·cases he
  ·rename_i o t hf;simp only [List.getElem?_map, Option.map_eq_some_iff, Prod.mk.injEq] at hf;obtain ⟨f, hf, rfl, rfl⟩ := hf;split at he
   ·cases he
   ·rename_i ti hti;split at he
    ·rename_i hc;obtain ⟨h1, h2, h3⟩ := hc;have hrl := rep_cells (hr x) h3;have hz : (ρ x).cells.size = ti.size := by rw [<- h1]; exact hrl.1.symm
     have hcs : cs.length = cells.size := by simpa using h.1
     have hpl := hp i f ti (by simpa using hf) hti;have hfold := zipIdx_fold f.offset (ρ x).cells.toList 0 cells (by simp; rw [hz]; omega);simp only [Nat.add_zero] at hfold;have hnew : RepL w st (splice cs f.offset (r x).cells) ((ρ x).cells.zipIdx.foldl (fun cs (c, j) => cs.setIfInBounds (f.offset + j) c) cells).toList := by
      have e : ((ρ x).cells.zipIdx.foldl (fun cs (c, j) => cs.setIfInBounds (f.offset + j) c) cells) = ((ρ x).cells.toList.zipIdx 0).foldl (fun cs (x : Value × Nat) => cs.setIfInBounds (f.offset + x.2) x.1) cells := by
       rw [<- Array.foldl_toList, Array.toList_zipIdx]
      rw [e, hfold];refine ((h.take _).append hrl).append ?_;have := h.drop (f.offset + (r x).cells.length);have e2 : (r x).cells.length = (ρ x).cells.toList.length := hrl.1;rw [<- e2];exact this
     obtain ⟨cells', r1, r2⟩ := buildFill_ok hr fields places hp rest _ _ out hnew he;refine ⟨cells', ?_, r2⟩;simp only [List.map_cons, Instr.fill, hpl];rw [if_neg (by simp [hz]; omega)];exact r1
    ·cases he
def arrFs (n s e : Nat) : List (Nat × Nat) := (List.range n).map fun i => (i * s, e)
theorem fill_mono {f g : Nat -> Option (Nat × Nat)} (h : ∀ i p, f i = some p -> g i = some p) : ∀ (l : List (Nat × Value)) (cells out : Array Value), Instr.fill f cells l = some out -> Instr.fill g cells l = some out
 | [], cells, out, hf => hf
 | (i, v) :: rest, cells, out, hf => by
  simp only [Instr.fill] at hf ⊢;split at hf
  ·cases hf
  ·rename_i off size hi;rw [h i _ hi];simp only;split at hf
   ·cases hf
   ·rename_i hc;rw [if_neg hc];exact fill_mono h rest _ _ hf
def effBuild (P : Program) (t : Nat) (parts : Array (Nat × Operand)) (r : Operand -> V) : Option V :=
 match tab P t with
 | none => none
 | some i =>
  match i.kind, i.zero with
  | .struct fs, .agg cs =>
   if fs.all (fun f => (tab P f.2).isSome) = true then (buildFill P fs r parts.toList cs).map .agg else none
  | .array n e, .agg cs => match tab P e with
   | some ei => (buildFill P (arrFs n ei.size e) r parts.toList cs).map .agg
   | none => none
  | _, _ => none
theorem places_run {P : Program} (w : World) : ∀ (fs : List Field), (∀ f ∈ fs, (tab P f.type).isSome = true) ->
  ∃ places : List (Nat × Nat), (fs.mapM (m := Sem) (fun f => do pure (f.offset, <- sizeOf f.type))).run P w = .ok places w /\ places.length = fs.length /\
   ∀ (i : Nat) (f : Field) (ti : TI), fs[i]? = some f -> tab P f.type = some ti -> places[i]? = some (f.offset, ti.size)
 | [], _ => ⟨[], rfl, rfl, by simp⟩
 | f :: fs, h => by
  obtain ⟨pl, h1, h2, h3⟩ := places_run w fs (fun g hg => h g (by simp [hg]));obtain ⟨ti, hti⟩ := Option.isSome_iff_exists.1 (h f (by simp));obtain ⟨_, _, _, hT⟩ := tab_ok hti;refine ⟨(f.offset, ti.size) :: pl, ?_, by simp [h2], fun i g tj hg htj => ?_⟩
  ·simp only [List.mapM_cons, Sem.run_bind, hT.run_size, Result.andThen_ok, Sem.run_pure, h1]
  ·cases i with
   | zero => simp at hg; subst hg; rw [hti] at htj; cases htj; rfl
   | succ i => simp at hg; simpa using h3 i g tj hg htj
theorem build_good {P ρ o w st h t parts v} {r : Operand -> V} (ho : o.op = .build t parts) (hr : ∀ x, Rep w st (r x) (ρ x)) (hh : HeapOk w st h) (he : effBuild P t parts r = some v) : Good P ρ o w st h v [] := by
 unfold effBuild at he;split at he
 ·cases he
 ·rename_i i hi;obtain ⟨info, d, z, hT⟩ := tab_ok hi;split at he
  ·rename_i fs cs hk hz;obtain ⟨fields, rfl, rfl⟩ := kind_struct (hT.kind.symm.trans hk);split at he
   ·rename_i hall;simp only [Option.map_eq_some_iff] at he;obtain ⟨out, hout, rfl⟩ := he;have hzr : Rep w st (.agg cs) z := by rw [<- hz]; exact .s (vOf_sound hT.zv w _)
    have hrl := rep_cells hzr rfl;obtain ⟨pl, p1, p2, p3⟩ := places_run (P := P) w fields.toList (by
     intro f hf;have := List.all_eq_true.1 hall (f.offset, f.type) (by simpa using ⟨f, by simpa using hf, rfl, rfl⟩);exact this)
    obtain ⟨cells', c1, c2⟩ := buildFill_ok hr fields pl.toArray (fun i f ti hf hti => by simpa using p3 i f ti (by simpa using hf) hti) parts.toList cs z.cells out hrl hout;refine good_pure (m := .agg cells') ?_ (by have := c2.agg; rwa [Array.toArray_toList] at this) hh;have hm : (fields.mapM (m := Sem) (fun f => do pure (f.offset, <- sizeOf f.type))).run P w = .ok pl.toArray w := by
     rw [Array.mapM_eq_mapM_toList];rw [Sem.run_map, p1];rfl
    unfold execOp;simp only [ho, Instr.build, Sem.run_bind, hT.run_zero, hT.run_und, Result.andThen_ok, hm];have e : (parts.map fun (x : Nat × Operand) => (x.1, ρ x.2)).toList = parts.toList.map fun (i, x) => (i, ρ x) := by simp
    simp only [e, c1, Sem.run_pure, Result.andThen_ok]
   ·cases he
  ·rename_i n e cs hk hz;split at he
   ·rename_i ei hei;simp only [Option.map_eq_some_iff] at he;obtain ⟨out, hout, rfl⟩ := he;have hd := kind_array (hT.kind.symm.trans hk);subst hd;obtain ⟨_, _, _, hE⟩ := tab_ok hei;have hzr : Rep w st (.agg cs) z := by rw [<- hz]; exact .s (vOf_sound hT.zv w _)
    have hrl := rep_cells hzr rfl;let fields : Array Field := ((List.range n).map fun i => { (default : Field) with type := e, offset := i * ei.size }).toArray;let places : Array (Nat × Nat) := ((List.range n).map fun i => (i * ei.size, ei.size)).toArray;have hfs : (fields.toList.map fun f => (f.offset, f.type)) = arrFs n ei.size e := by simp [fields, arrFs]
    obtain ⟨cells', c1, c2⟩ := buildFill_ok hr fields places (fun i f ti hf hti => by
     simp only [fields, places, List.getElem?_toArray, List.getElem?_map, Option.map_eq_some_iff] at hf ⊢;obtain ⟨j, hj, rfl⟩ := hf;rw [hei] at hti;cases hti;exact ⟨j, hj, rfl⟩) parts.toList cs z.cells out hrl (by rw [hfs]; exact hout)
    refine good_pure (m := .agg cells') ?_ (by have := c2.agg; rwa [Array.toArray_toList] at this) hh;have c3 := fill_mono (g := fun i => some (i * ei.size, ei.size)) (fun i p hp => by
     simp only [places, List.getElem?_toArray, List.getElem?_map, Option.map_eq_some_iff] at hp;obtain ⟨j, hj, rfl⟩ := hp;have := (List.getElem?_eq_some_iff.1 hj).2;simp at this;subst this; rfl) _ _ _ c1
    unfold execOp;have e' : (parts.map fun (x : Nat × Operand) => (x.1, ρ x.2)).toList = parts.toList.map fun (i, x) => (i, ρ x) := by simp
    simp only [ho, Instr.build, Sem.run_bind, hT.run_zero, hT.run_und, Result.andThen_ok, hE.run_size, e', c3, Sem.run_pure]
   ·cases he
  ·cases he
end Go.PG
set_option linter.unusedSimpArgs false
namespace Go.PG
theorem range0 {α : Type} (f : Nat -> α) : (Array.range 0).map f = #[] := by apply Array.ext'; simp
theorem flat_set (sz : Nat) : ∀ (l : List V), (∀ x ∈ l, x.cells.length = sz) -> ∀ (k : Nat) (x : V), k < l.length -> x.cells.length = sz ->
  (l.set k x).flatMap V.cells = splice (l.flatMap V.cells) (k * sz) x.cells
 | [], _, k, x, hk, _ => by simp at hk
 | y :: l, h, k, x, hk, hx => by
  have h0 := h y (by simp);cases k with
  | zero =>
   simp only [List.set_cons_zero, List.flatMap_cons, splice, Nat.zero_mul, List.take_zero, List.nil_append, Nat.zero_add, hx];rw [List.drop_append_of_le_length (by omega), <- h0, List.drop_length, List.nil_append]
  | succ k =>
   have ih := flat_set sz l (fun z hz => h z (by simp [hz])) k x (by simpa using hk) hx;simp only [List.set_cons_succ, List.flatMap_cons, ih, splice];rw [List.take_append, List.drop_append];rw [h0, Nat.add_mul, Nat.one_mul];rw [List.take_of_length_le (l := y.cells) (by omega), List.drop_eq_nil_of_le (as := y.cells) (by omega)];simp only [List.append_assoc, List.nil_append];rw [show k * sz + sz - sz = k * sz by omega, show k * sz + sz + x.cells.length - sz = k * sz + x.cells.length by omega]
def listFill (r : Operand -> V) (sz : Nat) : List (Nat × Operand) -> List V -> Option (List V)
 | [], l => some l
 | (k, x) :: rest, l => if k < l.length /\ (r x).cells.length = sz /\ okv (r x) = true then listFill r sz rest (l.set k (r x)) else none
theorem listFill_ok {w st} {ρ : Operand -> Value} {r : Operand -> V} (hr : ∀ x, Rep w st (r x) (ρ x)) (sz : Nat) :
  ∀ (parts : List (Nat × Operand)) (l : List V) (cells : Array Value) (out : List V), (∀ x ∈ l, x.cells.length = sz) -> RepL w st (l.flatMap V.cells) cells.toList ->
   listFill r sz parts l = some out ->
   ∃ cells', Instr.fill (fun i => some (i * sz, sz)) cells (parts.map fun (i, x) => (i, ρ x)) = some cells' /\ RepL w st (out.flatMap V.cells) cells'.toList /\ (∀ x ∈ out, x.cells.length = sz) /\ out.length = l.length
 | [], l, cells, out, hl, h, he => by
  simp only [listFill, Option.some.injEq] at he;subst he;exact ⟨cells, rfl, h, hl, rfl⟩
 | (k, x) :: rest, l, cells, out, hl, h, he => by
  unfold listFill at he;split at he
  ·rename_i hc;obtain ⟨h1, h2, h3⟩ := hc;have hrl := rep_cells (hr x) h3;have hz : (ρ x).cells.size = sz := by rw [<- h2]; exact hrl.1.symm
   have hfl := flat_len sz l hl;have hcs : l.length * sz = cells.size := by rw [<- hfl]; simpa using h.1
   have hle : k * sz + sz <= l.length * sz := by rw [<- Nat.succ_mul]; exact Nat.mul_le_mul_right sz h1
   have hfold := zipIdx_fold (k * sz) (ρ x).cells.toList 0 cells (by simp; rw [hz]; omega);simp only [Nat.add_zero] at hfold;have hl' : ∀ y ∈ l.set k (r x), y.cells.length = sz := by
    intro y hy;rcases List.mem_or_eq_of_mem_set hy with hy | rfl
    ·exact hl y hy
    ·exact h2
   have hnew : RepL w st ((l.set k (r x)).flatMap V.cells) ((ρ x).cells.zipIdx.foldl (fun cs (c, j) => cs.setIfInBounds (k * sz + j) c) cells).toList := by
    have e : ((ρ x).cells.zipIdx.foldl (fun cs (c, j) => cs.setIfInBounds (k * sz + j) c) cells) = ((ρ x).cells.toList.zipIdx 0).foldl (fun cs (x : Value × Nat) => cs.setIfInBounds (k * sz + x.2) x.1) cells := by
     rw [<- Array.foldl_toList, Array.toList_zipIdx]
    rw [e, hfold, flat_set sz l hl k (r x) h1 h2];refine ((h.take _).append hrl).append ?_;have := h.drop (k * sz + (r x).cells.length);have e2 : (r x).cells.length = (ρ x).cells.toList.length := hrl.1;rw [<- e2];exact this
   obtain ⟨cells', r1, r2, r3, r4⟩ := listFill_ok hr sz rest _ _ out hl' hnew he;refine ⟨cells', ?_, r2, r3, by simpa using r4⟩;simp only [List.map_cons, Instr.fill];rw [if_neg (by simp [hz]; omega)];exact r1
  ·cases he
theorem zero_okv {P t i info d z} (hT : TabOk P t i info d z) : okv i.zero = true := by
 have hfr := hT.free;have hzv := hT.zv;cases e : i.zero <;> first | rfl | (rw [e] at hfr; simp [V.idfree] at hfr; done) | skip
 rw [e] at hzv;have := vOf_sound hzv (default : World) (fun _ => False);cases z with
 | agg cs => simp only [vOf, Option.map_eq_some_iff, reduceCtorEq, and_false, exists_false] at hzv
 | _ => simp only [vOf] at hzv; cases this <;> simp [vOf1] at hzv
theorem zeros_rep {P t i info d z} (hT : TabOk P t i info d z) (w : World) (st : Nat -> Own) (n : Nat) :
  RepL w st ((List.replicate n i.zero).flatMap V.cells) ((List.range (n * i.size)).map fun k => z.cells[k % z.cells.size]!) := by
 have hz : Rep w st i.zero z := .s (vOf_sound hT.zv w _)
 have hrl := rep_cells hz (zero_okv hT)
 have hzs : z.cells.size = i.size := by have := hrl.1; rw [hT.len] at this; simpa using this.symm
 have hall : ∀ x ∈ List.replicate n i.zero, x.cells.length = i.size := by
  intro x hx;rw [(List.mem_replicate.1 hx).2]; exact hT.len
 refine ⟨by rw [flat_len i.size _ hall]; simp, fun j c v hc hv => ?_⟩
 have hj : j < n * i.size := by
  have := (List.getElem?_eq_some_iff.1 hv).1;simpa using this
 have hpos : 0 < i.size := by
  rcases Nat.eq_zero_or_pos i.size with h0 | h0
  ·rw [h0] at hj; simp at hj
  ·exact h0
 simp only [List.getElem?_map, List.getElem?_range hj, Option.map_some, Option.some.injEq] at hv
 have hlt : j % i.size < i.size := Nat.mod_lt _ hpos
 have hdiv : j / i.size < n := (Nat.div_lt_iff_lt_mul hpos).2 hj
 have hc' : i.zero.cells[j % i.size]? = some c := by
  obtain ⟨c', hcc⟩ : ∃ c', i.zero.cells[j % i.size]? = some c' := ⟨_, List.getElem?_eq_getElem (by rw [hT.len]; exact hlt)⟩;have := flat_get i.size _ hall (j / i.size) (j % i.size) i.zero c' (by simp [hdiv]) hcc;rw [Nat.mul_comm, Nat.div_add_mod] at this;rw [hc] at this;rw [hcc, <- this]
 have hv' : z.cells.toList[j % i.size]? = some v := by
  rw [<- hv, hzs];have : j % i.size < z.cells.size := by omega
  simp [this]
 exact hrl.2 _ c v hc' hv'
def effBuildSlice (P : Program) (t len : Nat) (parts : Array (Nat × Operand)) (r : Operand -> V) (d : Nat) (h : Heap) : Option (V × List (Nat × Ob)) :=
 match tab P t with
 | none => none
 | some i =>
  match i.kind with
  | .slice e =>
   match tab P e with
   | none => none
   | some ei =>
    if len * ei.size <= 16777216 /\ len <= LIM then
     match hget h d, listFill r ei.size parts.toList (List.replicate len ei.zero) with
     | none, some l => some (.so d 0 ei.size 0 len, [(d, .arr 0 (V.idfreeL l) ei.size l)])
     | _, _ => none
    else none
  | _ => none
theorem buildSlice_good {P ρ o w st h t len parts d v ups} {r : Operand -> V} (ho : o.op = .buildSlice t len parts) (hr : ∀ x, Rep w st (r x) (ρ x)) (hh : HeapOk w st h)
  (he : effBuildSlice P t len parts r d h = some (v, ups)) : Good P ρ o w st h v ups := by
 unfold effBuildSlice at he
 split at he
 ·cases he
 ·rename_i i hi;obtain ⟨info, ds, z, hT⟩ := tab_ok hi;split at he
  ·rename_i e hk;have hd := kind_slice (hT.kind.symm.trans hk);subst hd;split at he
   ·cases he
   ·rename_i ei hei;obtain ⟨info', d', z', hT'⟩ := tab_ok hei;split at he
    ·rename_i hle;obtain ⟨hle, hlim⟩ := hle;split at he
     ·rename_i l hd hl;cases he;have hzs := zeros_rep hT' w st len;have hall : ∀ x ∈ List.replicate len ei.zero, x.cells.length = ei.size := by
       intro x hx;rw [(List.mem_replicate.1 hx).2]; exact hT'.len
      obtain ⟨cells', c1, c2, c3, c4⟩ := listFill_ok hr ei.size parts.toList _ ((Array.range (len * ei.size)).map fun k => z'.cells[k % z'.cells.size]!) l hall (by simpa using hzs) hl;simp only [List.length_replicate] at c4;obtain ⟨h1, h2⟩ := new_ok (p := V.idfreeL l) (sz := ei.size) (l := l) hh hd cells' e (by omega) c3 (fun hp => (V.idfreeL_iff l).1 hp) c2 (by simp);refine ⟨.slice (some ⟨w.heap.size, 0, none⟩) len len, _, _, .inl ?_, ?_, h1, h2⟩
      ·have e1 : (parts.map fun (x : Nat × Operand) => (x.1, ρ x.2)).toList = parts.toList.map fun (i, x) => (i, ρ x) := by simp
       unfold execOp;simp only [ho, Instr.buildSlice, Sem.run_bind, hT.run_und, hT'.run_size, Result.andThen_ok];rw [if_neg (by omega)];by_cases h0 : len * ei.size = 0
       ·simp only [h0, if_true, Sem.run_pure, Result.andThen_ok] at c1 ⊢;simp only [e1];rw [range0] at c1;simp only [range0];simp [c1, newRow]
       ·simp only [h0, if_false, Sem.run_bind, hT'.run_zero, Sem.run_pure, Result.andThen_ok, e1, c1];simp [newRow]
      ·refine Rep.so (o := 0) (b := w.heap.size) (cells := cells') (ty := e) (by simp [updO]) (heap_alloc_new w _) (Nat.le_refl _) ?_ (by simp);have := c2.1;rw [flat_len ei.size l c3, c4] at this;simp at this ⊢;omega
     ·cases he
    ·cases he
  ·cases he
def effMake (P : Program) (t : Nat) (a b : V) (d : Nat) (h : Heap) : Option (V × List (Nat × Ob)) :=
 match tab P t with
 | none => none
 | some i =>
  match i.kind, a, b with
  | .slice e, .int _ n, .int _ m =>
   match tab P e with
   | none => none
   | some ei =>
    if 0 <= n /\ n <= m /\ m <= LIM then
     match hget h d with
     | none => some (.so d 0 ei.size 0 n.toNat, [(d, .arr 0 true ei.size (List.replicate n.toNat ei.zero))])
     | some _ => none
    else none
  | _, _, _ => none
theorem makeSlice_good {P ρ o w st h t x y a b d v ups} (ho : o.op = .makeSlice t x y) (hx : Rep w st a (ρ x)) (hy : Rep w st b (ρ y)) (hh : HeapOk w st h)
  (he : effMake P t a b d h = some (v, ups)) : Good P ρ o w st h v ups := by
 unfold effMake at he
 split at he
 ·cases he
 ·rename_i i hi;obtain ⟨info, ds, z, hT⟩ := tab_ok hi;split at he
  ·rename_i e k1 n k2 m hk;have hd := kind_slice (hT.kind.symm.trans hk);subst hd;split at he
   ·cases he
   ·rename_i ei hei;obtain ⟨info', d', z', hT'⟩ := tab_ok hei;split at he
    ·rename_i hc;obtain ⟨h0, hnm, hlim⟩ := hc;split at he
     ·rename_i hd;cases he;have hzs := zeros_rep hT' w st n.toNat;have hall : ∀ x ∈ List.replicate n.toNat ei.zero, x.cells.length = ei.size := by
       intro x hx;rw [(List.mem_replicate.1 hx).2]; exact hT'.len
      have hlim' : n.toNat <= LIM := by omega
      obtain ⟨h1, h2⟩ := new_ok (p := true) (sz := ei.size) (l := List.replicate n.toNat ei.zero) hh hd ((Array.range (m.toNat * ei.size)).map fun k => z'.cells[k % z'.cells.size]!) e (by simpa using hlim') hall
       (fun _ x hx => by rw [(List.mem_replicate.1 hx).2]; exact hT'.free) hzs (by
        intro j hj;simp at hj;have hj2 : j < m.toNat * ei.size := Nat.lt_of_lt_of_le hj (Nat.mul_le_mul_right _ (by omega));simp [hj, hj2])
      refine ⟨.slice (some ⟨w.heap.size, 0, none⟩) n.toNat m.toNat, _, _, .inl ?_, ?_, h1, h2⟩
      ·have ex := rep_int hx;have ey := rep_int hy;unfold LIM at hlim;have w1 : IntKind.i64.wrap n = n := by
        unfold IntKind.wrap; simp [IntKind.signed, IntKind.bits]; omega
       have w2 : IntKind.i64.wrap m = m := by
        unfold IntKind.wrap; simp [IntKind.signed, IntKind.bits]; omega
       have hby : info'.bytes <= 4096 := by rw [hT'.bytes]; exact hT'.small
       have hmul : (info'.bytes : Int) * m <= 281474976710656 := by
        have := Int.mul_le_mul (show (info'.bytes : Int) <= 4096 by omega) hlim (by omega) (by omega);omega
       have t1 : ¬ (281474976710656 < (info'.bytes : Int) * m) := by omega
       unfold execOp;simp only [ho, Instr.makeSlice, Sem.run_bind, hT.run_und, Result.andThen_ok, ex, ey, asInt, asIntOf, pure_bind, hT'.run_info, Sem.run_pure, w1, w2];rw [if_neg (by simp; omega)];simp only [Sem.run_bind, run_askRoom, Result.andThen_ok, hT'.run_size];by_cases h0 : m.toNat * ei.size = 0
       ·simp only [h0, range0];simp [newRow]
       ·simp [h0, hT'.run_zero, newRow]
      ·refine Rep.so (o := 0) (b := w.heap.size) (ty := e) (by simp [updO]) (heap_alloc_new w _) (by omega) ?_ (by simp);simp
     ·cases he
    ·cases he
  ·cases he
end Go.PG
set_option linter.unusedSimpArgs false
namespace Go.PG
def setV (x : V) (off : Nat) (new : List V) : V :=
 match x with
 | .agg cs => .agg (splice cs off new)
 | y => new.headD y
theorem setV_cells (x : V) (off : Nat) (new : List V) (h : off + new.length <= x.cells.length) (h1 : ∀ c ∈ new, c.cells = [c]) : (setV x off new).cells = splice x.cells off new := by
 have sc : ∀ y : V, y.cells = [y] -> off + new.length <= y.cells.length -> (new.headD y).cells = splice y.cells off new := by
  intro y hy hle;rw [hy] at hle ⊢
  match new, h1 with
  | [], _ =>
   simp only [List.headD_nil, hy, splice, List.append_nil, List.length_nil, Nat.add_zero, List.take_append_drop]
  | [c], h1 =>
   have : off = 0 := by simp at hle; omega
   subst this;simpa [splice] using h1 c (by simp)
  | c :: c' :: r, _ => simp at hle; omega
 cases x with
 | agg cs => rfl
 | _ => exact sc _ rfl h
theorem splice_get (cs new : List V) (off j : Nat) (h : off + new.length <= cs.length) :
  (splice cs off new)[j]? = if off <= j /\ j < off + new.length then new[j - off]? else cs[j]? := by
 unfold splice
 simp only [List.getElem?_append, List.length_append, List.length_take, List.getElem?_take, List.getElem?_drop]
 have e : min off cs.length = off := by omega
 rw [e]
 by_cases h1 : j < off
 ·rw [if_pos h1, if_pos (show j < off + new.length by omega), if_neg (show ¬ (off <= j /\ j < off + new.length) by omega), if_pos h1]
 ·by_cases h2 : j < off + new.length
  ·simp [h1, h2, show off <= j by omega]
  ·simp only [h1, h2, if_false, and_false];congr 1;omega
theorem setV_free {x : V} {off : Nat} {new : List V} (hx : x.idfree = true) (hn : ∀ c ∈ new, c.idfree = true) : (setV x off new).idfree = true := by
 have sc : ∀ y : V, y.idfree = true -> (new.headD y).idfree = true := by
  intro y hy;cases new with
  | nil => exact hy
  | cons c r => exact hn c (by simp)
 cases x with
 | agg cs =>
  rw [V.idfree, V.idfreeL_iff] at hx
  show V.idfree (.agg (splice cs off new)) = true
  rw [V.idfree, V.idfreeL_iff];intro c hc;simp only [splice, List.mem_append] at hc;rcases hc with (hc | hc) | hc
  ·exact hx c (List.mem_of_mem_take hc)
  ·exact hn c hc
  ·exact hx c (List.mem_of_mem_drop hc)
 | _ => exact sc _ hx
theorem cells_free {x : V} (h : x.idfree = true) : ∀ c ∈ x.cells, c.idfree = true := by
 cases x with
 | agg cs => rw [V.idfree, V.idfreeL_iff] at h; exact h
 | _ => intro c hc; simp [V.cells] at hc; subst hc; exact h
def effStore (P : Program) (t : Nat) (a x : V) (h : Heap) : Option (List (Nat × Ob)) :=
 match tab P t, a with
 | some i, .ep n g sz k off =>
  match hget h n with
  | some (.arr g' p s l) =>
   if g' = g /\ s = sz /\ x.cells.length = i.size /\ okv x = true /\ 0 < i.size then
    match l[k]? with
    | some y => if off + x.cells.length <= y.cells.length then some [(n, .arr g (p && x.idfree) sz (l.set k (setV y off x.cells)))] else none
    | none => none
   else none
  | _ => none
 | _, _ => none
theorem wrote_get (cells : Array Value) (q : Nat) (new : List Value) (h : q + new.length <= cells.size) (j : Nat) :
  (cells.toList.take q ++ new ++ cells.toList.drop (q + new.length)).toArray[j]? = if q <= j /\ j < q + new.length then new[j - q]? else cells[j]? := by
 simp only [List.getElem?_toArray, List.getElem?_append, List.length_append, List.length_take, List.getElem?_take, List.getElem?_drop, Array.length_toList]
 have e : min q cells.size = q := by omega
 rw [e]
 by_cases h1 : j < q
 ·rw [if_pos h1, if_pos (show j < q + new.length by omega), if_neg (show ¬ (q <= j /\ j < q + new.length) by omega), if_pos h1];simp
 ·by_cases h2 : j < q + new.length
  ·simp [h1, h2, show q <= j by omega]
  ·simp only [h1, h2, if_false, and_false, Array.getElem?_toList];congr 1;omega
theorem wrote_size (cells : Array Value) (q : Nat) (new : List Value) (h : q + new.length <= cells.size) :
  (cells.toList.take q ++ new ++ cells.toList.drop (q + new.length)).toArray.size = cells.size := by
 simp; omega
theorem getD_of {cells : Array Value} {j : Nat} {v : Value} (h : cells[j]? = some v) : j < cells.size /\ cells.getD j undef = v := by
 refine ⟨(Array.getElem?_eq_some_iff.1 h).1, ?_⟩;rw [Array.getD_eq_getD_getElem?, h]; rfl
theorem of_getD {cells : Array Value} {j : Nat} (h : j < cells.size) : cells[j]? = some (cells.getD j undef) := by
 simp [h]
theorem idx_lt {i k sz j off n : Nat} (hj : j < sz) (hn : off + n <= sz) (hne : i ≠ k) : ¬ (k * sz + off <= i * sz + j /\ i * sz + j < k * sz + off + n) := by
 rcases Nat.lt_or_gt_of_ne hne with h | h
 ·have := Nat.mul_le_mul_right sz (show i + 1 <= k from h);rw [Nat.add_mul] at this; omega
 ·have := Nat.mul_le_mul_right sz (show k + 1 <= i from h);rw [Nat.add_mul] at this; omega
theorem store_good {P ρ o w st h t x y a b ups} (ho : o.op = .store t x y) (hx : Rep w st a (ρ x)) (hy : Rep w st b (ρ y)) (hh : HeapOk w st h)
  (he : effStore P t a b h = some ups) : Good P ρ o w st h .dead ups := by
 unfold effStore at he
 split at he
 ·rename_i i n g sz k off hi;obtain ⟨info, ds, z, hT⟩ := tab_ok hi;split at he
  ·rename_i g' p s l hg;split at he
   ·rename_i hc;obtain ⟨rfl, rfl, hlen, hok, hpos⟩ := hc;split at he
    ·rename_i yv hyv;split at he
     ·rename_i hle;cases he;have hl : live h n g' = true := by simp [live, hg, Ob.gen]
      obtain ⟨bb, oo, hm, hs⟩ := live_ep hh hl hx;obtain ⟨hlim, hsz, hp, hob⟩ := hh.ob _ _ hg;have hkl : k < l.length := (List.getElem?_eq_some_iff.1 hyv).1;have hyc : yv.cells.length = s := hsz yv (List.mem_of_getElem? hyv);have hrl := rep_cells hy hok;rcases hob with ⟨rfl, _⟩ | ⟨b', o', cells, ty, hb', hc', hR⟩
      ·simp at hyv
      ·have e := hh.inj _ _ _ _ _ _ _ hs hb';subst e;rw [hs] at hb';injection hb' with _ _ e3
       subst e3;have hnl : (ρ y).cells.toList.length = b.cells.length := hrl.1.symm;have hq : oo + k * s + off + (ρ y).cells.toList.length <= cells.size := by
        obtain ⟨c, hcc⟩ : ∃ c, yv.cells[off + b.cells.length - 1]? = some c := ⟨_, List.getElem?_eq_getElem (by omega)⟩;have := (hR k _ yv c hyv hcc).1;omega
       have h1 : ∀ v ∈ (ρ y).cells.toList, v.oneCell' = true := by
        intro v hv;obtain ⟨j, hj, rfl⟩ := List.mem_iff_getElem.1 hv;exact (hrl.2 j _ _ (List.getElem?_eq_getElem (by rw [hrl.1]; exact hj)) (List.getElem?_eq_getElem hj)).2
       have hone : ∀ c ∈ b.cells, c.cells = [c] := by
        intro c hc;obtain ⟨j, hj, rfl⟩ := List.mem_iff_getElem.1 hc;obtain ⟨v, _, r1, r2⟩ := hrl.get (List.getElem?_eq_getElem hj);exact vcells_one r1 r2
       have hset := setV_cells yv off b.cells hle hone;have hrun := run_storeCells_at P bb (oo + k * s + off) ty (ρ y).cells.toList 0 cells w hc' (by simpa using hq) h1;simp only [Nat.add_zero] at hrun;have hsize := wrote_size cells (oo + k * s + off) (ρ y).cells.toList hq;have hf := fr_write hh hs hc' _ hsize g' oo (.inl ⟨rfl, rfl⟩);refine ⟨undef, _, _, .inr ⟨?_, rfl⟩, .dead, heap_write_id hh hs hc' _ hsize (.arr g' (p && b.idfree) s (l.set k (setV yv off b.cells))) oo (.inl ⟨rfl, rfl⟩) ?_, hf⟩
       ·unfold execOp;simp only [ho, Instr.storeAt, Instr.sureAddr, hm, pure_bind, storeVar, Sem.run_bind, hT.run_size, Result.andThen_ok];rw [if_neg (by rw [<- hlen]; simpa using hnl)];simp only [hrun, Result.andThen_ok, Sem.run_pure]
       ·refine ⟨by simpa using hlim, fun x hx => ?_, fun hp' x hx => ?_, .inr ⟨bb, oo, _, ty, by simp [updO, Ob.gen], setRow_heap w bb cells _ ty (0, 0) hc', fun i' j x c hx hc => ?_⟩⟩
        ·rcases List.mem_or_eq_of_mem_set hx with hx | rfl
         ·exact hsz x hx
         ·rw [hset, splice_len _ _ _ hle]; exact hyc
        ·simp only [Bool.and_eq_true] at hp';rcases List.mem_or_eq_of_mem_set hx with hx | rfl
         ·exact hp hp'.1 x hx
         ·exact setV_free (hp hp'.1 yv (List.mem_of_getElem? hyv)) (cells_free hp'.2)
        ·rw [List.getElem?_set] at hx;have key : ∀ (q : Nat) (c : V) (v : Value), (cells.toList.take (oo + k * s + off) ++ (ρ y).cells.toList ++ cells.toList.drop (oo + k * s + off + (ρ y).cells.toList.length)).toArray[q]? = some v -> v.oneCell' = true -> Rep w st c v ->
           q < (cells.toList.take (oo + k * s + off) ++ (ρ y).cells.toList ++ cells.toList.drop (oo + k * s + off + (ρ y).cells.toList.length)).toArray.size /\
           ((cells.toList.take (oo + k * s + off) ++ (ρ y).cells.toList ++ cells.toList.drop (oo + k * s + off + (ρ y).cells.toList.length)).toArray.getD q undef).oneCell' = true /\
           Rep (w.setRow bb (cells.toList.take (oo + k * s + off) ++ (ρ y).cells.toList ++ cells.toList.drop (oo + k * s + off + (ρ y).cells.toList.length)).toArray) (updO st bb (.id n g' oo)) c
            ((cells.toList.take (oo + k * s + off) ++ (ρ y).cells.toList ++ cells.toList.drop (oo + k * s + off + (ρ y).cells.toList.length)).toArray.getD q undef) := by
          intro q c v hq' hv1 hv2
          obtain ⟨d1, d2⟩ := getD_of hq'
          rw [d2]
          exact ⟨d1, hv1, hv2.frame hh.shut hf⟩
         by_cases hik : k = i'
         ·subst hik;simp only [if_true, hkl, Option.some.injEq] at hx;subst hx;rw [hset, splice_get _ _ _ _ hle] at hc;by_cases hin : off <= j /\ j < off + b.cells.length
          ·rw [if_pos hin] at hc;obtain ⟨v, hv, r1, r2⟩ := hrl.get hc;refine key _ c v ?_ r2 r1;rw [wrote_get cells _ _ hq, if_pos (by omega)];rw [show oo + k * s + j - (oo + k * s + off) = j - off by omega];exact hv
          ·rw [if_neg hin] at hc;have := hR k j yv c hyv hc;refine key _ c _ ?_ this.2.1 this.2.2;rw [wrote_get cells _ _ hq, if_neg (by omega)];exact of_getD this.1
         ·rw [if_neg hik] at hx;have hxs := hsz x (List.mem_of_getElem? hx);have hj : j < s := by have := (List.getElem?_eq_some_iff.1 hc).1; omega
          have := hR i' j x c hx hc;refine key _ c _ ?_ this.2.1 this.2.2;have hno := idx_lt (i := i') (k := k) (sz := s) (j := j) (off := off) (n := b.cells.length) hj (by omega) (fun e => hik e.symm);rw [wrote_get cells _ _ hq, if_neg (by omega)];exact of_getD this.1
     ·cases he
    ·cases he
   ·cases he
  ·cases he
 ·cases he
end Go.PG
set_option linter.unusedSimpArgs false
namespace Go.PG
def elems (h : Heap) (sz : Nat) : V -> Option (List V × Bool)
 | .nil => some ([], true)
 | .emp _ => some ([], true)
 | .sl s l => if s = sz then some (l, true) else none
 | .so n g s off len =>
  match hget h n with
  | some (.arr g' p s' l) => if g' = g /\ s' = s /\ s = sz /\ off + len <= l.length then some ((l.drop off).take len, p) else none
  | _ => none
 | _ => none
theorem mem_window {l : List V} {off len : Nat} {x : V} (h : x ∈ (l.drop off).take len) : x ∈ l := List.mem_of_mem_drop (List.mem_of_mem_take h)
theorem window_get {l : List V} {off len k : Nat} {y : V} (hy : ((l.drop off).take len)[k]? = some y) : l[off + k]? = some y /\ k < len := by
 rw [List.getElem?_take] at hy;split at hy
 ·rename_i hk;rw [List.getElem?_drop] at hy; exact ⟨hy, hk⟩
 ·cases hy
theorem flat_at {w st} {sz : Nat} {l : List V} {cells : Array Value} (o : Nat) (hsz : ∀ x ∈ l, x.cells.length = sz)
  (h : ∀ (i j : Nat) (x c : V), l[i]? = some x -> x.cells[j]? = some c -> o + i * sz + j < cells.size /\ (cells.getD (o + i * sz + j) undef).oneCell' = true /\ Rep w st c (cells.getD (o + i * sz + j) undef)) :
  ∀ (q : Nat) (c : V), (l.flatMap V.cells)[q]? = some c -> o + q < cells.size /\ (cells.getD (o + q) undef).oneCell' = true /\ Rep w st c (cells.getD (o + q) undef) := by
 intro q c hq
 have hlt : q < l.length * sz := by
  have := (List.getElem?_eq_some_iff.1 hq).1
  rwa [flat_len sz l hsz] at this
 have hpos : 0 < sz := by
  rcases Nat.eq_zero_or_pos sz with h0 | h0
  ·rw [h0] at hlt; simp at hlt
  ·exact h0
 have hi : q / sz < l.length := (Nat.div_lt_iff_lt_mul hpos).2 hlt
 have hx : l[q / sz]? = some l[q / sz] := List.getElem?_eq_getElem hi
 have hxs := hsz _ (List.mem_of_getElem? hx)
 have hj : q % sz < sz := Nat.mod_lt _ hpos
 obtain ⟨c', hc'⟩ : ∃ c', (l[q / sz]).cells[q % sz]? = some c' := ⟨_, List.getElem?_eq_getElem (l := (l[q / sz]'hi).cells) (i := q % sz) (by omega)⟩
 have hg := flat_get sz l hsz _ _ _ _ hx hc'
 rw [Nat.mul_comm, Nat.div_add_mod] at hg
 rw [hq] at hg
 cases hg
 have := h _ _ _ _ hx hc'
 rw [Nat.add_assoc, Nat.mul_comm, Nat.div_add_mod] at this
 exact this
theorem elems_rep {w st h sz a m ys p} (hh : HeapOk w st h) (hr : Rep w st a m) (he : elems h sz a = some (ys, p)) :
  ∃ ad cap vs, m = .slice ad ys.length cap /\ ys.length <= LIM /\ (∀ x ∈ ys, x.cells.length = sz) /\ (p = true -> ∀ x ∈ ys, x.idfree = true) /\ RepL w st (ys.flatMap V.cells) vs /\
   ((ad = none /\ ys = []) \/ ∃ aa, ad = some aa /\ ∀ (j : Nat) (v : Value), vs[j]? = some v -> w.cell? (aa.add j) = some v) := by
 unfold elems at he
 split at he
 ·cases he;exact ⟨none, 0, [], rep_nil hr, by simp, by simp, by simp, RepL.nil, .inl ⟨rfl, rfl⟩⟩
 ·cases he;obtain ⟨a, cap, hm⟩ := rep_emp hr;exact ⟨_, cap, [], by simpa using hm, by simp, by simp, by simp, by simpa using RepL.nil, .inr ⟨a, rfl, by simp⟩⟩
 ·rename_i s l;split at he
  ·rename_i hs;subst hs;cases he;obtain ⟨hlim, hm⟩ := rep_sl hr;rcases hm with ⟨rfl, rfl⟩ | ⟨a, cap, rfl, rfl⟩ | ⟨b, off, cap, cells, ty, fr, rfl, hcap, hs, hb, hsz, hR⟩
   ·exact ⟨none, 0, [], rfl, hlim, by simp, by simp, RepL.nil, .inl ⟨rfl, rfl⟩⟩
   ·exact ⟨some a, cap, [], rfl, hlim, by simp, by simp, RepL.nil, .inr ⟨a, rfl, by simp⟩⟩
   ·have hfl := flat_at (w := w) (st := st) off hsz (fun i j x c hx hc => ⟨(hR i j x c hx hc).1, (hR i j x c hx hc).2.1, .s (hR i j x c hx hc).2.2⟩);refine ⟨_, cap, _, rfl, hlim, hsz, fun _ x hx => ?_, repL_at off hfl, .inr ⟨⟨b, off, none⟩, rfl, fun j v hv => ?_⟩⟩
    ·obtain ⟨i, hi, rfl⟩ := List.mem_iff_getElem.1 hx;have hxi := List.getElem?_eq_getElem hi;have key : ∀ c ∈ (ys[i]'hi).cells, c.idfree = true := by
      intro c hc;obtain ⟨j, hj, rfl⟩ := List.mem_iff_getElem.1 hc;exact repS_free (hR i j _ _ hxi (List.getElem?_eq_getElem hj)).2.2
     cases e : ys[i]'hi with
     | agg cs => rw [V.idfree, V.idfreeL_iff]; rw [e] at key; exact key
     | _ => rw [e] at key; exact key _ (by simp [V.cells])
    ·have hj : j < (ys.flatMap V.cells).length := by
      have := (List.getElem?_eq_some_iff.1 hv).1;simpa using this
     have := cells_at hb off (ys.flatMap V.cells).length (fun j hj => (hfl j _ (List.getElem?_eq_getElem hj)).1) j v hv;exact this
  ·cases he
 ·rename_i n g s off len;split at he
  ·rename_i g' p' s' l hg;split at he
   ·rename_i hc;obtain ⟨rfl, rfl, rfl, hle⟩ := hc;cases he;have hl : live h n g' = true := by simp [live, hg, Ob.gen]
    obtain ⟨hlim, hsz, hp, hob⟩ := hh.ob _ _ hg;have hlen : ((l.drop off).take len).length = len := by simp; omega
    rcases live_so hh hl hr with ⟨base, rfl, rfl, rfl⟩ | ⟨b, oo, ad, cap, cells, ty, rfl, hs, hb, hcap, hf, ha⟩
    ·refine ⟨base, 0, [], by simp, by simp, by simp, by simp, by simpa using RepL.nil, ?_⟩;cases base with
     | none => exact .inl ⟨rfl, by simp⟩
     | some aa => exact .inr ⟨aa, rfl, by simp⟩
    ·rcases hob with ⟨rfl, hno⟩ | ⟨b', o', cells', ty', hb', hc', hR⟩
     ·exact absurd hs (hno _ _ _)
     ·have e := hh.inj _ _ _ _ _ _ _ hs hb';subst e;rw [hs] at hb';injection hb' with _ _ e3
      subst e3;rw [hb] at hc';cases hc';have hsz' : ∀ x ∈ (l.drop off).take len, x.cells.length = s' := fun x hx => hsz x (mem_window hx)
      have hfl := flat_at (w := w) (st := st) (cells := cells) (oo + off * s') hsz' (fun i j x c hx hc => by
       have := hR _ j x c (window_get hx).1 hc;rw [Nat.add_mul, <- Nat.add_assoc] at this;exact this)
      by_cases h0 : len = 0
      ·subst h0;exact ⟨_, cap, [], by simp, by simp, by simp, by simp, by simpa using RepL.nil, .inr ⟨⟨b, ad, none⟩, rfl, by simp⟩⟩
      ·have e := ha (by omega);subst e;refine ⟨_, cap, _, by rw [hlen], by omega, hsz', fun hp' x hx => hp hp' x (mem_window hx), repL_at _ hfl, .inr ⟨⟨b, _, none⟩, rfl, fun j v hv => ?_⟩⟩;have := cells_at hb (oo + off * s') (((l.drop off).take len).flatMap V.cells).length (fun j hj => (hfl j _ (List.getElem?_eq_getElem hj)).1) j v hv;exact this
   ·cases he
  ·cases he
 ·cases he
def effAppend (P : Program) (t t' : Nat) (a b : V) (d : Nat) (h : Heap) : Option (V × List (Nat × Ob)) :=
 match tab P t, tab P t' with
 | some i, some i' =>
  match i.kind, i'.kind with
  | .slice e, .slice _ =>
   match tab P e with
   | none => none
   | some ei =>
    match elems h ei.size b with
    | none => none
    | some (ys, q) =>
     match a with
     | .nil =>
      match hget h d with
      | none => if ys.length <= LIM then some (.so d 0 ei.size 0 ys.length, [(d, .arr 0 q ei.size ys)]) else none
      | some _ => none
     | .so n g s off len =>
      match hget h n with
      | some (.arr g' p s' l) =>
       if g' = g /\ s' = s /\ s = ei.size /\ off + len <= l.length /\ len + ys.length <= LIM then
        some (.so n (g + 1) s 0 (len + ys.length), [(n, .arr (g + 1) (p && q) s ((l.drop off).take len ++ ys))])
       else none
      | _ => none
     | _ => none
  | _, _ => none
 | _, _ => none
section
variable {P : Program} (w : World)
theorem run_append_in {t t' ty e : TypeId} {i : TI} {info : TypeInfo} {e2 : TypeId} {d : TypeDesc} {z : Value} (ht : P.underlying t = some (.slice e)) (ht' : P.underlying t' = some (.slice e2))
  (hT : TabOk P e i info d z) (base : Option Addr) (sLen sCap : Nat) (ad : Option Addr) (m c : Nat) (news : List Value) (hl : news.length = m * i.size)
  (hnews : (ad = none /\ news = []) \/ ∃ a, ad = some a /\ ∀ j v, news[j]? = some v -> w.cell? (a.add j) = some v) (hroom : sLen + m <= sCap) {w' : World}
  (hst : ∀ a, base = some a -> (storeCells (a.add (sLen * i.size)) news).run P w = .ok () w') (hbn : base = none -> w' = w) :
  (Builtin.append_ #[t, t'] ty #[.slice base sLen sCap, .slice ad m c]).run P w = .ok (.slice base (sLen + m) sCap) w' := by
 have hf : (Builtin.firstCells i.size m (.slice ad m c)).run P w = .ok news.toArray w := by
  rcases hnews with ⟨rfl, rfl⟩ | ⟨a, rfl, hn⟩
  ·exact run_firstCells_none w _ _ _ _
  ·exact run_firstCells_some w i.size m a m c news hl hn
 unfold Builtin.append_
 simp only [List.getElem?_toArray, List.getElem?_cons_zero, List.getElem?_cons_succ, Sem.run_bind, run_underlying ht, Result.andThen_ok, hT.run_size, run_underlying ht', Sem.run_pure, Builtin.lenOf, Bool.false_eq_true, if_false, Bool.not_false, if_true, hroom, hf]
 cases base with
 | none => rw [hbn rfl]; rfl
 | some a => simp [hst a rfl]
theorem run_append_new {t t' ty e : TypeId} {i : TI} {info : TypeInfo} {e2 : TypeId} {d : TypeDesc} {z : Value} (ht : P.underlying t = some (.slice e)) (ht' : P.underlying t' = some (.slice e2))
  (hT : TabOk P e i info d z) (base : Option Addr) (sLen sCap : Nat) (olds : List Value) (hlo : olds.length = sLen * i.size)
  (holds : (base = none /\ olds = []) \/ ∃ a, base = some a /\ ∀ j v, olds[j]? = some v -> w.cell? (a.add j) = some v)
  (ad : Option Addr) (m c : Nat) (news : List Value) (hl : news.length = m * i.size)
  (hnews : (ad = none /\ news = []) \/ ∃ a, ad = some a /\ ∀ j v, news[j]? = some v -> w.cell? (a.add j) = some v) (hg : sCap < sLen + m) (hlim : sLen + m <= LIM) :
  (Builtin.append_ #[t, t'] ty #[.slice base sLen sCap, .slice ad m c]).run P w =
   .ok (.slice (some ⟨w.heap.size, 0, none⟩) (sLen + m) (grownCap w (sLen + m) sCap e))
    (w.drew.alloc (.cells (olds.toArray ++ news.toArray ++ Builtin.zeroCells z.cells (grownCap w (sLen + m) sCap e - (sLen + m))) e)) := by
 have hf : (Builtin.firstCells i.size m (.slice ad m c)).run P w.drew = .ok news.toArray w.drew := by
  rcases hnews with ⟨rfl, rfl⟩ | ⟨a, rfl, hn⟩
  ·exact run_firstCells_none w.drew _ _ _ _
  ·exact run_firstCells_some w.drew i.size m a m c news hl (by simpa using hn)
 have hfo : (Builtin.firstCells i.size sLen (.slice base sLen sCap)).run P w.drew = .ok olds.toArray w.drew := by
  rcases holds with ⟨rfl, rfl⟩ | ⟨a, rfl, hn⟩
  ·exact run_firstCells_none w.drew _ _ _ _
  ·exact run_firstCells_some w.drew i.size sLen a sLen sCap olds hlo (by simpa using hn)
 have hn : ¬ (sLen + m <= sCap) := by omega
 unfold LIM at hlim
 have h63 : ¬ (9223372036854775807 < ((sLen : Int) + (m : Int))) := by omega
 have hby : info.bytes <= 4096 := by rw [hT.bytes]; exact hT.small
 have h48 : ¬ (281474976710656 < Builtin.nextslicecap (sLen + m) sCap * info.bytes) := by
  have := growslice_fits (need := sLen + m) (old := sCap) (bytes := info.bytes) hg (by
   have := Nat.mul_le_mul hlim hby;omega)
  omega
 have hmx : IntKind.i64.max = 9223372036854775807 := rfl
 unfold Builtin.append_
 simp only [List.getElem?_toArray, List.getElem?_cons_zero, List.getElem?_cons_succ, Sem.run_bind, run_underlying ht, Result.andThen_ok, hT.run_size, run_underlying ht', Sem.run_pure, Builtin.lenOf, Bool.false_eq_true, if_false, Bool.not_false, if_true, hn]
 simp [hT.run_info, hmx, h63, h48, Question.forced, hf, hfo, hT.run_zero, newRow, grownCap]
 congr 2
 apply Array.ext'
 simp [List.append_assoc]
end
end Go.PG
set_option linter.unusedSimpArgs false
namespace Go.PG
theorem repL_flat_append {w : World} {st : Nat -> Own} {l ys : List V} {vs us : List Value} (hl : RepL w st (l.flatMap V.cells) vs) (hy : RepL w st (ys.flatMap V.cells) us) : RepL w st ((l ++ ys).flatMap V.cells) (vs ++ us) := by
 rw [List.flatMap_append];exact hl.append hy
theorem vs_len {w st sz} {ys : List V} {vs : List Value} (hsz : ∀ x ∈ ys, x.cells.length = sz) (h : RepL w st (ys.flatMap V.cells) vs) : vs.length = ys.length * sz := by
 rw [<- h.1, flat_len sz ys hsz]
theorem repL_one {w st cs vs} (h : RepL w st cs vs) : ∀ v ∈ vs, v.oneCell' = true := by
 intro v hv;obtain ⟨j, hj, rfl⟩ := List.mem_iff_getElem.1 hv;exact (h.2 j _ _ (List.getElem?_eq_getElem (by rw [h.1]; exact hj)) (List.getElem?_eq_getElem hj)).2
theorem append_good {P ρ o w st h t t' x y a b d v ups} (ho : o.op = .call { callee := .builtin .append, args := #[x, y], argTypes := #[t, t'] })
  (hx : Rep w st a (ρ x)) (hy : Rep w st b (ρ y)) (hh : HeapOk w st h) (he : effAppend P t t' a b d h = some (v, ups)) : Good P ρ o w st h v ups := by
 unfold effAppend at he
 split at he
 ·rename_i i i' hi hi';obtain ⟨info, ds, z, hT⟩ := tab_ok hi;obtain ⟨info', ds', z', hT'⟩ := tab_ok hi';split at he
  ·rename_i e e2 hk hk';have hd := kind_slice (hT.kind.symm.trans hk);have hd' := kind_slice (hT'.kind.symm.trans hk');subst hd hd';split at he
   ·cases he
   ·rename_i ei hei;obtain ⟨infoe, dse, ze, hE⟩ := tab_ok hei;split at he
    ·cases he
    ·rename_i ys q hys;obtain ⟨ady, capy, vs, hmy, hylim, hysz, hyfree, hyr, hyad⟩ := elems_rep hh hy hys;have hvl := vs_len hysz hyr;have hnews : (ady = none /\ vs = []) \/ ∃ aa, ady = some aa /\ ∀ (j : Nat) (v : Value), vs[j]? = some v -> w.cell? (aa.add j) = some v := by
      rcases hyad with ⟨r1, rfl⟩ | ⟨aa, r1, r2⟩
      ·exact .inl ⟨r1, List.eq_nil_of_length_eq_zero (by simpa using hvl)⟩
      ·exact .inr ⟨_, r1, r2⟩
     have run : ∀ m w', (Builtin.append_ #[t, t'] o.type #[ρ x, ρ y]).run P w = .ok m w' -> (execOp ρ o).run P w = .ok (.value m) w' := by
      intro m w' hm;unfold execOp;simp [ho, resolve, invoke, builtin, hm]
     have newblock : ∀ (n g' : Nat) (p0 : Bool) (l0 : List V) (olds : List Value) (base : Option Addr) (sLen sCap : Nat) , ρ x = .slice base sLen sCap -> sLen = l0.length -> (∀ x ∈ l0, x.cells.length = ei.size) -> (p0 = true -> ∀ x ∈ l0, x.idfree = true) ->
       RepL w st (l0.flatMap V.cells) olds -> ((base = none /\ olds = []) \/ ∃ aa, base = some aa /\ ∀ (j : Nat) (v : Value), olds[j]? = some v -> w.cell? (aa.add j) = some v) ->
       sCap < sLen + ys.length -> sLen + ys.length <= LIM -> (∀ b g o, st b = .id n g o -> g < g') ->
       Good P ρ o w st h (.so n g' ei.size 0 (sLen + ys.length)) [(n, .arr g' (p0 && q) ei.size (l0 ++ ys))] := by
      intro n g' p0 l0 olds base sLen sCap hmx hsl hl0 hp0 holds hbase hcap hlim hgen
      have hol := vs_len hl0 holds
      have hr := run_append_new w (t := t) (t' := t') (ty := o.type) hT.und hT'.und hE base sLen sCap olds (by rw [hol, hsl]) hbase ady ys.length capy vs hvl hnews hcap hlim
      rw [<- hmx, <- hmy] at hr
      have hf0 : Fr w st w.drew st := Fr.drew w st
      have hh0 := hh.drew
      have hf := fr_move hh0 g' (.cells (olds.toArray ++ vs.toArray ++ Builtin.zeroCells ze.cells (grownCap w (sLen + ys.length) sCap e - (sLen + ys.length))) e) 0 hgen
      have hrl : RepL w st ((l0 ++ ys).flatMap V.cells) (olds ++ vs) := repL_flat_append holds hyr
      refine ⟨_, _, _, .inl (run _ _ hr), ?_, heap_move_id hh0 (.arr g' (p0 && q) ei.size (l0 ++ ys)) _ 0 hgen ?_, hf0.trans hf⟩
      ·refine Rep.so (o := 0) (b := w.drew.heap.size) (ty := e) (by unfold mvO; rw [if_pos rfl]; rfl) (heap_alloc_new w.drew _) (grownCap_ge w _ _ e) ?_ (by simp);have hzs : ze.cells.size = ei.size := by
        have := (rep_cells (.s (vOf_sound hE.zv w (fun b => st b = .shut))) (zero_okv hE)).1;rw [hE.len] at this;simpa using this.symm
       have hge := grownCap_ge w (sLen + ys.length) sCap e;simp only [Array.size_append, List.size_toArray, size_zeroCells, hzs, hol, hvl];rw [<- hsl, <- Nat.add_mul, <- Nat.add_mul];refine Nat.le_of_eq ?_;rw [Nat.zero_add];congr 1;omega
      ·refine ob_arr (b := w.drew.heap.size) (o := 0) (by simp; omega) (fun x hx => ?_) (fun hp x hx => ?_) (by unfold mvO; rw [if_pos rfl]; rfl) (heap_alloc_new w.drew _) ?_
       ·rcases List.mem_append.1 hx with hx | hx
        ·exact hl0 x hx
        ·exact hysz x hx
       ·simp only [Bool.and_eq_true] at hp;rcases List.mem_append.1 hx with hx | hx
        ·exact hp0 hp.1 x hx
        ·exact hyfree hp.2 x hx
       ·refine repL_row ((hrl.frame hh.shut (hf0.trans hf))) _ 0 (fun j hj => ?_);rw [Nat.zero_add];have : (olds.toArray ++ vs.toArray) = (olds ++ vs).toArray := by simp
        rw [Array.getElem?_append, if_pos (by simpa using hj), this];simp
     split at he
     ·split at he
      ·rename_i hd;split at he
       ·rename_i hlim;cases he;have hmx := rep_nil hx;have hno := hh.nil_of hd;by_cases h0 : ys.length = 0
        ·have hys0 : ys = [] := List.eq_nil_of_length_eq_zero h0;subst hys0;have hr := run_append_in w (t := t) (t' := t') (ty := o.type) hT.und hT'.und hE none 0 0 ady 0 capy vs (by simpa using hvl) hnews (Nat.le_refl 0) (w' := w) (by intro a h; cases h) (fun _ => rfl);rw [<- hmx] at hr;simp only [List.length_nil] at hmy;rw [<- hmy] at hr;refine ⟨_, w, st, .inl (run _ _ hr), by rw [hmx]; exact Rep.so0, ?_, Fr.refl w st⟩;refine ⟨fun n y hy => ?_, fun b n g o hs => ?_, hh.inj, hh.shut, hh.hid⟩
         ·simp only [hsets, hget_hset] at hy;split at hy
          ·rename_i hn;cases hy;subst hn;exact ⟨by simp, by simp, by simp, .inl ⟨rfl, hno⟩⟩
          ·exact hh.ob n y hy
         ·obtain ⟨r1, y, r2, r3⟩ := hh.dom _ _ _ _ hs;refine ⟨r1, y, ?_, r3⟩;simp only [hsets, hget_hset];rw [if_neg (by rintro rfl; exact hno _ _ _ hs)];exact r2
        ·have := newblock d 0 true [] [] none 0 0 hmx rfl (by simp) (by simp) RepL.nil (.inl ⟨rfl, rfl⟩) (by omega) (by omega) (fun b g o hs => absurd hs (hno _ _ _));simpa using this
       ·exact absurd hylim (by assumption)
      ·cases he
     ·rename_i n g s off len;split at he
      ·rename_i g' p s' l hg;split at he
       ·rename_i hc;obtain ⟨rfl, rfl, rfl, hwl, hlim⟩ := hc;cases he;have hl : live h n g' = true := by simp [live, hg, Ob.gen]
        obtain ⟨hllim, hlsz, hlp, hob⟩ := hh.ob _ _ hg;have hdl : ((l.drop off).take len).length = len := by simp; omega
        have hdsz : ∀ x ∈ (l.drop off).take len, x.cells.length = ei.size := fun x hx => hlsz x (mem_window hx)
        have hdp : p = true -> ∀ x ∈ (l.drop off).take len, x.idfree = true := fun hp x hx => hlp hp x (mem_window hx)
        have hgen : ∀ b g o, st b = .id n g o -> g < g' + 1 := by
         intro b g o hs;obtain ⟨_, y, hy, hgn⟩ := hh.dom _ _ _ _ hs;rw [hg] at hy;cases hy;simp only [Ob.gen] at hgn;omega
        rcases live_so hh hl hx with ⟨base, hmx, rfl, rfl⟩ | ⟨b', oo, ad, cap, cells, ty, hmx, hs, hb, hcap, hf, ha⟩
        ·have hl0 : (l.drop 0).take 0 = ([] : List V) := by simp
         rw [hl0];by_cases h0 : ys.length = 0
         ·have hys0 : ys = [] := List.eq_nil_of_length_eq_zero h0;subst hys0;have hr := run_append_in w (t := t) (t' := t') (ty := o.type) hT.und hT'.und hE base 0 0 ady 0 capy vs (by simpa using hvl) hnews (Nat.le_refl 0) (w' := w) (fun a _ => by
           have hvs : vs = [] := List.eq_nil_of_length_eq_zero (by simpa using hvl);subst hvs;rfl) (fun _ => rfl)
          rw [<- hmx] at hr;simp only [List.length_nil] at hmy;rw [<- hmy] at hr;rcases hob with ⟨_, hno⟩ | ⟨b1, o1, c1, ty1, hb1, hc1, _⟩
          ·refine ⟨_, w, st, .inl (run _ _ hr), by rw [hmx]; exact Rep.so0, ?_, Fr.refl w st⟩;refine ⟨fun m y hy => ?_, fun b m g o hs => ?_, hh.inj, hh.shut, hh.hid⟩
           ·simp only [hsets, hget_hset] at hy;split at hy
            ·rename_i hn;cases hy;subst hn;exact ⟨by simp, by simp, by simp, .inl ⟨rfl, hno⟩⟩
            ·exact hh.ob m y hy
           ·obtain ⟨r1, y, r2, r3⟩ := hh.dom _ _ _ _ hs;refine ⟨r1, y, ?_, r3⟩;simp only [hsets, hget_hset];rw [if_neg (by rintro rfl; exact hno _ _ _ hs)];exact r2
          ·have hself := setRow_self w b1 c1 ty1 (0, 0) hc1;have hw := heap_write_id hh hb1 hc1 c1 rfl (.arr (g' + 1) (p && q) ei.size ([] ++ [])) o1 (.inr (by simp [Ob.gen])) ⟨by simp, by simp, by simp, .inr ⟨b1, o1, c1, ty1, by simp [updO, Ob.gen], by rw [hself]; exact hc1, by simp⟩⟩;have hfr := fr_write hh hb1 hc1 c1 rfl (g' + 1) o1 (.inr (by omega));rw [hself] at hw hfr;exact ⟨_, w, _, .inl (run _ _ hr), by rw [hmx]; exact Rep.so0, hw, hfr⟩
         ·exact newblock n (g' + 1) p [] [] base 0 0 hmx rfl (by simp) (by simp) RepL.nil (by
           cases base with
           | none => exact .inl ⟨rfl, rfl⟩
           | some aa => exact .inr ⟨aa, rfl, by simp⟩) (by omega) (by omega) hgen
        ·rcases hob with ⟨rfl, hno⟩ | ⟨b1, o1, c1, ty1, hb1, hc1, hR⟩
         ·exact absurd hs (hno _ _ _)
         ·have e1 := hh.inj _ _ _ _ _ _ _ hs hb1;subst e1;rw [hs] at hb1;injection hb1 with _ _ e3
          subst e3;rw [hb] at hc1;cases hc1;have hfl := flat_at (w := w) (st := st) (cells := cells) (oo + off * ei.size) hdsz (fun i j x c hx hc => by
           have := hR _ j x c (window_get hx).1 hc;rw [Nat.add_mul, <- Nat.add_assoc] at this;exact this)
          have hflen : (((l.drop off).take len).flatMap V.cells).length = len * ei.size := by rw [flat_len _ _ hdsz, hdl]
          have holds := repL_at (w := w) (st := st) (cells := cells) (oo + off * ei.size) hfl;have hcellsat := cells_at hb (oo + off * ei.size) (((l.drop off).take len).flatMap V.cells).length (fun j hj => (hfl j _ (List.getElem?_eq_getElem hj)).1);by_cases hroom : len + ys.length <= cap
          ·
           have hq : oo + off * ei.size + len * ei.size + vs.length <= cells.size := by
            rw [hvl];have := Nat.mul_le_mul_right ei.size hroom;rw [Nat.add_mul] at this hf;omega
           have hsize := wrote_size cells _ vs hq;have hfr := fr_write hh hs hb _ hsize (g' + 1) (oo + off * ei.size) (.inr (by omega));have hstr : ∀ a, some (⟨b', ad, none⟩ : Addr) = some a -> (storeCells (a.add (len * ei.size)) vs).run P w = .ok () (w.setRow b' (cells.toList.take (oo + off * ei.size + len * ei.size) ++ vs ++ cells.toList.drop (oo + off * ei.size + len * ei.size + vs.length)).toArray) := by
            intro a ha';cases ha';by_cases hc0 : cap = 0
            ·have hy0 : ys = [] := List.eq_nil_of_length_eq_zero (by omega);subst hy0;have : vs = [] := List.eq_nil_of_length_eq_zero (by simpa using hvl);subst this;simp only [storeCells, List.append_nil, List.length_nil, Nat.add_zero, List.take_append_drop, Array.toArray_toList, Sem.run_pure];rw [setRow_self w b' cells ty (0, 0) hb]
            ·rw [ha hc0, add_lit'];have := run_storeCells_at P b' (oo + off * ei.size + len * ei.size) ty vs 0 cells w hb (by simpa using hq) (repL_one hyr);simpa using this
           have hr := run_append_in w (t := t) (t' := t') (ty := o.type) hT.und hT'.und hE (some ⟨b', ad, none⟩) len cap ady ys.length capy vs hvl hnews hroom hstr (by intro h; cases h);rw [<- hmx, <- hmy] at hr;refine ⟨_, _, _, .inl (run _ _ hr), ?_, heap_write_id hh hs hb _ hsize (.arr (g' + 1) (p && q) ei.size ((l.drop off).take len ++ ys)) (oo + off * ei.size) (.inr (by simp [Ob.gen])) ?_, hfr⟩
           ·refine Rep.so (o := oo + off * ei.size) (b := b') (ty := ty) (by simp [updO, Ob.gen]) (setRow_heap w b' cells _ ty (0, 0) hb) hroom ?_ (fun hc0 => by rw [ha hc0]; simp);rw [hsize, Nat.zero_add];rw [Nat.add_mul] at hf;omega
           ·refine ob_arr (b := b') (o := oo + off * ei.size) (by simp; omega) (fun x hx => ?_) (fun hp x hx => ?_) (by simp [updO, Ob.gen]) (setRow_heap w b' cells _ ty (0, 0) hb) ?_
            ·rcases List.mem_append.1 hx with hx | hx
             ·exact hdsz x hx
             ·exact hysz x hx
            ·simp only [Bool.and_eq_true] at hp;rcases List.mem_append.1 hx with hx | hx
             ·exact hdp hp.1 x hx
             ·exact hyfree hp.2 x hx
            ·have hrl := (repL_flat_append holds hyr).frame hh.shut hfr;refine repL_row hrl _ _ (fun j hj => ?_);rw [wrote_get cells _ vs hq, List.getElem?_append];simp only [List.length_append, List.length_map, List.length_range, hflen] at hj ⊢;by_cases hj1 : j < len * ei.size
             ·rw [if_neg (by omega), if_pos hj1];have hlt := (hfl j _ (List.getElem?_eq_getElem (by omega))).1;simp [hj1, hlt]
             ·rw [if_pos (by omega), if_neg hj1];congr 1;omega
          ·
           have hbase : ((some (⟨b', ad, none⟩ : Addr) = none) /\ ((List.range (((l.drop off).take len).flatMap V.cells).length).map fun j => cells.getD (oo + off * ei.size + j) undef) = []) \/
             ∃ aa, some (⟨b', ad, none⟩ : Addr) = some aa /\ ∀ (j : Nat) (v : Value), ((List.range (((l.drop off).take len).flatMap V.cells).length).map fun j => cells.getD (oo + off * ei.size + j) undef)[j]? = some v -> w.cell? (aa.add j) = some v := by
            refine .inr ⟨_, rfl, fun j v hv => ?_⟩
            by_cases hc0 : cap = 0
            ·have : len = 0 := by omega
             rw [hflen, this] at hv;simp at hv
            ·rw [ha hc0];exact hcellsat j v hv
           exact newblock n (g' + 1) p ((l.drop off).take len) _ _ len cap hmx hdl.symm hdsz hdp holds hbase (by omega) hlim hgen
       ·cases he
      ·cases he
     ·cases he
  ·cases he
 ·cases he
end Go.PG
set_option linter.unusedSimpArgs false
namespace Go.PG
def resV (h : Heap) : Nat -> V -> Option V
 | 0, v => if v.idfree = true then some v else none
 | n + 1, v =>
  if v.idfree = true then some v else
  match v with
  | .agg cs => (cs.mapM (resV h n)).map .agg
  | .tup cs => (cs.mapM (resV h n)).map .tup
  | .fn f cs => (cs.mapM (resV h n)).map (.fn f)
  | .so m g sz off len =>
   match hget h m with
   | some (.arr g' p s l) =>
    if g' = g /\ s = sz /\ off + len <= l.length then
     if p = true then some (.sl sz ((l.drop off).take len))
     else (((l.drop off).take len).mapM fun (x : V) => match x with
      | .agg cs => (cs.mapM (resV h n)).map V.agg
      | y => resV h n y).map (.sl sz)
    else none
   | _ => none
  | .ep m g sz k off =>
   match hget h m with
   | some (.arr g' p s l) =>
    if g' = g /\ s = sz then
     match l[k]? with
     | some x => if p = true then some (.pr (x.cells.drop off)) else ((x.cells.drop off).mapM (resV h n)).map .pr
     | none => none
    else none
   | _ => none
  | .mo m g =>
   match hget h m with
   | some (.map g' ks vs) =>
    if g' = g then
     match ks.mapM (resV h n), vs.mapM (resV h n) with
     | some ks', some vs' => some (.mp ks' vs')
     | _, _ => none
    else none
   | _ => none
  | _ => none
theorem mapM_get {f : V -> Option V} : ∀ {l l' : List V}, l.mapM f = some l' -> l'.length = l.length /\ ∀ (j : Nat) (c' : V), l'[j]? = some c' -> ∃ c, l[j]? = some c /\ f c = some c'
 | [], l', h => by simp at h; subst h; simp
 | x :: l, l', h => by
  simp only [List.mapM_cons, Option.bind_eq_bind, Option.bind_eq_some_iff, Option.pure_def, Option.some.injEq] at h;obtain ⟨y, hy, ys, hys, rfl⟩ := h;obtain ⟨h1, h2⟩ := mapM_get hys;refine ⟨by simp [h1], fun j c' hc => ?_⟩;cases j with
  | zero => simp at hc; subst hc; exact ⟨x, rfl, hy⟩
  | succ j => simp at hc; simpa using h2 j c' hc
def okS (st : Nat -> Own) : Nat -> Prop := fun b => st b ≠ .none
theorem okS_lt {w : World} {st : Nat -> Own} {h : Heap} (hh : HeapOk w st h) {b : Nat} (hb : okS st b) : b < w.heap.size := by
 cases hs : st b with
 | none => exact absurd hs hb
 | shut => exact hh.shut b hs
 | id n g o => exact (hh.dom _ _ _ _ hs).1
 | hid s => exact hh.hid b s hs
theorem RepS.all {w st c v} (h : RepS w (fun b => st b = .shut) c v) : RepS w (okS st) c v :=
 h.frame fun b hb => ⟨by unfold okS; rw [hb]; simp, rfl⟩
theorem resV_idfree {h : Heap} {n : Nat} {v : V} (hv : v.idfree = true) : resV h n v = some v := by
 cases n <;> simp [resV, hv]
theorem resV_cells {h : Heap} {n : Nat} {w st} (ih : ∀ (c c' : V) (v : Value), Rep w st c v -> resV h n c = some c' -> RepS w (okS st) c' v)
  (hone : ∀ c c' : V, resV h n c = some c' -> c.cells = [c] -> c'.cells = [c']) {x x' : V}
  (hx : (match x with | .agg cs => (cs.mapM (resV h n)).map V.agg | y => resV h n y) = some x') :
  x'.cells.length = x.cells.length /\ ∀ (j : Nat) (c' : V), x'.cells[j]? = some c' -> ∃ c, x.cells[j]? = some c /\ resV h n c = some c' := by
 cases x with
 | agg cs =>
  simp only [Option.map_eq_some_iff] at hx;obtain ⟨cs', h1, rfl⟩ := hx;exact mapM_get h1
 | _ =>
  have hc := hone _ _ hx rfl;simp only at hx;refine ⟨by rw [hc]; rfl, fun j c' hj => ?_⟩;rw [hc] at hj;cases j with
  | zero => simp at hj; subst hj; exact ⟨_, rfl, hx⟩
  | succ j => simp at hj
theorem resV_one {h : Heap} {n : Nat} {c c' : V} (hr : resV h n c = some c') (hc : c.cells = [c]) : c'.cells = [c'] := by
 by_cases hi : c.idfree = true
 ·rw [resV_idfree hi] at hr; cases hr; exact hc
 ·cases n with
  | zero => simp [resV, hi] at hr
  | succ n =>
   simp only [resV, hi] at hr;simp only [Bool.false_eq_true, if_false] at hr;split at hr
   ·
    rename_i cs;simp only [V.cells] at hc;have h0 := congrArg (fun l : List V => SizeOf.sizeOf l) hc;simp at h0;omega
   ·simp only [Option.map_eq_some_iff] at hr; obtain ⟨_, _, rfl⟩ := hr; rfl
   ·simp only [Option.map_eq_some_iff] at hr; obtain ⟨_, _, rfl⟩ := hr; rfl
   ·split at hr
    ·split at hr
     ·split at hr
      ·cases hr; rfl
      ·simp only [Option.map_eq_some_iff] at hr; obtain ⟨_, _, rfl⟩ := hr; rfl
     ·cases hr
    ·cases hr
   ·split at hr
    ·split at hr
     ·split at hr
      ·split at hr
       ·cases hr; rfl
       ·simp only [Option.map_eq_some_iff] at hr; obtain ⟨_, _, rfl⟩ := hr; rfl
      ·cases hr
     ·cases hr
    ·cases hr
   ·split at hr
    ·split at hr
     ·split at hr
      ·cases hr; rfl
      ·cases hr
     ·cases hr
    ·cases hr
   ·cases hr
theorem resV_ok {w st h} (hh : HeapOk w st h) : ∀ (n : Nat) (c c' : V) (v : Value), Rep w st c v -> resV h n c = some c' -> RepS w (okS st) c' v := by
 intro n;induction n with
 | zero =>
  intro c c' v hr he;simp only [resV] at he;split at he
  ·rename_i hi; cases he; exact (hr.shut hi).all
  ·cases he
 | succ n ih =>
  intro c c' v hr he;by_cases hi : c.idfree = true
  ·rw [resV_idfree hi] at he; cases he; exact (hr.shut hi).all
  ·simp only [resV, hi] at he;simp only [Bool.false_eq_true, if_false] at he;split at he
   ·rename_i cs;simp only [Option.map_eq_some_iff] at he;obtain ⟨cs', h1, rfl⟩ := he;obtain ⟨g1, g2⟩ := mapM_get h1;obtain ⟨vs, rfl, hl⟩ := rep_agg hr;refine .agg (by rw [g1]; simp [hl.1]) (fun j v hv => ?_) (fun j c' v hc hv => ?_)
    ·have hv' : vs[j]? = some v := by simpa using hv
     exact (hl.2 j _ v (List.getElem?_eq_getElem (by have := (List.getElem?_eq_some_iff.1 hv').1; rw [hl.1]; exact this)) hv').2
    ·obtain ⟨c, hc1, hc2⟩ := g2 j c' hc;exact ih c c' v (hl.2 j c v hc1 (by simpa using hv)).1 hc2
   ·rename_i cs;simp only [Option.map_eq_some_iff] at he;obtain ⟨cs', h1, rfl⟩ := he;obtain ⟨g1, g2⟩ := mapM_get h1;obtain ⟨vs, rfl, hl, hrr⟩ := rep_tup hr;refine .tup (by rw [g1]; exact hl) (fun j c' v hc hv => ?_);obtain ⟨c, hc1, hc2⟩ := g2 j c' hc;exact ih c c' v (hrr j c v hc1 hv) hc2
   ·rename_i f cs;simp only [Option.map_eq_some_iff] at he;obtain ⟨cs', h1, rfl⟩ := he;obtain ⟨g1, g2⟩ := mapM_get h1;cases hr with
    | s hs => exact absurd (repS_free hs) hi
    | fn hl hrr =>
     refine .fn (by rw [g1]; exact hl) (fun j c' v hc hv => ?_);obtain ⟨c, hc1, hc2⟩ := g2 j c' hc;exact ih c c' v (hrr j c v hc1 hv) hc2
    | stale ht => simp [V.tok] at ht
   ·rename_i m g sz off len;split at he
    ·rename_i g' p s l hg;split at he
     ·rename_i hc;obtain ⟨rfl, rfl, hle⟩ := hc;have hl : live h m g' = true := by simp [live, hg, Ob.gen]
      obtain ⟨hlim, hsz, hp, hob⟩ := hh.ob _ _ hg;have hlen : ((l.drop off).take len).length = len := by simp; omega
      have key : ∀ (l' : List V), l'.length = len -> (∀ x ∈ l', x.cells.length = s) ->
        (∀ (i j : Nat) (x' c' : V), l'[i]? = some x' -> x'.cells[j]? = some c' -> ∃ x c, ((l.drop off).take len)[i]? = some x /\ x.cells[j]? = some c /\
         ∀ v, Rep w st c v -> RepS w (okS st) c' v) -> RepS w (okS st) (.sl s l') v := by
       intro l' hl' hsz' hcc
       rcases live_so hh hl hr with ⟨base, rfl, rfl, rfl⟩ | ⟨b, oo, ad, cap, cells, ty, rfl, hs, hb, hcap, hf, ha⟩
       ·rw [List.eq_nil_of_length_eq_zero hl'];cases base with
        | none => exact .slnil
        | some aa => exact .sle
       ·rcases hob with ⟨rfl, hno⟩ | ⟨b', o', cells', ty', hb', hc', hR⟩
        ·exact absurd hs (hno _ _ _)
        ·have e := hh.inj _ _ _ _ _ _ _ hs hb';subst e;rw [hs] at hb';injection hb' with _ _ e3
         subst e3;rw [hb] at hc';cases hc';rw [<- hl'];refine .sl (by omega) (by omega) (by unfold okS; rw [hs]; simp) hb hsz' (fun i j x' c' hx hc => ?_) (fun i j x' c' hx hc => ?_)
         all_goals
          obtain ⟨x, c, hx1, hc1, hrep⟩ := hcc i j x' c' hx hc
          have hil : i < len := by have := (List.getElem?_eq_some_iff.1 hx).1; omega
          have e := ha (by omega)
          subst e
          have := hR _ j x c (window_get hx1).1 hc1
          rw [Nat.add_mul, <- Nat.add_assoc] at this
         ·exact ⟨this.1, this.2.1⟩
         ·exact hrep _ this.2.2
      split at he
      ·rename_i hpt;cases he;refine key _ hlen (fun x hx => hsz x (mem_window hx)) (fun i j x c hx hc => ⟨x, c, hx, hc, fun v hv => ?_⟩);exact (hv.shut (cells_free (hp hpt x (mem_window (List.mem_of_getElem? hx))) c (List.mem_of_getElem? hc))).all
      ·simp only [Option.map_eq_some_iff] at he;obtain ⟨l', h1, rfl⟩ := he;obtain ⟨g1, g2⟩ := mapM_get h1;have hcells : ∀ (i : Nat) (x' : V), l'[i]? = some x' -> ∃ x, ((l.drop off).take len)[i]? = some x /\ x'.cells.length = x.cells.length /\ ∀ (j : Nat) (c' : V), x'.cells[j]? = some c' -> ∃ c, x.cells[j]? = some c /\ resV h n c = some c' := by
        intro i x' hx';obtain ⟨x, hx, hxx⟩ := g2 i x' hx';exact ⟨x, hx, resV_cells ih (fun c c' => resV_one) hxx⟩
       refine key l' (by rw [g1, hlen]) (fun x' hx' => ?_) (fun i j x' c' hx' hc' => ?_)
       ·obtain ⟨i, hi, rfl⟩ := List.mem_iff_getElem.1 hx';obtain ⟨x, hx, e1, _⟩ := hcells i _ (List.getElem?_eq_getElem hi);rw [e1];exact hsz x (mem_window (List.mem_of_getElem? hx))
       ·obtain ⟨x, hx, _, e2⟩ := hcells i _ hx';obtain ⟨c, hc1, hc2⟩ := e2 j c' hc';exact ⟨x, c, hx, hc1, fun v hv => ih c c' v hv hc2⟩
     ·cases he
    ·cases he
   ·rename_i m g sz k off;split at he
    ·rename_i g' p s l hg;split at he
     ·rename_i hc;obtain ⟨rfl, rfl⟩ := hc;split at he
      ·rename_i x hx;have hl : live h m g' = true := by simp [live, hg, Ob.gen]
       obtain ⟨hlim, hsz, hp, hob⟩ := hh.ob _ _ hg;obtain ⟨b, oo, rfl, hs⟩ := live_ep hh hl hr;rcases hob with ⟨rfl, hno⟩ | ⟨b', o', cells', ty', hb', hc', hR⟩
       ·simp at hx
       ·have e := hh.inj _ _ _ _ _ _ _ hs hb';subst e;rw [hs] at hb';injection hb' with _ _ e3
        subst e3;have key : ∀ (cs' : List V), (∀ (j : Nat) (c' : V), cs'[j]? = some c' -> ∃ c, x.cells[off + j]? = some c /\ ∀ v, Rep w st c v -> RepS w (okS st) c' v) ->
          RepS w (okS st) (.pr cs') (.pointer (some ⟨b, oo + k * s + off, none⟩)) := by
         intro cs' hcc
         refine .pr (by unfold okS; rw [hs]; simp) hc' (fun j c' hc => ?_) (fun j c' hc => ?_)
         all_goals
          obtain ⟨c, hc1, hrep⟩ := hcc j c' hc
          have := hR k (off + j) x c hx hc1
          rw [<- Nat.add_assoc] at this
         ·exact ⟨this.1, this.2.1⟩
         ·exact hrep _ this.2.2
        split at he
        ·rename_i hpt;cases he;refine key _ fun j c hc => ⟨c, by rwa [List.getElem?_drop] at hc, fun v hv => ?_⟩
         exact (hv.shut (cells_free (hp hpt x (List.mem_of_getElem? hx)) c (List.mem_of_mem_drop (List.mem_of_getElem? hc)))).all
        ·simp only [Option.map_eq_some_iff] at he;obtain ⟨cs', h1, rfl⟩ := he;obtain ⟨g1, g2⟩ := mapM_get h1;refine key _ fun j c' hc' => ?_
         obtain ⟨c, hc1, hc2⟩ := g2 j c' hc';exact ⟨c, by rwa [List.getElem?_drop] at hc1, fun v hv => ih c c' v hv hc2⟩
      ·cases he
     ·cases he
    ·cases he
   ·rename_i m g;split at he
    ·rename_i g' ks vs hg;split at he
     ·rename_i hc;subst hc;split at he
      ·rename_i ks' vs' hk hv;cases he;obtain ⟨k1, k2⟩ := mapM_get hk;obtain ⟨v1, v2⟩ := mapM_get hv;have hl : live h m g' = true := by simp [live, hg, Ob.gen]
       obtain ⟨b, es, clock, hs, hb, e1, e2, e3, r1, r2⟩ := hh.ob _ _ hg;have : v = .map (some b) := by
        cases hr with
        | s hs => cases hs
        | mo hs' => rw [hh.inj _ _ _ _ _ _ _ hs' hs]
        | stale ht hs' hgt _ =>
         simp only [V.tok, Option.some.injEq, Prod.mk.injEq] at ht;obtain ⟨rfl, rfl⟩ := ht;exact absurd hgt (live_not hh hl hs')
       subst this;refine .mp (by unfold okS; rw [hs]; simp) hb (by omega) (by omega) e3 (fun j e k' he' hk' => ?_) (fun j e x' he' hx' => ?_)
       ·obtain ⟨k, h1, h2⟩ := k2 j k' hk';exact ih k k' _ (r1 j e k he' h1) h2
       ·obtain ⟨x, h1, h2⟩ := v2 j x' hx';exact ih x x' _ (r2 j e x he' h1) h2
      ·cases he
     ·cases he
    ·cases he
   ·cases he
end Go.PG
set_option linter.unusedSimpArgs false
namespace Go.PG
def flatFs (P : Program) (rec : Nat -> Option (List TK)) : List Field -> Nat -> Option (List TK)
 | [], _ => some []
 | f :: fs, off =>
  if (f.name != "_") && (f.offset == off) then
   match tab P f.type, rec f.type with
   | some fi, some l => if l.length = fi.size then (flatFs P rec fs (off + fi.size)).map (l ++ ·) else none
   | _, _ => none
  else none
def flatK (P : Program) : Nat -> Nat -> Option (List TK)
 | 0, _ => none
 | n + 1, t => match tab P t with
  | none => none
  | some i => match i.kind with
   | .int k => some [.int k]
   | .bool => some [.bool]
   | .str => some [.str]
   | .struct _ => match P.underlying t with
    | some (.struct fs) => if P.stoodInHeld t then none else flatFs P (flatK P n) fs.toList 0
    | _ => none
   | _ => none
def eqKs : List TK -> List V -> List V -> Option Bool
 | [], [], [] => some true
 | .int k :: ks, .int a x :: cs, .int b y :: ds => if a = k /\ b = k then (eqKs ks cs ds).map ((x == y) && ·) else none
 | .bool :: ks, .bool x :: cs, .bool y :: ds => (eqKs ks cs ds).map ((x == y) && ·)
 | .str :: ks, .str x :: cs, .str y :: ds => (eqKs ks cs ds).map ((x.toList == y.toList) && ·)
 | _, _, _ => none
theorem eqKs_split : ∀ (l1 l2 : List TK) (cs ds : List V) (b : Bool), eqKs (l1 ++ l2) cs ds = some b ->
  ∃ b1 b2, eqKs l1 (cs.take l1.length) (ds.take l1.length) = some b1 /\ eqKs l2 (cs.drop l1.length) (ds.drop l1.length) = some b2 /\ b = (b1 && b2)
 | [], l2, cs, ds, b, h => ⟨true, b, by simp [eqKs], by simpa using h, by simp⟩
 | k :: l1, l2, cs, ds, b, h => by
  rw [List.cons_append] at h;unfold eqKs at h;split at h
  ·rename_i he; simp at he
  ·rename_i k' ks a x cs' b' y ds' he;simp only [List.cons.injEq] at he;obtain ⟨rfl, rfl⟩ := he;split at h
   ·rename_i hc;simp only [Option.map_eq_some_iff] at h;obtain ⟨r, hr, rfl⟩ := h;obtain ⟨b1, b2, h1, h2, rfl⟩ := eqKs_split l1 l2 cs' ds' r hr;exact ⟨(x == y) && b1, b2, by simp [eqKs, hc, h1], by simpa using h2, by rw [Bool.and_assoc]⟩
   ·cases h
  ·rename_i ks x cs' y ds' he;simp only [List.cons.injEq] at he;obtain ⟨rfl, rfl⟩ := he;simp only [Option.map_eq_some_iff] at h;obtain ⟨r, hr, rfl⟩ := h;obtain ⟨b1, b2, h1, h2, rfl⟩ := eqKs_split l1 l2 cs' ds' r hr;exact ⟨(x == y) && b1, b2, by simp [eqKs, h1], by simpa using h2, by rw [Bool.and_assoc]⟩
  ·rename_i ks x cs' y ds' he;simp only [List.cons.injEq] at he;obtain ⟨rfl, rfl⟩ := he;simp only [Option.map_eq_some_iff] at h;obtain ⟨r, hr, rfl⟩ := h;obtain ⟨b1, b2, h1, h2, rfl⟩ := eqKs_split l1 l2 cs' ds' r hr;exact ⟨(x.toList == y.toList) && b1, b2, by simp [eqKs, h1], by simpa using h2, by rw [Bool.and_assoc]⟩
  ·cases h
theorem eqKs_one {k : TK} {cs ds : List V} {b : Bool} (h : eqKs [k] cs ds = some b) : ∃ c d, cs = [c] /\ ds = [d] /\
  ((∃ j x y, k = .int j /\ c = .int j x /\ d = .int j y /\ b = (x == y)) \/ (∃ x y, k = .bool /\ c = .bool x /\ d = .bool y /\ b = (x == y)) \/ (∃ x y, k = .str /\ c = .str x /\ d = .str y /\ b = (x.toList == y.toList))) := by
 have nil : ∀ (cs ds : List V) (r : Bool), eqKs [] cs ds = some r -> cs = [] /\ ds = [] /\ r = true := by
  intro cs ds r h;cases cs <;> cases ds <;> simp [eqKs] at h;exact ⟨rfl, rfl, h⟩
 unfold eqKs at h
 split at h
 ·rename_i he; simp at he
 ·rename_i k' ks a x cs' b' y ds' he;simp only [List.cons.injEq] at he;obtain ⟨rfl, rfl⟩ := he;split at h
  ·rename_i hc;obtain ⟨rfl, rfl⟩ := hc;simp only [Option.map_eq_some_iff] at h;obtain ⟨r, hr, rfl⟩ := h;obtain ⟨rfl, rfl, rfl⟩ := nil _ _ _ hr;exact ⟨_, _, rfl, rfl, .inl ⟨_, x, y, rfl, rfl, rfl, by simp⟩⟩
  ·cases h
 ·rename_i ks x cs' y ds' he;simp only [List.cons.injEq] at he;obtain ⟨rfl, rfl⟩ := he;simp only [Option.map_eq_some_iff] at h;obtain ⟨r, hr, rfl⟩ := h;obtain ⟨rfl, rfl, rfl⟩ := nil _ _ _ hr;exact ⟨_, _, rfl, rfl, .inr (.inl ⟨x, y, rfl, rfl, rfl, by simp⟩)⟩
 ·rename_i ks x cs' y ds' he;simp only [List.cons.injEq] at he;obtain ⟨rfl, rfl⟩ := he;simp only [Option.map_eq_some_iff] at h;obtain ⟨r, hr, rfl⟩ := h;obtain ⟨rfl, rfl, rfl⟩ := nil _ _ _ hr;exact ⟨_, _, rfl, rfl, .inr (.inr ⟨x, y, rfl, rfl, rfl, by simp⟩)⟩
 ·cases h
theorem kind_bool {d : TypeDesc} (h : kindOf d = .bool) : d = .bool := by
 cases d <;> simp [kindOf] at h;rfl
def ofCells (isA : Bool) (vs : List Value) : Value := if isA then .agg vs.toArray else vs.headD undef
theorem ba_eq (x y : ByteArray) : (x == y) = (x.toList == y.toList) := beq_toListBytes x y
theorem eq_run {P : Program} {w : World} {st : Nat -> Own} : ∀ (n : Nat) (t d : Nat) (i : TI) (l : List TK) (cs ds : List V) (vs us : List Value) (b : Bool), n <= d -> tab P t = some i -> flatK P n t = some l ->
  RepL w st cs vs -> RepL w st ds us -> eqKs l cs ds = some b -> (Op.equalIn d t (ofCells i.isA vs) (ofCells i.isA us)).run P w = .ok b w
 | 0, t, d, i, l, cs, ds, vs, us, b, _, _, h, _, _, _ => by simp [flatK] at h
 | n + 1, t, d, i, l, cs, ds, vs, us, b, hd, hi, h, hv, hu, he => by
  obtain ⟨d, rfl⟩ : ∃ d', d = d' + 1 := ⟨d - 1, by omega⟩;obtain ⟨info, dsc, z, hT⟩ := tab_ok hi;have one : ∀ (c e : V), cs = [c] -> ds = [e] -> ∃ v u, vs = [v] /\ us = [u] /\ Rep w st c v /\ Rep w st e u := by
   rintro c e rfl rfl;obtain ⟨v, hv1, hv2, _⟩ := hv.get (j := 0) (c := c) rfl;obtain ⟨u, hu1, hu2, _⟩ := hu.get (j := 0) (c := e) rfl;have l1 := hv.1;have l2 := hu.1
   match vs, us, l1, l2 with
   | [v'], [u'], _, _ =>
    simp at hv1 hu1;subst hv1 hu1;exact ⟨_, _, rfl, rfl, hv2, hu2⟩
  simp only [flatK, hi] at h;split at h
  ·rename_i k hk;cases h;have hdsc := kind_int (hT.kind.symm.trans hk);subst hdsc;obtain ⟨c, e, rfl, rfl, hcase⟩ := eqKs_one he;obtain ⟨v, u, rfl, rfl, hv', hu'⟩ := one c e rfl rfl;rcases hcase with ⟨j, x, y, hj, rfl, rfl, rfl⟩ | ⟨x, y, hj, _⟩ | ⟨x, y, hj, _⟩
   ·cases hj;rw [rep_int hv', rep_int hu'];have : i.isA = false := hT.isA;simp [ofCells, this, Op.equalIn, hT.run_und]
   ·cases hj
   ·cases hj
  ·rename_i hk;cases h;have hdsc := kind_bool (hT.kind.symm.trans hk);subst hdsc;obtain ⟨c, e, rfl, rfl, hcase⟩ := eqKs_one he;obtain ⟨v, u, rfl, rfl, hv', hu'⟩ := one c e rfl rfl;rcases hcase with ⟨j, x, y, hj, _⟩ | ⟨x, y, hj, rfl, rfl, rfl⟩ | ⟨x, y, hj, _⟩
   ·cases hj
   ·rw [rep_bool hv', rep_bool hu'];have : i.isA = false := hT.isA;simp [ofCells, this, Op.equalIn, hT.run_und]
   ·cases hj
  ·rename_i hk;cases h;have hdsc := kind_str (hT.kind.symm.trans hk);subst hdsc;obtain ⟨c, e, rfl, rfl, hcase⟩ := eqKs_one he;obtain ⟨v, u, rfl, rfl, hv', hu'⟩ := one c e rfl rfl;rcases hcase with ⟨j, x, y, hj, _⟩ | ⟨x, y, hj, _⟩ | ⟨x, y, hj, rfl, rfl, rfl⟩
   ·cases hj
   ·cases hj
   ·rw [(rep_str hv').1, (rep_str hu').1];have : i.isA = false := hT.isA;simp [ofCells, this, Op.equalIn, hT.run_und, ba_eq]
  ·rename_i fs0 hk;split at h
   ·rename_i fs hund;split at h
    ·cases h
    ·rename_i hst;have hst' : P.stoodInHeld t = false := by simpa using hst
     have hdd : dsc = .struct fs := by have := hT.und; rw [hund] at this; cases this; rfl
     have hA : i.isA = true := by rw [hT.isA, hdd]; rfl
     simp only [ofCells, hA, if_true];have hf : P.fieldsOf t = fs := by simp [Program.fieldsOf, hund]
     rw [run_equalIn_struct w d t vs.toArray us.toArray (by rw [hf]; exact hund) hst', hf];have go : ∀ (fs : List Field) (off : Nat) (l : List TK) (b : Bool), flatFs P (flatK P n) fs off = some l -> eqKs l (cs.drop off) (ds.drop off) = some b -> (Op.eqFields d vs.toArray us.toArray fs).run P w = .ok b w := by
      intro fs;induction fs with
      | nil =>
       intro off l b hl hb;simp only [flatFs, Option.some.injEq] at hl;subst hl;have : b = true := by
        cases h1 : cs.drop off <;> cases h2 : ds.drop off <;> simp [h1, h2, eqKs] at hb;exact hb
       subst this;simp [Op.eqFields]
      | cons f fs ih =>
       intro off l b hl hb;simp only [flatFs] at hl;split at hl
       ·rename_i hcond;simp only [Bool.and_eq_true, bne_iff_ne, ne_eq, beq_iff_eq] at hcond;obtain ⟨hname, hoff⟩ := hcond;split at hl
        ·rename_i fi lf hfi hlf;split at hl
         ·rename_i hlen;simp only [Option.map_eq_some_iff] at hl;obtain ⟨lr, hlr, rfl⟩ := hl;obtain ⟨b1, b2, e1, e2, rfl⟩ := eqKs_split _ _ _ _ _ hb;rw [hlen] at e1 e2;rw [List.drop_drop] at e2;rw [List.drop_drop] at e2;have ihr := ih (off + fi.size) lr b2 hlr e2;obtain ⟨_, _, _, hTf⟩ := tab_ok hfi;have hp : ∀ (xs : List V) (ws : List Value), RepL w st xs ws -> fi.size <= (xs.drop off).length -> (fi.isA = false -> fi.size = 1) -> (part f.type ws.toArray f.offset).run P w = .ok (ofCells fi.isA ((ws.drop off).take fi.size)) w := by
           intro xs ws hxs hle h1;rw [hoff];cases hA : fi.isA with
           | true =>
            simp only [part, Sem.run_bind, hTf.run_isAgg, Result.andThen_ok, hA, if_true, hTf.run_size, Sem.run_pure, ofCells];congr 2;apply Array.ext';simp [List.take_drop, Nat.add_comm]
           | false =>
            have hs1 := h1 hA;have hlt : off < ws.length := by
             have := hxs.1;simp at hle;omega
            simp only [part, Sem.run_bind, hTf.run_isAgg, Result.andThen_ok, hA, Bool.false_eq_true, if_false, ofCells, hs1];have h9 : (ws.drop off).head? = some ws[off] := by rw [List.head?_drop]; simp [hlt]
            simp [hlt, List.head?_take, h9]
          have hlens : fi.size <= (cs.drop off).length /\ fi.size <= (ds.drop off).length := by
           have key : ∀ (l : List TK) (a c : List V) (r : Bool), eqKs l a c = some r -> a.length = l.length /\ c.length = l.length := by
            intro l;induction l with
            | nil => intro a c r h; cases a <;> cases c <;> simp [eqKs] at h ⊢
            | cons k l ih =>
             intro a c r h;have := eqKs_split [k] l a c r h;obtain ⟨r1, r2, g1, g2, _⟩ := this;obtain ⟨x, y, k1, k2, _⟩ := eqKs_one g1;obtain ⟨i1, i2⟩ := ih _ _ _ g2;have q1 := congrArg List.length k1;have q2 := congrArg List.length k2;simp at q1 q2 i1 i2 ⊢;omega
           obtain ⟨k1, k2⟩ := key _ _ _ _ e1;rw [hlen] at k1 k2;simp only [List.length_take] at k1 k2;omega
          have hsz : fi.isA = false -> fi.size = 1 := by
           intro hA;rw [<- hlen];cases n with
           | zero => simp [flatK] at hlf
           | succ n =>
            simp only [flatK, hfi] at hlf;split at hlf
            ·cases hlf; rfl
            ·cases hlf; rfl
            ·cases hlf; rfl
            ·rename_i hkf;obtain ⟨ff, hff, _⟩ := kind_struct (hTf.kind.symm.trans hkf);rw [hTf.isA, hff] at hA;cases hA
            ·cases hlf
          have hrec := eq_run n f.type d fi lf _ _ _ _ b1 (by omega) hfi hlf ((hv.drop off).take fi.size) ((hu.drop off).take fi.size) e1;simp only [Op.eqFields, if_pos hname, Sem.run_bind, hp cs vs hv hlens.1 hsz, hp ds us hu hlens.2 hsz, Result.andThen_ok, hrec];cases b1
          ·simp
          ·simpa using ihr
         ·cases hl
        ·cases hl
       ·cases hl
     exact go fs.toList 0 l b h (by simpa using he)
   ·cases h
  ·cases h
def eqKinds (P : Program) (t : Nat) : Option (List TK) :=
 match tab P t with
 | some i => if i.isA && !P.eqGuardType P.depth t then flatK P 6 t else none
 | none => none
def effEq (P : Program) (op : BinOp) (t : Nat) (a b : V) : Option V :=
 match a, b with
 | .agg cs, .agg ds =>
  match eqKinds P t with
  | none => none
  | some ks =>
   match op with
   | .eql => (eqKs ks cs ds).map .bool
   | .neq => (eqKs ks cs ds).map fun b => .bool !b
   | _ => none
 | .bool x, .bool y =>
  match tab P t with
  | some i => match i.kind, op with
   | .bool, .eql => some (.bool (x == y))
   | .bool, .neq => some (.bool (!(x == y)))
   | _, _ => none
  | none => none
 | _, _ => none
theorem eq_good {P ρ o w st h op t t' x y a b v} (ho : o.op = .binOp op t x y t') (hx : Rep w st a (ρ x)) (hy : Rep w st b (ρ y)) (hh : HeapOk w st h) (he : effEq P op t a b = some v) : Good P ρ o w st h v [] := by
 unfold effEq at he;split at he
 ·rename_i cs ds;split at he
  ·cases he
  ·rename_i ks hks;unfold eqKinds at hks;split at hks
   ·rename_i i hi;split at hks
    ·rename_i hc;simp only [Bool.and_eq_true, Bool.not_eq_true'] at hc;obtain ⟨hA, hgt⟩ := hc;obtain ⟨vs, hm, hr⟩ := rep_agg hx;obtain ⟨us, hm', hr'⟩ := rep_agg hy;have key : ∀ r, eqKs ks cs ds = some r -> (Op.equalIn 10000 t (.agg vs.toArray) (.agg us.toArray)).run P w = .ok r w := by
      intro r hr0;have := eq_run 6 t 10000 i ks cs ds vs us r (by omega) hi hks hr hr' hr0;simpa [ofCells, hA] using this
     have run : ∀ m, (binOp op t (.agg vs.toArray) (.agg us.toArray)).run P w = .ok m w -> (execOp ρ o).run P w = .ok (.value m) w := by
      intro m hm1;unfold execOp;simp only [ho, hm, hm', Sem.run_bind, run_eqGuard_agg w op t x y vs.toArray us.toArray hgt, Result.andThen_ok, hm1, Sem.run_pure]
     split at he
     ·simp only [Option.map_eq_some_iff] at he;obtain ⟨r, hr0, rfl⟩ := he;exact good_bool hh (run _ (by rw [run_eql_struct, key r hr0]; rfl))
     ·simp only [Option.map_eq_some_iff] at he;obtain ⟨r, hr0, rfl⟩ := he;exact good_bool hh (run _ (by rw [run_neq_struct, key r hr0]; rfl))
     ·cases he
    ·cases hks
   ·cases hks
 ·rename_i b b';split at he
  ·rename_i i hi;obtain ⟨info, dsc, z, hT⟩ := tab_ok hi;have ex := rep_bool hx;have ey := rep_bool hy;have run : ∀ m, (binOp op t (.bool b) (.bool b')).run P w = .ok m w -> (execOp ρ o).run P w = .ok (.value m) w := by
    intro m hm1;unfold execOp;simp only [ho, ex, ey, Sem.run_bind];have : (eqGuard op t x y (.bool b) (.bool b')).run P w = .ok () w := by
     unfold eqGuard;cases op <;> rfl
    simp only [this, Result.andThen_ok, hm1, Sem.run_pure]
   split at he
   ·rename_i hk;cases he;have hdsc := kind_bool (hT.kind.symm.trans hk);subst hdsc;exact good_bool hh (run _ (by
     show Sem.run P (do pure (Value.bool (<- Op.equal t (Value.bool b) (Value.bool b')))) w = _
     simp only [Op.equal, Op.maxDepth, Sem.run_bind, run_equalIn_bool w 9999 t b b' hT.und, Result.andThen_ok, Sem.run_pure]))
   ·rename_i hk;cases he;have hdsc := kind_bool (hT.kind.symm.trans hk);subst hdsc;exact good_bool hh (run _ (by
     show Sem.run P (do pure (Value.bool (!(<- Op.equal t (Value.bool b) (Value.bool b'))))) w = _
     simp only [Op.equal, Op.maxDepth, Sem.run_bind, run_equalIn_bool w 9999 t b b' hT.und, Result.andThen_ok, Sem.run_pure]))
   ·cases he
  ·cases he
 ·cases he
def effShift (op : BinOp) (a b : V) : Option V :=
 match a, b with
 | .int k x, .int _ y =>
  match op with
  | .shl => if 0 <= y then some (.int k (k.wrap (x * 2 ^ (min y.toNat k.bits)))) else none
  | .shr => if 0 <= y then some (.int k (x.fdiv (2 ^ (min y.toNat k.bits)))) else none
  | _ => none
 | _, _ => none
theorem shift_good {P ρ o w st h op t t' x y a b v} (ho : o.op = .binOp op t x y t') (hx : Rep w st a (ρ x)) (hy : Rep w st b (ρ y)) (hh : HeapOk w st h) (he : effShift op a b = some v) : Good P ρ o w st h v [] := by
 unfold effShift at he;split at he
 ·rename_i k n k' n';have ex := rep_int hx;have ey := rep_int hy;have run : ∀ m, (binOp op t (.int k n) (.int k' n')).run P w = .ok m w -> (execOp ρ o).run P w = .ok (.value m) w := by
   intro m hm;unfold execOp;simp only [ho, ex, ey, Sem.run_bind];have : (eqGuard op t x y (.int k n) (.int k' n')).run P w = .ok () w := by
    unfold eqGuard;cases op <;> rfl
   simp only [this, Result.andThen_ok, hm, Sem.run_pure]
  split at he
  ·split at he
   ·rename_i hn;cases he;refine good_int hh (run _ ?_);have : ¬ n' < 0 := by omega
    simp [binOp, Op.shift, this]
   ·cases he
  ·split at he
   ·rename_i hn;cases he;refine good_int hh (run _ ?_);have : ¬ n' < 0 := by omega
    simp [binOp, Op.shift, this]
   ·cases he
  ·cases he
 ·cases he
def isNilV (k : TK) (a : V) (h : Heap) : Option Bool :=
 match k, a with
 | .slice _, .nil => some true
 | .slice _, .emp _ => some false
 | .slice _, .sl _ (_ :: _) => some false
 | .slice _, .so n g _ _ (_ + 1) => if live h n g = true then some false else none
 | .ptr _, .nilp => some true
 | .ptr _, .pr _ => some false
 | .ptr _, .ep n g _ _ _ => if live h n g = true then some false else none
 | _, _ => none
def nilOf (k : TK) (b : V) : Bool :=
 match k, b with
 | .slice _, .nil => true
 | .ptr _, .nilp => true
 | _, _ => false
def effNilEq (P : Program) (op : BinOp) (t : Nat) (a b : V) (h : Heap) : Option V :=
 match tab P t with
 | none => none
 | some i =>
  if nilOf i.kind b = true then
   match isNilV i.kind a h with
   | none => none
   | some r => match op with
    | .eql => some (.bool r)
    | .neq => some (.bool !r)
    | _ => none
  else none
theorem kind_ptr {d : TypeDesc} {e : Nat} (h : kindOf d = .ptr e) : ∃ e', d = .pointer e' := by
 cases d <;> simp [kindOf] at h;exact ⟨_, rfl⟩
theorem rep_nilp' {w st m} (h : Rep w st .nilp m) : m = .pointer none := by
 cases h with
 | s h => cases h; rfl
 | stale ht => simp [V.tok] at ht
theorem rep_pr' {w st cs m} (h : Rep w st (.pr cs) m) : ∃ ad, m = .pointer (some ad) := by
 cases h with
 | s h => cases h; exact ⟨_, rfl⟩
 | stale ht => simp [V.tok] at ht
theorem nilEq_good {P ρ o w st h op t t' x y a b v} (ho : o.op = .binOp op t x y t') (hx : Rep w st a (ρ x)) (hy : Rep w st b (ρ y)) (hh : HeapOk w st h) (he : effNilEq P op t a b h = some v) : Good P ρ o w st h v [] := by
 unfold effNilEq at he;split at he
 ·cases he
 ·rename_i i hi;obtain ⟨info, dsc, z, hT⟩ := tab_ok hi;split at he
  ·rename_i hb;split at he
   ·cases he
   ·rename_i r hr;have key : ∃ u m, ρ x = u /\ ρ y = m /\ (∀ op, (eqGuard op t x y u m).run P w = .ok () w) /\ (Op.equalIn 10000 t u m).run P w = .ok r w /\ (binOp .eql t u m = do pure (.bool (<- Op.equal t u m))) /\ (binOp .neq t u m = do pure (.bool (!(<- Op.equal t u m)))) := by
     unfold nilOf at hb;split at hb
     ·rename_i e hk;have hd := kind_slice (hT.kind.symm.trans hk);subst hd;have em := rep_nil hy;have slice : ∀ ad len cap, ρ x = .slice ad len cap -> r = ad.isNone -> ∃ u m, ρ x = u /\ ρ y = m /\ (∀ op, (eqGuard op t x y u m).run P w = .ok () w) /\ (Op.equalIn 10000 t u m).run P w = .ok r w /\ (binOp .eql t u m = do pure (.bool (<- Op.equal t u m))) /\ (binOp .neq t u m = do pure (.bool (!(<- Op.equal t u m)))) := by
       intro ad len cap hm hr;subst hr;refine ⟨_, _, hm, em, fun op => by cases op <;> rfl, ?_, rfl, rfl⟩;rw [show (10000 : Nat) = 9999 + 1 from rfl, Op.equalIn];cases ad <;> simp only [Sem.run_bind, hT.run_und, Result.andThen_ok, Sem.run_pure, Option.isNone]
      rw [hk] at hr;unfold isNilV at hr;split at hr
      ·cases hr; exact slice _ _ _ (rep_nil hx) rfl
      ·cases hr; obtain ⟨a, cap, hm⟩ := rep_emp hx; exact slice _ _ _ hm rfl
      ·cases hr;rcases (rep_sl hx).2 with ⟨_, hm⟩ | ⟨_, _, _, hm⟩ | ⟨b, off, cap, cells, ty, fr, hm, _⟩
       ·cases hm
       ·cases hm
       ·exact slice _ _ _ hm rfl
      ·split at hr
       ·rename_i hl;cases hr;rcases live_so hh hl hx with ⟨_, _, _, hm⟩ | ⟨b, oo, ad, cap, cells, ty, hm, _⟩
        ·cases hm
        ·exact slice _ _ _ hm rfl
       ·cases hr
      ·rename_i he1; cases he1
      ·rename_i he1; cases he1
      ·rename_i he1; cases he1
      ·cases hr
     ·rename_i e hk;obtain ⟨e', hd⟩ := kind_ptr (hT.kind.symm.trans hk);subst hd;have em : ρ y = .pointer none := rep_nilp' hy;have ptr : ∀ ad, ρ x = .pointer ad -> r = ad.isNone -> ∃ u m, ρ x = u /\ ρ y = m /\ (∀ op, (eqGuard op t x y u m).run P w = .ok () w) /\ (Op.equalIn 10000 t u m).run P w = .ok r w /\ (binOp .eql t u m = do pure (.bool (<- Op.equal t u m))) /\ (binOp .neq t u m = do pure (.bool (!(<- Op.equal t u m)))) := by
       intro ad hm hr;subst hr;refine ⟨_, _, hm, em, fun op => by cases op <;> rfl, ?_, rfl, rfl⟩;rw [show (10000 : Nat) = 9999 + 1 from rfl, Op.equalIn];cases ad <;> simp only [Sem.run_bind, hT.run_und, Result.andThen_ok, Sem.run_pure, Option.isNone]
      rw [hk] at hr;unfold isNilV at hr;split at hr
      ·rename_i he1; cases he1
      ·rename_i he1; cases he1
      ·rename_i he1; cases he1
      ·rename_i he1; cases he1
      ·cases hr;exact ptr none (rep_nilp' hx) rfl
      ·cases hr;obtain ⟨ad, hm⟩ := rep_pr' hx;exact ptr _ hm rfl
      ·split at hr
       ·rename_i hl;cases hr;obtain ⟨b, o, hm, _⟩ := live_ep hh hl hx;exact ptr _ hm rfl
       ·cases hr
      ·cases hr
     ·cases hb
    obtain ⟨u, m, hu, hm, hg, hq, hb1, hb2⟩ := key;have run : ∀ q, (binOp op t u m).run P w = .ok q w -> (execOp ρ o).run P w = .ok (.value q) w := by
     intro q hq1;unfold execOp;simp only [ho, hu, hm, Sem.run_bind, hg, Result.andThen_ok, hq1, Sem.run_pure]
    split at he
    ·cases he;refine good_bool hh (run _ ?_);rw [hb1];simp only [Op.equal, Op.maxDepth, Sem.run_bind, hq, Result.andThen_ok, Sem.run_pure]
    ·cases he;refine good_bool hh (run _ ?_);rw [hb2];simp only [Op.equal, Op.maxDepth, Sem.run_bind, hq, Result.andThen_ok, Sem.run_pure]
    ·cases he
  ·cases he
def effBin2 (P : Program) (op : BinOp) (t : Nat) (a b : V) (h : Heap) : Option V :=
 match effBin op a b with
 | some v => some v
 | none => match effShift op a b with
  | some v => some v
  | none => match effEq P op t a b with
   | some v => some v
   | none => effNilEq P op t a b h
theorem bin2_good {P ρ o w st h op t t' x y a b v} (ho : o.op = .binOp op t x y t') (hx : Rep w st a (ρ x)) (hy : Rep w st b (ρ y)) (hh : HeapOk w st h) (he : effBin2 P op t a b h = some v) : Good P ρ o w st h v [] := by
 unfold effBin2 at he;split at he
 ·rename_i hb; cases he; exact binOp_good ho hx hy hh hb
 ·split at he
  ·rename_i hb; cases he; exact shift_good ho hx hy hh hb
  ·split at he
   ·rename_i hb; cases he; exact eq_good ho hx hy hh hb
   ·exact nilEq_good ho hx hy hh he
def effMax (a b : V) : Option V :=
 match a, b with
 | .int k x, .int k' y => if k = k' then some (.int k (if y > x then y else x)) else none
 | _, _ => none
def effMin (a b : V) : Option V :=
 match a, b with
 | .int k x, .int k' y => if k = k' then some (.int k (if y < x then y else x)) else none
 | _, _ => none
theorem max_good {P ρ o w st h x y ts a b v} (ho : o.op = .call { callee := .builtin .max, args := #[x, y], argTypes := ts }) (hx : Rep w st a (ρ x)) (hy : Rep w st b (ρ y)) (hh : HeapOk w st h) (he : effMax a b = some v) : Good P ρ o w st h v [] := by
 unfold effMax at he;split at he
 ·split at he
  ·rename_i hk;cases he;refine good_int hh ?_;unfold execOp;simp [ho, rep_int hx, rep_int hy, resolve, invoke, builtin, Builtin.max_, Builtin.max2]
  ·cases he
 ·cases he
theorem min_good {P ρ o w st h x y ts a b v} (ho : o.op = .call { callee := .builtin .min, args := #[x, y], argTypes := ts }) (hx : Rep w st a (ρ x)) (hy : Rep w st b (ρ y)) (hh : HeapOk w st h) (he : effMin a b = some v) : Good P ρ o w st h v [] := by
 unfold effMin at he;split at he
 ·split at he
  ·rename_i hk;cases he;refine good_int hh ?_;unfold execOp;simp [ho, rep_int hx, rep_int hy, resolve, invoke, builtin, Builtin.min_, Builtin.min2]
  ·cases he
 ·cases he
end Go.PG
