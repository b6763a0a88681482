import Derived.Test.YtgpioploehgpdaaGreatKPartd
import Derived.Maps.RangeRun
import Derived.Test.YtgpioploehgpdaaGreatRows
import Derived.JoinedCond
set_option linter.unusedSimpArgs false
set_option linter.unusedVariables false
set_option linter.unnecessarySimpa false
set_option linter.unusedSectionVars false

set_option linter.unusedSimpArgs false
set_option linter.unusedVariables false
set_option linter.unusedSectionVars false
namespace Go.PG.PH
mutual
def Sh.ren (ρ : Nat -> Nat) : Sh -> Sh
 | .dt t => .dt t
 | .wn n sz => .wn (ρ n) sz
 | .pt n sz off => .pt (ρ n) sz off
 | .nl => .nl
 | .ag cs => .ag (Sh.renL ρ cs)
 | .fn f cs => .fn f (Sh.renL ρ cs)
 | .np => .np
 | .nf => .nf
 | .ws n sz => .ws (ρ n) sz
 | .mp n => .mp (ρ n)
def Sh.renL (ρ : Nat -> Nat) : List Sh -> List Sh
 | [] => []
 | c :: cs => c.ren ρ :: Sh.renL ρ cs
end
def OSh.ren (ρ : Nat -> Nat) : OSh -> OSh
 | .ls t => .ls t
 | .el p sz cs => .el p sz (Sh.renL ρ cs)
 | .mp k v => .mp k v
 | .nm k v => .nm k v
 | .nl u => .nl u
def OSh.flat : OSh -> Bool
 | .nm _ _ => false
 | .nl _ => false
 | _ => true
def flatOs : List (Nat × OSh) -> Bool
 | [] => true
 | x :: r => match x.2.flat with
  | true => flatOs r
  | false => false
def renO (ρ : Nat -> Nat) : List (Nat × OSh) -> List (Nat × OSh)
 | [] => []
 | x :: r => (ρ x.1, x.2.ren ρ) :: renO ρ r
theorem renO_map (ρ : Nat -> Nat) (l : List (Nat × OSh)) : renO ρ l = l.map fun x => (ρ x.1, x.2.ren ρ) := by
 induction l with
 | nil => rfl
 | cons a l ih => simp [renO, ih]
mutual
theorem plain_ren (ρ : Nat -> Nat) : ∀ s : Sh, (s.ren ρ).plain = s.plain
 | .dt _ => rfl
 | .wn _ _ => rfl
 | .pt _ _ _ => rfl
 | .nl => rfl
 | .ag cs => plainL_ren ρ cs
 | .fn _ cs => plainL_ren ρ cs
 | .np => rfl
 | .nf => rfl
 | .ws _ _ => rfl
 | .mp _ => rfl
theorem plainL_ren (ρ : Nat -> Nat) : ∀ cs : List Sh, Sh.plainL (Sh.renL ρ cs) = Sh.plainL cs
 | [] => rfl
 | c :: cs => by simp only [Sh.renL, Sh.plainL, plain_ren ρ c, plainL_ren ρ cs]
end
section
variable {ρ G G0 H H0 γ γ0 : Nat -> Nat} (hγ : ∀ n, γ (ρ n) + G (ρ n) = γ0 n + G0 n) (hH : ∀ n, H (ρ n) = H0 n)
mutual
theorem sh_ren (hγ : ∀ n, γ (ρ n) + G (ρ n) = γ0 n + G0 n) (hH : ∀ n, H (ρ n) = H0 n) : ∀ (s : Sh) (l : List Dv), ((s.ren ρ).un G l).2 = (s.un G0 l).2 /\ ((s.ren ρ).un G l).1.v H γ = ((s.un G0 l).1.v H0 γ0).ren ρ
 | .dt t, l => ⟨rfl, (idfree_ren (enc_free t _)).symm⟩
 | .wn n sz, l => ⟨rfl, by simp only [Sh.ren, Sh.un, TV.v, V.ren, hγ, hH]⟩
 | .pt n sz off, l => ⟨rfl, by simp only [Sh.ren, Sh.un, TV.v, V.ren, hγ]⟩
 | .nl, l => ⟨rfl, rfl⟩
 | .ag cs, l => by
  obtain ⟨h1, h2⟩ := shL_ren hγ hH cs l;simp only [Sh.ren, Sh.un, TV.v, V.ren];exact ⟨h1, by rw [h2]⟩
 | .fn f cs, l => by
  obtain ⟨h1, h2⟩ := shL_ren hγ hH cs l;simp only [Sh.ren, Sh.un, TV.v, V.ren];exact ⟨h1, by rw [h2]⟩
 | .np, l => ⟨rfl, rfl⟩
 | .nf, l => ⟨rfl, rfl⟩
 | .ws n sz, l => ⟨rfl, by simp only [Sh.ren, Sh.un, TV.v, V.ren, hγ]⟩
 | .mp n, l => ⟨rfl, by simp only [Sh.ren, Sh.un, TV.v, V.ren, hγ]⟩
theorem shL_ren (hγ : ∀ n, γ (ρ n) + G (ρ n) = γ0 n + G0 n) (hH : ∀ n, H (ρ n) = H0 n) : ∀ (cs : List Sh) (l : List Dv), (Sh.unL G (Sh.renL ρ cs) l).2 = (Sh.unL G0 cs l).2 /\ TV.vL H γ (Sh.unL G (Sh.renL ρ cs) l).1 = V.renL ρ (TV.vL H0 γ0 (Sh.unL G0 cs l).1)
 | [], l => ⟨rfl, rfl⟩
 | c :: cs, l => by
  obtain ⟨h1, h2⟩ := sh_ren hγ hH c l;obtain ⟨h3, h4⟩ := shL_ren hγ hH cs (c.un G0 l).2;simp only [Sh.renL, Sh.unL, TV.vL, V.renL];rw [h1, h2];exact ⟨h3, by rw [h4]⟩
end
theorem osh_ren (hγ : ∀ n, γ (ρ n) + G (ρ n) = γ0 n + G0 n) (hH : ∀ n, H (ρ n) = H0 n) (n : Nat) : ∀ (s : OSh) (l : List Dv), ((s.ren ρ).un G (ρ n) l).2 = (s.un G0 n l).2 /\ (s.flat = true -> ((s.ren ρ).un G (ρ n) l).1.ob H γ (ρ n) = ((s.un G0 n l).1.ob H0 γ0 n).ren ρ)
 | .nm _ _, l => ⟨rfl, fun h => nomatch h⟩
 | .nl _, l => ⟨rfl, fun h => nomatch h⟩
 | .ls t, l => ⟨rfl, fun _ => by simp only [OSh.ren, OSh.un, TOb.ob, Ob.ren, hγ]⟩
 | .mp k v, l => ⟨rfl, fun _ => by
  have e : ∀ (t : Ty) {A : Type} (f : A -> t.D) (l : List A), V.renL ρ (l.map fun x => t.enc (f x)) = l.map fun x => t.enc (f x) := by
   intro t A f l;rw [V.renL_map]
   conv => rhs; rw [<- List.map_id (l.map fun x => t.enc (f x))]
   exact List.map_congr_left fun c hc => by obtain ⟨z, _, rfl⟩ := List.mem_map.1 hc; exact idfree_ren (enc_free t _)
  simp only [OSh.ren, OSh.un, TOb.ob, Ob.ren, hγ, e]⟩
 | .el p sz cs, l => by
  obtain ⟨h1, h2⟩ := shL_ren hγ hH cs l;simp only [OSh.ren, OSh.un, TOb.ob, hγ, h2, plainL_ren];refine ⟨h1, fun _ => ?_⟩;cases hp : andB p (Sh.plainL cs) with
  | false => rfl
  | true =>
   simp only [Ob.ren];congr 1;have hf := plain_unL G0 cs l (by rw [andB_eq, Bool.and_eq_true] at hp; exact hp.2);rw [<- freeL_v H0 γ0, V.idfreeL_iff] at hf;rw [V.renL_map]
   conv => rhs; rw [<- List.map_id (TV.vL H0 γ0 (Sh.unL G0 cs l).1)]
   exact List.map_congr_left fun c hc => idfree_ren (hf c hc)
theorem unO_ren (hγ : ∀ n, γ (ρ n) + G (ρ n) = γ0 n + G0 n) (hH : ∀ n, H (ρ n) = H0 n) {c c0 : Nat} : ∀ (js : List (Nat × OSh)) (l : List Dv), flatOs js = true ->
  ((unO G c (renO ρ js) l).map fun x => (x.1, x.2.2.ob H γ x.1)) = Heap.ren ρ ((unO G0 c0 js l).map fun x => (x.1, x.2.2.ob H0 γ0 x.1))
 | [], l, _ => rfl
 | x :: r, l, hf => by
  obtain ⟨h1, h2⟩ := osh_ren hγ hH x.1 x.2 l;simp only [flatOs] at hf;split at hf
  ·rename_i hx;simp only [renO, unO, List.map_cons, Heap.ren];rw [h1, h2 hx, unO_ren hγ hH r _ hf]
  ·cases hf
end
mutual
def Sh.inI (ids : List Nat) : Sh -> Bool
 | .dt _ => true
 | .wn n _ => mem n ids
 | .pt n _ _ => mem n ids
 | .nl => true
 | .ag cs => Sh.inIL ids cs
 | .fn _ cs => Sh.inIL ids cs
 | .np => true
 | .nf => true
 | .ws n _ => mem n ids
 | .mp n => mem n ids
def Sh.inIL (ids : List Nat) : List Sh -> Bool
 | [] => true
 | c :: cs => match c.inI ids with
  | true => Sh.inIL ids cs
  | false => false
end
def OSh.inI (ids : List Nat) : OSh -> Bool
 | .ls _ => true
 | .el _ _ cs => Sh.inIL ids cs
 | .mp _ _ => true
 | .nm _ _ => false
 | .nl _ => false
def inIO (ids : List Nat) : List (Nat × OSh) -> Bool
 | [] => true
 | x :: r => match x.2.inI ids with
  | true => inIO ids r
  | false => false
theorem inIO_flat {ids : List Nat} : ∀ {js : List (Nat × OSh)}, inIO ids js = true -> flatOs js = true
 | [], _ => rfl
 | (n, x) :: r, h => by
  simp only [inIO] at h;split at h
  ·rename_i hx;have : x.flat = true := by cases x <;> first | rfl | cases hx
   simp only [flatOs, this];exact inIO_flat h
  ·cases h
section
variable {ids : List Nat} {G H γ : Nat -> Nat} {h : Heap} (hi : ∀ n ∈ ids, (hget h n).isSome = true)
mutual
theorem inI_within (hi : ∀ n ∈ ids, (hget h n).isSome = true) : ∀ (s : Sh) (l : List Dv), s.inI ids = true -> ((s.un G l).1.v H γ).within h = true
 | .dt t, l, _ => idfree_within (enc_free t _)
 | .wn n sz, l, hs => hi n (mem_iff.1 hs)
 | .pt n sz off, l, hs => hi n (mem_iff.1 hs)
 | .nl, l, _ => rfl
 | .ag cs, l, hs => inIL_within hi cs l hs
 | .fn _ cs, l, hs => inIL_within hi cs l hs
 | .np, l, _ => rfl
 | .nf, l, _ => rfl
 | .ws n sz, l, hs => hi n (mem_iff.1 hs)
 | .mp n, l, hs => hi n (mem_iff.1 hs)
theorem inIL_within (hi : ∀ n ∈ ids, (hget h n).isSome = true) : ∀ (cs : List Sh) (l : List Dv), Sh.inIL ids cs = true -> V.withinL h (TV.vL H γ (Sh.unL G cs l).1) = true
 | [], l, _ => rfl
 | c :: cs, l, hs => by
  simp only [Sh.inIL] at hs;split at hs
  ·rename_i h1;have a1 := inI_within hi c l h1;have a2 := inIL_within hi cs (c.un G l).2 hs;simp only [Sh.unL, TV.vL, V.withinL, a1, a2, Bool.and_self]
  ·cases hs
end
end
theorem idfree_okg {E : List Nat} {h : Heap} {c : V} (hi : c.idfree = true) : c.okg E h := by
 have key : ∀ (n : Nat) (c : V), SizeOf.sizeOf c < n -> c.idfree = true -> c.okg E h := by
  intro n;induction n with
  | zero => intro c hc; omega
  | succ n ih =>
   intro c hc hi;have kids : ∀ cs : List V, SizeOf.sizeOf cs <= n -> (∀ c ∈ cs, c.idfree = true) -> ∀ c ∈ cs, c.okg E h := fun cs hs hcs c hmem => ih c (by have := List.sizeOf_lt_of_mem hmem; omega) (hcs c hmem)
   cases c <;> simp only [V.idfree, V.okg, V.idfreeL_iff, V.okgL_iff] at hi ⊢ <;> first
    | trivial
    | (refine kids _ ?_ hi; simp at hc; omega)
    | (simp at hi; done)
 exact key _ c (Nat.lt_succ_self _) hi
theorem idfree_sg {E : List Nat} {γ : Nat -> Nat} {c : V} (hi : c.idfree = true) : c.sg E γ = c := by
 have key : ∀ (n : Nat) (c : V), SizeOf.sizeOf c < n -> c.idfree = true -> c.sg E γ = c := by
  intro n;induction n with
  | zero => intro c hc; omega
  | succ n ih =>
   intro c hc hi;have kids : ∀ cs : List V, SizeOf.sizeOf cs <= n -> (∀ c ∈ cs, c.idfree = true) -> V.sgL E γ cs = cs := by
    intro cs hs hcs;rw [V.sgL_map]
    calc cs.map (V.sg E γ) = cs.map id := List.map_congr_left fun c hmem => ih c (by have := List.sizeOf_lt_of_mem hmem; omega) (hcs c hmem)
     _ = cs := List.map_id cs
   cases c <;> simp only [V.idfree, V.sg, V.idfreeL_iff] at hi ⊢ <;> first
    | (congr 1; refine kids _ ?_ hi; simp at hc; omega)
    | (simp at hi; done)
 exact key _ c (Nat.lt_succ_self _) hi
section
variable {ids ne : List Nat} {G H γ : Nat -> Nat} {h : Heap} (hi : ∀ n ∈ ids, n ∈ ne -> (hget h n).map Ob.gen = some (γ n + G n))
mutual
theorem inI_okg (hi : ∀ n ∈ ids, n ∈ ne -> (hget h n).map Ob.gen = some (γ n + G n)) : ∀ (s : Sh) (l : List Dv), s.inI ids = true -> ((s.un G l).1.v H γ).okg ne h
 | .dt t, l, _ => idfree_okg (enc_free t _)
 | .wn n sz, l, hs => hi n (mem_iff.1 hs)
 | .pt n sz off, l, hs => hi n (mem_iff.1 hs)
 | .nl, l, _ => trivial
 | .ag cs, l, hs => inIL_okg hi cs l hs
 | .fn _ cs, l, hs => inIL_okg hi cs l hs
 | .np, l, _ => trivial
 | .nf, l, _ => trivial
 | .ws n sz, l, hs => hi n (mem_iff.1 hs)
 | .mp n, l, hs => hi n (mem_iff.1 hs)
theorem inIL_okg (hi : ∀ n ∈ ids, n ∈ ne -> (hget h n).map Ob.gen = some (γ n + G n)) : ∀ (cs : List Sh) (l : List Dv), Sh.inIL ids cs = true -> V.okgL ne h (TV.vL H γ (Sh.unL G cs l).1)
 | [], l, _ => trivial
 | c :: cs, l, hs => by
  simp only [Sh.inIL] at hs;split at hs
  ·rename_i h1;exact ⟨inI_okg hi c l h1, inIL_okg hi cs (c.un G l).2 hs⟩
  ·cases hs
end
end
section
variable {ne : List Nat} {G G2 H γ γ' γ2 : Nat -> Nat} (hs : ∀ n, (if n ∈ ne then γ' n else γ n + G n) = γ2 n + G2 n)
mutual
theorem sh_sg (hs : ∀ n, (if n ∈ ne then γ' n else γ n + G n) = γ2 n + G2 n) : ∀ (s : Sh) (l : List Dv), (s.un G2 l).2 = (s.un G l).2 /\ (s.un G2 l).1.v H γ2 = ((s.un G l).1.v H γ).sg ne γ'
 | .dt t, l => ⟨rfl, (idfree_sg (enc_free t _)).symm⟩
 | .wn n sz, l => ⟨rfl, by simp only [Sh.un, TV.v, V.sg, hs]⟩
 | .pt n sz off, l => ⟨rfl, by simp only [Sh.un, TV.v, V.sg, hs]⟩
 | .nl, l => ⟨rfl, rfl⟩
 | .ag cs, l => by
  obtain ⟨h1, h2⟩ := shL_sg hs cs l;simp only [Sh.un, TV.v, V.sg];exact ⟨h1, by rw [h2]⟩
 | .fn f cs, l => by
  obtain ⟨h1, h2⟩ := shL_sg hs cs l;simp only [Sh.un, TV.v, V.sg];exact ⟨h1, by rw [h2]⟩
 | .np, l => ⟨rfl, rfl⟩
 | .nf, l => ⟨rfl, rfl⟩
 | .ws n sz, l => ⟨rfl, by simp only [Sh.un, TV.v, V.sg, hs]⟩
 | .mp n, l => ⟨rfl, by simp only [Sh.un, TV.v, V.sg, hs]⟩
theorem shL_sg (hs : ∀ n, (if n ∈ ne then γ' n else γ n + G n) = γ2 n + G2 n) : ∀ (cs : List Sh) (l : List Dv), (Sh.unL G2 cs l).2 = (Sh.unL G cs l).2 /\ TV.vL H γ2 (Sh.unL G2 cs l).1 = V.sgL ne γ' (TV.vL H γ (Sh.unL G cs l).1)
 | [], l => ⟨rfl, rfl⟩
 | c :: cs, l => by
  obtain ⟨h1, h2⟩ := sh_sg hs c l;obtain ⟨h3, h4⟩ := shL_sg hs cs (c.un G l).2;simp only [Sh.unL, TV.vL, V.sgL];rw [h1, h2];exact ⟨h3, by rw [h4]⟩
end
theorem ncells_sg (E : List Nat) (γ : Nat -> Nat) (n : Nat) (u : Ty) (l : List u.D) : V.sgL E γ (ncells n u l) = ncells n u l := by
 rw [V.sgL_map]
 conv => rhs; rw [<- List.map_id (ncells n u l)]
 refine List.map_congr_left fun c hc => ?_
 obtain ⟨j, x, _, rfl⟩ := ncells_mem hc;cases u <;> first | rfl | exact idfree_sg (enc_free _ _)
theorem osh_sg (hs : ∀ n, (if n ∈ ne then γ' n else γ n + G n) = γ2 n + G2 n) (n : Nat) : ∀ (s : OSh) (l : List Dv), (s.un G2 n l).2 = (s.un G n l).2 /\ (s.un G2 n l).1.ob H γ2 n = ((s.un G n l).1.ob H γ n).sg ne γ' n
 | .ls t, l => ⟨rfl, by simp only [OSh.un, TOb.ob, Ob.sg, hs]⟩
 | .nm k u, l => ⟨rfl, by
  have e : ∀ (t : Ty) {A : Type} (f : A -> t.D) (l : List A), V.sgL ne γ' (l.map fun x => t.enc (f x)) = l.map fun x => t.enc (f x) := by
   intro t A f l;rw [V.sgL_map]
   conv => rhs; rw [<- List.map_id (l.map fun x => t.enc (f x))]
   exact List.map_congr_left fun c hc => by obtain ⟨z, _, rfl⟩ := List.mem_map.1 hc; exact idfree_sg (enc_free t _)
  simp only [OSh.un, TOb.ob, nmOb, Ob.sg, hs, e, ncells_sg]⟩
 | .nl u, l => ⟨rfl, by simp only [OSh.un, TOb.ob, nlOb, Ob.sg, hs, ncells_sg]⟩
 | .mp k v, l => ⟨rfl, by
  have e : ∀ (t : Ty) {A : Type} (f : A -> t.D) (l : List A), V.sgL ne γ' (l.map fun x => t.enc (f x)) = l.map fun x => t.enc (f x) := by
   intro t A f l;rw [V.sgL_map]
   conv => rhs; rw [<- List.map_id (l.map fun x => t.enc (f x))]
   exact List.map_congr_left fun c hc => by obtain ⟨z, _, rfl⟩ := List.mem_map.1 hc; exact idfree_sg (enc_free t _)
  simp only [OSh.un, TOb.ob, Ob.sg, hs, e]⟩
 | .el p sz cs, l => by
  obtain ⟨h1, h2⟩ := shL_sg (H := H) hs cs l;simp only [OSh.un, TOb.ob, h2];refine ⟨h1, ?_⟩;cases hp : andB p (Sh.plainL cs) with
  | false => simp only [Ob.sg, hs]
  | true =>
   simp only [Ob.sg, hs];congr 1;have hf := plain_unL G cs l (by rw [andB_eq, Bool.and_eq_true] at hp; exact hp.2);rw [<- freeL_v H γ, V.idfreeL_iff] at hf;rw [V.sgL_map]
   conv => rhs; rw [<- List.map_id (TV.vL H γ (Sh.unL G cs l).1)]
   exact List.map_congr_left fun c hc => idfree_sg (hf c hc)
theorem unO_sg (hs : ∀ n, (if n ∈ ne then γ' n else γ n + G n) = γ2 n + G2 n) {c c0 : Nat} : ∀ (js : List (Nat × OSh)) (l : List Dv),
  ((unO G2 c js l).map fun x => (x.1, x.2.2.ob H γ2 x.1)) = Heap.sg ne γ' ((unO G c0 js l).map fun x => (x.1, x.2.2.ob H γ x.1))
 | [], l => rfl
 | x :: r, l => by
  obtain ⟨h1, h2⟩ := osh_sg hs x.1 x.2 l;simp only [unO, List.map_cons, Heap.sg];rw [h1, h2, unO_sg hs r]
end
def G1 (ne : List Nat) (n : Nat) : Nat := match mem n ne with
 | true => 1
 | false => 0
def idsO (l : List (Nat × OSh)) : List Nat := l.map (·.1)
def nodup : List Nat -> Bool
 | [] => true
 | n :: r => match mem n r with
  | true => false
  | false => nodup r
def subI (l m : List Nat) : Bool := match l with
 | [] => true
 | n :: r => match mem n m with
  | true => subI r m
  | false => false
def newI (l jh ne : List Nat) : Bool := match l with
 | [] => true
 | n :: r => match mem n jh, mem n ne with
  | false, false => false
  | _, _ => newI r jh ne
def owWf (js : List Sh) (jh : List (Nat × OSh)) (rs : List Sh) (rh : List (Nat × OSh)) (ne : List Nat) : Bool :=
 match nodup (idsO jh), nodup (idsO rh), subI (idsO jh) (idsO rh), Sh.inIL (idsO jh) js, inIO (idsO jh) jh, Sh.inIL (idsO rh) rs, inIO (idsO rh) rh, newI (idsO rh) (idsO jh) ne with
 | true, true, true, true, true, true, true, true => true
 | _, _, _, _, _, _, _, _ => false
theorem subI_ok {m : List Nat} : ∀ {l : List Nat}, subI l m = true -> ∀ n ∈ l, n ∈ m
 | [], _, n, h => by cases h
 | a :: r, h, n, hn => by
  simp only [subI] at h;split at h
  ·rename_i h1;rcases List.mem_cons.1 hn with rfl | hn
   ·exact mem_iff.1 h1
   ·exact subI_ok h n hn
  ·cases h
theorem owWf_ok {js jh rs rh ne} (h : owWf js jh rs rh ne = true) : nodup (idsO jh) = true /\ nodup (idsO rh) = true /\ (∀ n ∈ idsO jh, n ∈ idsO rh) /\ Sh.inIL (idsO jh) js = true /\ inIO (idsO jh) jh = true /\ Sh.inIL (idsO rh) rs = true /\ inIO (idsO rh) rh = true /\ newI (idsO rh) (idsO jh) ne = true := by
 unfold owWf at h;split at h
 ·rename_i h1 h2 h3 h4 h5 h6 h7 h8;exact ⟨h1, h2, subI_ok h3, h4, h5, h6, h7, h8⟩
 ·cases h
def oneV : List V -> V
 | [v] => v
 | vs => .tup vs
def oneTV : List TV -> TV
 | [v] => v
 | vs => .tup vs
theorem oneTV_v (H γ : Nat -> Nat) (l : List TV) : (oneTV l).v H γ = oneV (TV.vL H γ l) := by
 match l with
 | [] => rfl
 | [v] => rfl
 | _ :: _ :: _ => rfl
theorem oneV_ren (ρ : Nat -> Nat) (l : List V) : (oneV l).ren ρ = oneV (V.renL ρ l) := by
 match l with
 | [] => rfl
 | [v] => rfl
 | _ :: _ :: _ => rfl
theorem oneV_sg (E : List Nat) (γ : Nat -> Nat) (l : List V) : (oneV l).sg E γ = oneV (V.sgL E γ l) := by
 match l with
 | [] => rfl
 | [v] => rfl
 | _ :: _ :: _ => rfl
theorem oneV_okg (E : List Nat) (h : Heap) (l : List V) (hl : V.okgL E h l) : (oneV l).okg E h := by
 match l with
 | [] => trivial
 | [v] => exact hl.1
 | _ :: _ :: _ => exact hl
def obs (H γ : Nat -> Nat) (l : List (Nat × Nat × TOb)) : Heap := l.map fun x => (x.1, x.2.2.ob H γ x.1)
def inA (js : List Sh) (l : List Dv) : List TV × List Dv := Sh.unL z0 js l
def inO' (js : List Sh) (jh : List (Nat × OSh)) (l : List Dv) : List (Nat × Nat × TOb) := unO z0 0 jh (inA js l).2
def outA (rs : List Sh) (ne : List Nat) (l : List Dv) : List TV × List Dv := Sh.unL (G1 ne) rs l
def outO (rs : List Sh) (rh : List (Nat × OSh)) (ne : List Nat) (l : List Dv) : List (Nat × Nat × TOb) := unO (G1 ne) 0 rh (outA rs ne l).2
structure Ow (P : Program) where
 f : FuncId
 js : List Sh
 jh : List (Nat × OSh)
 rs : List Sh
 rh : List (Nat × OSh)
 ne : List Nat
 wf : owWf js jh rs rh ne = true
 F : Ds (Sh.tysL js ++ tysO jh) -> Option (Ds (Sh.tysL rs ++ tysO rh))
 ok : ∀ d r, F d = some r -> ∀ γ H H' : Nat -> Nat, (∀ n ∈ idsO jh, H n = olen (inO' js jh (dis _ d)) n) -> (∀ n ∈ idsO rh, H' n = olen (outO rs rh ne (dis _ r)) n) ->
  PCO P f (TV.vL H γ (inA js (dis _ d)).1) (obs H γ (inO' js jh (dis _ d))) (oneV (TV.vL H' γ (outA rs ne (dis _ r)).1)) (obs H' γ (outO rs rh ne (dis _ r))) ne
end Go.PG.PH
set_option linter.unusedSimpArgs false
set_option linter.unusedVariables false
set_option linter.unusedSectionVars false
namespace Go.PG.PH
def addI (s : List (Nat × Nat)) (n m : Nat) : List (Nat × Nat) := match Nat.beq (swL s n) m with
 | true => s
 | false => s ++ [(swL s n, m)]
mutual
def Sh.bindI : Sh -> TV -> List (Nat × Nat) × List Nat -> List (Nat × Nat) × List Nat
 | .wn n _, v, (s, b) => match v with
  | .sof m _ _ => (addI s n m, n :: b)
  | _ => (s, b)
 | .pt n _ _, v, (s, b) => match v with
  | .ep m _ _ _ _ => (addI s n m, n :: b)
  | _ => (s, b)
 | .ag cs, v, s => match v with
  | .agg vs => Sh.bindIL cs vs s
  | _ => s
 | .fn _ cs, v, s => match v with
  | .fn _ vs => Sh.bindIL cs vs s
  | _ => s
 | .ws n _, v, (s, b) => match v with
  | .so m _ _ _ _ => (addI s n m, n :: b)
  | .sof m _ _ => (addI s n m, n :: b)
  | _ => (s, b)
 | .mp n, v, (s, b) => match v with
  | .mo m _ => (addI s n m, n :: b)
  | _ => (s, b)
 | .dt _, _, s => s
 | .nl, _, s => s
 | .np, _, s => s
 | .nf, _, s => s
def Sh.bindIL : List Sh -> List TV -> List (Nat × Nat) × List Nat -> List (Nat × Nat) × List Nat
 | c :: cs, v :: vs, s => Sh.bindIL cs vs (c.bindI v s)
 | _, _, s => s
end
def bindO (E : TE) : List (Nat × OSh) -> List (Nat × Nat) × List Nat -> List (Nat × Nat) × List Nat
 | [], s => s
 | (n, .el _ _ cs) :: r, s => match oget E.h (swL s.1 n) with
  | some (.els _ _ _ l) => bindO E r (Sh.bindIL cs l s)
  | _ => bindO E r s
 | (_, .ls _) :: r, s => bindO E r s
 | (_, .mp _ _) :: r, s => bindO E r s
 | (_, .nm _ _) :: r, s => bindO E r s
 | (_, .nl _) :: r, s => bindO E r s
def freeI (E : TE) (used : List Nat) : Nat -> Nat -> Nat
 | 0, m => m
 | k + 1, m => match oget E.h m, mem m used with
  | none, false => m
  | _, _ => freeI E used k (m + 1)
def newIs (E : TE) (d : Nat) : List Nat -> List (Nat × Nat) × List Nat -> List (Nat × Nat)
 | [], s => s.1
 | n :: r, (s, b) => match mem n b with
  | true => newIs E d r (s, b)
  | false => match oget E.h d, mem d (b.map (swL s)) with
   | none, false => newIs E d r (addI s n d, n :: b)
   | _, _ => newIs E d r (addI s n (freeI E (b.map (swL s)) 100 500), n :: b)
def idsC (E : TE) (d : Nat) (js : List Sh) (jh rh : List (Nat × OSh)) (args : List TV) : List (Nat × Nat) :=
 newIs E d (idsO rh) (bindO E jh (Sh.bindIL js args ([], [])))
def ownJ (E : TE) (ρ : Nat -> Nat) (jh : List (Nat × OSh)) : J :=
 ⟨E.s.map (·.1), (E.h.map (·.1)).filter fun m => !mem m (idsO (renO ρ jh)), [], renO ρ jh⟩
def gen2 (E : TE) (ids : List Nat) (m : Nat) : Nat := match mem m ids with
 | true => tgen E.h m + 1
 | false => tgen E.h m
def toldAll : List Nat -> TE -> TE
 | [], E => E
 | m :: r, E => match mem m r with
  | true => toldAll r E
  | false => toldAll r (E.told m)
def setO : List (Nat × Nat × TOb) -> TE -> TE
 | [], E => E
 | x :: r, E => setO r (E.oput x.1 x.2.2)
def lenK {R : Type} (E : TE) (ids : List Nat) : List (Nat × Nat × TOb) -> Option R -> Option R
 | [], k => k
 | x :: r, k => match mem x.1 ids with
  | true => lenK E ids r k
  | false => (chk (x.2.2.len = olen E.h x.1)).bind fun _ => lenK E ids r k
def newOk (h : List (Nat × Nat × TOb)) (ρ : Nat -> Nat) (jh : List Nat) : List Nat -> Bool
 | [] => true
 | n :: r => match mem n jh, oget h (ρ n) with
  | false, some _ => false
  | _, _ => newOk h ρ jh r
def wnsL : List Sh -> List Nat
 | [] => []
 | .wn n _ :: r => n :: wnsL r
 | _ :: r => wnsL r
def Ow.tl {P : Program} (w : Ow P) : List Nat := w.ne ++ wnsL w.rs
def owKr {R : Type} {P : Program} (w : Ow P) (o : Oper) (E : TE) (args : List TV) (k : TE -> Option R) (ρ : Nat -> Nat) : Option R :=
 match (ownJ E ρ w.jh).pk E E with
 | none => none
 | some d1 => match ((ownJ E ρ w.jh).un E d1).closed, Sh.pkL ((ownJ E ρ w.jh).un E d1).h (Sh.renL ρ w.js) args, newOk ((ownJ E ρ w.jh).un E d1).h ρ (idsO w.jh) (idsO w.rh) with
  | true, some a, true => match asm (Sh.tysL w.js ++ tysO w.jh) (a ++ dis _ d1) with
   | none => none
   | some d => (w.F d).bind fun r =>
    lenK ((ownJ E ρ w.jh).un E d1) (w.tl.map ρ) (unO (gen2 E (w.ne.map ρ)) 0 (renO ρ w.rh) (Sh.unL (gen2 E (w.ne.map ρ)) (Sh.renL ρ w.rs) (dis _ r)).2)
     (k ((setO (unO (gen2 E (w.ne.map ρ)) 0 (renO ρ w.rh) (Sh.unL (gen2 E (w.ne.map ρ)) (Sh.renL ρ w.rs) (dis _ r)).2) (toldAll (w.tl.map ρ) ((ownJ E ρ w.jh).un E d1))).put o.dst
      (oneTV (Sh.unL (gen2 E (w.ne.map ρ)) (Sh.renL ρ w.rs) (dis _ r)).1)))
  | _, _, _ => none
def owK {R : Type} {P : Program} (w : Ow P) (o : Oper) (E : TE) (args : List TV) (k : TE -> Option R) : Option R :=
 owKr w o E args k (swL (idsC E (o.dst.getD 0) w.js w.jh w.rh args))
theorem mem_ren {ρ : Nat -> Nat} {n : Nat} {l : List Nat} (h : n ∈ l) : ρ n ∈ l.map ρ := List.mem_map.2 ⟨n, h, rfl⟩
mutual
theorem inI_ren {ρ : Nat -> Nat} {ids : List Nat} : ∀ s : Sh, s.inI ids = true -> (s.ren ρ).inI (ids.map ρ) = true
 | .dt _, _ => rfl
 | .wn n _, h => mem_iff.2 (mem_ren (mem_iff.1 h))
 | .pt n _ _, h => mem_iff.2 (mem_ren (mem_iff.1 h))
 | .nl, _ => rfl
 | .ag cs, h => inIL_ren cs h
 | .fn _ cs, h => inIL_ren cs h
 | .np, _ => rfl
 | .nf, _ => rfl
 | .ws n _, h => mem_iff.2 (mem_ren (mem_iff.1 h))
 | .mp n, h => mem_iff.2 (mem_ren (mem_iff.1 h))
theorem inIL_ren {ρ : Nat -> Nat} {ids : List Nat} : ∀ cs : List Sh, Sh.inIL ids cs = true -> Sh.inIL (ids.map ρ) (Sh.renL ρ cs) = true
 | [], _ => rfl
 | c :: cs, h => by
  simp only [Sh.inIL] at h;split at h
  ·rename_i h1;simp only [Sh.renL, Sh.inIL, inI_ren c h1, inIL_ren cs h]
  ·cases h
end
theorem inIO_ren {ρ : Nat -> Nat} {ids : List Nat} : ∀ js : List (Nat × OSh), inIO ids js = true -> inIO (ids.map ρ) (renO ρ js) = true
 | [], _ => rfl
 | (n, s) :: r, h => by
  simp only [inIO] at h;split at h
  ·rename_i h1;have h2 : (s.ren ρ).inI (ids.map ρ) = true := by
    cases s with
    | ls t => rfl
    | mp k v => rfl
    | nm => cases h1
    | nl => cases h1
    | el p sz cs => exact inIL_ren cs h1
   simp only [renO, inIO, h2, inIO_ren r h]
  ·cases h
theorem idsO_ren (ρ : Nat -> Nat) (js : List (Nat × OSh)) : idsO (renO ρ js) = (idsO js).map ρ := by
 rw [renO_map]; simp [idsO]
section
variable {ids : List Nat} {G : Nat -> Nat} {h : List (Nat × Nat × TOb)} (hi : ∀ n ∈ ids, (oget h n).isSome = true)
mutual
theorem inI_inH (hi : ∀ n ∈ ids, (oget h n).isSome = true) : ∀ (s : Sh) (l : List Dv), s.inI ids = true -> (s.un G l).1.inH h = true
 | .dt t, l, _ => rfl
 | .wn n sz, l, hs => hi n (mem_iff.1 hs)
 | .pt n sz off, l, hs => hi n (mem_iff.1 hs)
 | .nl, l, _ => rfl
 | .ag cs, l, hs => inIL_inH hi cs l hs
 | .fn _ cs, l, hs => inIL_inH hi cs l hs
 | .np, l, _ => rfl
 | .nf, l, _ => rfl
 | .ws n sz, l, hs => hi n (mem_iff.1 hs)
 | .mp n, l, hs => hi n (mem_iff.1 hs)
theorem inIL_inH (hi : ∀ n ∈ ids, (oget h n).isSome = true) : ∀ (cs : List Sh) (l : List Dv), Sh.inIL ids cs = true -> TV.inHL h (Sh.unL G cs l).1 = true
 | [], l, _ => rfl
 | c :: cs, l, hs => by
  simp only [Sh.inIL] at hs;split at hs
  ·rename_i h1;simp only [Sh.unL, TV.inHL, inI_inH hi c l h1, inIL_inH hi cs _ hs]
  ·cases hs
end
end
theorem oget_unO {G : Nat -> Nat} {c : Nat} {n : Nat} : ∀ (js : List (Nat × OSh)) (l : List Dv), (oget (unO G c js l) n ≠ none ↔ n ∈ idsO js)
 | [], l => by simp [unO, oget, idsO]
 | x :: r, l => by
  simp only [unO, oget, idsO, List.map_cons, List.mem_cons];cases e : Nat.beq n x.1 with
  | true => simp [beqs e]
  | false =>
   have := beq_false.1 e;simp only [this, false_or];exact oget_unO r _
theorem unO_within {ids : List Nat} {G H γ : Nat -> Nat} {h : Heap} {c : Nat} (hi : ∀ n ∈ ids, (hget h n).isSome = true) : ∀ (js : List (Nat × OSh)) (l : List Dv), inIO ids js = true -> ∀ m x, hget (obs H γ (unO G c js l)) m = some x ->
  (match x with
   | .arr _ p _ l => p = true \/ ∀ y ∈ l, y.within h = true
   | .map _ ks vs => (∀ y ∈ ks, y.within h = true) /\ ∀ y ∈ vs, y.within h = true)
 | [], l, _, m, x, hx => by simp [unO, obs, hget] at hx
 | (n, s) :: r, l, hs, m, x, hx => by
  simp only [inIO] at hs;split at hs
  ·rename_i h1;simp only [unO, obs, List.map_cons, hget] at hx;split at hx
   ·cases hx;cases s with
    | ls t => exact .inl rfl
    | nm => cases h1
    | nl => cases h1
    | mp k v =>
     exact ⟨fun y hy => by obtain ⟨z, _, rfl⟩ := List.mem_map.1 hy; exact idfree_within (enc_free k _), fun y hy => by obtain ⟨z, _, rfl⟩ := List.mem_map.1 hy; exact idfree_within (enc_free v _)⟩
    | el p sz cs =>
     right;have := inIL_within (G := G) (H := H) (γ := γ) hi cs l h1;rw [V.withinL_iff] at this;exact this
   ·exact unO_within hi r _ hs m x hx
  ·cases hs
theorem okgH_unO {ids ne : List Nat} {G H γ : Nat -> Nat} {h : Heap} {c : Nat} (hi : ∀ n ∈ ids, n ∈ ne -> (hget h n).map Ob.gen = some (γ n + G n)) : ∀ (js : List (Nat × OSh)) (l : List Dv), inIO ids js = true -> okgH ne h (obs H γ (unO G c js l))
 | [], l, _ => trivial
 | (n, s) :: r, l, hs => by
  simp only [inIO] at hs;split at hs
  ·rename_i h1;simp only [unO, obs, List.map_cons, okgH];refine ⟨?_, okgH_unO hi r _ hs⟩;cases s with
   | ls t =>
    exact .inl rfl
   | nm => cases h1
   | nl => cases h1
   | mp k v =>
    have e : ∀ (t : Ty) {A : Type} (f : A -> t.D) (l : List A), V.okgL ne h (l.map fun x => t.enc (f x)) := by
     intro t A f l;rw [V.okgL_iff];intro c hc;obtain ⟨z, _, rfl⟩ := List.mem_map.1 hc; exact idfree_okg (enc_free t _)
    exact ⟨e k _ _, e v _ _⟩
   | el p sz cs => exact .inr (inIL_okg hi cs l h1)
  ·cases hs
theorem hget_unO {G H γ : Nat -> Nat} {c n : Nat} {js : List (Nat × OSh)} {l : List Dv} : hget (obs H γ (unO G c js l)) n = (oget (unO G c js l) n).map fun x => x.ob H γ n := hget_obs _ _ _ _
theorem unO_gen' {G : Nat -> Nat} {c : Nat} : ∀ (jh : List (Nat × OSh)) (l : List Dv) (n : Nat) (x : TOb), oget (unO G c jh l) n = some x -> x.gen = G n
 | [], l, n, x, h => by simp [unO, oget] at h
 | y :: r, l, n, x, h => by
  simp only [unO, oget] at h;split at h
  ·rename_i e;have := beqs e; subst this;cases h;obtain ⟨m, s⟩ := y;cases s <;> rfl
  ·exact unO_gen' r _ n x h
theorem unL_len' (G : Nat -> Nat) : ∀ (rs : List Sh) (l : List Dv), (Sh.unL G rs l).1.length = rs.length
 | [], l => rfl
 | r :: rs, l => by simp only [Sh.unL, List.length_cons, unL_len' G rs]
theorem renL_len (ρ : Nat -> Nat) : ∀ rs : List Sh, (Sh.renL ρ rs).length = rs.length
 | [] => rfl
 | r :: rs => by simp only [Sh.renL, List.length_cons, renL_len ρ rs]
theorem unO_ren_len {ρ σ : Nat -> Nat} (hσ : ∀ n, σ (ρ n) = n) {G G' : Nat -> Nat} {c c' n : Nat} : ∀ (js : List (Nat × OSh)) (l : List Dv), olen (unO G c (renO ρ js) l) (ρ n) = olen (unO G' c' js l) n
 | [], l => rfl
 | x :: r, l => by
  have h1 := (osh_ren (ρ := ρ) (G := G) (G0 := G') (H := z0) (H0 := z0) (γ := fun m => G' (σ m)) (γ0 := fun m => G (ρ m)) (fun m => by simp only [hσ]; exact Nat.add_comm _ _) (fun _ => rfl) x.1 x.2 l).1;have h2 := unO_ren_len hσ (G := G) (G' := G') (c := c) (c' := c') (n := n) r (x.2.un G' x.1 l).2;have h3 : ((x.2.ren ρ).un G (ρ x.1) l).1.len = (x.2.un G' x.1 l).1.len := by
   obtain ⟨m, s⟩ := x;cases s with
   | ls t => rfl
   | mp k v => rfl
   | nm k v => rfl
   | nl u => rfl
   | el p sz cs => simp only [OSh.ren, OSh.un, TOb.len, unL_len', renL_len]
  have hb : Nat.beq (ρ n) (ρ x.1) = Nat.beq n x.1 := by
   cases e : Nat.beq n x.1 with
   | true => exact beq_true.2 (by rw [beqs e])
   | false => exact beq_false.2 fun e2 => beq_false.1 e (by rw [<- hσ n, <- hσ x.1, e2])
  unfold olen at h2 ⊢;simp only [renO, unO, oget];rw [h1, hb];cases Nat.beq n x.1 with
  | true => exact h3
  | false => exact h2
theorem olen_tell (E : TE) (m : Nat) : olen (E.told m).h = olen E.h := by
 funext k;exact olen_told _ _ _ _ _
theorem toldAll_v {γ : Nat -> Nat} : ∀ (ids : List Nat) (E : TE) (H H' : Nat -> Nat), (∀ k ∈ ids, H k = olen E.h k) -> (∀ k, k ∉ ids -> H' k = H k) ->
  (((toldAll ids E).s.map fun x => (x.1, x.2.2.v H' γ)) = E.s.map fun x => (x.1, x.2.2.v H γ)) /\ obs H' γ (toldAll ids E).h = obs H γ E.h
 | [], E, H, H', _, h2 => by
  have : H' = H := funext fun k => h2 k (by simp)
  subst this;exact ⟨rfl, rfl⟩
 | m :: r, E, H, H', h1, h2 => by
  simp only [toldAll];cases e : mem m r with
  | true =>
   exact toldAll_v r E H H' (fun k hk => h1 k (by simp [hk])) fun k hk => h2 k fun h => by
    rcases List.mem_cons.1 h with rfl | h
    ·exact hk (mem_iff.1 e)
    ·exact hk h
  | false =>
   have hm : m ∉ r := fun h => by rw [mem_iff.2 h] at e; cases e
   let H1 : Nat -> Nat := fun k => if k = m then H' m else H k
   obtain ⟨a1, a2⟩ := toldAll_v (γ := γ) r (E.told m) H1 H' (fun k hk => by
    show (if k = m then H' m else H k) = _
    have hkm : k ≠ m := fun h => hm (h ▸ hk)
    rw [if_neg hkm, olen_tell];exact h1 k (by simp [hk])) fun k hk => by
    show _ = if k = m then H' m else H k
    by_cases hkm : k = m
    ·rw [if_pos hkm, hkm]
    ·rw [if_neg hkm];exact h2 k fun h => by
      rcases List.mem_cons.1 h with h | h
      ·exact hkm h
      ·exact hk h
   have hHm : olen E.h m = H m := (h1 m (by simp)).symm;have hoff : ∀ k, k ≠ m -> H1 k = H k := fun k hk => if_neg hk
   refine ⟨a1.trans ?_, a2.trans ?_⟩
   ·unfold TE.told;simp only [List.map_map, hHm];apply List.map_congr_left;intro y _;simp only [Function.comp, Prod.mk.injEq, true_and];exact told_v H H1 γ m hoff _
   ·unfold TE.told obs;simp only [List.map_map, hHm];apply List.map_congr_left;intro y _;simp only [Function.comp, Prod.mk.injEq, true_and];exact tob_told H H1 γ m hoff _ _
theorem toldAll_len : ∀ (ids : List Nat) (E : TE), olen (toldAll ids E).h = olen E.h
 | [], E => rfl
 | m :: r, E => by
  simp only [toldAll];cases mem m r with
  | true => exact toldAll_len r E
  | false => exact (toldAll_len r (E.told m)).trans (olen_tell E m)
theorem toldAll_ext : ∀ (ids : List Nat) (E : TE), Ext E (toldAll ids E) /\ (E.ok -> (toldAll ids E).ok)
 | [], E => ⟨Ext.refl E, id⟩
 | m :: r, E => by
  simp only [toldAll];cases mem m r with
  | true => exact toldAll_ext r E
  | false =>
   obtain ⟨h1, h2⟩ := toldAll_ext r (E.told m);exact ⟨(ext_told E m).trans h1, fun h => h2 (ok_told h)⟩
theorem setO_s : ∀ (os : List (Nat × Nat × TOb)) (E : TE), (setO os E).s = E.s /\ Ext E (setO os E) /\ (E.ok -> (setO os E).ok)
 | [], E => ⟨rfl, Ext.refl E, id⟩
 | x :: r, E => by
  obtain ⟨h1, h2, h3⟩ := setO_s r (E.oput x.1 x.2.2);exact ⟨h1, (ext_oput E _ _).trans h2, fun h => h3 h⟩
theorem setO_h (H γ : Nat -> Nat) : ∀ (os : List (Nat × Nat × TOb)) (E : TE), obs H γ (setO os E).h = hsets (obs H γ E.h) (obs H γ os)
 | [], E => rfl
 | x :: r, E => by
  simp only [setO];rw [setO_h H γ r];simp only [obs, List.map_cons, hsets, TE.oput];rw [hset_obs]
theorem setO_len : ∀ (os : List (Nat × Nat × TOb)) (E : TE), nodup (os.map (·.1)) = true -> ∀ m, olen (setO os E).h m = match oget os m with
  | some x => x.len
  | none => olen E.h m
 | [], E, _, m => rfl
 | x :: r, E, h, m => by
  simp only [List.map_cons, nodup] at h;split at h
  ·cases h
  ·rename_i hx;simp only [setO, oget];rw [setO_len r _ h m];cases e : Nat.beq m x.1 with
   | true =>
    have hm := beqs e;have : oget r m = none := by
     cases e2 : oget r m with
     | none => rfl
     | some y =>
      have key : ∀ l : List (Nat × Nat × TOb), oget l m = some y -> m ∈ l.map (·.1) := by
       intro l;induction l with
       | nil => intro h; cases h
       | cons a l ih =>
        intro h;simp only [oget] at h;split at h
        ·rename_i e3; simp [beqs e3]
        ·simp only [List.map_cons, List.mem_cons]; exact .inr (ih h)
      have := key r e2;rw [hm] at this;rw [mem_iff.2 this] at hx;cases hx
    rw [this];simp only [TE.oput, olen_oset, if_pos hm]
   | false =>
    cases oget r m with
    | none => simp only [TE.oput, olen_oset, if_neg (beq_false.1 e)]
    | some y => rfl
theorem lenK_ok {R : Type} {E : TE} {ids : List Nat} {k : Option R} {r : R} : ∀ {os : List (Nat × Nat × TOb)}, lenK E ids os k = some r -> k = some r /\ ∀ x ∈ os, x.1 ∉ ids -> x.2.2.len = olen E.h x.1
 | [], h => ⟨h, fun x hx => by cases hx⟩
 | y :: os, h => by
  simp only [lenK] at h;split at h
  ·rename_i hm;obtain ⟨h1, h2⟩ := lenK_ok h;refine ⟨h1, fun x hx hne => ?_⟩;rcases List.mem_cons.1 hx with rfl | hx
   ·exact absurd (mem_iff.1 hm) hne
   ·exact h2 x hx hne
  ·obtain ⟨_, c1, c2⟩ := bind_some' h;obtain ⟨h1, h2⟩ := lenK_ok c2;refine ⟨h1, fun x hx hne => ?_⟩;rcases List.mem_cons.1 hx with rfl | hx
   ·exact chk_some c1
   ·exact h2 x hx hne
theorem newOk_ok {h : List (Nat × Nat × TOb)} {ρ : Nat -> Nat} {jh : List Nat} : ∀ {l : List Nat}, newOk h ρ jh l = true -> ∀ n ∈ l, n ∈ jh \/ oget h (ρ n) = none
 | [], _, n, hn => by cases hn
 | a :: r, h, n, hn => by
  simp only [newOk] at h;split at h
  ·cases h
  ·rename_i hx;rcases List.mem_cons.1 hn with rfl | hn
   ·cases e : mem n jh with
    | true => exact .inl (mem_iff.1 e)
    | false =>
     right;cases e2 : oget _ (ρ n) with
     | none => rfl
     | some y => exact absurd e2 (hx y e)
   ·exact newOk_ok h n hn
theorem mem_map_inj {ρ σ : Nat -> Nat} (hσ : ∀ n, σ (ρ n) = n) (n : Nat) (l : List Nat) : ρ n ∈ l.map ρ ↔ n ∈ l := by
 constructor
 ·intro h;obtain ⟨m, hm, e⟩ := List.mem_map.1 h;have : m = n := by rw [<- hσ m, e, hσ]
  exact this ▸ hm
 ·exact mem_ren
theorem gen2_ren {ρ σ : Nat -> Nat} (hσ : ∀ n, σ (ρ n) = n) (E : TE) (ne : List Nat) (n : Nat) : gen2 E (ne.map ρ) (ρ n) = tgen E.h (ρ n) + G1 ne n := by
 unfold gen2 G1;have : mem (ρ n) (ne.map ρ) = mem n ne := by
  cases e : mem n ne with
  | true => exact mem_iff.2 (mem_ren (mem_iff.1 e))
  | false =>
   cases e2 : mem (ρ n) (ne.map ρ) with
   | false => rfl
   | true => rw [mem_iff.2 ((mem_map_inj hσ n ne).1 (mem_iff.1 e2))] at e; cases e
 rw [this];cases mem n ne <;> rfl
theorem nodup_iff : ∀ {l : List Nat}, nodup l = true ↔ l.Nodup
 | [] => by simp [nodup]
 | n :: r => by
  simp only [nodup, List.nodup_cons];cases e : mem n r with
  | true => simp [mem_iff.1 e]
  | false =>
   have : n ∉ r := fun h => by rw [mem_iff.2 h] at e; cases e
   simp [this, nodup_iff (l := r)]
theorem nodup_ren {ρ σ : Nat -> Nat} (hσ : ∀ n, σ (ρ n) = n) {l : List Nat} (h : nodup l = true) : nodup (l.map ρ) = true := by
 rw [nodup_iff] at h ⊢;exact List.Pairwise.map ρ (fun a b hab e => hab (by rw [<- hσ a, e, hσ])) h
theorem unO_ids (G : Nat -> Nat) (c : Nat) : ∀ (js : List (Nat × OSh)) (l : List Dv), (unO G c js l).map (·.1) = idsO js
 | [], l => rfl
 | x :: r, l => by simp only [unO, List.map_cons, unO_ids G c r]; rfl
theorem onceH_of : ∀ {l : Heap}, nodup (l.map (·.1)) = true -> onceH l
 | [], _ => trivial
 | (n, x) :: r, h => by
  simp only [List.map_cons, nodup] at h;split at h
  ·cases h
  ·rename_i hn;refine ⟨?_, onceH_of h⟩;cases e : hget r n with
   | none => rfl
   | some y =>
    have key : ∀ l : Heap, hget l n = some y -> n ∈ l.map (·.1) := by
     intro l;induction l with
     | nil => intro h; cases h
     | cons a l ih =>
      intro h;simp only [hget] at h;split at h
      ·rename_i e3; simp [e3]
      ·simp only [List.map_cons, List.mem_cons]; exact .inr (ih h)
    have := key r e;rw [mem_iff.2 this] at hn;cases hn
theorem newH_of {h hin : Heap} {ρ : Nat -> Nat} : ∀ {l : Heap}, (∀ n ∈ l.map (·.1), hget hin n ≠ none \/ hget h (ρ n) = none) -> newH h hin ρ l
 | [], _ => trivial
 | (n, x) :: r, hh => ⟨hh n (by simp), newH_of fun m hm => hh m (by simp only [List.map_cons, List.mem_cons]; exact .inr hm)⟩
theorem keptH_of {hout : Heap} : ∀ {l : Heap}, (∀ n ∈ l.map (·.1), hget hout n ≠ none) -> keptH hout l
 | [], _ => trivial
 | (n, x) :: r, hh => ⟨hh n (by simp), keptH_of fun m hm => hh m (by simp only [List.map_cons, List.mem_cons]; exact .inr hm)⟩
theorem laterH_of {E : List Nat} {hout : Heap} : ∀ {l : Heap}, (∀ n x, (n, x) ∈ l -> n ∈ E -> ∃ y, hget hout n = some y /\ x.gen < y.gen) -> laterH E hout l
 | [], _ => trivial
 | (n, x) :: r, hh => ⟨fun hn => hh n x (by simp) hn, laterH_of fun m y hm => hh m y (by simp [hm])⟩
theorem obs_ids (H γ : Nat -> Nat) (l : List (Nat × Nat × TOb)) : (obs H γ l).map (·.1) = l.map (·.1) := by
 unfold obs; simp
theorem inO_gen (c : Nat) : ∀ (jh : List (Nat × OSh)) (l : List Dv) {t : Nat × Nat × TOb}, t ∈ unO z0 c jh l -> t.2.2.gen = 0
 | [], l, t, h => by simp [unO] at h
 | y :: r, l, t, h => by
  simp only [unO, List.mem_cons] at h;rcases h with rfl | h
  ·obtain ⟨m, s⟩ := y;cases s <;> rfl
  ·exact inO_gen c r _ h
theorem oget_mem {m : Nat} {y : TOb} : ∀ {l : List (Nat × Nat × TOb)}, oget l m = some y -> ∃ t, (m, t, y) ∈ l
 | [], h => by cases h
 | (i, c, v) :: r, h => by
  simp only [oget] at h;split at h
  ·rename_i e;have := beqs e; subst this;cases h;exact ⟨c, by simp⟩
  ·obtain ⟨t, ht⟩ := oget_mem h;exact ⟨t, by simp [ht]⟩
theorem un_hJ (E : TE) (ρ : Nat -> Nat) (jh : List (Nat × OSh)) (d : Ds (ownJ E ρ jh).tys) : ((ownJ E ρ jh).un E d).h = unO (tgen E.h) E.c (renO ρ jh) (dis _ d) ++ keepO E.h (ownJ E ρ jh).kh := rfl
theorem un_sJ (E : TE) (ρ : Nat -> Nat) (jh : List (Nat × OSh)) (d : Ds (ownJ E ρ jh).tys) : ((ownJ E ρ jh).un E d).s = keepS E.s (E.s.map (·.1)) := rfl
theorem stime_none : ∀ {s : List (Nat × Nat × TV)} {i : Nat}, i ∉ s.map (·.1) -> stime s i = none
 | [], _, _ => rfl
 | (j, c, v) :: r, i, h => by
  simp only [List.map_cons, List.mem_cons, not_or] at h;simp only [stime, beq_false.2 h.1];exact stime_none h.2
theorem owCore {P : Program} {w : Ow P} {n : Nat} {o : Oper} {c : Call} {x : Operand} {E E0 E1 : TE} {ρ σ : Nat -> Nat} {caps : List TV} {d1 : Ds (ownJ E ρ w.jh).tys} {a : List Dv} {d : Ds (Sh.tysL w.js ++ tysO w.jh)} {r : Ds (Sh.tysL w.rs ++ tysO w.rh)} {vs : List TV} {os : List (Nat × Nat × TOb)}
  (hσ : ∀ n, σ (ρ n) = n) (hρ : ∀ n, ρ (σ n) = n) (ho : o.op = .call c) (hb : c.callee = .value x) (hx : tev E n x = .fn w.f caps) (hE1 : E1 = (ownJ E ρ w.jh).un E d1)
  (ha : Sh.pkL E1.h (Sh.renL ρ w.js) (c.args.toList.map (tev E n) ++ caps) = some a) (hnew : newOk E1.h ρ (idsO w.jh) (idsO w.rh) = true) (hd : asm (Sh.tysL w.js ++ tysO w.jh) (a ++ dis _ d1) = some d) (hF : w.F d = some r)
  (hvs : vs = (Sh.unL (gen2 E (w.ne.map ρ)) (Sh.renL ρ w.rs) (dis _ r)).1) (hos : os = unO (gen2 E (w.ne.map ρ)) 0 (renO ρ w.rh) (Sh.unL (gen2 E (w.ne.map ρ)) (Sh.renL ρ w.rs) (dis _ r)).2)
  (hlens : ∀ x ∈ os, x.1 ∉ w.tl.map ρ -> x.2.2.len = olen E1.h x.1) (γ1 : Nat -> Nat) (z1 : ∀ i, sget E0.s i = sget E1.s i) (z2 : olen E0.h = olen E1.h) (z3 : ∀ m ∈ (idsO w.rh).map ρ, hget (E0.heap γ1) m = hget (E1.heap γ1) m) :
  ∃ (v : V) (ups : List (Nat × Ob)), ups.map (·.1) = (idsO w.rh).map ρ /\ (∀ e2 : Env, (∀ y ∈ x :: c.args.toList, e2.ev y = (E0.env n γ1).ev y) -> (∀ m ∈ (idsO w.rh).map ρ, hget e2.h m = hget (E0.env n γ1).h m) -> ExU P o e2 v ups) /\
   ((setO os (toldAll (w.tl.map ρ) E0)).put o.dst (oneTV vs)).env n γ1 = (E0.env n γ1).upd o.dst v ups /\ Ext E0 ((setO os (toldAll (w.tl.map ρ) E0)).put o.dst (oneTV vs)) /\ (E0.ok -> ((setO os (toldAll (w.tl.map ρ) E0)).put o.dst (oneTV vs)).ok) := by
 obtain ⟨w1, w2, w3, w4, w5, w6, w7, w8⟩ := owWf_ok w.wf
 have hdis := dis_asm _ _ _ hd
 obtain ⟨b, hbd⟩ : ∃ b, b = dis (ownJ E ρ w.jh).tys d1 := ⟨_, rfl⟩
 rw [<- hbd] at hdis
 have hE1h : E1.h = unO (tgen E.h) E.c (renO ρ w.jh) b ++ keepO E.h (ownJ E ρ w.jh).kh := by rw [hE1, un_hJ, hbd]
 have hE1s : ∀ i, sget E1.s i = sget E.s i := fun i => by
  rw [hE1, un_sJ, sget_keep];split
  ·rfl
  ·rename_i hi;exact (sget_notime (stime_none hi)).symm
 have htev : ∀ y, tev E1 n y = tev E n y := fun y => by
  cases y with
  | tmp t => simp only [tev, TE.get, hE1s]
  | _ => rfl
 have hgen : ∀ m, (oget E1.h m).isSome = true -> tgen E1.h m = tgen E.h m := by
  intro m hm;unfold tgen;rw [hE1h, oget_app] at hm ⊢;cases e : oget (unO (tgen E.h) E.c (renO ρ w.jh) b) m with
  | some y => simp only; exact unO_gen' _ _ m y e
  | none =>
   rw [e] at hm;simp only at hm ⊢;cases e2 : oget (keepO E.h (ownJ E ρ w.jh).kh) m with
   | none => rw [e2] at hm; cases hm
   | some y => rw [(oget_keep e2).2]
 have hin1 : ∀ m ∈ (idsO w.jh).map ρ, oget E1.h m = oget (unO (tgen E.h) E.c (renO ρ w.jh) b) m /\ (oget E1.h m).isSome = true := by
  intro m hm;have h1 := (oget_unO (G := tgen E.h) (c := E.c) (n := m) (renO ρ w.jh) b).2 (by rw [idsO_ren]; exact hm);rw [hE1h, oget_app];cases e : oget (unO (tgen E.h) E.c (renO ρ w.jh) b) m with
  | none => exact absurd e h1
  | some y => exact ⟨rfl, rfl⟩
 obtain ⟨vs', hun, hvl, hT⟩ := shL_ok (h := E1.h) (hn := E1.h) (G := tgen E.h) (γ := γ1) (γ' := γ1) (fun m hm => ⟨by rw [hgen m hm], rfl⟩) (Sh.renL ρ w.js) _ a b ha
 let γ0 : Nat -> Nat := fun m => γ1 (ρ m) + tgen E.h (ρ m)
 let H0 : Nat -> Nat := fun m => olen E1.h (ρ m)
 obtain ⟨r1, r2⟩ := shL_ren (ρ := ρ) (G := tgen E.h) (G0 := z0) (H := olen E1.h) (H0 := H0) (γ := γ1) (γ0 := γ0) (fun _ => rfl) (fun _ => rfl) w.js (a ++ b)
 rw [hun] at r1 r2
 have hb2 : (inA w.js (dis _ d)).2 = b := by unfold inA; rw [hdis]; exact r1.symm
 have hinO : obs (olen E1.h) γ1 (unO (tgen E.h) E.c (renO ρ w.jh) b) = Heap.ren ρ (obs H0 γ0 (inO' w.js w.jh (dis _ d))) := by
  unfold inO';rw [hb2];exact unO_ren (ρ := ρ) (G := tgen E.h) (G0 := z0) (H := olen E1.h) (H0 := H0) (γ := γ1) (γ0 := γ0) (fun _ => rfl) (fun _ => rfl) w.jh b (inIO_flat w5)
 obtain ⟨E2, hE2⟩ : ∃ E2, E2 = setO os (toldAll (w.tl.map ρ) E0) := ⟨_, rfl⟩
 rw [<- hE2]
 have hosn : nodup (os.map (·.1)) = true := by rw [hos, unO_ids, idsO_ren]; exact nodup_ren hσ w2
 have hlen2 := setO_len os (toldAll (w.tl.map ρ) E0) hosn
 rw [<- hE2, toldAll_len, z2] at hlen2
 let H2 : Nat -> Nat := fun m => olen E2.h (ρ m)
 have hg2 : ∀ m, γ1 (ρ m) + gen2 E (w.ne.map ρ) (ρ m) = γ0 m + G1 w.ne m := fun m => by
  rw [gen2_ren hσ]; exact (Nat.add_assoc _ _ _).symm
 obtain ⟨o1, o2⟩ := shL_ren (ρ := ρ) (G := gen2 E (w.ne.map ρ)) (G0 := G1 w.ne) (H := olen E2.h) (H0 := H2) (γ := γ1) (γ0 := γ0) hg2 (fun _ => rfl) w.rs (dis _ r)
 have houtO : obs (olen E2.h) γ1 os = Heap.ren ρ (obs H2 γ0 (outO w.rs w.rh w.ne (dis _ r))) := by
  rw [hos, o1];exact unO_ren (ρ := ρ) (H := olen E2.h) (H0 := H2) hg2 (fun _ => rfl) w.rh _ (inIO_flat w7)
 have hL0 : ∀ m ∈ idsO w.jh, H0 m = olen (inO' w.js w.jh (dis _ d)) m := by
  intro m hm
  show olen E1.h (ρ m) = _
  have h1 : olen E1.h (ρ m) = olen (unO (tgen E.h) E.c (renO ρ w.jh) b) (ρ m) := by unfold olen; rw [(hin1 (ρ m) (mem_ren hm)).1]
  rw [h1];unfold inO';rw [hb2];exact unO_ren_len hσ w.jh b
 have hL2 : ∀ m ∈ idsO w.rh, H2 m = olen (outO w.rs w.rh w.ne (dis _ r)) m := by
  intro m hm
  show olen E2.h (ρ m) = _
  rw [hlen2];have hne : oget os (ρ m) ≠ none := by rw [hos]; exact (oget_unO _ _).2 (by rw [idsO_ren]; exact mem_ren hm)
  cases e : oget os (ρ m) with
  | none => exact absurd e hne
  | some y =>
   have h1 : olen os (ρ m) = y.len := by unfold olen; rw [e]
   simp only;rw [<- h1, hos];unfold outO outA;rw [<- o1];exact unO_ren_len hσ w.rh _
 have hP := w.ok d r hF γ0 H0 H2 hL0 hL2
 have hgO : ∀ m ∈ idsO w.rh, m ∈ w.ne -> (hget (obs H2 γ0 (outO w.rs w.rh w.ne (dis _ r))) m).map Ob.gen = some (γ0 m + G1 w.ne m) := by
  intro m hm _;unfold outO;rw [hget_unO];cases e : oget (unO (G1 w.ne) 0 w.rh (outA w.rs w.ne (dis _ r)).2) m with
  | none => exact absurd e ((oget_unO _ _).2 hm)
  | some y => simp only [Option.map_some, ob_gen, unO_gen' _ _ m y e]
 have hidE : ∀ m ∈ (idsO w.jh).map ρ, (hget (Heap.ren ρ (obs H0 γ0 (inO' w.js w.jh (dis _ d)))) m).isSome = true := by
  intro m hm;rw [<- hinO, hget_unO, <- (hin1 m hm).1];cases e : oget E1.h m with
  | none => have := (hin1 m hm).2; rw [e] at this; cases this
  | some y => rfl
 have htev0 : ∀ y, tev E0 n y = tev E n y := fun y => by
  rw [<- htev];cases y with
  | tmp t => simp only [tev, TE.get, z1]
  | _ => rfl
 refine ⟨oneV (TV.vL (olen E2.h) γ1 vs), obs (olen E2.h) γ1 os, ?_, fun e2 hev hid => ?_, ?_, ?_, ?_⟩
 ·rw [obs_ids, hos, unO_ids, idsO_ren]
 ·have hev' : ∀ y ∈ x :: c.args.toList, e2.ev y = (tev E n y).v (olen E1.h) γ1 := fun y hy => by rw [hev y hy, tev_v, htev0, z2]
  unfold ExU;simp only [ho, hb];have hargs : c.args.toList.map e2.ev ++ TV.vL (olen E1.h) γ1 caps = (c.args.toList.map (tev E n) ++ caps).map (TV.v (olen E1.h) γ1) := by
   rw [List.map_append, List.map_map, vL_map];congr 1;exact List.map_congr_left fun y hy => hev' y (List.mem_cons_of_mem _ hy)
  refine ⟨w.f, TV.vL (olen E1.h) γ1 caps, by rw [hev' x (by simp), hx]; rfl, .inr ⟨TV.vL (olen E1.h) γ1 vs', ?_, fun j c0 c1 h1 h2 => ?_, ?_⟩⟩
  ·rw [hargs, vL_map, List.length_map, hvl, List.length_map]
  ·rw [hargs, List.getElem?_map, Option.map_eq_some_iff] at h1;obtain ⟨y, hy, rfl⟩ := h1;rw [vL_get, Option.map_eq_some_iff] at h2;obtain ⟨v', hv', rfl⟩ := h2;have hinH := inIL_inH (G := tgen E.h) (fun m hm => (hin1 m hm).2) (Sh.renL ρ w.js) (a ++ b) (inIL_ren w.js w4);rw [hun] at hinH;have hT1 := hT j y v' hy hv' (inHL_get hinH j v' hv');exact hT1.1
  ·refine .mk ρ σ hσ hρ (obs H0 γ0 (inO' w.js w.jh (dis _ d))) (obs H2 γ0 (outO w.rs w.rh w.ne (dis _ r))) _ _ w.ne ?_ ?_ ?_ ?_ ?_ ?_ hP ?_ ?_ ?_ ?_ ?_
   ·rw [show TV.vL (olen E1.h) γ1 vs' = _ from r2, <- V.renL_map, renL_renL hσ];unfold inA;rw [hdis]
   ·have := inIL_within (G := tgen E.h) (H := olen E1.h) (γ := γ1) hidE (Sh.renL ρ w.js) (a ++ b) (inIL_ren w.js w4);rw [hun] at this;exact this
   ·intro m y hm;have hm' := hm;rw [<- hinO] at hm;refine ⟨?_, ?_⟩
    ·rw [hget_unO] at hm;have hmem : m ∈ (idsO w.jh).map ρ := by
      rw [<- idsO_ren];refine (oget_unO (G := tgen E.h) (c := E.c) _ b).1 fun e => ?_
      rw [e] at hm; cases hm
     have hmem2 : m ∈ (idsO w.rh).map ρ := by
      obtain ⟨m', hm2, rfl⟩ := List.mem_map.1 hmem;exact mem_ren (w3 m' hm2)
     rw [hid m hmem2, show hget (E0.env n γ1).h m = hget (E0.heap γ1) m from rfl, z3 m hmem2, hget_heap, (hin1 m hmem).1];exact hm
    ·have h3 := unO_within (G := tgen E.h) (H := olen E1.h) (γ := γ1) (c := E.c) hidE (renO ρ w.jh) b (inIO_ren w.jh w5) m y hm;exact h3
   ·refine newH_of fun m hm => ?_
    rw [obs_ids] at hm;unfold outO at hm;rw [unO_ids] at hm;rcases newOk_ok hnew m hm with h1 | h1
    ·left;unfold inO';rw [hget_unO];cases e : oget (unO z0 0 w.jh (inA w.js (dis _ d)).2) m with
     | none => exact absurd e ((oget_unO _ _).2 h1)
     | some y => simp
    ·right;rw [hid (ρ m) (mem_ren hm), show hget (E0.env n γ1).h (ρ m) = hget (E0.heap γ1) (ρ m) from rfl, z3 _ (mem_ren hm), hget_heap, h1];rfl
   ·refine keptH_of fun m hm => ?_
    rw [obs_ids] at hm;unfold inO' at hm;rw [unO_ids] at hm;unfold outO;rw [hget_unO];cases e : oget (unO (G1 w.ne) 0 w.rh (outA w.rs w.ne (dis _ r)).2) m with
    | none => exact absurd e ((oget_unO _ _).2 (w3 m hm))
    | some y => simp
   ·refine onceH_of ?_;rw [obs_ids];unfold outO;rw [unO_ids];exact w2
   ·rw [oneV_ren, hvs, o2]; rfl
   ·exact houtO
   ·refine oneV_okg _ _ _ ?_;exact inIL_okg (G := G1 w.ne) (H := H2) (γ := γ0) hgO w.rs (dis _ r) w6
   ·exact okgH_unO hgO w.rh _ w7
   ·refine laterH_of fun m y hm hne => ?_
    have hmJ : m ∈ idsO w.jh := by
     have : m ∈ (obs H0 γ0 (inO' w.js w.jh (dis _ d))).map (·.1) := List.mem_map.2 ⟨_, hm, rfl⟩;rw [obs_ids] at this;unfold inO' at this;rw [unO_ids] at this;exact this
    have h1 := hgO m (w3 m hmJ) hne;rw [Option.map_eq_some_iff] at h1;obtain ⟨z, hz, hzg⟩ := h1;refine ⟨z, hz, ?_⟩;have hyg : y.gen = γ0 m := by
     unfold obs at hm;obtain ⟨t, ht, e⟩ := List.mem_map.1 hm;injection e with e1 e2
     subst e1 e2;rw [ob_gen, inO_gen _ _ _ ht];rfl
    rw [hyg, hzg];have : G1 w.ne m = 1 := by unfold G1; rw [mem_iff.2 hne]
    omega
 ·rw [env_put, oneTV_v];have hoff : ∀ m, m ∉ w.tl.map ρ -> olen E2.h m = olen E0.h m := by
   rw [z2];intro m hm;rw [hlen2];cases e : oget os m with
   | none => rfl
   | some y =>
    obtain ⟨t, ht⟩ := oget_mem e;exact hlens _ ht hm
  obtain ⟨t1, t2⟩ := toldAll_v (γ := γ1) (w.tl.map ρ) E0 (olen E0.h) (olen E2.h) (fun _ _ => rfl) hoff;have hEnv : E2.env n γ1 = SE n (E0.slots γ1) (hsets (E0.heap γ1) (obs (olen E2.h) γ1 os)) := by
   have e1 : E2.slots γ1 = E0.slots γ1 := by
    unfold TE.slots;rw [show E2.s = (toldAll (w.tl.map ρ) E0).s from by rw [hE2]; exact (setO_s os _).1];exact t1
   have e2 : E2.heap γ1 = hsets (E0.heap γ1) (obs (olen E2.h) γ1 os) := by
    have h3 := setO_h (olen E2.h) γ1 os (toldAll (w.tl.map ρ) E0);rw [<- hE2, t2] at h3;exact h3
   unfold TE.env;rw [e1, e2]
  rw [hEnv];cases o.dst with
  | none => rfl
  | some d =>
   simp only [TE.env];rw [se_upd, se_upd];rfl
 ·refine Ext.trans ?_ (ext_put _ _ _);rw [hE2];exact (toldAll_ext _ E0).1.trans (setO_s os _).2.1
 ·intro hE;refine ok_put ?_;rw [hE2];exact (setO_s os _).2.2 ((toldAll_ext _ E0).2 hE)
theorem owKr_ok {R : Type} {P : Program} {w : Ow P} {n : Nat} {o : Oper} {c : Call} {x : Operand} {E : TE} {k : TE -> Option R} {q : R} {ρ σ : Nat -> Nat} {caps : List TV} (hσ : ∀ n, σ (ρ n) = n) (hρ : ∀ n, ρ (σ n) = n) (ho : o.op = .call c) (hb : c.callee = .value x) (hx : tev E n x = .fn w.f caps) (hE : E.ok)
  (h : owKr w o E (c.args.toList.map (tev E n) ++ caps) k ρ = some q) (γ : Nat -> Nat) :
  ∃ (γ1 : Nat -> Nat) (E1 E2 : TE) (v : V) (ups : List (Nat × Ob)), k E2 = some q /\ Fx γ γ1 /\ Le (E.env n γ) (E1.env n γ1) /\ ExU P o (E1.env n γ1) v ups /\ E2.env n γ1 = (E1.env n γ1).upd o.dst v ups /\ Ext E E2 /\ E2.ok := by
 unfold owKr at h
 split at h
 ·cases h
 ·rename_i d1 hp;obtain ⟨E1, hE1⟩ : ∃ E1, E1 = (ownJ E ρ w.jh).un E d1 := ⟨_, rfl⟩;split at h
  ·rename_i a hcl ha hnew;rw [<- hE1] at hcl ha hnew;split at h
   ·cases h
   ·rename_i d hd;obtain ⟨r, hF, h⟩ := bind_some' h;obtain ⟨γ1, f1, hle⟩ := pk_le (n := n) hp (Ext.refl E) (by rw [<- hE1]; exact hcl) γ;rw [<- hE1] at hle;obtain ⟨vs, hvs⟩ : ∃ vs, vs = (Sh.unL (gen2 E (w.ne.map ρ)) (Sh.renL ρ w.rs) (dis _ r)).1 := ⟨_, rfl⟩;obtain ⟨os, hos⟩ : ∃ os, os = unO (gen2 E (w.ne.map ρ)) 0 (renO ρ w.rh) (Sh.unL (gen2 E (w.ne.map ρ)) (Sh.renL ρ w.rs) (dis _ r)).2 := ⟨_, rfl⟩;have h : lenK E1 (w.tl.map ρ) os (k ((setO os (toldAll (w.tl.map ρ) E1)).put o.dst (oneTV vs))) = some q := by rw [hvs, hos, hE1]; exact h
    obtain ⟨h, hlens⟩ := lenK_ok h;obtain ⟨v, ups, _, h2, h3, h4, h5⟩ := owCore (E0 := E1) hσ hρ ho hb hx hE1 ha hnew hd hF hvs hos hlens γ1 (fun _ => rfl) rfl (fun _ _ => rfl);have x1 : Ext E E1 := by rw [hE1]; exact ext_un _ _ _
    exact ⟨γ1, E1, _, v, ups, h, f1, hle, h2 _ (fun _ _ => rfl) (fun _ _ => rfl), h3, x1.trans h4, h5 (by rw [hE1]; exact un_ok hE)⟩
  ·cases h
mutual
def Sh.exact : Sh -> TV -> Bool
 | .dt _, v => match v with
  | .leaf _ _ => true
  | _ => false
 | .wn _ _, v => match v with
  | .sof _ _ _ => true
  | _ => false
 | .pt _ _ _, _ => true
 | .nl, _ => true
 | .ag cs, v => match v with
  | .agg vs => Sh.exactL cs vs
  | _ => false
 | .fn _ cs, v => match v with
  | .fn _ vs => Sh.exactL cs vs
  | _ => false
 | .np, _ => true
 | .nf, _ => true
 | .ws _ _, v => match v with
  | .so _ _ _ _ _ => true
  | _ => false
 | .mp _, _ => true
def Sh.exactL : List Sh -> List TV -> Bool
 | c :: cs, v :: vs => match c.exact v with
  | true => Sh.exactL cs vs
  | false => false
 | _, _ => true
end
def OSh.exact (h : List (Nat × Nat × TOb)) (n : Nat) : OSh -> Bool
 | .mp _ _ => true
 | .nm _ _ => false
 | .nl _ => false
 | .ls _ => match oget h n with
  | some (.lst _ _ _) => true
  | _ => false
 | .el p _ cs => match oget h n with
  | some (.els _ q _ l) => match p, Sh.plainL cs, q with
   | true, true, true => Sh.exactL cs l
   | false, _, false => Sh.exactL cs l
   | true, false, false => Sh.exactL cs l
   | _, _, _ => false
  | _ => false
def exactO (h : List (Nat × Nat × TOb)) : List (Nat × OSh) -> Bool
 | [] => true
 | x :: r => match x.2.exact h x.1 with
  | true => exactO h r
  | false => false
mutual
theorem sh_exact {h : List (Nat × Nat × TOb)} : ∀ (s : Sh) (v : TV) (a rest : List Dv), s.pk h v = some a -> s.exact v = true -> s.un (tgen h) (a ++ rest) = (v, rest)
 | .dt t, v, a, rest, hp, hx => by
  simp only [Sh.exact] at hx;split at hx
  ·rename_i t' y;simp only [Sh.pk] at hp;split at hp
   ·rename_i x hd;cases hp;simp only [toD] at hd;split at hd
    ·cases hd
    ·rename_i z hz;cases hd;obtain ⟨e, rfl⟩ := castD_some hz;subst e;simp only [Sh.un, List.cons_append, List.nil_append, takeD];rw [show castD t' t' y = some y from hz]
   ·cases hp
  ·cases hx
 | .wn n sz, v, a, rest, hp, hx => by
  simp only [Sh.exact] at hx;split at hx
  ·simp only [Sh.pk] at hp;split at hp
   ·rename_i h1 h2 h3;cases hp;simp only [Sh.un, List.nil_append, <- beqs h1, <- beqs h2];rw [beqs h1, <- beqs h3]
   ·cases hp
  ·cases hx
 | .pt n sz off, v, a, rest, hp, _ => by
  simp only [Sh.pk] at hp;split at hp
  ·split at hp
   ·rename_i h1 h2 h3 h4;cases hp;simp only [Sh.un, List.nil_append, beqs h1, beqs h2, beqs h3, beqs h4]
   ·cases hp
  ·cases hp
 | .nl, v, a, rest, hp, _ => by
  simp only [Sh.pk] at hp;split at hp
  ·cases hp; rfl
  ·cases hp
 | .ag cs, v, a, rest, hp, hx => by
  simp only [Sh.exact] at hx;split at hx
  ·simp only [Sh.pk] at hp;simp only [Sh.un, shL_exact cs _ a rest hp hx]
  ·cases hx
 | .fn f cs, v, a, rest, hp, hx => by
  simp only [Sh.exact] at hx;split at hx
  ·simp only [Sh.pk] at hp;split at hp
   ·rename_i h1;simp only [Sh.un, shL_exact cs _ a rest hp hx, beqs h1]
   ·cases hp
  ·cases hx
 | .np, v, a, rest, hp, _ => by
  simp only [Sh.pk] at hp;split at hp
  ·cases hp; rfl
  ·cases hp
 | .nf, v, a, rest, hp, _ => by
  simp only [Sh.pk] at hp;split at hp
  ·cases hp; rfl
  ·cases hp
 | .ws n sz, v, a, rest, hp, hx => by
  simp only [Sh.exact] at hx;split at hx
  ·simp only [Sh.pk] at hp;split at hp
   ·rename_i h1 h2 h3;cases hp;simp only [Sh.un, List.cons_append, List.nil_append, takeD];have e : ∀ z : Int, castD (.int .i64) (.int .i64) z = some z := fun z => rfl
    simp only [e];rw [<- beqs h1, <- beqs h2];simp only [beqs h1, <- beqs h3, Int.toNat_natCast]
   ·cases hp
  ·cases hx
 | .mp n, v, a, rest, hp, _ => by
  simp only [Sh.pk] at hp;split at hp
  ·split at hp
   ·rename_i h1 h2;cases hp;simp only [Sh.un, List.nil_append, beqs h1, beqs h2]
   ·cases hp
  ·cases hp
theorem shL_exact {h : List (Nat × Nat × TOb)} : ∀ (cs : List Sh) (vs : List TV) (a rest : List Dv), Sh.pkL h cs vs = some a -> Sh.exactL cs vs = true -> Sh.unL (tgen h) cs (a ++ rest) = (vs, rest)
 | [], [], a, rest, hp, _ => by simp only [Sh.pkL] at hp; cases hp; rfl
 | c :: cs, v :: vs, a, rest, hp, hx => by
  simp only [Sh.exactL] at hx;split at hx
  ·rename_i h1;simp only [Sh.pkL] at hp;split at hp
   ·cases hp
   ·rename_i a1 e1;split at hp
    ·cases hp
    ·rename_i a2 e2;cases hp;simp only [Sh.unL, List.append_assoc, sh_exact c v a1 (a2 ++ rest) e1 h1, shL_exact cs vs a2 rest e2 hx]
  ·cases hx
 | [], _ :: _, a, rest, hp, _ => by simp [Sh.pkL] at hp
 | _ :: _, [], a, rest, hp, _ => by simp [Sh.pkL] at hp
end
theorem osh_exact {h : List (Nat × Nat × TOb)} {n : Nat} {s : OSh} {a rest : List Dv} (hp : s.pk h n = some a) (hx : s.exact h n = true) : ∃ y, oget h n = some y /\ s.un (tgen h) n (a ++ rest) = (y, rest) := by
 cases s with
 | nm => cases hx
 | nl => cases hx
 | mp k v =>
  simp only [OSh.pk] at hp;split at hp
  ·rename_i g k' v' l hob;split at hp
   ·rename_i l' hl;cases hp;obtain ⟨e, rfl⟩ := castD_some hl;injection e with e1 e2; subst e1 e2
    refine ⟨_, hob, ?_⟩;simp only [OSh.un, List.cons_append, List.nil_append, takeD];rw [show castD (.map k' v') (.map k' v') l = some l from hl];simp only [tgen, hob, TOb.gen]
   ·cases hp
  ·cases hp
 | ls t =>
  simp only [OSh.exact] at hx;split at hx
  ·rename_i g t' l hob;simp only [OSh.pk, hob] at hp;split at hp
   ·rename_i l' hl;cases hp;obtain ⟨e, rfl⟩ := castD_some hl;injection e with e; subst e
    refine ⟨_, hob, ?_⟩;simp only [OSh.un, List.cons_append, List.nil_append, takeD];rw [show castD (.list t') (.list t') l = some l from hl];simp only [tgen, hob, TOb.gen]
   ·cases hp
  ·cases hx
 | el p sz cs =>
  simp only [OSh.exact] at hx;split at hx
  ·rename_i g q s l hob;simp only [OSh.pk, hob] at hp;split at hp
   ·rename_i hs;refine ⟨_, hob, ?_⟩;have fin : q = andB p (Sh.plainL cs) -> Sh.exactL cs l = true -> (OSh.el p sz cs).un (tgen h) n (a ++ rest) = (.els g q s l, rest) := by
     intro hq hxl;simp only [OSh.un, shL_exact cs l a rest hp hxl, <- hq, beqs hs];simp only [tgen, hob, TOb.gen]
    split at hx
    ·rename_i h2; exact fin (by rw [h2]; rfl) hx
    ·exact fin rfl hx
    ·rename_i h2; exact fin (by rw [h2]; rfl) hx
    ·cases hx
   ·cases hp
  ·cases hx
theorem unO_exact {h : List (Nat × Nat × TOb)} {c : Nat} : ∀ (js : List (Nat × OSh)) (b rest : List Dv), packO h js = some b -> exactO h js = true -> ∀ m ∈ idsO js, oget (unO (tgen h) c js (b ++ rest)) m = oget h m
 | [], b, rest, _, _, m, hm => by cases hm
 | x :: r, b, rest, hp, hx, m, hm => by
  simp only [packO] at hp;split at hp
  ·cases hp
  ·rename_i a ha;split at hp
   ·cases hp
   ·rename_i b2 hb2;cases hp;simp only [exactO] at hx;split at hx
    ·rename_i hx1;obtain ⟨y, hy, hun⟩ := osh_exact (rest := b2 ++ rest) ha hx1;simp only [unO, List.append_assoc, hun, oget];cases e : Nat.beq m x.1 with
     | true => rw [beqs e, hy]
     | false =>
      have : m ∈ idsO r := by
       rcases List.mem_cons.1 (show m ∈ x.1 :: idsO r from hm) with h | h
       ·exact absurd h (beq_false.1 e)
       ·exact h
      exact unO_exact r b2 rest hb2 hx m this
    ·cases hx
def towK {R : Type} {P : Program} (w : Ow P) (o : Oper) (E : TE) (args : List TV) (k : K R) (ρ : Nat -> Nat) : Option R :=
 match (ownJ E ρ w.jh).pk E E, exactO E.h (renO ρ w.jh) with
 | some d1, true => match Sh.pkL ((ownJ E ρ w.jh).un E d1).h (Sh.renL ρ w.js) args, newOk ((ownJ E ρ w.jh).un E d1).h ρ (idsO w.jh) (idsO w.rh) with
  | some a, true => match asm (Sh.tysL w.js ++ tysO w.jh) (a ++ dis _ d1) with
   | none => none
   | some d => (w.F d).bind fun r =>
    lenK ((ownJ E ρ w.jh).un E d1) (w.tl.map ρ) (unO (gen2 E (w.ne.map ρ)) 0 (renO ρ w.rh) (Sh.unL (gen2 E (w.ne.map ρ)) (Sh.renL ρ w.rs) (dis _ r)).2)
     (k ((idsO w.rh).map ρ) ((idsO w.rh).map ρ) ((setO (unO (gen2 E (w.ne.map ρ)) 0 (renO ρ w.rh) (Sh.unL (gen2 E (w.ne.map ρ)) (Sh.renL ρ w.rs) (dis _ r)).2) (toldAll (w.tl.map ρ) E)).put o.dst
      (oneTV (Sh.unL (gen2 E (w.ne.map ρ)) (Sh.renL ρ w.rs) (dis _ r)).1)))
  | _, _ => none
 | _, _ => none
theorem towK_ok {R : Type} {P : Program} {w : Ow P} {G : List Nat} {ops : Array Oper} {n : Nat} {o : Oper} {c : Call} {x : Operand} {E : TE} {k : K R} {q : R} {ρ σ : Nat -> Nat} {caps : List TV} (hσ : ∀ n, σ (ρ n) = n) (hρ : ∀ n, ρ (σ n) = n) (ho : o.op = .call c) (hb : c.callee = .value x) (hx : tev E n x = .fn w.f caps)
  (h : towK w o E (c.args.toList.map (tev E n) ++ caps) k ρ = some q) : ∃ E' wk rd, k wk rd E' = some q /\ Stp P G ops n o E E' wk rd := by
 unfold towK at h
 split at h
 ·rename_i d1 hp hex;obtain ⟨E1, hE1⟩ : ∃ E1, E1 = (ownJ E ρ w.jh).un E d1 := ⟨_, rfl⟩;split at h
  ·rename_i a ha hnew;rw [<- hE1] at ha hnew;split at h
   ·cases h
   ·rename_i d hd;obtain ⟨r, hF, h⟩ := bind_some' h;obtain ⟨vs, hvs⟩ : ∃ vs, vs = (Sh.unL (gen2 E (w.ne.map ρ)) (Sh.renL ρ w.rs) (dis _ r)).1 := ⟨_, rfl⟩;obtain ⟨os, hos⟩ : ∃ os, os = unO (gen2 E (w.ne.map ρ)) 0 (renO ρ w.rh) (Sh.unL (gen2 E (w.ne.map ρ)) (Sh.renL ρ w.rs) (dis _ r)).2 := ⟨_, rfl⟩;have h : lenK E1 (w.tl.map ρ) os (k ((idsO w.rh).map ρ) ((idsO w.rh).map ρ) ((setO os (toldAll (w.tl.map ρ) E)).put o.dst (oneTV vs))) = some q := by rw [hvs, hos, hE1]; exact h
    obtain ⟨h, hlens⟩ := lenK_ok h;have hpack : ∃ b, packO E.h (renO ρ w.jh) = some b /\ dis (ownJ E ρ w.jh).tys d1 = b := by
     unfold J.pk at hp;split at hp
     ·split at hp
      ·rename_i a0 b0 ha0 hb0;have ha0' : packS E.h E [] = some a0 := ha0;simp only [packS] at ha0';cases ha0';exact ⟨b0, hb0, by have := dis_asm _ _ _ hp; simpa using this⟩
      ·cases hp
     ·cases hp
    obtain ⟨b, hb1, hb2⟩ := hpack;have hobj : ∀ m, oget E1.h m = oget E.h m := by
     intro m;rw [hE1, un_hJ, hb2, oget_app];have hin := unO_exact (c := E.c) (renO ρ w.jh) b [] hb1 hex;rw [List.append_nil] at hin;by_cases hm : m ∈ idsO (renO ρ w.jh)
     ·have h1 := (oget_unO (G := tgen E.h) (c := E.c) (n := m) (renO ρ w.jh) b).2 hm;cases e : oget (unO (tgen E.h) E.c (renO ρ w.jh) b) m with
      | none => exact absurd e h1
      | some y => simp only; rw [<- hin m hm, e]
     ·have h1 : oget (unO (tgen E.h) E.c (renO ρ w.jh) b) m = none := by
       cases e : oget (unO (tgen E.h) E.c (renO ρ w.jh) b) m with
       | none => rfl
       | some y => exact absurd ((oget_unO _ _).1 (by rw [e]; simp)) hm
      rw [h1];simp only;cases e : oget (keepO E.h (ownJ E ρ w.jh).kh) m with
      | some y => exact (oget_keep e).2.symm
      | none =>
       cases e2 : oget E.h m with
       | none => rfl
       | some y =>
        exfalso;refine keepO_some (ks := (ownJ E ρ w.jh).kh) ?_ (by rw [e2]; simp) e
        show m ∈ (E.h.map (·.1)).filter fun m => !mem m (idsO (renO ρ w.jh))
        rw [List.mem_filter];obtain ⟨t, ht⟩ := oget_mem e2;refine ⟨List.mem_map.2 ⟨_, ht, rfl⟩, ?_⟩;cases e3 : mem m (idsO (renO ρ w.jh)) with
        | false => rfl
        | true => exact absurd (mem_iff.1 e3) hm
    have hlen : olen E.h = olen E1.h := by funext m; unfold olen; rw [hobj]
    have hs : ∀ i, sget E.s i = sget E1.s i := fun i => by
     rw [hE1, un_sJ, sget_keep];split
     ·rfl
     ·rename_i hi;exact sget_notime (stime_none hi)
    refine ⟨_, _, _, h, ?_⟩;have core := fun γ => owCore (E0 := E) hσ hρ ho hb hx hE1 ha hnew hd hF hvs hos hlens γ hs hlen (fun m _ => by rw [hget_heap, hget_heap, hobj, hlen])
    obtain ⟨_, _, _, _, _, x4, x5⟩ := core z0;refine ⟨x4, x5, fun γ => ?_⟩;obtain ⟨v, ups, y1, y2, y3, _, _⟩ := core γ;refine ⟨γ, v, ups, fun e2 hl _ hk => y2 e2 (fun y hy => ?_) (fun m hm => ?_), y1, y3, Fx.refl _, fun hs => by simp [isSt, ho, hb] at hs⟩
    ·cases y with
     | tmp t =>
      have := look_slot (hk (.s t) (by
       unfold trd;simp only [List.mem_append, List.mem_flatMap];refine .inl (.inl (.inl ⟨.tmp t, ?_, by simp [slotOf]⟩));simp only [ho, Op.operands, Call.operands, hb, Array.toList_append];rcases List.mem_cons.1 hy with hy | hy
       ·exact List.mem_append.2 (.inl (by simp [hy]))
       ·exact List.mem_append.2 (.inr hy)))
      simp only [Env.ev, List.getD_eq_getElem?_getD, this]
     | _ => rfl
    ·have := look_id (hk (.h m) (by
      rw [List.mem_append];exact .inr (List.mem_map.2 ⟨m, hm, rfl⟩)))
     exact this
  ·cases h
 ·cases h
end Go.PG.PH
set_option linter.unusedSimpArgs false
set_option linter.unusedVariables false
namespace Go.PG.PH
open Go.ChangeMaps (setBlock)
variable {κ : Nat -> Prop} {rr : Bool}
theorem wp_loopM {ro : Option Nat} {P : Program} {c : Code} {QQ : Exit -> Act -> World -> Prop} {ι : Type} (Inv : ι -> Act -> World -> Prop) (μ : ι -> Nat)
  (hr : ∀ s a w, Inv s a w -> c.wpIn (FR ro) 0 P (fun x a' w' => match x with
   | .normal => ∃ s', Inv s' a' w' /\ μ s' < μ s
   | x => QQ x a' w') a w) (s0 : ι) (a0 : Act) (w0 : World) (h0 : Inv s0 a0 w0) : (Code.loop c).wpIn (FR ro) 0 P QQ a0 w0 := by
 intro b k cs hbo hbf hroom
 have key : ∀ n s a w, μ s = n -> Inv s a w -> ∃ ex a' w', QQ ex a' w' /\ ArrivesIn (Machine.fenced P (FR ro)) P (lone (b.atR a (.code c :: .inLoop c :: k)) cs w) b k cs ex a' w' := by
  intro n;induction n using Nat.strongRecOn with
  | _ n ih =>
   intro s a w hn hI;obtain ⟨ex, a1, w1, hq, harr⟩ := hr s a w hI b (.inLoop c :: k) cs hbo hbf hroom;cases ex with
   | normal =>
    obtain ⟨s', hI', hlt⟩ := hq;obtain ⟨ex2, a2, w2, hq2, harr2⟩ := ih (μ s') (hn ▸ hlt) s' a1 w1 rfl hI';exact ⟨ex2, a2, w2, hq2, .of_steps (StepsIn.trans harr (.one (fenced_calm (n := 0) hbf hroom rfl) stepR_inLoop)) harr2⟩
   | exit id => exact ⟨_, a1, w1, hq, .pass (x := .inLoop c) rfl (fun _ _ => .inl (by simp)) harr⟩
   | goto l => exact ⟨_, a1, w1, hq, .pass (x := .inLoop c) rfl (fun _ _ => .inl (by simp)) harr⟩
   | ret => exact ⟨_, a1, w1, hq, .pass (x := .inLoop c) rfl (fun _ _ => .inl (by simp)) harr⟩
   | panic ch => exact ⟨_, a1, w1, hq, .pass (x := .inLoop c) rfl (fun _ _ => .inl (by simp)) harr⟩
   | outgrown => exact ⟨_, a1, w1, hq, .pass (x := .inLoop c) rfl (fun _ _ => .inl (by simp)) harr⟩
 obtain ⟨ex, a', w', hq, harr⟩ := key _ s0 a0 w0 rfl h0
 exact ⟨ex, a', w', hq, .of_steps (.one (fenced_calm (n := 0) hbf hroom rfl) stepR_loop) harr⟩
theorem marks_put {B : Nat} {st : Nat -> Own} {w w' : World} {r : Nat} (h1 : ∀ b, b ≠ r -> w'.heap[b]? = w.heap[b]?) (h2 : ∀ l, w.heap[r]? ≠ some (.deferred l)) : ∀ {ds : List Deferred}, MarksOk B st w ds -> MarksOk B st w' ds
 | [], _ => trivial
 | d :: ds, ⟨⟨q, k1, k2, k3, k4⟩, k5, k6⟩ => by
  refine ⟨⟨q, k1, k2, k3, ?_⟩, k5, marks_put h1 h2 k6⟩;rw [h1 q (by rintro rfl; exact h2 _ k4)];exact k4
theorem hist_put {w0 w w' : World} {st0 st : Nat -> Own} {r : Nat} (h : HistK κ w0 st0 w st) (henv : Same3 w w') (hsz : w'.heap.size = w.heap.size) (hr : w0.heap.size <= r) (h1 : ∀ b, b ≠ r -> w'.heap[b]? = w.heap[b]?) : HistK κ w0 st0 w' st := by
 refine ⟨h.env.trans henv, by rw [hsz]; exact h.size, fun b hb hn hn' => ⟨(h.non b hb hn hn').1, by rw [h1 b (by omega)]; exact (h.non b hb hn hn').2⟩, fun b n g o hk hs => ?_⟩;rcases h.id b n g o hk hs with ⟨g1, g2⟩ | g1
 ·refine .inl ⟨g1, fun cells ty hb => ?_⟩;have hlt : b < w0.heap.size := (Array.getElem?_eq_some_iff.1 hb).1;rw [h1 b (by omega)];exact g2 cells ty hb
 ·exact .inr g1
structure MapAt (st : Nat -> Own) (w : World) (r bm : Nat) (es : Array MapEntry) (clock : Nat) (seen : Array Nat) (rem : List Nat) : Prop where
 it : w.heap[r]? = some (.mapIter (some bm) clock seen clock)
 own : st r = .none
 map : w.heap[bm]? = some (.map es clock)
 shut : st bm = .shut
 nodup : rem.Nodup
 left : ∀ i, i ∈ rem -> i < es.size
 seen : ∀ i e, es[i]? = some e -> (e.born ∈ seen.toList ↔ i ∉ rem)
theorem non_set {st : Nat -> Own} {w w1 : World} {r : Nat} (o : Obj) (hw : w1 = w \/ w1 = w.drew) (hs : st r = .none) : Non st w (setBlock w1 r o) := by
 rcases hw with rfl | rfl
 ·exact ⟨⟨rfl, rfl, rfl, by first | exact Nat.le_refl _ | exact Nat.le_succ _⟩, by simp [setBlock], fun b hb => by
   simp only [setBlock];rw [Array.getElem?_setIfInBounds, if_neg (by rintro rfl; exact hb hs)]⟩
 ·refine ⟨⟨rfl, rfl, rfl, by first | exact Nat.le_refl _ | exact Nat.le_succ _⟩, by simp [setBlock], fun b hb => ?_⟩;simp only [setBlock];rw [Array.getElem?_setIfInBounds, if_neg (by rintro rfl; exact hb hs)];rfl
theorem set_other {w w1 : World} {r b : Nat} (o : Obj) (hw : w1 = w \/ w1 = w.drew) (hb : b ≠ r) : (setBlock w1 r o).heap[b]? = w.heap[b]? := by
 rcases hw with rfl | rfl
 ·simp only [setBlock];rw [Array.getElem?_setIfInBounds, if_neg (fun e => hb e.symm)]
 ·simp only [setBlock];rw [Array.getElem?_setIfInBounds, if_neg (fun e => hb e.symm)];rfl
theorem set_at {w w1 : World} {r : Nat} (o : Obj) (hw : w1 = w \/ w1 = w.drew) (hr : r < w.heap.size) : (setBlock w1 r o).heap[r]? = some o := by
 rcases hw with rfl | rfl
 ·simp only [setBlock];rw [Array.getElem?_setIfInBounds, if_pos rfl, if_pos hr]
 ·simp only [setBlock];rw [Array.getElem?_setIfInBounds, if_pos rfl];exact if_pos hr
theorem MapAt.hist {st st' : Nat -> Own} {w w' : World} {r bm : Nat} {es : Array MapEntry} {clock : Nat} {seen : Array Nat} {rem : List Nat} (h : MapAt st w r bm es clock seen rem) (hh : HistK κ w st w' st') : MapAt st' w' r bm es clock seen rem := by
 obtain ⟨e1, e2⟩ := hh.non r (Array.getElem?_eq_some_iff.1 h.it).1 (by rw [h.own]; intro _ _ _ e; cases e) (by rw [h.own]; intro _ e; cases e);obtain ⟨e3, e4⟩ := hh.non bm (Array.getElem?_eq_some_iff.1 h.map).1 (by rw [h.shut]; intro _ _ _ e; cases e) (by rw [h.shut]; intro _ e; cases e);exact ⟨e2.trans h.it, e1.trans h.own, e4.trans h.map, e3.trans h.shut, h.nodup, h.left, h.seen⟩
theorem mapLoop {P : Program} {ro : Option Nat} {i1 i2 b0 b1 : Nat} {nx ex en : Oper} {l2 : List Oper} {body : Code} {tI tN tB tP n r : Nat} {ks vs : List V} {Q : Post} {B : Nat} (hro : rr = false -> ro = none)
  (hnx : nx.op = .next (.tmp tI) false) (hnd : nx.dst = some tN) (hng : nx.guard = none) (hex : ex.op = .extract (.tmp tN) 0) (hed : ex.dst = some tB) (heg : ex.guard = none)
  (hen : en.op = .entry (.tmp tI)) (hpd : en.dst = some tP) (hpg : en.guard = none) (hlN : tN < n) (hlB : tB < n) (h1 : tI ≠ tN) (h2 : tI ≠ tB)
  (I : List Nat -> Env -> Prop) (hIn : ∀ rem e, I rem e -> e.t.length = n) (hIr : ∀ rem e, I rem e -> e.t[tI]? = some (.blk r))
  (hend : ∀ e, I [] e -> Q .normal ((e.upd (some tN) (.tup [.bool false]) []).upd (some tB) (.bool false) []))
  (hstep : ∀ rem e i k v, I rem e -> i ∈ rem -> ks[i]? = some k -> vs[i]? = some v ->
   ∃ e2, Run κ P (en :: l2).toArray (List.range' 1 l2.length) (((e.upd (some tN) (.tup [.bool true, .dead, .dead]) []).upd (some tB) (.bool true) []).upd (some tP) (.tup [k, v]) []) e2 /\
    TrK κ rr P body e2 fun x e3 => match x with
     | .normal => ∃ e4, LeK κ e3 e4 /\ I (rem.erase i) e4
     | .exit j => if j = b1 then (∃ e4, LeK κ e3 e4 /\ I (rem.erase i) e4) else if j = b0 then Q .normal e3 else Q (.exit j) e3
     | x => Q x e3)
  {w0 : World} {st0 : Nat -> Own} (hr0 : w0.heap.size <= r) {bm : Nat} {es : Array MapEntry} {clock : Nat} (hb0 : bm < w0.heap.size) (hsh0 : st0 bm = .shut) (hmap0 : w0.heap[bm]? = some (.map es clock)) (hborn : BornOk es clock)
  (hkl : ks.length = es.size) (hvl : vs.length = es.size)
  (hks : ∀ (j : Nat) (e : MapEntry) (k : V), es[j]? = some e -> ks[j]? = some k -> RepS w0 (fun b => st0 b = .shut) k e.key)
  (hvs : ∀ (j : Nat) (e : MapEntry) (x : V), es[j]? = some e -> vs[j]? = some x -> RepS w0 (fun b => st0 b = .shut) x e.val) (hsh : ∀ b, st0 b = .shut -> b < w0.heap.size) :
  ∀ {rem : List Nat} {e : Env} {st : Nat -> Own} {a : Act} {w : World} {seen : Array Nat}, B <= w.heap.size -> Rel st e a w -> MarksOk B st w a.defers -> HistK κ w0 st0 w st -> MapAt st w r bm es clock seen rem -> I rem e ->
   (Code.block b0 (.loop (.seq (.region i1 #[nx, ex] false) (.seq (.cond (.tmp tB) .skip (.exit b0)) (.block b1 (.seq (.region i2 (en :: l2).toArray false) body)))))).wpIn (FR ro) 0 P
    (fun x a' w' => ∃ e' st', Q x e' /\ Rel st' e' a' w' /\ MarksOk B st' w' a'.defers /\ HistK κ w0 st0 w' st') a w := by
 intro rem e st a w seen hB hr hm hh hM hI
 have hndx : ∀ c, nx.op ≠ .defer c := fun c h => by rw [hnx] at h; cases h
 have hendx : ∀ c, en.op ≠ .defer c := fun c h => by rw [hen] at h; cases h
 refine wpIn_block (wp_loopM (ro := ro) (ι := List Nat) (fun rem a w => ∃ e st seen, B <= w.heap.size /\ Rel st e a w /\ MarksOk B st w a.defers /\ HistK κ w0 st0 w st /\ MapAt st w r bm es clock seen rem /\ I rem e) List.length ?_ rem a w ⟨e, st, seen, hB, hr, hm, hh, hM, hI⟩)
 clear hB hr hm hh hM hI rem e st a w seen
 rintro rem a w ⟨e, st, seen, hB, hr, hm, hh, hM, hI⟩
 have hn := hIn rem e hI
 have hptr : a.eval (.tmp tI) = .pointer (some ⟨r, 0, none⟩) := by
  have := hr.ev (.tmp tI);have h3 : e.ev (.tmp tI) = .blk r := by simp [Env.ev, List.getD_eq_getElem?_getD, hIr rem e hI]
  rw [h3] at this;exact rep_blk this
 have hrlt : r < w.heap.size := (Array.getElem?_eq_some_iff.1 hM.it).1
 have hne : bm ≠ r := by omega
 have hdef : ∀ l, w.heap[r]? ≠ some (.deferred l) := fun l h => by rw [hM.it] at h; cases h
 have wantE : ∀ (o : Oper) (ys : Nat -> Option Bool), o.guard = none -> Region.wanted o ys = true := fun o ys hg => by unfold Region.wanted; rw [hg]
 rcases run_next_at (P := P) w nx.type r bm clock clock seen es clock hM.it hM.map hborn.2 (Nat.le_refl _) with ⟨hz, hrun⟩ | ⟨en', hmem, w1, hw1, hrun⟩
 ·
  have hrem : rem = [] := by
   cases hrem : rem with
   | nil => rfl
   | cons i l =>
    exfalso;have hi : i ∈ rem := by rw [hrem]; simp
    have hlt := hM.left i hi;have hs := (hM.seen i es[i] (Array.getElem?_eq_getElem hlt));have hns : ¬ es[i].born ∈ seen.toList := fun h => (hs.1 h) hi
    have : es[i] ∈ leftOf es seen := by
     unfold leftOf;simp only [Array.mem_filter, Bool.not_eq_true'];exact ⟨Array.getElem_mem hlt, by simpa using hns⟩
    have : 0 < (leftOf es seen).size := Array.size_pos_of_mem this;omega
  subst hrem;refine wpIn_seq (wpIn_region ?_)
  show wpOpsIn (FR ro) 0 P #[nx, ex] _ [0, 1] a w
  simp only [wpOpsIn, List.getElem?_toArray, List.getElem?_cons_zero, List.getElem?_cons_succ];rw [if_pos (wantE nx _ hng)];refine wpR_value hndx (v := .tuple #[.bool false]) (w' := w) ?_ ?_
  ·unfold execOp;simp only [hnx, hptr, hrun, Sem.run_bind, Result.andThen_ok, Sem.run_pure]
  have hr1 : Rel st (e.upd nx.dst (.tup [.bool false]) []) (a.put nx.dst (.tuple #[.bool false])) w := hr.put (Fr.refl w st) (.tup rfl (fun j c v hc hv => by
   cases j with
   | zero => simp at hc hv; subst hc; subst hv; exact .s .bool
   | succ j => simp at hc)) hr.heap
  rw [if_pos (wantE ex _ heg)];have hev : (e.upd nx.dst (.tup [.bool false]) []).ev (.tmp tN) = .tup [.bool false] := by
   simp [Env.ev, Env.upd, hnd, List.getD_eq_getElem?_getD, hn, hlN]
  have hx : ExU P ex (e.upd nx.dst (.tup [.bool false]) []) (.bool false) [] := by
   unfold ExU;rw [hex];refine ⟨0, .bool false, [], ?_, VUp.refl _, UpsUp.refl _⟩;unfold eff;rw [hex];simp only [hev];rfl
  refine op_wp hr1 hx fun st' m w' hr2 hf2 => ?_
  have hcond : ((a.put nx.dst (.tuple #[.bool false])).put ex.dst m).eval (.tmp tB) = .bool false := by
   have := hr2.ev (.tmp tB);have h3 : ((e.upd nx.dst (.tup [.bool false]) []).upd ex.dst (.bool false) []).ev (.tmp tB) = .bool false := by
    simp [Env.ev, Env.upd, hnd, hed, List.getD_eq_getElem?_getD, hn, hlB]
   rw [h3] at this;exact rep_bool this
  refine wpIn_seq (wpIn_cond_false hcond (wpIn_exit ?_));simp only [Exit.then, Exit.inBlock, if_true];refine ⟨_, st', by have := hend e hI; rw [<- hed] at this; rw [<- hnd] at this; exact this, hr2, ?_, ?_⟩
  ·simp only [put_defers]; exact hm.hist (κ := κ) hf2.hist
  ·exact hh.trans hf2.hist
 ·
  unfold leftOf at hmem;simp only [Array.toList_filter, List.mem_filter, Bool.not_eq_true', Array.contains_eq_mem, decide_eq_false_iff_not] at hmem;obtain ⟨hin, hns⟩ := hmem;obtain ⟨i, hi, hei⟩ := List.mem_iff_getElem.1 hin;have hi' : i < es.size := by simpa using hi
  have hes : es[i]? = some en' := by rw [Array.getElem?_eq_getElem hi']; exact congrArg some (by simpa using hei)
  have hirem : i ∈ rem := by
   by_cases h : i ∈ rem
   ·exact h
   ·exact absurd ((hM.seen i en' hes).2 h) (by simpa using hns)
  obtain ⟨k, hk⟩ : ∃ k, ks[i]? = some k := ⟨ks[i]'(by omega), List.getElem?_eq_getElem _⟩;obtain ⟨v, hv⟩ : ∃ v, vs[i]? = some v := ⟨vs[i]'(by omega), List.getElem?_eq_getElem _⟩;obtain ⟨e2, hrun2, hbody⟩ := hstep rem e i k v hI hirem hk hv;obtain ⟨w2, hw2⟩ : ∃ w2, w2 = setBlock w1 r (.mapIter (some bm) clock (seen.push en'.born) clock) := ⟨_, rfl⟩;rw [<- hw2] at hrun;have hnon : Non st w w2 := by rw [hw2]; exact non_set _ hw1 hM.own
  have hoth : ∀ b, b ≠ r -> w2.heap[b]? = w.heap[b]? := fun b hb => by rw [hw2]; exact set_other _ hw1 hb
  have hM2 : MapAt st w2 r bm es clock (seen.push en'.born) (rem.erase i) := by
   refine ⟨by rw [hw2]; exact set_at _ hw1 hrlt, hM.own, by rw [hoth bm hne]; exact hM.map, hM.shut, hM.nodup.erase i, fun j hj => hM.left j (List.mem_of_mem_erase hj), fun j e' he' => ?_⟩;simp only [Array.toList_push, List.mem_append, List.mem_singleton];rw [hM.nodup.mem_erase_iff];constructor
   ·rintro (h | h)
    ·exact fun hj => (hM.seen j e' he').1 h hj.2
    ·rintro ⟨hji, _⟩;apply hji;have hnd := hborn.1;have hj' : j < es.size := (Array.getElem?_eq_some_iff.1 he').1;have ej : es.toList[j]'(by simpa using hj') = e' := by
      have := (Array.getElem?_eq_some_iff.1 he').2;simpa using this
     have ei : es.toList[i]'hi = en' := hei;have hp := List.pairwise_iff_getElem.1 hnd;have lj : j < (List.map (fun x => x.born) es.toList).length := by simpa using hj'
     have li : i < (List.map (fun x => x.born) es.toList).length := by simpa using hi'
     have same : (List.map (fun x => x.born) es.toList)[j] = (List.map (fun x => x.born) es.toList)[i] := by rw [List.getElem_map, List.getElem_map, ej, ei, h]
     rcases Nat.lt_trichotomy j i with hlt | heq | hgt
     ·exact absurd same (hp j i lj li hlt)
     ·exact heq
     ·exact absurd same.symm (hp i j li lj hgt)
   ·intro h;by_cases hji : j = i
    ·subst hji;rw [hes] at he'; cases he';exact .inr rfl
    ·exact .inl ((hM.seen j e' he').2 fun hj => h ⟨hji, hj⟩)
  refine wpIn_seq (wpIn_region ?_)
  show wpOpsIn (FR ro) 0 P #[nx, ex] _ [0, 1] a w
  simp only [wpOpsIn, List.getElem?_toArray, List.getElem?_cons_zero, List.getElem?_cons_succ];rw [if_pos (wantE nx _ hng)];refine wpR_value hndx (v := .tuple #[.bool true, en'.key, en'.val]) (w' := w2) ?_ ?_
  ·unfold execOp;simp only [hnx, hptr, hrun, Sem.run_bind, Result.andThen_ok, Sem.run_pure]
  have hrn := hr.non hnon;have hr1 : Rel st (e.upd nx.dst (.tup [.bool true, .dead, .dead]) []) (a.put nx.dst (.tuple #[.bool true, en'.key, en'.val])) w2 := hrn.put (Fr.refl w2 st) (.tup rfl (fun j c v hc hv => by
   match j, hc, hv with
   | 0, hc, hv => simp at hc hv; subst hc; subst hv; exact .s .bool
   | 1, hc, hv => simp at hc; subst hc; exact .dead
   | 2, hc, hv => simp at hc; subst hc; exact .dead
   | (j + 3), hc, hv => simp at hc)) hrn.heap
  rw [if_pos (wantE ex _ heg)];have hev : (e.upd nx.dst (.tup [.bool true, .dead, .dead]) []).ev (.tmp tN) = .tup [.bool true, .dead, .dead] := by
   simp [Env.ev, Env.upd, hnd, List.getD_eq_getElem?_getD, hn, hlN]
  have hx : ExU P ex (e.upd nx.dst (.tup [.bool true, .dead, .dead]) []) (.bool true) [] := by
   unfold ExU;rw [hex];refine ⟨0, .bool true, [], ?_, VUp.refl _, UpsUp.refl _⟩;unfold eff;rw [hex];simp only [hev];rfl
  have hm2 : MarksOk B st w2 a.defers := marks_put hoth hdef hm;have hh2 : HistK κ w0 st0 w2 st := hist_put hh hnon.env hnon.size hr0 hoth;have hB2 : B <= w2.heap.size := by rw [hnon.size]; exact hB
  refine op_wp hr1 hx fun st' m w' hr2 hf2 => ?_
  have hcond : ((a.put nx.dst (.tuple #[.bool true, en'.key, en'.val])).put ex.dst m).eval (.tmp tB) = .bool true := by
   have := hr2.ev (.tmp tB);have h3 : ((e.upd nx.dst (.tup [.bool true, .dead, .dead]) []).upd ex.dst (.bool true) []).ev (.tmp tB) = .bool true := by
    simp [Env.ev, Env.upd, hnd, hed, List.getD_eq_getElem?_getD, hn, hlB]
   rw [h3] at this;exact rep_bool this
  have hM3 := hM2.hist (κ := κ) hf2.hist;have hh3 : HistK κ w0 st0 w' st' := hh2.trans hf2.hist;have hptr2 : ((a.put nx.dst (.tuple #[.bool true, en'.key, en'.val])).put ex.dst m).eval (.tmp tI) = .pointer (some ⟨r, 0, none⟩) := by
   have := hr2.ev (.tmp tI);have h3 : ((e.upd nx.dst (.tup [.bool true, .dead, .dead]) []).upd ex.dst (.bool true) []).ev (.tmp tI) = .blk r := by
    simp only [Env.ev, Env.upd, hnd, hed, List.getD_eq_getElem?_getD];rw [List.getElem?_set_ne (Ne.symm h2), List.getElem?_set_ne (Ne.symm h1), hIr rem e hI];rfl
   rw [h3] at this;exact rep_blk this
  refine wpIn_seq (wpIn_cond_true hcond (wpIn_skip ?_));refine wpIn_block (wpIn_seq (wpIn_region ?_));have hrange : List.range (en :: l2).toArray.size = 0 :: List.range' 1 l2.length := by
   simp [List.range_eq_range', List.range'_succ]
  rw [hrange];simp only [wpOpsIn, List.getElem?_toArray, List.getElem?_cons_zero];rw [if_pos (wantE en _ hpg)];refine wpR_value hendx (v := .tuple #[en'.key, en'.val]) (w' := w') ?_ ?_
  ·unfold execOp;simp only [hen, hptr2, run_entry_at w' r bm clock seen es clock en' hM3.it hM3.map hin hborn.1, Sem.run_bind, Result.andThen_ok, Sem.run_pure]
  have hold : ∀ b, st0 b = .shut -> st' b = .shut /\ w'.heap[b]? = w0.heap[b]? := fun b hb => by
   obtain ⟨e1, e2⟩ := hh3.non b (hsh b hb) (by rw [hb]; intro _ _ _ e; cases e) (by rw [hb]; intro _ e; cases e);exact ⟨e1.trans hb, e2⟩
  have hr3 := hr2.put (dst := en.dst) (ups := []) (Fr.refl w' st') (v := .tup [k, v]) (m := .tuple #[en'.key, en'.val]) (.tup rfl (fun j c x hc hx => by
   match j, hc, hx with
   | 0, hc, hx => simp at hc hx; subst hc; subst hx; exact .s ((hks i en' _ hes hk).frame hold)
   | 1, hc, hx => simp at hc hx; subst hc; subst hx; exact .s ((hvs i en' _ hes hv).frame hold)
   | (j + 2), hc, hx => simp at hc)) hr2.heap
  have hrun3 : Run κ P (en :: l2).toArray (List.range' 1 l2.length) (((e.upd nx.dst (.tup [.bool true, .dead, .dead]) []).upd ex.dst (.bool true) []).upd en.dst (.tup [k, v]) []) e2 := by rw [hnd, hed, hpd]; exact hrun2
  refine run_wp hrun3 hr3 fun st4 a4 w4 hr4 hh4 hd4 => ?_
  have hm4 : MarksOk B st4 w4 a4.defers := by
   rw [hd4];simp only [put_defers];exact (hm2.hist hf2.hist (κ := κ)).hist hh4
  have hB4 : B <= w4.heap.size := Nat.le_trans hB2 (Nat.le_trans hf2.size hh4.size);have hM4 := hM3.hist hh4;have hh5 := hh3.trans hh4;refine wpIn_mono (hbody ro B st4 a4 w4 hro hB4 hr4 hm4) ?_;rintro x a5 w5 ⟨e5, st5, hq, hr5, hm5, hh6⟩;have again : (∃ e4, LeK κ e5 e4 /\ I (rem.erase i) e4) -> ∃ s', (∃ e st seen, B <= w5.heap.size /\ Rel st e a5 w5 /\ MarksOk B st w5 a5.defers /\ HistK κ w0 st0 w5 st /\ MapAt st w5 r bm es clock seen s' /\ I s' e) /\ s'.length < rem.length := by
   rintro ⟨e6, hle, hI6⟩;obtain ⟨st6, hr6, hh7⟩ := hle st5 a5 w5 hr5;refine ⟨rem.erase i, ⟨e6, st6, _, Nat.le_trans hB4 hh6.size, hr6, hm5.hist hh7, (hh5.trans hh6).trans hh7, (hM4.hist hh6).hist hh7, hI6⟩, ?_⟩;rw [List.length_erase_of_mem hirem];have := List.length_pos_of_mem hirem;omega
  cases x with
  | normal => exact again hq
  | exit j =>
   simp only [Exit.inBlock] at hq ⊢;by_cases hj : j = b1
   ·rw [if_pos hj] at hq ⊢;exact again hq
   ·rw [if_neg hj] at hq ⊢;by_cases hj0 : j = b0
    ·rw [if_pos hj0] at hq ⊢;exact ⟨e5, st5, hq, hr5, hm5, hh5.trans hh6⟩
    ·rw [if_neg hj0] at hq ⊢;exact ⟨e5, st5, hq, hr5, hm5, hh5.trans hh6⟩
  | goto l => exact ⟨e5, st5, hq, hr5, hm5, hh5.trans hh6⟩
  | ret => exact ⟨e5, st5, hq, hr5, hm5, hh5.trans hh6⟩
  | panic ch => exact ⟨e5, st5, hq, hr5, hm5, hh5.trans hh6⟩
  | outgrown => exact ⟨e5, st5, hq, hr5, hm5, hh5.trans hh6⟩
theorem run_wp_app {ro : Option Nat} {P : Program} {ops : Array Oper} {is is2 : List Nat} {e e' : Env} (h : Run κ P ops is e e') : ∀ {st a w} {Q : Exit -> Act -> World -> Prop}, Rel st e a w ->
  (∀ st' a' w', Rel st' e' a' w' -> HistK κ w st w' st' -> a'.defers = a.defers -> wpOpsIn (FR ro) 0 P ops Q is2 a' w') -> wpOpsIn (FR ro) 0 P ops Q (is ++ is2) a w := by
 induction h with
 | nil => intro st a w Q hr hq; exact hq st a w hr (HistK.refl w st) rfl
 | @skip i rest o e e' hi hg _ ih =>
  intro st a w Q hr hq;simp only [List.cons_append, wpOpsIn, hi, gd_ok hr hg, Bool.false_eq_true, if_false];exact ⟨fun _ _ => trivial, ih (hr.put (Fr.refl w st) (.s (.tup rfl (by simp))) hr.heap) fun st' a' w' h1 h2 h3 => hq st' a' w' h1 h2 (h3.trans (put_defers _ _ _))⟩
 | opw hi hg hl hx _ ih =>
  intro st a w Q hr hq;simp only [List.cons_append, wpOpsIn, hi, gd_ok hr hg, if_true];obtain ⟨st1, hr1, hh1⟩ := hl st a w hr;exact op_wp hr1 hx fun st' m w' h1 h2 => ih h1 fun st2 a2 w2 h3 h4 h5 => hq st2 a2 w2 h3 (hh1.trans (h2.hist.trans h4)) (h5.trans (put_defers _ _ _))
 | op hi hg hx _ ih =>
  intro st a w Q hr hq;simp only [List.cons_append, wpOpsIn, hi, gd_ok hr hg, if_true];exact op_wp hr hx fun st' m w' h1 h2 => ih h1 fun st2 a2 w2 h3 h4 h5 => hq st2 a2 w2 h3 (h2.hist.trans h4) (h5.trans (put_defers _ _ _))
theorem updO_top {w : World} {st : Nat -> Own} {h : Heap} (hh : HeapOk w st h) : updO st w.heap.size .none = st := by
 funext b;unfold updO;split
 ·rename_i e; rw [e, hh.top]
 ·rfl
theorem heap_alloc_none {w : World} {st : Nat -> Own} {h : Heap} (hh : HeapOk w st h) (o : Obj) : HeapOk (w.alloc o) st h /\ Fr w st (w.alloc o) st := by
 have hf := fr_alloc hh o .none;rw [updO_top hh] at hf;refine ⟨⟨fun n x hx => (hh.ob n x hx).keep hh.shut hf (fun b g o' hb => ⟨hb, by show (w.heap.push o)[b]? = _; rw [Array.getElem?_push, if_neg (by have := (hh.dom _ _ _ _ hb).1; omega)]⟩) (fun b g o' hb => ⟨_, _, _, hb⟩), fun b n g o' hb => ⟨?_, (hh.dom _ _ _ _ hb).2⟩, hh.inj, fun b hb => ?_, fun b s hb => ?_⟩, hf⟩
 ·rw [size_alloc]; have := (hh.dom _ _ _ _ hb).1; omega
 ·rw [size_alloc]; have := hh.shut b hb; omega
 ·rw [size_alloc]; have := hh.hid b s hb; omega
theorem run_range_map {P : Program} {w : World} {tm : TypeId} {k v : TypeId} {bm : Nat} {es : Array MapEntry} {clock : Nat} (ht : P.underlying tm = some (.map k v)) (hb : w.heap[bm]? = some (.map es clock)) :
  (Instr.range tm (.map (some bm))).run P w = .ok (.pointer (some ⟨w.heap.size, 0, none⟩)) (w.alloc (.mapIter (some bm) clock #[] clock)) := by
 simp [Instr.range, run_underlying ht, getObj, Sem.run, hb, newObj, Result.andThen]
theorem run_range_nil {P : Program} {w : World} {tm : TypeId} {k v : TypeId} (ht : P.underlying tm = some (.map k v)) :
  (Instr.range tm (.map none)).run P w = .ok (.pointer (some ⟨w.heap.size, 0, none⟩)) (w.alloc (.mapIter none 0 #[] 0)) := by
 simp [Instr.range, run_underlying ht, newObj, Sem.run, Result.andThen]
theorem mapLoopNil {P : Program} {ro : Option Nat} {i1 b0 : Nat} {nx ex : Oper} {rest : Code} {tI tN tB n r : Nat} {Q : Post} {B : Nat}
  (hnx : nx.op = .next (.tmp tI) false) (hnd : nx.dst = some tN) (hng : nx.guard = none) (hex : ex.op = .extract (.tmp tN) 0) (hed : ex.dst = some tB) (heg : ex.guard = none)
  (hlN : tN < n) (hlB : tB < n) {e : Env} (hn : e.t.length = n) (hI : e.t[tI]? = some (.blk r))
  (hend : Q .normal ((e.upd (some tN) (.tup [.bool false]) []).upd (some tB) (.bool false) []))
  {w0 : World} {st0 : Nat -> Own} {st : Nat -> Own} {a : Act} {w : World} (hr : Rel st e a w) (hm : MarksOk B st w a.defers) (hh : HistK κ w0 st0 w st) (hit : w.heap[r]? = some (.mapIter none 0 #[] 0)) :
  (Code.block b0 (.loop (.seq (.region i1 #[nx, ex] false) (.seq (.cond (.tmp tB) .skip (.exit b0)) rest)))).wpIn (FR ro) 0 P
   (fun x a' w' => ∃ e' st', Q x e' /\ Rel st' e' a' w' /\ MarksOk B st' w' a'.defers /\ HistK κ w0 st0 w' st') a w := by
 have hndx : ∀ c, nx.op ≠ .defer c := fun c h => by rw [hnx] at h; cases h
 have wantE : ∀ (o : Oper) (ys : Nat -> Option Bool), o.guard = none -> Region.wanted o ys = true := fun o ys hg => by unfold Region.wanted; rw [hg]
 refine wpIn_block (wp_loopM (ro := ro) (ι := Unit) (fun _ a' w' => a' = a /\ w' = w) (fun _ => 0) ?_ () a w ⟨rfl, rfl⟩)
 rintro _ a' w' ⟨rfl, rfl⟩
 have hptr : a'.eval (.tmp tI) = .pointer (some ⟨r, 0, none⟩) := by
  have := hr.ev (.tmp tI);have h3 : e.ev (.tmp tI) = .blk r := by simp [Env.ev, List.getD_eq_getElem?_getD, hI]
  rw [h3] at this;exact rep_blk this
 have hrun : (Instr.next (.pointer (some ⟨r, 0, none⟩)) false nx.type).run P w' = .ok (.tuple #[.bool false]) w' := by
  simp [Instr.next, getObj, Sem.run, hit, Result.andThen]
 refine wpIn_seq (wpIn_region ?_)
 show wpOpsIn (FR ro) 0 P #[nx, ex] _ [0, 1] a' w'
 simp only [wpOpsIn, List.getElem?_toArray, List.getElem?_cons_zero, List.getElem?_cons_succ]
 rw [if_pos (wantE nx _ hng)]
 refine wpR_value hndx (v := .tuple #[.bool false]) (w' := w') ?_ ?_
 ·unfold execOp;simp only [hnx, hptr, hrun, Sem.run_bind, Result.andThen_ok, Sem.run_pure]
 have hr1 : Rel st (e.upd nx.dst (.tup [.bool false]) []) (a'.put nx.dst (.tuple #[.bool false])) w' := hr.put (Fr.refl w' st) (.tup rfl (fun j c v hc hv => by
  cases j with
  | zero => simp at hc hv; subst hc; subst hv; exact .s .bool
  | succ j => simp at hc)) hr.heap
 rw [if_pos (wantE ex _ heg)]
 have hev : (e.upd nx.dst (.tup [.bool false]) []).ev (.tmp tN) = .tup [.bool false] := by
  simp [Env.ev, Env.upd, hnd, List.getD_eq_getElem?_getD, hn, hlN]
 have hx : ExU P ex (e.upd nx.dst (.tup [.bool false]) []) (.bool false) [] := by
  unfold ExU;rw [hex];refine ⟨0, .bool false, [], ?_, VUp.refl _, UpsUp.refl _⟩;unfold eff;rw [hex];simp only [hev];rfl
 refine op_wp hr1 hx fun st' m w2 hr2 hf2 => ?_
 have hcond : ((a'.put nx.dst (.tuple #[.bool false])).put ex.dst m).eval (.tmp tB) = .bool false := by
  have := hr2.ev (.tmp tB);have h3 : ((e.upd nx.dst (.tup [.bool false]) []).upd ex.dst (.bool false) []).ev (.tmp tB) = .bool false := by
   simp [Env.ev, Env.upd, hnd, hed, List.getD_eq_getElem?_getD, hn, hlB]
  rw [h3] at this;exact rep_bool this
 refine wpIn_seq (wpIn_cond_false hcond (wpIn_exit ?_))
 simp only [Exit.then, Exit.inBlock, if_true]
 refine ⟨_, st', by have := hend; rw [<- hed] at this; rw [<- hnd] at this; exact this, hr2, ?_, ?_⟩
 ·simp only [put_defers]; exact hm.hist (κ := κ) hf2.hist
 ·exact hh.trans hf2.hist
theorem rep_mp {w st ks vs m} (h : Rep w st (.mp ks vs) m) : (m = .map none /\ ks = [] /\ vs = []) \/ ∃ b es clock, m = .map (some b) /\ st b = .shut /\ w.heap[b]? = some (.map es clock) /\ ks.length = es.size /\ vs.length = es.size /\ BornOk es clock /\
  (∀ (j : Nat) (e : MapEntry) (k : V), es[j]? = some e -> ks[j]? = some k -> RepS w (fun b => st b = .shut) k e.key) /\ (∀ (j : Nat) (e : MapEntry) (x : V), es[j]? = some e -> vs[j]? = some x -> RepS w (fun b => st b = .shut) x e.val) := by
 cases h with
 | s h =>
  cases h with
  | mpnil => exact .inl ⟨rfl, rfl, rfl⟩
  | mp hs hb hk hv hl h1 h2 => exact .inr ⟨_, _, _, rfl, hs, hb, hk, hv, hl.2, h1, h2⟩
 | stale ht => simp [V.tok] at ht
theorem tr_mapRange {P : Program} {i0 i1 i2 b0 b1 : Nat} {l0 : List Oper} {rg nx ex en : Oper} {l2 : List Oper} {body : Code} {tI tN tB tP n : Nat} {tm : TypeId} {x : Operand} {kk vv : TypeId} {e e0 : Env} {ks vs : List V} {Q : Post}
  (hrg : rg.op = .range tm x) (hrd : rg.dst = some tI) (hrgg : rg.guard = none) (ht : P.underlying tm = some (.map kk vv))
  (hnx : nx.op = .next (.tmp tI) false) (hnd : nx.dst = some tN) (hng : nx.guard = none) (hex : ex.op = .extract (.tmp tN) 0) (hed : ex.dst = some tB) (heg : ex.guard = none)
  (hen : en.op = .entry (.tmp tI)) (hpd : en.dst = some tP) (hpg : en.guard = none) (hlN : tN < n) (hlB : tB < n) (h1 : tI ≠ tN) (h2 : tI ≠ tB)
  (hrun : Run κ P (l0 ++ [rg]).toArray (List.range l0.length) e e0) (hev : e0.ev x = .mp ks vs)
  (H : ∀ r : Nat, ∃ I : List Nat -> Env -> Prop, (∃ e1, LeK κ (e0.upd (some tI) (.blk r) []) e1 /\ I (List.range ks.length) e1) /\ (∀ rem e, I rem e -> e.t.length = n /\ e.t[tI]? = some (.blk r)) /\
   (∀ e, I [] e -> Q .normal ((e.upd (some tN) (.tup [.bool false]) []).upd (some tB) (.bool false) [])) /\
   ∀ rem e i k v, I rem e -> i ∈ rem -> ks[i]? = some k -> vs[i]? = some v ->
    ∃ e2, Run κ P (en :: l2).toArray (List.range' 1 l2.length) (((e.upd (some tN) (.tup [.bool true, .dead, .dead]) []).upd (some tB) (.bool true) []).upd (some tP) (.tup [k, v]) []) e2 /\
     TrK κ rr P body e2 fun x e3 => match x with
      | .normal => ∃ e4, LeK κ e3 e4 /\ I (rem.erase i) e4
      | .exit j => if j = b1 then (∃ e4, LeK κ e3 e4 /\ I (rem.erase i) e4) else if j = b0 then Q .normal e3 else Q (.exit j) e3
      | x => Q x e3) :
  TrK κ rr P (.seq (.region i0 (l0 ++ [rg]).toArray false) (.block b0 (.loop (.seq (.region i1 #[nx, ex] false) (.seq (.cond (.tmp tB) .skip (.exit b0)) (.block b1 (.seq (.region i2 (en :: l2).toArray false) body))))))) e Q := by
 intro ro B st a w hro hB hr hm
 have hrdx : ∀ c, rg.op ≠ .defer c := fun c h => by rw [hrg] at h; cases h
 refine wpIn_seq (wpIn_region ?_)
 have hrange : List.range (l0 ++ [rg]).toArray.size = List.range l0.length ++ [l0.length] := by
  simp [List.range_succ]
 rw [hrange]
 refine run_wp_app hrun hr fun st1 a1 w1 hr1 hh1 hd1 => ?_
 simp only [wpOpsIn, List.getElem?_toArray, List.getElem?_append_right (Nat.le_refl _), Nat.sub_self, List.getElem?_cons_zero]
 rw [if_pos (by unfold Region.wanted; rw [hrgg])]
 have hxr := hr1.ev x
 rw [hev] at hxr
 have hm1 : MarksOk B st1 w1 a1.defers := by rw [hd1]; exact hm.hist hh1
 have hB1 : B <= w1.heap.size := Nat.le_trans hB hh1.size
 obtain ⟨I, ⟨e1, hle, hI0⟩, hIr, hend, hstep⟩ := H w1.heap.size
 have after : ∀ obj : Obj, Rel st1 (e0.upd (some tI) (.blk w1.heap.size) []) (a1.put rg.dst (.pointer (some ⟨w1.heap.size, 0, none⟩))) (w1.alloc obj) /\ Fr w1 st1 (w1.alloc obj) st1 := fun obj => by
  obtain ⟨g1, g2⟩ := heap_alloc_none hr1.heap obj;have := hr1.put (dst := rg.dst) (ups := []) g2 (v := .blk w1.heap.size) (m := .pointer (some ⟨w1.heap.size, 0, none⟩)) .blk g1;rw [hrd] at this;rw [hrd];exact ⟨this, g2⟩
 have htop : ∀ st2 (w2 : World), HistK κ w1 st1 w2 st2 -> True := fun _ _ _ => trivial
 rcases rep_mp hxr with ⟨hx0, rfl, rfl⟩ | ⟨bm, es, clock, hx0, hsh, hmap, hkl, hvl, hborn, hks, hvs⟩
 ·refine wpR_value hrdx (v := .pointer (some ⟨w1.heap.size, 0, none⟩)) (w' := w1.alloc (.mapIter none 0 #[] 0)) ?_ ?_
  ·unfold execOp;simp only [hrg, hx0, run_range_nil ht, Sem.run_bind, Result.andThen_ok, Sem.run_pure]
  obtain ⟨q1, q2⟩ := after (.mapIter none 0 #[] 0);obtain ⟨st2, hr2, hh2⟩ := hle _ _ _ q1;have hh3 := (q2.hist (κ := κ)).trans hh2;refine wpIn_mono (mapLoopNil (κ := κ) (Q := Q) (B := B) hnx hnd hng hex hed heg hlN hlB (hIr _ _ hI0).1 (hIr _ _ hI0).2 (hend _ hI0) hr2 (by rw [put_defers]; exact hm1.hist hh3) (hh1.trans hh3) ?_) fun _ _ _ h => h
  have hs := (hh2.non w1.heap.size (by rw [size_alloc]; omega) (by rw [hr1.heap.top]; intro _ _ _ e; cases e) (by rw [hr1.heap.top]; intro _ e; cases e)).2;rw [hs];exact heap_alloc_new w1 _
 ·refine wpR_value hrdx (v := .pointer (some ⟨w1.heap.size, 0, none⟩)) (w' := w1.alloc (.mapIter (some bm) clock #[] clock)) ?_ ?_
  ·unfold execOp;simp only [hrg, hx0, run_range_map ht hmap, Sem.run_bind, Result.andThen_ok, Sem.run_pure]
  obtain ⟨q1, q2⟩ := after (.mapIter (some bm) clock #[] clock);obtain ⟨st2, hr2, hh2⟩ := hle _ _ _ q1;have hh3 := (q2.hist (κ := κ)).trans hh2;have hbm : bm < w1.heap.size := (Array.getElem?_eq_some_iff.1 hmap).1;have hs := hh2.non w1.heap.size (by rw [size_alloc]; omega) (by rw [hr1.heap.top]; intro _ _ _ e; cases e) (by rw [hr1.heap.top]; intro _ e; cases e);have hs2 := hh3.non bm hbm (by rw [hsh]; intro _ _ _ e; cases e) (by rw [hsh]; intro _ e; cases e);refine wpIn_mono (mapLoop (κ := κ) (rr := rr) (ks := ks) (vs := vs) (Q := Q) (B := B) hro hnx hnd hng hex hed heg hen hpd hpg hlN hlB h1 h2 I (fun rem e h => (hIr rem e h).1) (fun rem e h => (hIr rem e h).2) hend hstep (Nat.le_refl _) hbm hsh hmap hborn hkl hvl hks hvs hr1.heap.shut
   (Nat.le_trans hB1 hh3.size) hr2 (by rw [put_defers]; exact hm1.hist hh3) hh3 (seen := #[]) ⟨by rw [hs.2]; exact heap_alloc_new w1 _, hs.1.trans hr1.heap.top, hs2.2.trans hmap, hs2.1.trans hsh, List.nodup_range, fun i hi => by rw [<- hkl]; simpa using hi, fun i e' he' => by
    have : i < es.size := (Array.getElem?_eq_some_iff.1 he').1;simp [hkl, this]⟩ hI0) fun x a' w' ⟨e', st', k1, k2, k3, k4⟩ => ⟨e', st', k1, k2, k3, hh1.trans k4⟩
end Go.PG.PH
set_option linter.unusedSimpArgs false
set_option linter.unusedVariables false
namespace Go.PG.PH
variable {rr : Bool}
def TE.lit (E : TE) (d : Nat) (b : Bool) : TE := ⟨(d, (match stime E.s d with | some c => c | none => 0), .leaf .bool b) :: E.s, E.h, E.m, E.c⟩
theorem lit_get {E : TE} {d : Nat} {b : Bool} (h : sget E.s d = .leaf .bool b) (i : Nat) : sget (E.lit d b).s i = sget E.s i /\ stime (E.lit d b).s i = stime E.s i := by
 unfold TE.lit;simp only [sget, stime];cases e : Nat.beq i d with
 | false => exact ⟨rfl, rfl⟩
 | true =>
  have := beqs e; subst this;refine ⟨h.symm, ?_⟩;cases ht : stime E.s i with
  | none => rw [sget_notime ht] at h; cases h
  | some c => rfl
theorem lit_env {E : TE} {d : Nat} {b : Bool} (h : sget E.s d = .leaf .bool b) (n : Nat) (γ : Nat -> Nat) : (E.lit d b).env n γ = E.env n γ := by
 unfold TE.env SE;simp only [Env.mk.injEq];refine ⟨?_, rfl⟩;apply List.map_congr_left;intro i _;rw [show aget ((E.lit d b).slots γ) i = _ from aget_slots _ _ _ _, show aget (E.slots γ) i = _ from aget_slots _ _ _ _, (lit_get h i).1];rfl
theorem lit_ext {E : TE} {d : Nat} {b : Bool} (h : sget E.s d = .leaf .bool b) : Ext E (E.lit d b) :=
 ⟨Nat.le_refl _, fun i c h1 _ => by rw [(lit_get h i).2] at h1; exact ⟨h1, (lit_get h i).1⟩, fun i c h1 _ => ⟨h1, rfl⟩⟩
theorem lit_ok {E : TE} {d : Nat} {b : Bool} (h : sget E.s d = .leaf .bool b) (hE : E.ok) : (E.lit d b).ok := by
 intro m hm;obtain ⟨g1, g2, g3⟩ := hE m hm;exact ⟨by rw [(lit_get h _).1]; exact g1, by rw [(lit_get h _).1]; exact g2, g3⟩
def wkK (dst : Option Nat) (wk : List Nat) : List Key := (match dst with | some d => [.s d] | none => []) ++ wk.map Key.h
def disN (G : List Nat) : List Nat -> Bool
 | [] => true
 | m :: r => match memN m G with
  | true => false
  | false => disN G r
def gOk (G : List Nat) (o : Oper) (wk : List Nat) : Bool := match isSt o with
 | true => true
 | false => disN G wk
theorem disN_ok {G : List Nat} : ∀ {l : List Nat}, disN G l = true -> ∀ m ∈ l, m ∉ G
 | [], _, m, hm => by cases hm
 | a :: r, h, m, hm => by
  simp only [disN] at h;split at h
  ·cases h
  ·rename_i ha;rcases List.mem_cons.1 hm with rfl | hm
   ·intro hg; rw [memN_iff.2 hg] at ha; cases ha
   ·exact disN_ok h m hm
structure Cs (P : Program) where
 c : List (Ct P)
 o : List (Ow P)
mutual
def Sh.fnsOk : Sh -> TV -> Bool
 | .fn f cs, v => match v with
  | .fn f' vs => match Nat.beq f' f with
   | true => Sh.fnsOkL cs vs
   | false => false
  | _ => false
 | .dt _, _ => true
 | .wn _ _, v => match v with
  | .sof _ _ _ => true
  | .nil => true
  | _ => false
 | .pt _ _ _, v => match v with
  | .ep _ _ _ _ _ => true
  | _ => false
 | .nl, _ => true
 | .ag _, _ => true
 | .np, _ => true
 | .nf, _ => true
 | .ws _ _, v => match v with
  | .so _ _ _ _ _ => true
  | .sof _ _ _ => true
  | .nil => true
  | _ => false
 | .mp _, v => match v with
  | .mo _ _ => true
  | _ => false
def Sh.fnsOkL : List Sh -> List TV -> Bool
 | c :: cs, v :: vs => match c.fnsOk v with
  | true => Sh.fnsOkL cs vs
  | false => false
 | _, _ => true
end
def Ow.find {P : Program} : List (Ow P) -> FuncId -> List TV -> Option (Ow P)
 | [], _, _ => none
 | w :: r, f, vs => match Nat.beq w.f f, Sh.fnsOkL w.js vs with
  | true, true => some w
  | _, _ => find r f vs
theorem Ow.find_ok {P : Program} {f : FuncId} {vs : List TV} {w : Ow P} : ∀ {l : List (Ow P)}, Ow.find l f vs = some w -> w.f = f
 | [], h => by cases h
 | a :: r, h => by
  simp only [find] at h;split at h
  ·rename_i e _; cases h; exact beqs e
  ·exact find_ok h
def owOf {P : Program} (ws : List (Ow P)) (n : Nat) (o : Oper) (E : TE) : Option (Ow P × List TV) := match o.op with
 | .call c => match c.callee with
  | .value x => match tev E n x with
   | .fn f caps => match Ow.find ws f (c.args.toList.map (tev E n) ++ caps) with
    | some w => some (w, c.args.toList.map (tev E n) ++ caps)
    | none => none
   | _ => none
  | _ => none
 | _ => none
def dstep {R : Type} {P : Program} (cs : Cs P) (n : Nat) (o : Oper) (E : TE) (k : K R) : Option R := match owOf cs.o n o E with
 | some (w, args) => towK w o E args k (swL (idsC E (o.dst.getD 0) w.js w.jh w.rh args))
 | none => tstep P cs.c n o E k
theorem dstep_ok {R : Type} {P : Program} {cs : Cs P} {G : List Nat} {ops : Array Oper} {n : Nat} {o : Oper} {E : TE} {k : K R} {r : R} (hE : E.ok) (h : dstep cs n o E k = some r) : ∃ E' wk rd, k wk rd E' = some r /\ Stp P G ops n o E E' wk rd := by
 unfold dstep at h;split at h
 ·rename_i w args hw;unfold owOf at hw;split at hw
  ·rename_i c ho;split at hw
   ·rename_i x hb;split at hw
    ·rename_i f caps hx;split at hw
     ·rename_i w' hf;cases hw;exact towK_ok (swI_swL _) (swL_swI _) ho hb (by rw [hx, Ow.find_ok hf]) h
     ·cases hw
    ·cases hw
   ·cases hw
  ·cases hw
 ·exact tstep_ok hE h
def exD {R : Type} (P : Program) (cs : Cs P) (n : Nat) (G : List Nat) (ops : Array Oper) : List (Nat × Oper) -> TE -> List Inf -> (List Inf -> TE -> Option R) -> Option R
 | [], E, acc, k => k acc.reverse E
 | (i, o) :: os, E, acc, k =>
  match o.guard with
  | none => dstep cs n o E fun wk rd E' => match gOk G o wk with
   | true => exD P cs n G ops os E' (⟨i, wkK o.dst wk, trd G ops o E n ++ rd.map Key.h⟩ :: acc) k
   | false => none
  | some (j, want) => match dstOf ops j with
   | none => none
   | some d => match E.get n d with
    | .leaf .bool b => cond b
     (match want with
      | true => dstep cs n o (E.lit d true) fun wk rd E' => match gOk G o wk with
       | true => exD P cs n G ops os E' (⟨i, wkK o.dst wk, trd G ops o (E.lit d true) n ++ rd.map Key.h⟩ :: acc) k
       | false => none
      | false => exD P cs n G ops os ((E.lit d true).put o.dst (.tup [])) (⟨i, wkK o.dst [], trd G ops o (E.lit d true) n⟩ :: acc) k)
     (match want with
      | true => exD P cs n G ops os ((E.lit d false).put o.dst (.tup [])) (⟨i, wkK o.dst [], trd G ops o (E.lit d false) n⟩ :: acc) k
      | false => dstep cs n o (E.lit d false) fun wk rd E' => match gOk G o wk with
       | true => exD P cs n G ops os E' (⟨i, wkK o.dst wk, trd G ops o (E.lit d false) n ++ rd.map Key.h⟩ :: acc) k
       | false => none)
    | .tup [] => exD P cs n G ops os (E.put o.dst (.tup [])) (⟨i, wkK o.dst [], trd G ops o E n⟩ :: acc) k
    | _ => none
theorem get_slot {E : TE} {n d : Nat} {v : TV} (h : E.get n d = v) (hv : v ≠ .dead) : d < n /\ sget E.s d = v := by
 unfold TE.get at h;split at h
 ·rename_i hb; exact ⟨by simpa [Nat.blt_eq] using hb, h⟩
 ·exact absurd h.symm hv
theorem env_t {E : TE} {n d : Nat} {γ : Nat -> Nat} (hd : d < n) : (E.env n γ).t[d]? = some ((sget E.s d).v (olen E.h) γ) := by
 unfold TE.env;rw [se_get _ _ _ _ hd];rw [show aget (E.slots γ) d = _ from aget_slots _ _ _ _]
theorem exD_ok {R : Type} {P : Program} {cs : Cs P} {n : Nat} {G : List Nat} {ops : Array Oper} {r : R} : ∀ (l : List (Nat × Oper)) (E : TE) (acc : List Inf) (k : List Inf -> TE -> Option R), exD P cs n G ops l E acc k = some r -> E.ok -> ∀ γ,
  EvD P G ops l (E.env n γ) acc (fun infs e' => ∃ γ' E', k infs E' = some r /\ E'.ok /\ Ext E E' /\ e' = E'.env n γ' /\ Fx γ γ')
 | [], E, acc, k, h, hE, γ => ⟨γ, E, h, hE, Ext.refl E, rfl, Fx.refl _⟩
 | (i, o) :: os, E, acc, k, h, hE, γ => by
  have lift : ∀ {l : List (Nat × Oper)} {e : Env} {acc : List Inf} {K K' : List Inf -> Env -> Prop}, (∀ infs e', K infs e' -> K' infs e') -> EvD P G ops l e acc K -> EvD P G ops l e acc K' := by
   intro l;induction l with
   | nil => intro e acc K K' hK h; exact hK _ _ h
   | cons x l ih =>
    obtain ⟨i, o⟩ := x;intro e acc K K' hK h;rcases h with ⟨g, h⟩ | ⟨v, ups, rd, hl, hgk, h⟩
    ·exact .inl ⟨g, ih hK h⟩
    ·exact .inr ⟨v, ups, rd, hl, hgk, ih hK h⟩
  have go : ∀ (E1 : TE), Ext E E1 -> E1.ok -> E1.env n γ = E.env n γ -> gd ops (E.env n γ) o = some true ->
    (dstep cs n o E1 fun wk rd E' => match gOk G o wk with
     | true => exD P cs n G ops os E' (⟨i, wkK o.dst wk, trd G ops o E1 n ++ rd.map Key.h⟩ :: acc) k
     | false => none) = some r ->
    EvD P G ops ((i, o) :: os) (E.env n γ) acc (fun infs e' => ∃ γ' E', k infs E' = some r /\ E'.ok /\ Ext E E' /\ e' = E'.env n γ' /\ Fx γ γ') := by
   intro E1 hx hok henv hg hs
   obtain ⟨E', wk, rd, hk, s1, s2, s3⟩ := dstep_ok (G := G) (ops := ops) hok hs
   obtain ⟨γ', v, ups, q1, q2, q3, q4, q5⟩ := s3 γ
   split at hk
   rotate_left
   ·cases hk
   rename_i hgk
   have hgk2 : GKept G (E.env n γ).h ups := fun m hm x hx => by
    unfold gOk at hgk;split at hgk
    ·rename_i hst;have := q5 hst m x hx;rw [<- env_h (n := n), henv, env_h] at this;rw [env_h]; exact this
    ·exfalso;have h1 := (upKey_mem ups m).1 ⟨x, hx⟩;rw [q2] at h1;exact disN_ok hgk m h1 hm
   refine .inr ⟨v, ups, trd G ops o E1 n ++ rd.map Key.h, fun e2 hl2 hs2 hk2 => ⟨?_, ?_⟩, hgk2, ?_⟩
   ·rw [gd_local (G := G) (d0 := dstD o) (e := E1.env n γ) (fun k hk' => by rw [trd_eq] at hk'; rw [henv]; exact hk2 k (by simp [hk'])), henv]; exact hg
   ·exact q1 e2 (by rw [hl2]; simp [TE.env, SE]) (by rw [henv]; exact hs2) (fun k hk' => by rw [henv]; exact hk2 k hk')
   ·rw [<- henv, <- q3];have hwk : wkOf o.dst ups = wkK o.dst wk := by
     unfold wkOf wkK;rw [<- q2, List.map_map]; rfl
    rw [hwk];exact lift (fun infs e' ⟨γ2, E2, a1, a2, a3, a4, a5⟩ => ⟨γ2, E2, a1, a2, (hx.trans s1).trans a3, a4, q4.trans a5⟩) (exD_ok os E' _ k hk (s2 hok) γ')
  have skip : ∀ (E1 : TE), Ext E E1 -> E1.ok -> E1.env n γ = E.env n γ -> gd ops (E.env n γ) o = some false ->
    exD P cs n G ops os (E1.put o.dst (.tup [])) (⟨i, wkK o.dst [], trd G ops o E1 n⟩ :: acc) k = some r ->
    EvD P G ops ((i, o) :: os) (E.env n γ) acc (fun infs e' => ∃ γ' E', k infs E' = some r /\ E'.ok /\ Ext E E' /\ e' = E'.env n γ' /\ Fx γ γ') := by
   intro E1 hx hok henv hg hs
   refine .inl ⟨hg, ?_⟩
   have := exD_ok os _ _ k hs (ok_put hok) γ
   rw [env_put, henv] at this
   have hrd : rdOf G ops o (dstD o) (E.env n γ) = trd G ops o E1 n := by rw [<- henv, trd_eq]
   rw [hrd]
   have hwk : wkOf o.dst [] = wkK o.dst [] := by unfold wkOf wkK; rfl
   rw [hwk]
   exact lift (fun infs e' ⟨γ2, E2, a1, a2, a3, a4, a5⟩ => ⟨γ2, E2, a1, a2, (hx.trans (ext_put _ _ _)).trans a3, a4, a5⟩) this
  simp only [exD] at h;split at h
  ·rename_i hgd;exact go E (Ext.refl E) hE rfl (by unfold gd; rw [hgd]) h
  ·rename_i j want hgd;split at h
   ·cases h
   ·rename_i d hd;split at h
    ·rename_i b hb;obtain ⟨hdn, hs⟩ := get_slot hb (by simp);have hgv : ∀ w : Bool, want = w -> gd ops (E.env n γ) o = some (bif w then b else !b) := by
      intro w hw;unfold gd;rw [hgd];simp only [dstOf_eq, hd, env_t hdn, hs, TV.v];rw [<- hw];rfl
     cases b with
     | true =>
      simp only [cond_true] at h;cases want with
      | true => exact go _ (lit_ext hs) (lit_ok hs hE) (lit_env hs n γ) (hgv true rfl) h
      | false => exact skip _ (lit_ext hs) (lit_ok hs hE) (lit_env hs n γ) (hgv false rfl) h
     | false =>
      simp only [cond_false] at h;cases want with
      | true => exact skip _ (lit_ext hs) (lit_ok hs hE) (lit_env hs n γ) (hgv true rfl) h
      | false => exact go _ (lit_ext hs) (lit_ok hs hE) (lit_env hs n γ) (hgv false rfl) h
    ·rename_i hb;obtain ⟨hdn, hs⟩ := get_slot hb (by simp);refine skip E (Ext.refl E) hE rfl ?_ h;unfold gd;rw [hgd];simp only [dstOf_eq, hd, env_t hdn, hs, TV.v, TV.vL]
    ·cases h
def Ty.ctys : Ty -> List Ty
 | .unit => []
 | .box a => a.ctys
 | .pair a b => a.ctys ++ b.ctys
 | t => [t]
def foldE (f : TV -> TE -> Option TE) : List TV -> TE -> Option TE
 | [], E => some E
 | c :: cs, E => match f c E with
  | some E' => foldE f cs E'
  | none => none
def foldE2 (f : Ty -> TV -> TE -> Option TE) : List Ty -> List TV -> TE -> Option TE
 | t :: ts, c :: cs, E => match f t c E with
  | some E' => foldE2 f ts cs E'
  | none => none
 | _, _, E => some E
def sealV : Nat -> Ty -> TV -> TE -> Option TE
 | 0, _, _, E => some E
 | m + 1, t, v, E => match v with
  | .sof n _ _ => match t, oget E.h n with
   | .list u, some (.lst _ _ _) => E.sealT n u
   | .list u, some (.els _ _ _ l) => match foldE (sealV m u) l E with
    | some E' => E'.sealT n u
    | none => none
   | _, _ => some E
  | .mo n _ => match t with
   | .map _ _ => E.sealT n t
   | _ => some E
  | .agg cs => foldE2 (sealV m) t.ctys cs E
  | _ => some E
def orE (E : TE) : Option TE -> TE
 | some E' => E'
 | none => E
def autoSeal {P : Program} (cs : List (Ct P)) (n : Nat) (o : Oper) (E : TE) : TE :=
 match o.op with
 | .call c => match c.callee with
  | .value x => match tev E n x with
   | .fn f caps => match Ct.find cs f (c.args.toList.map (tev E n) ++ caps) with
    | some (ct, ws) => match convs lf0 (tys ct.ar) ws with
     | some _ => E
     | none => match ct.rt.flat, convs (lf1 (oget E.h)) (tys ct.ar) ws with
      | true, some _ => E
      | _, _ => orE E (foldE2 (sealV 12) (tys ct.ar) ws E)
    | none => E
   | _ => E
  | .builtin .append => match c.args.toList with
   | [x, y] => match tev E n y with
    | .sof m _ _ => match oget E.h m with
     | some (.els _ _ _ l) => match tev E n x, c.argTypes.toList with
      | .sof q _ _, t :: _ => match oget E.h q with
       | some (.lst _ et _) => orE E (foldE (sealV 12 et) l E)
       | _ => E
      | .nil, t :: _ => match tab P t with
       | some i => match i.kind with
        | .slice e => match tyOf P 8 e with
         | some et => orE E (foldE (sealV 12 et) l E)
         | none => E
        | _ => E
       | none => E
      | _, _ => E
     | _ => E
    | _ => E
   | _ => E
  | _ => E
 | .store _ a x => match tev E n a with
  | .ep m _ _ _ _ => match oget E.h m with
   | some (.lst _ t' _) => orE E (sealV 12 t' (tev E n x) E)
   | _ => E
  | _ => E
 | _ => E
def Gst (n : Nat) (E E' : TE) : Prop := (∀ γ, Le (E.env n γ) (E'.env n γ)) /\ Ext E E' /\ (E.ok -> E'.ok)
theorem Gst.refl (n : Nat) (E : TE) : Gst n E E := ⟨fun _ => Le.refl _, Ext.refl _, id⟩
theorem Gst.trans {n : Nat} {A B C : TE} (h : Gst n A B) (k : Gst n B C) : Gst n A C := ⟨fun γ => (h.1 γ).trans (k.1 γ), h.2.1.trans k.2.1, fun hE => k.2.2 (h.2.2 hE)⟩
theorem foldE_ok {n : Nat} {f : TV -> TE -> Option TE} (hf : ∀ v E E', f v E = some E' -> Gst n E E') : ∀ {l : List TV} {E E' : TE}, foldE f l E = some E' -> Gst n E E'
 | [], E, E', h => by simp only [foldE] at h; cases h; exact Gst.refl n E
 | c :: cs, E, E', h => by
  simp only [foldE] at h;split at h
  ·rename_i E1 h1; exact (hf _ _ _ h1).trans (foldE_ok hf h)
  ·cases h
theorem foldE2_ok {n : Nat} {f : Ty -> TV -> TE -> Option TE} (hf : ∀ t v E E', f t v E = some E' -> Gst n E E') : ∀ {ts : List Ty} {l : List TV} {E E' : TE}, foldE2 f ts l E = some E' -> Gst n E E'
 | [], _, E, E', h => by simp only [foldE2] at h; cases h; exact Gst.refl n E
 | _ :: _, [], E, E', h => by simp only [foldE2] at h; cases h; exact Gst.refl n E
 | t :: ts, c :: cs, E, E', h => by
  simp only [foldE2] at h;split at h
  ·rename_i E1 h1; exact (hf _ _ _ _ h1).trans (foldE2_ok hf h)
  ·cases h
theorem sealV_ok {n : Nat} : ∀ (m : Nat) (t : Ty) (v : TV) (E E' : TE), sealV m t v E = some E' -> Gst n E E'
 | 0, _, _, E, E', h => by simp only [sealV] at h; cases h; exact Gst.refl n E
 | m + 1, t, v, E, E', h => by
  unfold sealV at h;split at h
  ·split at h
   ·exact sealT_ok h
   ·split at h
    ·rename_i E1 h1; exact (foldE_ok (fun v E E' => sealV_ok m _ v E E') h1).trans (sealT_ok h)
    ·cases h
   ·cases h; exact Gst.refl n E
  ·split at h
   ·exact sealT_ok h
   ·cases h; exact Gst.refl n E
  ·exact foldE2_ok (fun t v E E' => sealV_ok m t v E E') h
  ·cases h; exact Gst.refl n E
theorem orE_ok {n : Nat} {E : TE} {x : Option TE} (h : ∀ E', x = some E' -> Gst n E E') : Gst n E (orE E x) := by
 cases x with
 | none => exact Gst.refl n E
 | some E' => exact h E' rfl
theorem autoSeal_ok {P : Program} (cs : List (Ct P)) (n : Nat) (o : Oper) (E : TE) : Gst n E (autoSeal cs n o E) := by
 have r := Gst.refl n E;unfold autoSeal;split
 ·split
  ·split
   ·split
    ·split
     ·exact r
     ·split
      ·exact r
      ·exact orE_ok fun E' h => foldE2_ok (fun t v E E' => sealV_ok 12 t v E E') h
    ·exact r
   ·exact r
  ·split
   ·split
    ·split
     ·split
      ·split
       ·exact orE_ok fun E' h => foldE_ok (fun v E E' => sealV_ok 12 _ v E E') h
       ·exact r
      ·split
       ·split
        ·split
         ·exact orE_ok fun E' h => foldE_ok (fun v E E' => sealV_ok 12 _ v E E') h
         ·exact r
        ·exact r
       ·exact r
      ·exact r
     ·exact r
    ·exact r
   ·exact r
  ·exact r
 ·split
  ·split
   ·exact orE_ok fun E' h => sealV_ok 12 _ _ _ _ h
   ·exact r
  ·exact r
 ·exact r
def oshOf : List (Nat × OSh) -> Nat -> Option OSh
 | [], _ => none
 | x :: r, n => match Nat.beq x.1 n with
  | true => some x.2
  | false => oshOf r n
def seal1 (jh : List (Nat × OSh)) (rec : List Sh -> List TV -> TE -> Option TE) (s : Sh) (c : TV) (E : TE) : Option TE := match s with
 | .dt t => sealV 12 t c E
 | .fn _ us => match c with
  | .fn _ vs => rec us vs E
  | _ => some E
 | .ag us => match c with
  | .agg vs => rec us vs E
  | _ => some E
 | .pt n _ _ => match c with
  | .ep m _ _ _ _ => match oshOf jh n, oget E.h m with
   | some (.el _ _ us), some (.els _ _ _ l) => rec us l E
   | _, _ => some E
  | _ => some E
 | _ => some E
def sealF (f : Sh -> TV -> TE -> Option TE) : List Sh -> List TV -> TE -> Option TE
 | t :: ts, c :: cs, E => match f t c E with
  | some E' => sealF f ts cs E'
  | none => none
 | _, _, E => some E
def sealN (jh : List (Nat × OSh)) : Nat -> List Sh -> List TV -> TE -> Option TE
 | 0, _, _, E => some E
 | m + 1, js, vs, E => sealF (seal1 jh (sealN jh m)) js vs E
def sealSh (js : List Sh) (jh : List (Nat × OSh)) (vs : List TV) (E : TE) : Option TE := sealN jh 5 js vs E
theorem sealF_ok {n : Nat} {f : Sh -> TV -> TE -> Option TE} (hf : ∀ t c E E', f t c E = some E' -> Gst n E E') : ∀ (js : List Sh) (vs : List TV) (E E' : TE), sealF f js vs E = some E' -> Gst n E E'
 | [], _, E, E', h => by simp only [sealF] at h; cases h; exact Gst.refl n E
 | _ :: _, [], E, E', h => by simp only [sealF] at h; cases h; exact Gst.refl n E
 | t :: ts, c :: cs, E, E', h => by
  simp only [sealF] at h;split at h
  ·rename_i E1 h1; exact (hf _ _ _ _ h1).trans (sealF_ok hf _ _ _ _ h)
  ·cases h
theorem seal1_ok {n : Nat} {jh : List (Nat × OSh)} {rec : List Sh -> List TV -> TE -> Option TE} (hr : ∀ us vs E E', rec us vs E = some E' -> Gst n E E') : ∀ (t : Sh) (c : TV) (E E' : TE), seal1 jh rec t c E = some E' -> Gst n E E' := by
 intro t c E E' h;unfold seal1 at h;split at h
 ·exact sealV_ok 12 _ _ _ _ h
 ·split at h
  ·exact hr _ _ _ _ h
  ·cases h; exact Gst.refl n E
 ·split at h
  ·exact hr _ _ _ _ h
  ·cases h; exact Gst.refl n E
 ·split at h
  ·split at h
   ·exact hr _ _ _ _ h
   ·cases h; exact Gst.refl n E
  ·cases h; exact Gst.refl n E
 ·cases h; exact Gst.refl n E
theorem sealN_ok {n : Nat} {jh : List (Nat × OSh)} : ∀ (m : Nat) (us : List Sh) (vs : List TV) (E E' : TE), sealN jh m us vs E = some E' -> Gst n E E'
 | 0, _, _, E, E', h => by simp only [sealN] at h; cases h; exact Gst.refl n E
 | m + 1, js, vs, E, E', h => sealF_ok (seal1_ok (sealN_ok m)) _ _ _ _ h
theorem sealSh_ok {n : Nat} {E E' : TE} {js : List Sh} {jh : List (Nat × OSh)} {vs : List TV} (h : sealSh js jh vs E = some E') : Gst n E E' := sealN_ok 5 _ _ _ _ h
def callS {R : Type} {P : Program} (cs : Cs P) (n : Nat) (o : Oper) (E : TE) (k : TE -> Option R) : Option R := match owOf cs.o n o E with
 | some (w0, args0) => match owOf cs.o n o (orE E (sealSh w0.js w0.jh args0 E)) with
  | some (w, args) => owK w o (orE E (sealSh w0.js w0.jh args0 E)) args k
  | none => none
 | none => tstep P cs.c n o (autoSeal cs.c n o E) fun _ _ E' => k E'
theorem callS_ok {R : Type} {P : Program} {cs : Cs P} {n : Nat} {ops : Array Oper} {o : Oper} {E : TE} {k : TE -> Option R} {r : R} (hE : E.ok) (h : callS cs n o E k = some r) (γ : Nat -> Nat) :
  ∃ (e1 : Env) (γ2 : Nat -> Nat) (E2 : TE) (v : V) (ups : List (Nat × Ob)), k E2 = some r /\ Fx γ γ2 /\ Le (E.env n γ) e1 /\ ExU P o e1 v ups /\ E2.env n γ2 = e1.upd o.dst v ups /\ Ext E E2 /\ E2.ok := by
 unfold callS at h
 split at h
 ·rename_i w0 args0 hw0;have hg : Gst n E (orE E (sealSh w0.js w0.jh args0 E)) := orE_ok fun E' h => sealSh_ok h
  obtain ⟨b1, b2, b3⟩ := hg;generalize orE E (sealSh w0.js w0.jh args0 E) = E0 at *;split at h
  ·rename_i w args hw;unfold owOf at hw;split at hw
   ·rename_i c ho;split at hw
    ·rename_i x hb;split at hw
     ·rename_i f caps hx;split at hw
      ·rename_i w' hf;cases hw;have hfe := Ow.find_ok hf;obtain ⟨γ1, E1, E2, v, ups, a1, a2, a3, a4, a5, a6, a7⟩ := owKr_ok (swI_swL _) (swL_swI _) ho hb (by rw [hx, hfe]) (b3 hE) h γ;exact ⟨_, γ1, E2, v, ups, a1, a2, (b1 γ).trans a3, a4, a5, b2.trans a6, a7⟩
      ·cases hw
     ·cases hw
    ·cases hw
   ·cases hw
  ·cases h
 ·obtain ⟨a1, a2, a3⟩ := autoSeal_ok cs.c n o E;obtain ⟨E', wk, rd, hk, s1, s2, s3⟩ := tstep_ok (G := []) (ops := ops) (a3 hE) h;obtain ⟨γ', v, ups, q1, q2, q3, q4, _⟩ := s3 γ;exact ⟨_, γ', E', v, ups, hk, q4, a1 γ, q1 _ (by simp [TE.env, SE]) (SameG.refl _ _) (fun _ _ => rfl), q3, a2.trans s1, s2 (a3 hE)⟩
def exS {R : Type} (P : Program) (cs : Cs P) (n : Nat) (ops : Array Oper) : List (Nat × Oper) -> TE -> (TE -> Option R) -> Option R
 | [], E, k => k E
 | (i, o) :: os, E, k =>
  match o.guard with
  | none => callS cs n o E fun E' => exS P cs n ops os E' k
  | some (j, want) => match dstOf ops j with
   | none => none
   | some d => match E.get n d with
    | .leaf .bool b => cond b
     (match want with
      | true => callS cs n o (E.lit d true) fun E' => exS P cs n ops os E' k
      | false => exS P cs n ops os ((E.lit d true).put o.dst (.tup [])) k)
     (match want with
      | true => exS P cs n ops os ((E.lit d false).put o.dst (.tup [])) k
      | false => callS cs n o (E.lit d false) fun E' => exS P cs n ops os E' k)
    | .tup [] => exS P cs n ops os (E.put o.dst (.tup [])) k
    | _ => none
def EvS (P : Program) (ops : Array Oper) : List (Nat × Oper) -> Env -> (Env -> Prop) -> Prop
 | [], e, K => K e
 | (_, o) :: os, e, K => (gd ops e o = some false /\ EvS P ops os (e.upd o.dst (.tup []) []) K) \/
  (gd ops e o = some true /\ ∃ e1, Le e e1 /\ ∃ v ups, ExU P o e1 v ups /\ EvS P ops os (e1.upd o.dst v ups) K)
theorem evs_mono {P : Program} {ops : Array Oper} {K K' : Env -> Prop} (hK : ∀ e, K e -> K' e) : ∀ {l : List (Nat × Oper)} {e : Env}, EvS P ops l e K -> EvS P ops l e K'
 | [], e, h => hK e h
 | (i, o) :: os, e, h => by
  rcases h with ⟨g, h⟩ | ⟨g, e1, hl, v, ups, hx, h⟩
  ·exact .inl ⟨g, evs_mono hK h⟩
  ·exact .inr ⟨g, e1, hl, v, ups, hx, evs_mono hK h⟩
theorem evs_run {P : Program} {ops : Array Oper} {K : Env -> Prop} : ∀ (l : List (Nat × Oper)) (e : Env), (∀ x ∈ l, ops[x.1]? = some x.2) -> EvS P ops l e K -> ∃ e', Run hiI P ops (l.map (·.1)) e e' /\ K e'
 | [], e, _, h => ⟨e, .nil, h⟩
 | (i, o) :: os, e, hl, h => by
  have ho : ops[i]? = some o := hl (i, o) (by simp);rcases h with ⟨g, h⟩ | ⟨g, e1, hle, v, ups, hx, h⟩
  ·obtain ⟨e', h1, h2⟩ := evs_run os _ (fun x hx => hl x (by simp [hx])) h;exact ⟨e', .skip ho g h1, h2⟩
  ·obtain ⟨e', h1, h2⟩ := evs_run os _ (fun x hx => hl x (by simp [hx])) h;exact ⟨e', .opw ho g hle hx h1, h2⟩
theorem exS_ok {R : Type} {P : Program} {cs : Cs P} {n : Nat} {ops : Array Oper} {r : R} : ∀ (l : List (Nat × Oper)) (E : TE) (k : TE -> Option R), exS P cs n ops l E k = some r -> E.ok -> ∀ γ,
  EvS P ops l (E.env n γ) (fun e' => ∃ γ' E', k E' = some r /\ E'.ok /\ Ext E E' /\ e' = E'.env n γ' /\ Fx γ γ')
 | [], E, k, h, hE, γ => ⟨γ, E, h, hE, Ext.refl E, rfl, Fx.refl _⟩
 | (i, o) :: os, E, k, h, hE, γ => by
  have go : ∀ (E1 : TE), Ext E E1 -> E1.ok -> E1.env n γ = E.env n γ -> gd ops (E.env n γ) o = some true ->
    (callS cs n o E1 fun E' => exS P cs n ops os E' k) = some r ->
    EvS P ops ((i, o) :: os) (E.env n γ) (fun e' => ∃ γ' E', k E' = some r /\ E'.ok /\ Ext E E' /\ e' = E'.env n γ' /\ Fx γ γ') := by
   intro E1 hx hok henv hg hs
   obtain ⟨e1, γ', E', v, ups, hk, q4, hle, q1, q3, s1, s2⟩ := callS_ok (ops := ops) hok hs γ
   refine .inr ⟨hg, e1, by rw [<- henv]; exact hle, v, ups, q1, ?_⟩
   rw [<- q3]
   exact evs_mono (fun e' ⟨γ2, E2, b1, b2, b3, b4, b5⟩ => ⟨γ2, E2, b1, b2, (hx.trans s1).trans b3, b4, q4.trans b5⟩) (exS_ok os E' k hk s2 γ')
  have skip : ∀ (E1 : TE), Ext E E1 -> E1.ok -> E1.env n γ = E.env n γ -> gd ops (E.env n γ) o = some false ->
    exS P cs n ops os (E1.put o.dst (.tup [])) k = some r ->
    EvS P ops ((i, o) :: os) (E.env n γ) (fun e' => ∃ γ' E', k E' = some r /\ E'.ok /\ Ext E E' /\ e' = E'.env n γ' /\ Fx γ γ') := by
   intro E1 hx hok henv hg hs
   refine .inl ⟨hg, ?_⟩
   have := exS_ok os _ k hs (ok_put hok) γ
   rw [env_put, henv] at this
   exact evs_mono (fun e' ⟨γ2, E2, a1, a2, a3, a4, a5⟩ => ⟨γ2, E2, a1, a2, (hx.trans (ext_put _ _ _)).trans a3, a4, a5⟩) this
  simp only [exS] at h;split at h
  ·rename_i hgd;exact go E (Ext.refl E) hE rfl (by unfold gd; rw [hgd]) h
  ·rename_i j want hgd;split at h
   ·cases h
   ·rename_i d hd;split at h
    ·rename_i b hb;obtain ⟨hdn, hs⟩ := get_slot hb (by simp);have hgv : ∀ w : Bool, want = w -> gd ops (E.env n γ) o = some (bif w then b else !b) := by
      intro w hw;unfold gd;rw [hgd];simp only [dstOf_eq, hd, env_t hdn, hs, TV.v];rw [<- hw];rfl
     cases b with
     | true =>
      simp only [cond_true] at h;cases want with
      | true => exact go _ (lit_ext hs) (lit_ok hs hE) (lit_env hs n γ) (hgv true rfl) h
      | false => exact skip _ (lit_ext hs) (lit_ok hs hE) (lit_env hs n γ) (hgv false rfl) h
     | false =>
      simp only [cond_false] at h;cases want with
      | true => exact skip _ (lit_ext hs) (lit_ok hs hE) (lit_env hs n γ) (hgv true rfl) h
      | false => exact go _ (lit_ext hs) (lit_ok hs hE) (lit_env hs n γ) (hgv false rfl) h
    ·rename_i hb;obtain ⟨hdn, hs⟩ := get_slot hb (by simp);refine skip E (Ext.refl E) hE rfl ?_ h;unfold gd;rw [hgd];simp only [dstOf_eq, hd, env_t hdn, hs, TV.v, TV.vL]
    ·cases h
def idxd (l : List Oper) : List (Nat × Oper) := l.zipIdx.map fun x => (x.2, x.1)
def hasApp : List Oper -> Bool
 | [] => false
 | o :: r => match o.op with
  | .call c => match c.callee with
   | .builtin .len => hasApp r
   | .builtin .clear => hasApp r
   | .builtin .copy => hasApp r
   | .builtin .min => hasApp r
   | .builtin .max => hasApp r
   | _ => true
  | _ => hasApp r
def gens (l : List Oper) (E : TE) : List Nat := match hasApp l with
 | true => []
 | false => E.h.map (·.1)
def exR {R : Type} (P : Program) (cs : Cs P) (n : Nat) (l : List Oper) (draw : Bool) (E : TE) (k : TE -> Option R) : Option R :=
 match draw with
 | false => exS P cs n l.toArray (idxd l) E k
 | true => match dstOk l n, edgesBack .any l.toArray with
  | true, true => exD P cs n (gens l E) l.toArray (idxd l) E [] fun infs E' => match okInf l.toArray infs with
   | true => k E'
   | false => none
  | _, _ => none
structure Ks (R : Type) where
 nx : TE -> Option R
 ex : Nat -> TE -> Option R
 rt : TE -> Option R
def PostK {R : Type} (n : Nat) (E0 : TE) (γ : Nat -> Nat) (ks : Ks R) (r : R) : Post
 | .normal, e => ∃ γ' E', E'.ok /\ Ext E0 E' /\ Le e (E'.env n γ') /\ ks.nx E' = some r /\ Fx γ γ'
 | .exit j, e => ∃ γ' E', E'.ok /\ Ext E0 E' /\ Le e (E'.env n γ') /\ ks.ex j E' = some r /\ Fx γ γ'
 | .ret, e => ∃ γ' E', E'.ok /\ Ext E0 E' /\ Le e (E'.env n γ') /\ ks.rt E' = some r /\ Fx γ γ'
 | _, _ => False
theorem evd_monoK {P : Program} {l : List (Nat × Oper)} {G : List Nat} {ops : Array Oper} {e : Env} {acc : List Inf} {K K' : List Inf -> Env -> Prop} (hK : ∀ infs e', K infs e' -> K' infs e') (h : EvD P G ops l e acc K) : EvD P G ops l e acc K' := by
 induction l generalizing e acc with
 | nil => exact hK _ _ h
 | cons x l ih =>
  obtain ⟨i, o⟩ := x;rcases h with ⟨g, h⟩ | ⟨v, ups, rd, hl, hgk, h⟩
  ·exact .inl ⟨g, ih h⟩
  ·exact .inr ⟨v, ups, rd, hl, hgk, ih h⟩
theorem exR_ok {R : Type} {P : Program} {cs : Cs P} {n id : Nat} {l : List Oper} {draw : Bool} {E : TE} {ks : Ks R} {r : R} (hm : P.follows .mixedOrders = true) (h : exR P cs n l draw E ks.nx = some r) (hE : E.ok) (γ : Nat -> Nat) :
  Tr rr P (.region id l.toArray draw) (E.env n γ) (PostK n E γ ks r) := by
 unfold exR at h
 split at h
 ·have := exS_ok _ E _ h hE γ;refine tr_region ?_;obtain ⟨e', h1, γ', E', h2, h3, h4, h5, h6⟩ := evs_run _ _ (idx_mem l) this;rw [idx_map] at h1;exact ⟨e', by simpa using h1, γ', E', h3, h4, by rw [h5]; exact Le.refl _, h2, h6⟩
 ·split at h
  ·rename_i h1 h2;have := exD_ok _ E [] _ h hE γ;refine tr_draw (gens l E) (fun t => sched_mixed hm h2 t) n (by simp [TE.env, SE]) h1 ?_;refine evd_monoK (fun infs e' ⟨γ', E', h1, h2, h3, h4, h6⟩ => ?_) this;split at h1
   ·rename_i ho; exact ⟨ho, γ', E', h2, h3, by rw [h4]; exact Le.refl _, h1, h6⟩
   ·cases h1
  ·cases h
def join {J R : Type} (rest : J -> Option R) (body : (J -> Option R) -> Option R) : Option R := body rest
def forK {α S R : Type} (body : Nat -> α -> S -> (S -> Option R) -> Option R) : Nat -> List α -> S -> (S -> Option R) -> Option R
 | _, [], s, k => k s
 | i, x :: xs, s, k => body i x s fun s' => forK body (i + 1) xs s' k
def cntK {S R : Type} (body : Nat -> S -> (S -> Option R) -> Option R) : Nat -> Nat -> S -> (S -> Option R) -> Option R
 | _, 0, s, k => k s
 | i, m + 1, s, k => body i s fun s' => cntK body (i + 1) m s' k
def whK {S R : Type} (body : (S -> Option R) -> S -> Option R) : Nat -> S -> Option R
 | 0, _ => none
 | k + 1, s => body (whK body k) s
noncomputable def allR {A R : Type} (f : A -> Option R) : Option R := open Classical in if h : ∃ r, ∀ a, f a = some r then some h.choose else none
theorem allR_some {A R : Type} {f : A -> Option R} {r : R} (h : allR f = some r) (a : A) : f a = some r := by
 unfold allR at h;split at h
 ·rename_i hh; rw [<- h]; exact hh.choose_spec a
 ·cases h
theorem allR_same {A R : Type} [Inhabited A] (x : Option R) : allR (fun _ : A => x) = x := by
 unfold allR;cases x with
 | none => rw [dif_neg]; rintro ⟨r, h⟩; cases h default
 | some r =>
  have hh : ∃ r', ∀ _ : A, some r = some r' := ⟨r, fun _ => rfl⟩;rw [dif_pos hh];exact (hh.choose_spec default).symm
noncomputable def anyN {α S R : Type} (body : α -> S -> (S -> Option R) -> Option R) (m : List α) : Nat -> List Nat -> S -> (S -> Option R) -> Option R
 | 0, _, s, k => k s
 | n + 1, rem, s, k => open Classical in if h : ∃ r, ∀ i ∈ rem, ∀ x, m[i]? = some x -> body x s (fun s' => anyN body m n (rem.erase i) s' k) = some r then some h.choose else none
noncomputable def anyK {α S R : Type} (body : α -> S -> (S -> Option R) -> Option R) (m : List α) (s : S) (k : S -> Option R) : Option R := anyN body m m.length (List.range m.length) s k
theorem anyN_some {α S R : Type} {body : α -> S -> (S -> Option R) -> Option R} {m : List α} {n : Nat} {rem : List Nat} {s : S} {k : S -> Option R} {r : R} (h : anyN body m (n + 1) rem s k = some r) :
  ∀ i ∈ rem, ∀ x, m[i]? = some x -> body x s (fun s' => anyN body m n (rem.erase i) s' k) = some r := by
 unfold anyN at h
 split at h
 ·rename_i hh; rw [<- h]; exact hh.choose_spec
 ·cases h
inductive HT where
 | n
 | g (gs : List Gh)
 | ga (gs gs' : List Gh)
 | s (a b : HT)
 | j (J : J) (a b : HT)
 | c (a b : HT)
 | w (J : J) (a : HT)
 | l (J : J) (a : HT)
 | q (slot : Nat)
 | m (J : J) (gs : List Gh) (a : HT)
noncomputable def both {R : Type} (a b : Option R) : Option R := open Classical in if a = b then a else none
noncomputable def lcase {α R : Type} (l : List α) (a b : Option R) (c : α -> List α -> Option R) : Option R := match l with
 | [] => both a b
 | x :: xs => c x xs
theorem both_some {R : Type} {a b : Option R} {r : R} (h : both a b = some r) : a = some r /\ b = some r := by
 unfold both at h;split at h
 ·rename_i e; exact ⟨h, e ▸ h⟩
 ·cases h
theorem both_same {R : Type} (a : Option R) : both a a = a := by unfold both; rw [if_pos rfl]
def HT.two : HT -> HT × HT
 | .s a b => (a, b)
 | .c a b => (a, b)
 | _ => (.n, .n)
def oneI : Operand -> Bool
 | .const (.int .i64 (.ofNat n)) => Nat.beq n 1
 | _ => false
def rngOk (b0 b0' : Nat) (ops1 : List Oper) (d1 : Bool) (c : Operand) (ops2 : List Oper) (d2 : Bool) : Option (Nat × Nat × Nat × Nat) :=
 match d1, d2, c, Nat.beq b0' b0 with
 | false, false, .tmp tC, true => match ops1, ops2 with
  | [⟨some tC', .binOp .lss _ (.tmp tI) (.tmp tN) _, _, _, _, none⟩], [⟨some t2, .binOp .add _ (.tmp tI') one _, _, _, _, none⟩, ⟨some tI'', opz, _, _, _, none⟩] =>
   match Nat.beq tC' tC, Nat.beq tI' tI, Nat.beq tI'' tI, oneI one, (match opz with | .move (.tmp x) => Nat.beq x t2 | .assign (.tmp x) => Nat.beq x t2 | _ => false) with
   | true, true, true, true, true => some (tC, tI, tN, t2)
   | _, _, _, _, _ => none
  | _, _ => none
 | _, _, _, _ => none
def zeroI : TV -> Bool
 | .leaf (.int .i64) z => match (z : Int) with
  | .ofNat n => Nat.beq n 0
  | _ => false
 | _ => false
def findL (ms : List Memo) (tN : Nat) : Option Memo := ms.find? fun m => match Nat.beq m.ti tN, m.w with
 | true, none => true
 | _, _ => false
def slotsOk (n tC tI tN t2 : Nat) (j : J) : Bool :=
 match Nat.beq tC tI, Nat.beq tC tN, Nat.beq t2 tI, Nat.beq t2 tN, Nat.beq tI tN with
 | false, false, false, false, false => match Nat.blt tC n, Nat.blt tI n, Nat.blt tN n, Nat.blt t2 n with
  | true, true, true, true => match mem tI j.ks, mem tN j.ks, mem t2 j.ks with
   | true, true, false => match mem tI (j.js.map (·.1)), mem tN (j.js.map (·.1)), mem t2 (j.js.map (·.1)) with
    | false, false, false => true
    | _, _, _ => false
   | _, _, _ => false
  | _, _, _, _ => false
 | _, _, _, _, _ => false
def TE.at (E : TE) (tI k : Nat) : TE := E.put (some tI) (.leaf (.int .i64) (k : Int))
def mrOk (n b0 b0' : Nat) (o0 o1 : List Oper) (tB : Nat) (o2 : List Oper) (j : J) : Option (List Oper × Nat × Nat × Operand × Nat × Nat) :=
 match o0.reverse with
 | ⟨some tI, .range tm x, _, _, _, none⟩ :: l0r => match o1 with
  | [⟨some tN, .next (.tmp tI1) false, _, _, _, none⟩, ⟨some tB1, .extract (.tmp tN1) 0, _, _, _, none⟩] => match o2 with
   | ⟨some tP, .entry (.tmp tI2), _, _, _, none⟩ :: _ =>
    match Nat.beq b0' b0, Nat.beq tI1 tI, Nat.beq tI2 tI, Nat.beq tN1 tN, Nat.beq tB1 tB with
    | true, true, true, true, true => match Nat.blt tI n, Nat.blt tN n, Nat.blt tB n, Nat.beq tI tN, Nat.beq tI tB with
     | true, true, true, false, false => match mem tI j.ks, mem tI (j.js.map (·.1)) with
      | true, false => some (l0r.reverse, tI, tm, x, tN, tP)
      | _, _ => none
     | _, _, _, _, _ => none
    | _, _, _, _, _ => none
   | _ => none
  | _ => none
 | _ => none
theorem mrOk_ok {n b0 b0' : Nat} {o0 o1 : List Oper} {tB : Nat} {o2 : List Oper} {j : J} {l0 : List Oper} {tI tm : Nat} {x : Operand} {tN tP : Nat} (h : mrOk n b0 b0' o0 o1 tB o2 j = some (l0, tI, tm, x, tN, tP)) :
  b0' = b0 /\ (∃ rg, o0 = l0 ++ [rg] /\ rg.op = .range tm x /\ rg.dst = some tI /\ rg.guard = none) /\ (∃ nx ex, o1 = [nx, ex] /\ nx.op = .next (.tmp tI) false /\ nx.dst = some tN /\ nx.guard = none /\ ex.op = .extract (.tmp tN) 0 /\ ex.dst = some tB /\ ex.guard = none) /\
   (∃ en l2, o2 = en :: l2 /\ en.op = .entry (.tmp tI) /\ en.dst = some tP /\ en.guard = none) /\ tI < n /\ tN < n /\ tB < n /\ tI ≠ tN /\ tI ≠ tB /\ mem tI j.ks = true /\ mem tI (j.js.map (·.1)) = false := by
 unfold mrOk at h
 split at h
 ·rename_i tI' tm' x' a1 a2 a3 l0r h0;split at h
  ·rename_i tN' tI1 a4 a5 a6 tB1 tN1 a7 a8 a9;split at h
   ·rename_i tP' tI2 a10 a11 a12 l2;split at h
    ·rename_i e1 e2 e3 e4 e5;split at h
     ·rename_i f1 f2 f3 f4 f5;split at h
      ·rename_i g1 g2;cases h;have := beqs e1; have := beqs e2; have := beqs e3; have := beqs e4; have := beqs e5;subst_vars;refine ⟨rfl, ⟨_, by rw [<- List.reverse_reverse o0, h0, List.reverse_cons], rfl, rfl, rfl⟩, ⟨_, _, rfl, rfl, rfl, rfl, rfl, rfl, rfl⟩, ⟨_, _, rfl, rfl, rfl, rfl⟩, by simpa [Nat.blt_eq] using f1, by simpa [Nat.blt_eq] using f2, by simpa [Nat.blt_eq] using f3, beq_false.1 f4, beq_false.1 f5, g1, g2⟩
      ·cases h
     ·cases h
    ·cases h
   ·cases h
  ·cases h
 ·cases h
variable {R : Type} (P : Program) (cs : Cs P) (fu n : Nat)
noncomputable def ex : Code -> HT -> TE -> Ks R -> Option R
 | .skip, _, E, ks => ks.nx E
 | .label _, _, E, ks => ks.nx E
 | .ret, _, E, ks => ks.rt E
 | .exit j, _, E, ks => ks.ex j E
 | .region _ ops draw, h, E, ks => match h with
  | .g gs => match ghost E gs with
   | some E' => exR P cs n ops.toList draw E' ks.nx
   | none => none
  | .ga gs gs' => match ghost E gs with
   | some E' => exR P cs n ops.toList draw E' fun E2 => match ghost E2 gs' with
    | some E3 => ks.nx E3
    | none => none
   | none => none
  | .q i => match E.get n i with
   | .leaf (.list t) l => lcase l (exR P cs n ops.toList draw (E.put (some i) .nil) ks.nx) (exR P cs n ops.toList draw (E.put (some i) (.emp t.size)) ks.nx)
    fun x xs => exR P cs n ops.toList draw (E.put (some i) (.leaf (.list t) (x :: xs))) ks.nx
   | _ => none
  | _ => exR P cs n ops.toList draw E ks.nx
 | .seq a b, h, E, ks => match h with
  | .j J ha hb => join (fun d => match (J.un E d).closed with
    | true => ex b hb (J.un E d) ks
    | false => none) fun K => ex a ha E ⟨fun E' => (J.pk E E').bind K, ks.ex, ks.rt⟩
  | .m J gs hb => match a, b with
   | .region _ ops0 false, .block b0 (.loop (.seq (.region _ ops1 false) (.seq (.cond (.tmp tB) .skip (.exit b0')) (.block b1 (.seq (.region _ ops2 false) bodyc))))) =>
    match mrOk n b0 b0' ops0.toList ops1.toList tB ops2.toList J with
    | some (l0, tI, tm, x, tN, tP) => (ghost E gs).bind fun Eg => exS P cs n ops0 (idxd l0) Eg fun E0 => match tev E0 n x, mapT P tm with
     | .leaf (.map k v) m, some _ => allR fun rb => (J.pk (E0.put (some tI) (.it rb)) (E0.put (some tI) (.it rb))).bind fun d0 =>
       anyK (fun x d next => match (J.un (E0.put (some tI) (.it rb)) d).closed with
        | true => exS P cs n ops2 (idxd ops2.toList).tail ((((J.un (E0.put (some tI) (.it rb)) d).put (some tN) (.tup [.leaf .bool true, .dead, .dead])).put (some tB) (.leaf .bool true)).put (some tP) (.tup [.leaf k x.1, .leaf v x.2]))
          fun E2 => ex bodyc hb E2 ⟨fun E' => (J.pk (E0.put (some tI) (.it rb)) E').bind next, fun j E' => match Nat.beq j b1 with
           | true => (J.pk (E0.put (some tI) (.it rb)) E').bind next
           | false => match Nat.beq j b0 with
            | true => ks.nx E'
            | false => ks.ex j E', ks.rt⟩
        | false => none) m d0 fun d => match (J.un (E0.put (some tI) (.it rb)) d).closed with
         | true => ks.nx (((J.un (E0.put (some tI) (.it rb)) d).put (some tN) (.tup [.leaf .bool false])).put (some tB) (.leaf .bool false))
         | false => none
     | _, _ => none
    | none => none
   | _, _ => none
  | h => ex a h.two.1 E ⟨fun E' => ex b h.two.2 E' ks, ks.ex, ks.rt⟩
 | .cond c x y, h, E, ks => match c with
  | .tmp t => match E.get n t with
   | .leaf .bool b => cond b (ex x h.two.1 (E.lit t true) ks) (ex y h.two.2 (E.lit t false) ks)
   | _ => none
  | c => match tev E n c with
   | .leaf .bool b => cond b (ex x h.two.1 E ks) (ex y h.two.2 E ks)
   | _ => none
 | .loop c, h, E, ks => match h with
  | .w J hb => match J.pk E E with
   | some d0 => whK (fun self d => match (J.un E d).closed with
    | true => ex c hb (J.un E d) ⟨fun E' => (J.pk E E').bind self, ks.ex, ks.rt⟩
    | false => none) fu d0
   | none => none
  | _ => none
 | .block b0 c, h, E, ks => match h with
  | .l J hb => match c with
   | .loop (.seq (.region _ ops1 d1) (.seq (.cond cc .skip (.exit b0')) (.seq (.block b1 bodyc) (.region _ ops2 d2)))) =>
    match rngOk b0 b0' ops1.toList d1 cc ops2.toList d2 with
    | some (tC, tI, tN, t2) => match zeroI (E.get n tI), E.get n tN, slotsOk n tC tI tN t2 J, J.pk (E.at tI 0) (E.at tI 0) with
     | true, .leaf (.int .i64) N, true, some d0 =>
      match findL E.m tN with
      | some m => match mem m.tl J.ks, mem m.tl (J.js.map (·.1)), Nat.beq m.tl tI, Nat.beq m.tl tC, Nat.blt m.tl n with
       | true, false, false, false, true =>
        forK (fun k x d next => match (J.un E d).closed with
         | true => ex bodyc hb ((((J.un (E.at tI k) d).put (some tC) (.leaf .bool true))).memo ⟨m.tl, tI, m.t, m.l, (k : Int), some x⟩)
          ⟨fun E' => (J.pk (E.at tI k) E').bind next, fun j E' => match Nat.beq j b1 with
           | true => (J.pk (E.at tI k) E').bind next
           | false => match Nat.beq j b0 with
            | true => ks.nx E'
            | false => ks.ex j E', ks.rt⟩
         | false => none) 0 m.l d0 fun d => match (J.un E d).closed with
          | true => ks.nx (((J.un E d).put (some tI) .dead).put (some tC) .dead)
          | false => none
       | _, _, _, _, _ => none
      | none => (chk ((N : Int) <= (LIM : Nat))).bind fun _ =>
        cntK (fun k d next => match (J.un E d).closed with
         | true => ex bodyc hb ((J.un (E.at tI k) d).put (some tC) (.leaf .bool true))
          ⟨fun E' => (J.pk (E.at tI k) E').bind next, fun j E' => match Nat.beq j b1 with
           | true => (J.pk (E.at tI k) E').bind next
           | false => match Nat.beq j b0 with
            | true => ks.nx E'
            | false => ks.ex j E', ks.rt⟩
         | false => none) 0 (Int.toNat N) d0 fun d => match (J.un E d).closed with
          | true => ks.nx (((J.un E d).put (some tI) .dead).put (some tC) .dead)
          | false => none
     | _, _, _, _ => none
    | none => none
   | _ => none
  | h => ex c h E ⟨ks.nx, fun j E' => match Nat.beq j b0 with
    | true => ks.nx E'
    | false => ks.ex j E', ks.rt⟩
 | _, _, _, _ => none
end Go.PG.PH
set_option linter.unusedSimpArgs false
set_option linter.unusedVariables false
namespace Go.PG.PH
variable {rr : Bool}
theorem post_ext {R : Type} {n : Nat} {E E1 : TE} {γ γ1 : Nat -> Nat} {ks : Ks R} {r : R} (hx : Ext E E1) (hf : Fx γ γ1) : ∀ x e, PostK n E1 γ1 ks r x e -> PostK n E γ ks r x e := by
 intro x e h;cases x <;> first
  | (obtain ⟨γ', E', h1, h2, h3, h4, h5⟩ := h; exact ⟨γ', E', h1, hx.trans h2, h3, h4, hf.trans h5⟩)
  | exact h
theorem sget_un_keep {j : J} {E : TE} {d : Ds j.tys} {i : Nat} (h1 : mem i j.ks = true) (h2 : mem i (j.js.map (·.1)) = false) : sget (j.un E d).s i = sget E.s i := by
 rw [un_s, sget_app, (unS_get _ _ 0 _ _).2.2.1, if_neg (fun h => by rw [mem_iff.2 h] at h2; cases h2), sget_keep, if_pos (mem_iff.1 h1)]
theorem sget_un_dead {j : J} {E : TE} {d : Ds j.tys} {i : Nat} (h1 : mem i j.ks = false) (h2 : mem i (j.js.map (·.1)) = false) : sget (j.un E d).s i = .dead := by
 rw [un_s, sget_app, (unS_get _ _ 0 _ _).2.2.1, if_neg (fun h => by rw [mem_iff.2 h] at h2; cases h2), sget_keep, if_neg (fun h => by rw [mem_iff.2 h] at h1; cases h1)]
theorem at_h (E : TE) (tI k : Nat) : (E.at tI k).h = E.h := rfl
theorem at_get (E : TE) (tI k i : Nat) : sget (E.at tI k).s i = if i = tI then .leaf (.int .i64) (k : Int) else sget E.s i := by
 unfold TE.at TE.put;simp only [sget];cases e : Nat.beq i tI with
 | true => rw [if_pos (beqs e)]
 | false => rw [if_neg (beq_false.1 e)]
theorem un_at {j : J} {E : TE} {d : Ds j.tys} {tI k : Nat} : (∀ i, i ≠ tI -> sget (j.un (E.at tI k) d).s i = sget (j.un E d).s i) /\ ∀ m, oget (j.un (E.at tI k) d).h m = oget (j.un E d).h m := by
 refine ⟨fun i hi => ?_, fun m => ?_⟩
 ·rw [un_s, un_s, sget_app, sget_app, at_h, (unS_get _ _ 0 _ _).2.2.1, (unS_get _ E.c 0 _ _).2.2.1, sget_keep, sget_keep, at_get, if_neg hi, (unS_get _ _ E.c _ _).2.1]
 ·rw [un_h, un_h, oget_app, oget_app, at_h, (unS_get _ _ E.c _ _).1, (unO_get' _ _ E.c _ _).1]
theorem inS_iff {h : List (Nat × Nat × TOb)} : ∀ {s : List (Nat × Nat × TV)}, inS h s = true ↔ ∀ x ∈ s, x.2.2.inH h = true
 | [] => by simp [inS]
 | x :: r => by
  simp only [inS, List.mem_cons];cases hx : x.2.2.inH h with
  | true => simp only [inS_iff (s := r)]; exact ⟨fun h y hy => by rcases hy with rfl | hy; exact hx; exact h y hy, fun h y hy => h y (.inr hy)⟩
  | false => simp only [Bool.false_eq_true, false_iff]; intro h; have := h x (.inl rfl); rw [hx] at this; cases this
mutual
theorem inH_congr {h h' : List (Nat × Nat × TOb)} (he : ∀ m, oget h m = oget h' m) : ∀ v : TV, v.inH h = v.inH h'
 | .leaf _ _ => rfl
 | .agg cs => inHL_congr he cs
 | .tup cs => inHL_congr he cs
 | .pr cs => inHL_congr he cs
 | .fn _ cs => inHL_congr he cs
 | .nil => rfl | .emp _ => rfl | .nilp => rfl | .nilfn => rfl | .nilm => rfl | .dead => rfl
 | .so n _ _ _ _ => by simp only [TV.inH, he n]
 | .sof n _ _ => by simp only [TV.inH, he n]
 | .ep n _ _ _ _ => by simp only [TV.inH, he n]
 | .mo n _ => by simp only [TV.inH, he n]
 | .it _ => rfl
theorem inHL_congr {h h' : List (Nat × Nat × TOb)} (he : ∀ m, oget h m = oget h' m) : ∀ cs : List TV, TV.inHL h cs = TV.inHL h' cs
 | [] => rfl
 | c :: cs => by simp only [TV.inHL, inH_congr he c, inHL_congr he cs]
end
theorem inO_mem {h : List (Nat × Nat × TOb)} : ∀ {s : List (Nat × Nat × TOb)}, inO h s = true ↔ ∀ x ∈ s, (match x.2.2 with | .els _ _ _ l => TV.inHL h l = true | .nm _ _ _ _ b => b = .no | .nl _ _ _ b => b = none | _ => True)
 | [] => by simp [inO]
 | (i, c, .lst _ _ _) :: r => by
  simp only [inO, List.mem_cons, inO_mem (s := r)];exact ⟨fun h y hy => by rcases hy with rfl | hy; trivial; exact h y hy, fun h y hy => h y (.inr hy)⟩
 | (i, c, .nm _ _ _ _ b) :: r => by
  cases b with
  | no =>
   simp only [inO, List.mem_cons, inO_mem (s := r)];exact ⟨fun h y hy => by rcases hy with rfl | hy; rfl; exact h y hy, fun h y hy => h y (.inr hy)⟩
  | bor => simp only [inO, List.mem_cons, Bool.false_eq_true, false_iff]; intro h; have := h _ (.inl rfl); simp at this
  | fil => simp only [inO, List.mem_cons, Bool.false_eq_true, false_iff]; intro h; have := h _ (.inl rfl); simp at this
 | (i, c, .nl _ _ _ b) :: r => by
  cases b with
  | none =>
   simp only [inO, List.mem_cons, inO_mem (s := r)];exact ⟨fun h y hy => by rcases hy with rfl | hy; rfl; exact h y hy, fun h y hy => h y (.inr hy)⟩
  | some => simp only [inO, List.mem_cons, Bool.false_eq_true, false_iff]; intro h; have := h _ (.inl rfl); simp at this
 | (i, c, .mp _ _ _ _) :: r => by
  simp only [inO, List.mem_cons, inO_mem (s := r)];exact ⟨fun h y hy => by rcases hy with rfl | hy; trivial; exact h y hy, fun h y hy => h y (.inr hy)⟩
 | (i, c, .els _ _ _ l) :: r => by
  simp only [inO, List.mem_cons];cases hx : TV.inHL h l with
  | true => simp only [inO_mem (s := r)]; exact ⟨fun h y hy => by rcases hy with rfl | hy; exact hx; exact h y hy, fun h y hy => h y (.inr hy)⟩
  | false => simp only [Bool.false_eq_true, false_iff]; intro h; have := h _ (.inl rfl); simp only [hx] at this; cases this
theorem unS_mem (G : Nat -> Nat) (c c' : Nat) : ∀ (js : List (Nat × Sh)) (l : List Dv) x, x ∈ (unS G c js l).1 -> ∃ y ∈ (unS G c' js l).1, y.2.2 = x.2.2
 | [], l, x, h => by simp [unS] at h
 | a :: js, l, x, h => by
  simp only [unS, List.mem_cons] at h ⊢;rcases h with rfl | h
  ·exact ⟨_, .inl rfl, rfl⟩
  ·obtain ⟨y, h1, h2⟩ := unS_mem G c c' js _ x h; exact ⟨y, .inr h1, h2⟩
theorem unO_mem (G : Nat -> Nat) (c c' : Nat) : ∀ (js : List (Nat × OSh)) (l : List Dv) x, x ∈ unO G c js l -> ∃ y ∈ unO G c' js l, y.2.2 = x.2.2
 | [], l, x, h => by simp [unO] at h
 | a :: js, l, x, h => by
  simp only [unO, List.mem_cons] at h ⊢;rcases h with rfl | h
  ·exact ⟨_, .inl rfl, rfl⟩
  ·obtain ⟨y, h1, h2⟩ := unO_mem G c c' js _ x h; exact ⟨y, .inr h1, h2⟩
theorem closed_at {j : J} {E : TE} {d : Ds j.tys} {tI k : Nat} (h : (j.un E d).closed = true) : (j.un (E.at tI k) d).closed = true := by
 have he : ∀ m, oget (j.un (E.at tI k) d).h m = oget (j.un E d).h m := un_at.2;unfold TE.closed at h ⊢;split at h
 ·rename_i h1;rw [inS_iff] at h1;have s1 : inS (j.un (E.at tI k) d).h (j.un (E.at tI k) d).s = true := by
   rw [inS_iff];intro x hx;rw [inH_congr he];rw [un_s, List.mem_append] at hx;rcases hx with hx | hx
   ·obtain ⟨y, hy, e⟩ := unS_mem _ _ E.c _ _ x hx;rw [<- e];exact h1 y (by rw [un_s]; exact List.mem_append_left _ hy)
   ·obtain ⟨q1, q2, q3⟩ := keepS_mem hx;rw [q2, at_get];split
    ·rfl
    ·rename_i hne;have ht : stime E.s x.1 = some x.2.1 := by
      have := q3;unfold TE.at TE.put at this;simp only [stime, beq_false.2 hne] at this;exact this
     have hm : (x.1, x.2.1, sget E.s x.1) ∈ keepS E.s j.ks := by
      have : ∀ ks : List Nat, x.1 ∈ ks -> (x.1, x.2.1, sget E.s x.1) ∈ keepS E.s ks := by
       intro ks;induction ks with
       | nil => intro h; cases h
       | cons a ks ih =>
        intro hm;simp only [keepS];by_cases e : x.1 = a
        ·subst e; rw [ht]; simp
        ·have := ih (by rcases List.mem_cons.1 hm with h | h; exact absurd h e; exact h);split
         ·exact List.mem_cons_of_mem _ this
         ·exact this
      exact this _ q1
     exact h1 _ (by rw [un_s]; exact List.mem_append_right _ hm)
  rw [s1];rw [inO_mem] at h ⊢;intro x hx;rw [un_h, List.mem_append] at hx;have key : ∀ y ∈ (j.un E d).h, y.2.2 = x.2.2 -> (match x.2.2 with | .els _ _ _ l => TV.inHL (j.un (E.at tI k) d).h l = true | .nm _ _ _ _ b => b = .no | .nl _ _ _ b => b = none | _ => True) := by
   intro y hy e;have := h y hy;rw [e] at this;split
   ·rename_i hx'; rw [hx'] at this; rw [inHL_congr he]; exact this
   ·rename_i hx'; rw [hx'] at this; exact this
   ·rename_i hx'; rw [hx'] at this; exact this
   ·trivial
  rcases hx with hx | hx
  ·rw [at_h, (unS_get _ _ E.c _ _).1] at hx;obtain ⟨y, hy, e⟩ := unO_mem _ _ E.c _ _ x hx;exact key y (by rw [un_h]; exact List.mem_append_left _ hy) e
  ·exact key x (by rw [un_h]; exact List.mem_append_right _ hx) rfl
 ·cases h
theorem env_at_set {j : J} {E : TE} {d : Ds j.tys} {tI k k' n : Nat} {γ : Nat -> Nat} (h1 : mem tI j.ks = true) (h2 : mem tI (j.js.map (·.1)) = false) (hn : tI < n) :
  (j.un (E.at tI k) d).env n γ = ⟨((j.un (E.at tI k') d).env n γ).t.set tI (.int .i64 k), ((j.un (E.at tI k') d).env n γ).h⟩ := by
 have hh : (j.un (E.at tI k) d).h = (j.un (E.at tI k') d).h := rfl
 have e1 : (⟨((j.un (E.at tI k') d).env n γ).t.set tI (.int .i64 k), ((j.un (E.at tI k') d).env n γ).h⟩ : Env) = SE n ((tI, .int .i64 k) :: (j.un (E.at tI k') d).slots γ) ((j.un (E.at tI k') d).heap γ) := by
  have := se_upd n ((j.un (E.at tI k') d).slots γ) ((j.un (E.at tI k') d).heap γ) tI (.int .i64 k) [];exact this
 rw [e1]
 unfold TE.env SE
 simp only [Env.mk.injEq]
 refine ⟨?_, rfl⟩
 apply List.map_congr_left
 intro i _
 rw [show aget ((j.un (E.at tI k) d).slots γ) i = _ from aget_slots _ _ _ _]
 simp only [aget]
 rw [show aget ((j.un (E.at tI k') d).slots γ) i = _ from aget_slots _ _ _ _, hh]
 by_cases hi : i = tI
 ·subst hi;rw [if_pos rfl, sget_un_keep h1 h2, at_get, if_pos rfl]; rfl
 ·rw [if_neg hi, un_at.1 i hi, un_at.1 i hi]
theorem slotsOk_ok {n tC tI tN t2 : Nat} {j : J} (h : slotsOk n tC tI tN t2 j = true) : (tC ≠ tI /\ tC ≠ tN /\ t2 ≠ tI /\ t2 ≠ tN /\ tI ≠ tN) /\ (tC < n /\ tI < n /\ tN < n /\ t2 < n) /\ (mem tI j.ks = true /\ mem tN j.ks = true /\ mem t2 j.ks = false) /\
  (mem tI (j.js.map (·.1)) = false /\ mem tN (j.js.map (·.1)) = false /\ mem t2 (j.js.map (·.1)) = false) := by
 unfold slotsOk at h
 split at h
 ·rename_i a1 a2 a3 a4 a5;split at h
  ·rename_i b1 b2 b3 b4;split at h
   ·rename_i c1 c2 c3;split at h
    ·rename_i d1 d2 d3;exact ⟨⟨beq_false.1 a1, beq_false.1 a2, beq_false.1 a3, beq_false.1 a4, beq_false.1 a5⟩, ⟨by simpa [Nat.blt_eq] using b1, by simpa [Nat.blt_eq] using b2, by simpa [Nat.blt_eq] using b3, by simpa [Nat.blt_eq] using b4⟩, ⟨c1, c2, c3⟩, d1, d2, d3⟩
    ·cases h
   ·cases h
  ·cases h
 ·cases h
theorem zeroI_ok {v : TV} (h : zeroI v = true) : v = .leaf (.int .i64) (0 : Int) := by
 unfold zeroI at h;split at h
 ·split at h
  ·have := beqs h; subst this; rfl
  ·cases h
 ·cases h
theorem oneI_ok {x : Operand} (h : oneI x = true) : x = .const (.int .i64 1) := by
 unfold oneI at h;split at h
 ·have := beqs h; subst this; rfl
 ·cases h
theorem tr_range {R : Type} {P : Program} {n b0 b1 ida idz tC tI tN t2 ty1 ty2 ty3 ty4 ty5 ty6 ty7 : Nat} {p1 p2 p3 : String} {a1 a2 a3 : Array Edge} {body : Code} {opz : Op} {j : J} {E : TE} {ks : Ks R} {r : R} {N : Int} {d0 : Ds j.tys} (γ : Nat -> Nat)
  (L : Nat -> Ds j.tys -> Option R) (hN : N <= LIM) (hz : opz = .move (.tmp t2) \/ opz = .assign (.tmp t2)) (hE : E.ok)
  (h0 : E.get n tI = .leaf (.int .i64) (0 : Int)) (hNs : E.get n tN = .leaf (.int .i64) N) (hs : slotsOk n tC tI tN t2 j = true) (hp : j.pk (E.at tI 0) (E.at tI 0) = some d0) (hL : L 0 d0 = some r)
  (hcl : ∀ k d, L k d = some r -> (j.un E d).closed = true)
  (hstep : ∀ (k : Nat) d γ, (k : Int) < N -> L k d = some r -> Tr rr P body ((((j.un (E.at tI k) d).put (some tC) (.leaf .bool true))).env n γ)
   (PostK n ((j.un (E.at tI k) d).put (some tC) (.leaf .bool true)) γ ⟨fun E' => (j.pk (E.at tI k) E').bind (L (k + 1)), fun i E' => match Nat.beq i b1 with
    | true => (j.pk (E.at tI k) E').bind (L (k + 1))
    | false => match Nat.beq i b0 with
     | true => ks.nx E'
     | false => ks.ex i E', ks.rt⟩ r))
  (hend : ∀ k d, k = N.toNat -> L k d = some r -> ks.nx (((j.un E d).put (some tI) .dead).put (some tC) .dead) = some r) :
  Tr rr P (.block b0 (.loop (.seq (.region ida #[⟨some tC, .binOp .lss ty1 (.tmp tI) (.tmp tN) ty2, ty3, p1, a1, none⟩] false)
   (.seq (.cond (.tmp tC) .skip (.exit b0)) (.seq (.block b1 body)
    (.region idz #[⟨some t2, .binOp .add ty4 (.tmp tI) (.const (.int .i64 1)) ty5, ty6, p2, a2, none⟩, ⟨some tI, opz, ty7, p3, a3, none⟩] false)))))) (E.env n γ) (PostK n E γ ks r) := by
 obtain ⟨hne, ⟨l1, l2, l3, l4⟩, ⟨k1, k2, k3⟩, m1, m2, m3⟩ := slotsOk_ok hs
 have hne' := hne
 obtain ⟨d1, d2, d3, d4, d5⟩ := hne'
 have hNs' : sget E.s tN = .leaf (.int .i64) N := (get_slot hNs (by simp)).2
 have h0' : sget E.s tI = .leaf (.int .i64) (0 : Int) := (get_slot h0 (by simp)).2
 have hat : (E.at tI 0).env n γ = E.env n γ := by
  unfold TE.at;rw [env_put];unfold TE.env;rw [se_upd];unfold SE;simp only [Env.mk.injEq];refine ⟨?_, rfl⟩;apply List.map_congr_left;intro i _;simp only [aget];split
  ·rename_i e;subst e;rw [show aget (E.slots γ) i = _ from aget_slots _ _ _ _, h0']; rfl
  ·rfl
 obtain ⟨γ0, hf0, hle0⟩ := pk_le (n := n) hp (Ext.refl _) (closed_at (hcl 0 d0 hL)) γ
 rw [hat] at hle0
 refine tr_rangeE (N := N) (fun k (s : Ds j.tys × (Nat -> Nat)) => (j.un (E.at tI k) s.1).env n s.2) (fun k s => L k s.1 = some r /\ Fx γ s.2) (d0, γ0) hN hz hne (fun k s => ?_) ⟨hL, hf0⟩ hle0 (fun k s hk hI => ?_) (fun k s hk hI => ?_)
 ·refine ⟨?_, ?_, ?_, by rw [TE.env, se_len]; exact l1⟩
  ·rw [env_t l3, sget_un_keep k2 m2, at_get, if_neg (Ne.symm d5), hNs']; rfl
  ·rw [env_t l2, sget_un_keep k1 m1, at_get, if_pos rfl]; rfl
  ·rw [env_t l4, sget_un_dead k3 m3]; rfl
 ·obtain ⟨d, γ1⟩ := s;obtain ⟨hI, hf1⟩ := hI;dsimp only at hI hf1 ⊢;have := hstep k d γ1 hk hI;rw [env_put] at this;refine this.mono ?_;have hx : Ext (E.at tI k) ((j.un (E.at tI k) d).put (some tC) (.leaf .bool true)) := (ext_un _ _ _).trans (ext_put _ _ _);have hx0 : Ext E ((j.un (E.at tI k) d).put (some tC) (.leaf .bool true)) := (ext_put E _ _).trans hx;have nxt : ∀ e' γ' E', Fx γ γ' -> E'.ok -> Ext ((j.un (E.at tI k) d).put (some tC) (.leaf .bool true)) E' -> Le e' (E'.env n γ') -> (j.pk (E.at tI k) E').bind (L (k + 1)) = some r ->
    ∃ s' : Ds j.tys × (Nat -> Nat), (L (k + 1) s'.1 = some r /\ Fx γ s'.2) /\ Le e' ⟨((j.un (E.at tI (k + 1)) s'.1).env n s'.2).t.set tI (.int .i64 k), ((j.un (E.at tI (k + 1)) s'.1).env n s'.2).h⟩ := by
   intro e' γ' E' hfx hok hext hle hb
   obtain ⟨d', hd', hL'⟩ := bind_some' hb
   obtain ⟨γ2, hf2, hle2⟩ := pk_le (n := n) hd' (hx.trans hext) (closed_at (hcl _ _ hL')) γ'
   refine ⟨(d', γ2), ⟨hL', hfx.trans hf2⟩, ?_⟩
   rw [<- env_at_set k1 m1 l2]
   exact hle.trans hle2
  intro x e' hq;cases x with
  | normal =>
   obtain ⟨γ', E', h1, h2, h3, h4, h5⟩ := hq;exact nxt e' γ' E' (hf1.trans h5) h1 h2 h3 h4
  | exit i =>
   obtain ⟨γ', E', h1, h2, h3, h4, h5⟩ := hq;simp only [rangePost];cases e1 : Nat.beq i b1 with
   | true =>
    rw [if_pos (beqs e1)];simp only [e1] at h4;exact nxt e' γ' E' (hf1.trans h5) h1 h2 h3 h4
   | false =>
    rw [if_neg (beq_false.1 e1)];simp only [e1] at h4;cases e2 : Nat.beq i b0 with
    | true =>
     rw [if_pos (beqs e2)];simp only [e2] at h4;exact ⟨γ', E', h1, hx0.trans h2, h3, h4, hf1.trans h5⟩
    | false =>
     rw [if_neg (beq_false.1 e2)];simp only [e2] at h4;exact ⟨γ', E', h1, hx0.trans h2, h3, h4, hf1.trans h5⟩
  | ret =>
   obtain ⟨γ', E', h1, h2, h3, h4, h5⟩ := hq;exact ⟨γ', E', h1, hx0.trans h2, h3, h4, hf1.trans h5⟩
  | _ => exact hq
 ·obtain ⟨d, γ1⟩ := s;obtain ⟨hI, hf1⟩ := hI;dsimp only at hI hf1 ⊢;have hk' := hend k d hk hI;refine ⟨γ1, _, ok_put (ok_put (un_ok hE)), (ext_un _ _ _).trans ((ext_put _ _ _).trans (ext_put _ _ _)), ?_, hk', hf1⟩;rw [env_put, env_put];unfold TE.env;rw [se_upd, se_upd, se_upd];obtain ⟨u1, u2⟩ := un_at (j := j) (E := E) (d := d) (tI := tI) (k := k);have hol : olen (j.un (E.at tI k) d).h = olen (j.un E d).h := by funext m; unfold olen; rw [u2 m]
  have hol2 : olen (((j.un E d).put (some tI) .dead)).h = olen (j.un E d).h := rfl;simp only [hsets];refine le_up (fun i _ => ?_) (fun m o' ho' => .inl ⟨o', ?_, ObUp.refl _⟩) (fun m o ho => ?_)
  ·simp only [aget];split
   ·exact .inl rfl
   ·split
    ·exact .inl rfl
    ·rename_i hi;right;rw [show aget ((j.un (E.at tI k) d).slots γ1) i = _ from aget_slots _ _ _ _, show aget ((j.un E d).slots γ1) i = _ from aget_slots _ _ _ _, hol, u1 i hi];exact VUp.refl _
  ·rw [show hget ((j.un (E.at tI k) d).heap γ1) m = _ from hget_heap _ _ _, hol, u2 m];rw [show hget ((j.un E d).heap γ1) m = _ from hget_heap _ _ _] at ho';exact ho'
  ·rw [show hget ((j.un (E.at tI k) d).heap γ1) m = _ from hget_heap _ _ _, hol, u2 m] at ho;rw [show hget ((j.un E d).heap γ1) m = _ from hget_heap _ _ _, ho];simp
end Go.PG.PH
set_option linter.unusedSimpArgs false
set_option linter.unusedVariables false
namespace Go.PG.PH
variable {rr : Bool}
theorem rngOk_ok {b0 b0' : Nat} {ops1 ops2 : List Oper} {dd1 dd2 : Bool} {c : Operand} {tC tI tN t2 : Nat} (h : rngOk b0 b0' ops1 dd1 c ops2 dd2 = some (tC, tI, tN, t2)) :
  dd1 = false /\ dd2 = false /\ c = .tmp tC /\ b0' = b0 /\ ∃ ty1 ty2 ty3 ty4 ty5 ty6 ty7 p1 p2 p3 a1 a2 a3 opz, ops1 = [⟨some tC, .binOp .lss ty1 (.tmp tI) (.tmp tN) ty2, ty3, p1, a1, none⟩] /\
   ops2 = [⟨some t2, .binOp .add ty4 (.tmp tI) (.const (.int .i64 1)) ty5, ty6, p2, a2, none⟩, ⟨some tI, opz, ty7, p3, a3, none⟩] /\ (opz = .move (.tmp t2) \/ opz = .assign (.tmp t2)) := by
 unfold rngOk at h
 split at h
 ·rename_i hb;split at h
  ·split at h
   ·rename_i h1 h2 h3 h4 h5;cases h;have := beqs h1; subst this;have := beqs h2; subst this;have := beqs h3; subst this;have := oneI_ok h4; subst this;refine ⟨rfl, rfl, rfl, beqs hb, _, _, _, _, _, _, _, _, _, _, _, _, _, _, rfl, rfl, ?_⟩;split at h5
    ·have := beqs h5; subst this; exact .inl rfl
    ·have := beqs h5; subst this; exact .inr rfl
    ·cases h5
   ·cases h
  ·cases h
 ·cases h
theorem toArr (a : Array Oper) : a.toList.toArray = a := by simp
theorem findL_ok {ms : List Memo} {tN : Nat} {m : Memo} (h : findL ms tN = some m) : m ∈ ms /\ m.ti = tN /\ m.w = none := by
 unfold findL at h;refine ⟨List.mem_of_find?_eq_some h, ?_⟩;have hp := List.find?_some h;split at hp
 ·rename_i h1 h2; exact ⟨beqs h1, h2⟩
 ·cases hp
theorem forK_drop {α S R : Type} (body : Nat -> α -> S -> (S -> Option R) -> Option R) (l : List α) (k : Nat) (x : α) (s : S) (K : S -> Option R) (h : l[k]? = some x) :
  forK body k (l.drop k) s K = body k x s fun s' => forK body (k + 1) (l.drop (k + 1)) s' K := by
 have hk := (List.getElem?_eq_some_iff.1 h)
 obtain ⟨hlt, rfl⟩ := hk
 rw [List.drop_eq_getElem_cons hlt]
 rfl
theorem tr_limK {P : Program} {c : Code} {n t sz : Nat} {l : List V} {E : TE} {γ : Nat -> Nat} {Q : Post} (ht : t < n) (hv : (sget E.s t).v (olen E.h) γ = .sl sz l) (hk : l.length <= LIM -> Tr rr P c (E.env n γ) Q) : Tr rr P c (E.env n γ) Q := by
 refine tr_lim_sl (t := t) (sz := sz) (l := l) ?_ (by simpa using ht) hk;rw [show aget (E.slots γ) t = _ from aget_slots _ _ _ _]; exact hv
theorem ex_ok {R : Type} {P : Program} {cs : Cs P} {fu n : Nat} {r : R} (hm : P.follows .mixedOrders = true) : ∀ (sz : Nat) (c : Code), SizeOf.sizeOf c < sz -> ∀ (h : HT) (E : TE) (ks : Ks R) (γ : Nat -> Nat),
  ex P cs fu n c h E ks = some r -> E.ok -> Tr rr P c (E.env n γ) (PostK n E γ ks r) := by
 intro sz
 induction sz with
 | zero => intro c hc; omega
 | succ sz ih =>
  intro c hc h E ks γ hx hE;have self : ∀ {K : TE -> Option R}, K E = some r -> ∃ γ' E', E'.ok /\ Ext E E' /\ Le (E.env n γ) (E'.env n γ') /\ K E' = some r /\ Fx γ γ' := fun h => ⟨γ, E, hE, Ext.refl E, Le.refl _, h, Fx.refl _⟩
  cases c with
  | skip => exact tr_skip (self (K := ks.nx) hx)
  | label l => exact tr_label (self (K := ks.nx) hx)
  | ret => exact tr_ret (self (K := ks.rt) hx)
  | exit j => exact tr_exit (self (K := ks.ex j) hx)
  | region id ops draw =>
   have plain : exR P cs n ops.toList draw E ks.nx = some r -> Tr rr P (.region id ops draw) (E.env n γ) (PostK n E γ ks r) := fun hx => by
    have := exR_ok (rr := rr) (id := id) (ks := ks) hm hx hE γ
    rwa [toArr] at this
   cases h with
   | g gs =>
    simp only [ex] at hx;split at hx
    ·rename_i E' hg;obtain ⟨g1, g2, g3⟩ := ghost_ok (k := n) hg;obtain ⟨γ', hf1, hle⟩ := g1 γ;have := exR_ok (rr := rr) (id := id) (ks := ks) hm hx (g3 hE) γ';rw [toArr] at this;exact tr_le hle (this.mono (post_ext g2 hf1))
    ·cases hx
   | ga gs gs' =>
    simp only [ex] at hx;split at hx
    ·rename_i E' hg;obtain ⟨g1, g2, g3⟩ := ghost_ok (k := n) hg;obtain ⟨γ', hf1, hle⟩ := g1 γ;have := exR_ok (rr := rr) (id := id) (ks := ⟨fun E2 => match ghost E2 gs' with | some E3 => ks.nx E3 | none => none, ks.ex, ks.rt⟩) hm hx (g3 hE) γ';rw [toArr] at this;refine tr_le hle (this.mono fun x e hq => ?_);cases x with
     | normal =>
      obtain ⟨γ1, E1, k1, k2, k3, k4, k5⟩ := hq;dsimp only at k4;split at k4
      ·rename_i E3 hg3;obtain ⟨q1, q2, q3⟩ := ghost_ok (k := n) hg3;obtain ⟨γ3, f3, le3⟩ := q1 γ1;exact ⟨γ3, E3, q3 k1, (g2.trans k2).trans q2, k3.trans le3, k4, (hf1.trans k5).trans f3⟩
      ·cases k4
     | exit i => obtain ⟨γ1, E1, k1, k2, k3, k4, k5⟩ := hq; exact ⟨γ1, E1, k1, g2.trans k2, k3, k4, hf1.trans k5⟩
     | ret => obtain ⟨γ1, E1, k1, k2, k3, k4, k5⟩ := hq; exact ⟨γ1, E1, k1, g2.trans k2, k3, k4, hf1.trans k5⟩
     | _ => exact hq.elim
    ·cases hx
   | q i =>
    simp only [ex] at hx;split at hx
    ·rename_i t l hg;obtain ⟨hin, hs⟩ := get_slot hg (by simp);have go : ∀ v : TV, exR P cs n ops.toList draw (E.put (some i) v) ks.nx = some r -> Tr rr P (.region id ops draw) (SE n ((i, v.v (olen E.h) γ) :: E.slots γ) (E.heap γ)) (PostK n E γ ks r) := fun v hv => by
      have := exR_ok (rr := rr) (id := id) (ks := ks) hm hv (ok_put hE) γ;rw [toArr, env_put] at this;unfold TE.env at this;rw [se_upd] at this;exact this.mono (post_ext (ext_put _ _ _) (Fx.refl _))
     have hv : aget (E.slots γ) i = .sl t.size (l.map t.enc) := by rw [show aget (E.slots γ) i = _ from aget_slots _ _ _ _, hs]; rfl
     cases l with
     | nil =>
      obtain ⟨h1, h2⟩ := both_some (show both _ _ = some r from hx);exact tr_nilqS i t.size hv (by simpa using hin) (go .nil h1) (go (.emp t.size) h2)
     | cons x xs =>
      have h1 : exR P cs n ops.toList draw (E.put (some i) (.leaf (.list t) (x :: xs))) ks.nx = some r := hx;have := go _ h1;have e : SE n ((i, (TV.leaf (.list t) (x :: xs)).v (olen E.h) γ) :: E.slots γ) (E.heap γ) = E.env n γ := by
       unfold TE.env SE;simp only [Env.mk.injEq, and_true];apply List.map_congr_left;intro j _;simp only [aget];split
       ·rename_i e; subst e; rw [hv]; rfl
       ·rfl
      rwa [e] at this
    ·cases hx
   | _ => exact plain hx
  | seq a b =>
   simp at hc;have gen : ∀ ha hb, ex P cs fu n a ha E ⟨fun E' => ex P cs fu n b hb E' ks, ks.ex, ks.rt⟩ = some r -> Tr rr P (.seq a b) (E.env n γ) (PostK n E γ ks r) := by
    intro ha hb hx;refine tr_seq ((ih a (by omega) ha E _ γ hx hE).mono ?_);intro x e hq;cases x with
    | normal =>
     obtain ⟨γ', E', h1, h2, h3, h4, h5⟩ := hq;exact tr_le h3 ((ih b (by omega) hb E' ks γ' h4 h1).mono (post_ext h2 h5))
    | exit i => exact hq
    | ret => exact hq
    | _ => exact hq
   cases h with
   | j J ha hb =>
    simp only [ex, join] at hx;refine tr_seq ((ih a (by omega) ha E _ γ hx hE).mono ?_);intro x e hq;cases x with
    | normal =>
     obtain ⟨γ', E', h1, h2, h3, h4, h6⟩ := hq;obtain ⟨d, hd, h5⟩ := bind_some' h4;split at h5
     ·rename_i hcl;obtain ⟨γ2, hf2, hle⟩ := pk_le (n := n) hd h2 hcl γ';exact tr_le (h3.trans hle) ((ih b (by omega) hb _ ks γ2 h5 (un_ok hE)).mono (post_ext (ext_un _ _ _) (h6.trans hf2)))
     ·cases h5
    | exit i => exact hq
    | ret => exact hq
    | _ => exact hq
   | m J gs hb =>
    unfold ex at hx;dsimp only at hx;split at hx
    ·rename_i i0 ops0 b0 i1 ops1 tB b0' b1 i2 ops2 bodyc;have hbs : SizeOf.sizeOf bodyc < sz := by simp at hc; omega
     split at hx
     ·rename_i l0 tI tm x tN tP hmr;obtain ⟨rfl, ⟨rg, ho0, hrg, hrd, hrgg⟩, ⟨nx, exo, ho1, hnx, hnd, hng, hexo, hed, heg⟩, ⟨en, l2, ho2, hen, hpd, hpg⟩, hlI, hlN, hlB, hne1, hne2, hks, hjs⟩ := mrOk_ok hmr;have e0' : ops0 = (l0 ++ [rg]).toArray := by rw [<- toArr ops0, ho0]
      have e1' : ops1 = #[nx, exo] := by rw [<- toArr ops1, ho1]
      have e2' : ops2 = (en :: l2).toArray := by rw [<- toArr ops2, ho2]
      have hmem0 : ∀ y ∈ idxd l0, ops0[y.1]? = some y.2 := fun y hy => by
       have := idx_mem l0 y hy;rw [e0'];simp only [List.getElem?_toArray] at this ⊢;rw [List.getElem?_append_left (List.getElem?_eq_some_iff.1 this).1];exact this
      obtain ⟨Eg, hgh, hx⟩ := bind_some' hx;obtain ⟨gg1, gg2, gg3⟩ := ghost_ok (k := n) hgh;obtain ⟨γg, hfg, hleg⟩ := gg1 γ;refine tr_le hleg (TrK.mono ?_ (post_ext gg2 hfg))
      replace hE := gg3 hE
      clear hfg hleg gg1 gg2 gg3 hgh;revert γg;intro γ;clear gen;obtain ⟨E, rfl⟩ : ∃ E, E = Eg := ⟨_, rfl⟩;obtain ⟨ee0, hrun0, γ0, E0, hK, hE0, hx0, rfl, hf0⟩ := evs_run (idxd l0) _ hmem0 (exS_ok (idxd l0) E _ hx hE γ);have hl0 : (idxd l0).map (·.1) = List.range l0.length := idx_map l0;rw [hl0, e0'] at hrun0;split at hK
      ·rename_i k v m mm hev hmt;obtain ⟨mkt, mki, ml, mei⟩ := mm;obtain ⟨et, hund, _⟩ := mapT_ok hmt;subst e0' e1' e2';refine tr_mapRange (κ := hiI) (n := n) (ks := m.map fun y => k.enc y.1) (vs := m.map fun y => v.enc y.2) hrg hrd hrgg hund hnx hnd hng hexo hed heg hen hpd hpg hlN hlB hne1 hne2 hrun0 (by rw [tev_v, hev]; rfl) fun rb => ?_
       obtain ⟨d0, hp0, hany⟩ := bind_some' (allR_some hK rb);obtain ⟨E1, hE1⟩ : ∃ E1, E1 = E0.put (some tI) (.it rb) := ⟨_, rfl⟩;rw [<- hE1] at hp0;have hok1 : E1.ok := by rw [hE1]; exact ok_put hE0
       have hx1 : Ext E E1 := by rw [hE1]; exact hx0.trans (ext_put _ _ _)
       let body := fun (y : k.D × v.D) (d : Ds J.tys) (next : Ds J.tys -> Option R) => match (J.un E1 d).closed with
        | true => exS P cs n (en :: l2).toArray (idxd (en :: l2).toArray.toList).tail ((((J.un E1 d).put (some tN) (.tup [.leaf .bool true, .dead, .dead])).put (some tB) (.leaf .bool true)).put (some tP) (.tup [.leaf k y.1, .leaf v y.2]))
          fun E2 => ex P cs fu n bodyc hb E2 ⟨fun E' => (J.pk E1 E').bind next, fun j E' => match Nat.beq j b1 with
           | true => (J.pk E1 E').bind next
           | false => match Nat.beq j b0' with
            | true => ks.nx E'
            | false => ks.ex j E', ks.rt⟩
        | false => none
       let after := fun (d : Ds J.tys) => match (J.un E1 d).closed with
        | true => ks.nx (((J.un E1 d).put (some tN) (.tup [.leaf .bool false])).put (some tB) (.leaf .bool false))
        | false => none
       have hany : anyN body m m.length (List.range m.length) d0 after = some r := by subst hE1; exact hany
       have hcl : ∀ (rem : List Nat) (d : Ds J.tys), (∀ i ∈ rem, i < m.length) -> anyN body m rem.length rem d after = some r -> (J.un E1 d).closed = true := by
        intro rem d hrem h;cases rem with
        | nil =>
         have h : (match (J.un E1 d).closed with
          | true => ks.nx (((J.un E1 d).put (some tN) (.tup [.leaf .bool false])).put (some tB) (.leaf .bool false))
          | false => none) = some r := h
         split at h
         ·rename_i e; exact e
         ·cases h
        | cons i rem =>
         have h := anyN_some h i (by simp) (m[i]'(hrem i (by simp))) (List.getElem?_eq_getElem _);have h : (match (J.un E1 d).closed with | true => _ | false => none) = some r := h;split at h
         ·rename_i e; exact e
         ·cases h
       refine ⟨fun rem e => ∃ d γ1, e = (J.un E1 d).env n γ1 /\ Fx γ γ1 /\ anyN body m rem.length rem d after = some r /\ ∀ i ∈ rem, i < m.length, ?_, ?_, ?_, ?_⟩
       ·have hrl : ∀ i ∈ List.range m.length, i < m.length := fun i hi => by simpa using hi
        obtain ⟨γ1, hf1, hle⟩ := pk_le (n := n) hp0 (Ext.refl E1) (hcl _ _ hrl (by simpa using hany)) γ0;refine ⟨(J.un E1 d0).env n γ1, ?_, d0, γ1, rfl, hf0.trans hf1, by simpa using hany, by simpa using hrl⟩;have : (E0.env n γ0).upd (some tI) (.blk rb) [] = E1.env n γ0 := by rw [hE1, env_put]; rfl
        rw [this]; exact hle
       ·rintro rem e ⟨d, γ1, rfl, _, _, _⟩;refine ⟨by simp [TE.env, SE], ?_⟩;unfold TE.env;rw [se_get _ _ _ _ hlI, show aget ((J.un E1 d).slots γ1) tI = _ from aget_slots _ _ _ _, sget_un_keep hks hjs, hE1];simp only [TE.put, sget, Nat.beq_refl];rfl
       ·rintro e ⟨d, γ1, rfl, hf1, hL, _⟩;have hL : (match (J.un E1 d).closed with
          | true => ks.nx (((J.un E1 d).put (some tN) (.tup [.leaf .bool false])).put (some tB) (.leaf .bool false))
          | false => none) = some r := hL
        split at hL
        ·refine ⟨γ1, _, ok_put (ok_put (un_ok hok1)), ((hx1.trans (ext_un _ _ _)).trans (ext_put _ _ _)).trans (ext_put _ _ _), ?_, hL, hf1⟩;rw [env_put, env_put];exact Le.refl _
        ·cases hL
       ·rintro rem e i kx vx ⟨d, γ1, rfl, hf1, hL, hrem⟩ hi hkx hvx;have hil := hrem i hi;have hy : m[i]? = some m[i] := List.getElem?_eq_getElem hil;simp only [List.getElem?_map, hy, Option.map_some, Option.some.injEq] at hkx hvx;subst hkx hvx;obtain ⟨q, hq⟩ : ∃ q, rem.length = q + 1 := ⟨rem.length - 1, by have := List.length_pos_of_mem hi; omega⟩;rw [hq] at hL;have hL := anyN_some hL i hi m[i] hy;have hrl : (rem.erase i).length = q := by rw [List.length_erase_of_mem hi, hq]; rfl
        have hre : ∀ j ∈ rem.erase i, j < m.length := fun j hj => hrem j (List.mem_of_mem_erase hj)
        have hL : (match (J.un E1 d).closed with
         | true => exS P cs n (en :: l2).toArray (idxd (en :: l2).toArray.toList).tail ((((J.un E1 d).put (some tN) (.tup [.leaf .bool true, .dead, .dead])).put (some tB) (.leaf .bool true)).put (some tP) (.tup [.leaf k m[i].1, .leaf v m[i].2]))
          fun E2 => ex P cs fu n bodyc hb E2 ⟨fun E' => (J.pk E1 E').bind fun s' => anyN body m q (rem.erase i) s' after, fun j E' => match Nat.beq j b1 with
           | true => (J.pk E1 E').bind fun s' => anyN body m q (rem.erase i) s' after
           | false => match Nat.beq j b0' with
            | true => ks.nx E'
            | false => ks.ex j E', ks.rt⟩
         | false => none) = some r := hL
        split at hL
        ·have hmem2 : ∀ y ∈ (idxd (en :: l2)).tail, (en :: l2).toArray[y.1]? = some y.2 := fun y hy => idx_mem (en :: l2) y (List.mem_of_mem_tail hy)
         obtain ⟨ee2, hrun2, γ2, E2, hK2, hE2, hx2, rfl, hf2⟩ := evs_run (idxd (en :: l2)).tail _ hmem2 (exS_ok _ _ _ hL (ok_put (ok_put (ok_put (un_ok hok1)))) γ1);have hidx : (idxd (en :: l2)).tail.map (·.1) = List.range' 1 l2.length := by
          have := idx_map (en :: l2);rw [List.map_tail, show (idxd (en :: l2)).map (·.1) = List.range (en :: l2).length from this];simp [List.range_eq_range', List.range'_succ]
         rw [hidx, env_put, env_put, env_put] at hrun2;have hxt : Ext E1 E2 := (((ext_un J E1 d).trans (ext_put _ _ _)).trans ((ext_put _ _ _).trans (ext_put _ _ _))).trans hx2;have hagain : ∀ (e3 : Env), (∃ γ' E', E'.ok /\ Ext E2 E' /\ Le e3 (E'.env n γ') /\ ((J.pk E1 E').bind fun s' => anyN body m q (rem.erase i) s' after) = some r /\ Fx γ2 γ') ->
           ∃ e4, Le e3 e4 /\ ∃ d γ1, e4 = (J.un E1 d).env n γ1 /\ Fx γ γ1 /\ anyN body m (rem.erase i).length (rem.erase i) d after = some r /\ ∀ j ∈ rem.erase i, j < m.length := by
          rintro e3 ⟨γ', E', h1, h2, h3, h4, h5⟩
          obtain ⟨d', hd', h6⟩ := bind_some' h4
          have h7 : anyN body m (rem.erase i).length (rem.erase i) d' after = some r := by rw [hrl]; exact h6
          obtain ⟨γ3, hf3, hle⟩ := pk_le (n := n) hd' (hxt.trans h2) (hcl _ _ hre h7) γ'
          exact ⟨_, h3.trans hle, d', γ3, rfl, hf1.trans (hf2.trans (h5.trans hf3)), h7, hre⟩
         refine ⟨E2.env n γ2, hrun2, (ih bodyc hbs hb E2 _ γ2 hK2 hE2).mono ?_⟩;intro x e3 hq3;have out : ∀ {x : Exit}, PostK n E2 γ2 ks r x e3 -> PostK n E γ ks r x e3 := fun {x} h => post_ext (hx1.trans hxt) (hf1.trans hf2) x e3 h
         cases x with
         | normal => exact hagain e3 hq3
         | exit j =>
          obtain ⟨γ', E', h1, h2, h3, h4, h5⟩ := hq3;dsimp only;by_cases hj : j = b1
          ·rw [if_pos hj];subst hj;simp only [Nat.beq_refl] at h4;exact hagain e3 ⟨γ', E', h1, h2, h3, h4, h5⟩
          ·rw [if_neg hj];simp only [beq_false.2 hj] at h4;by_cases hj0 : j = b0'
           ·rw [if_pos hj0];subst hj0;simp only [Nat.beq_refl] at h4;exact out (x := .normal) ⟨γ', E', h1, h2, h3, h4, h5⟩
           ·rw [if_neg hj0];simp only [beq_false.2 hj0] at h4;exact out (x := .exit j) ⟨γ', E', h1, h2, h3, h4, h5⟩
         | ret => exact out (x := .ret) hq3
         | _ => exact hq3
        ·cases hL
      ·cases hK
     ·cases hx
    ·cases hx
   | _ => simp only [ex] at hx; exact gen _ _ hx
  | cond c x y =>
   simp at hc;have gen : ∀ (b : Bool), tev E n c = .leaf .bool b -> cond b (ex P cs fu n x h.two.1 E ks) (ex P cs fu n y h.two.2 E ks) = some r -> Tr rr P (.cond c x y) (E.env n γ) (PostK n E γ ks r) := by
    intro b hb hx;refine tr_cond (b := b) (by rw [tev_v, hb]; rfl) (fun hbt => ?_) (fun hbf => ?_)
    ·subst hbt; exact ih x (by omega) _ E ks γ hx hE
    ·subst hbf; exact ih y (by omega) _ E ks γ hx hE
   cases c with
   | tmp t =>
    simp only [ex] at hx;split at hx
    ·rename_i b hb;obtain ⟨_, hs⟩ := get_slot hb (by simp);refine tr_cond (b := b) (by rw [tev_v]; simp only [tev, hb]; rfl) (fun hbt => ?_) (fun hbf => ?_)
     ·subst hbt;rw [<- lit_env hs];exact (ih x (by omega) _ _ ks γ hx (lit_ok hs hE)).mono (post_ext (lit_ext hs) (Fx.refl _))
     ·subst hbf;rw [<- lit_env hs];exact (ih y (by omega) _ _ ks γ hx (lit_ok hs hE)).mono (post_ext (lit_ext hs) (Fx.refl _))
    ·cases hx
   | const v =>
    simp only [ex] at hx;split at hx
    ·rename_i b hb; exact gen b hb hx
    ·cases hx
   | global g =>
    simp only [ex] at hx;split at hx
    ·rename_i b hb; exact gen b hb hx
    ·cases hx
   | func f =>
    simp only [ex] at hx;split at hx
    ·rename_i b hb; exact gen b hb hx
    ·cases hx
  | loop c =>
   simp at hc;cases h with
   | w J hb =>
    simp only [ex] at hx;split at hx
    ·rename_i d0 hp;have hcl : ∀ m d, whK (fun self d => match (J.un E d).closed with
       | true => ex P cs fu n c hb (J.un E d) ⟨fun E' => (J.pk E E').bind self, ks.ex, ks.rt⟩
       | false => none) m d = some r -> (J.un E d).closed = true := by
      intro m d hw
      cases m with
      | zero => cases hw
      | succ m =>
       simp only [whK] at hw;split at hw
       ·rename_i h; exact h
       ·cases hw
     obtain ⟨γ0, hf0, hle⟩ := pk_le (n := n) hp (Ext.refl E) (hcl _ _ hx) γ;refine tr_loop (fun s : Nat × Ds J.tys × (Nat -> Nat) => (J.un E s.2.1).env n s.2.2) (fun s => whK (fun self d => match (J.un E d).closed with
       | true => ex P cs fu n c hb (J.un E d) ⟨fun E' => (J.pk E E').bind self, ks.ex, ks.rt⟩
       | false => none) s.1 s.2.1 = some r /\ Fx γ s.2.2) (fun s => s.1) (fu, d0, γ0) ⟨hx, hf0⟩ hle ?_
     rintro ⟨m, d, γ1⟩ ⟨hI, hf1⟩;dsimp only at hI hf1 ⊢;cases m with
     | zero => cases hI
     | succ m =>
      simp only [whK] at hI;split at hI
      ·rename_i hcl0;refine (ih c (by omega) hb _ _ γ1 hI (un_ok hE)).mono ?_;intro x e hq;cases x with
       | normal =>
        obtain ⟨γ', E', h1, h2, h3, h4, h6⟩ := hq;obtain ⟨d', hd', h5⟩ := bind_some' h4;obtain ⟨γ2, hf2, hle2⟩ := pk_le (n := n) hd' ((ext_un _ _ _).trans h2) (hcl _ _ h5) γ';exact ⟨(m, d', γ2), ⟨h5, hf1.trans (h6.trans hf2)⟩, Nat.lt_succ_self m, h3.trans hle2⟩
       | exit i => exact post_ext (ext_un J E d) hf1 (.exit i) e hq
       | ret => exact post_ext (ext_un J E d) hf1 .ret e hq
       | _ => exact hq
      ·cases hI
    ·cases hx
   | _ => simp [ex] at hx
  | block b0 c =>
   have gen : ∀ h', ex P cs fu n c h' E ⟨ks.nx, fun j E' => match Nat.beq j b0 with
     | true => ks.nx E'
     | false => ks.ex j E', ks.rt⟩ = some r -> Tr rr P (.block b0 c) (E.env n γ) (PostK n E γ ks r) := by
    intro h' hx
    simp at hc
    refine tr_block ((ih c (by omega) h' E _ γ hx hE).mono ?_)
    intro x e hq
    cases x with
    | exit i =>
     obtain ⟨γ', E', h1, h2, h3, h4, h5⟩ := hq;simp only [Post.inBlock];cases e1 : Nat.beq i b0 with
     | true => rw [if_pos (beqs e1)]; simp only [e1] at h4; exact ⟨γ', E', h1, h2, h3, h4, h5⟩
     | false => rw [if_neg (beq_false.1 e1)]; simp only [e1] at h4; exact ⟨γ', E', h1, h2, h3, h4, h5⟩
    | _ => exact hq
   cases h with
   | l J hb =>
    unfold ex at hx;dsimp only at hx;split at hx
    ·rename_i ida ops1 dd1 cc b0' b1 bodyc idz ops2 dd2;split at hx
     ·rename_i tC tI tN t2 hr;obtain ⟨rfl, rfl, rfl, rfl, ty1, ty2, ty3, ty4, ty5, ty6, ty7, p1, p2, p3, a1, a2, a3, opz, e1, e2, hz⟩ := rngOk_ok hr;have e1' : ops1 = #[⟨some tC, .binOp .lss ty1 (.tmp tI) (.tmp tN) ty2, ty3, p1, a1, none⟩] := by rw [<- toArr ops1, e1]
      have e2' : ops2 = #[⟨some t2, .binOp .add ty4 (.tmp tI) (.const (.int .i64 1)) ty5, ty6, p2, a2, none⟩, ⟨some tI, opz, ty7, p3, a3, none⟩] := by rw [<- toArr ops2, e2]
      subst e1' e2';have hbs : SizeOf.sizeOf bodyc < sz := by simp at hc; omega
      split at hx
      ·rename_i N d0 hz0 hNs hsl hp;have h0 := zeroI_ok hz0;obtain ⟨hne, ⟨l1, l2, l3, l4⟩, ⟨k1, k2, k3⟩, m1, m2, m3⟩ := slotsOk_ok hsl;split at hx
       ·rename_i m hfl;obtain ⟨hmem, hti, hw⟩ := findL_ok hfl;split at hx
        ·rename_i q1 q2 q3 q4 q5;have hq5 : m.tl < n := by simpa [Nat.blt_eq] using q5
         obtain ⟨g1, g2, g3⟩ := hE m hmem;unfold Memo.so at g3;rw [hw] at g3;rw [hti] at g2;have hNv : (N : Int) = (m.l.length : Int) := by
          have := (get_slot hNs (by simp)).2;rw [this] at g2;injection g2 with _ g4
          rw [<- g3]; exact eq_of_heq (heq_of_eq g4)
         refine tr_limK (t := m.tl) (sz := m.t.size) (l := m.l.map m.t.enc) hq5 (by rw [g1]; rfl) fun hlim => ?_
         have hlim : m.l.length <= LIM := by simpa using hlim
         let body := fun (k : Nat) (x : m.t.D) (d : Ds J.tys) (next : Ds J.tys -> Option R) => match (J.un E d).closed with
          | true => ex P cs fu n bodyc hb ((((J.un (E.at tI k) d).put (some tC) (.leaf .bool true))).memo ⟨m.tl, tI, m.t, m.l, (k : Int), some x⟩)
           ⟨fun E' => (J.pk (E.at tI k) E').bind next, fun j E' => match Nat.beq j b1 with
            | true => (J.pk (E.at tI k) E').bind next
            | false => match Nat.beq j b0' with
             | true => ks.nx E'
             | false => ks.ex j E', ks.rt⟩
          | false => none
         let after := fun (d : Ds J.tys) => match (J.un E d).closed with
          | true => ks.nx (((J.un E d).put (some tI) .dead).put (some tC) .dead)
          | false => none
         have hcl : ∀ k d, forK body k (m.l.drop k) d after = some r -> (J.un E d).closed = true := by
          intro k d h;cases hd : m.l.drop k with
          | nil =>
           rw [hd] at h;have h : (match (J.un E d).closed with
            | true => ks.nx (((J.un E d).put (some tI) .dead).put (some tC) .dead)
            | false => none) = some r := h
           split at h
           ·rename_i e; exact e
           ·cases h
          | cons x xs =>
           rw [hd] at h;have h : body k x d (fun s' => forK body (k + 1) xs s' after) = some r := h;have h : (match (J.un E d).closed with | true => _ | false => none) = some r := h;split at h
           ·rename_i e; exact e
           ·cases h
         refine tr_range (N := N) γ (fun k d => forK body k (m.l.drop k) d after) (by rw [hNv]; exact Int.ofNat_le.2 hlim) hz hE h0 hNs hsl hp hx hcl (fun k d γ hk hL => ?_) (fun k d hk hL => ?_)
         ·have hk' : k < m.l.length := by rw [hNv] at hk; omega
          have hgk : m.l[k]? = some m.l[k] := List.getElem?_eq_getElem hk'
          try dsimp only at hL
          rw [forK_drop body m.l k m.l[k] d after hgk] at hL;have hL : (match (J.un E d).closed with
           | true => ex P cs fu n bodyc hb ((((J.un (E.at tI k) d).put (some tC) (.leaf .bool true))).memo ⟨m.tl, tI, m.t, m.l, (k : Int), some m.l[k]⟩)
            ⟨fun E' => (J.pk (E.at tI k) E').bind fun s' => forK body (k + 1) (m.l.drop (k + 1)) s' after, fun j E' => match Nat.beq j b1 with
             | true => (J.pk (E.at tI k) E').bind fun s' => forK body (k + 1) (m.l.drop (k + 1)) s' after
             | false => match Nat.beq j b0' with
              | true => ks.nx E'
              | false => ks.ex j E', ks.rt⟩
           | false => none) = some r := hL
          split at hL
          ·have hok : ((((J.un (E.at tI k) d).put (some tC) (.leaf .bool true))).memo ⟨m.tl, tI, m.t, m.l, (k : Int), some m.l[k]⟩).ok := by
            intro m' hm';rcases List.mem_cons.1 hm' with rfl | hm'
            ·refine ⟨?_, ?_, ⟨k, rfl, hgk⟩⟩
             ·simp only [TE.memo, TE.put, sget, q4];rw [sget_un_keep q1 q2, at_get, if_neg (beq_false.1 q3)];exact g1
             ·simp only [TE.memo, TE.put, sget, beq_false.2 (Ne.symm hne.1)];rw [sget_un_keep k1 m1, at_get, if_pos rfl]
            ·exact ok_put (un_ok (ok_put hE)) m' hm'
           have := ih bodyc hbs hb _ _ γ hL hok;rw [memo_env] at this;exact this.mono (post_ext (ext_memo _ _) (Fx.refl _))
          ·cases hL
         ·have hk' : k = m.l.length := by rw [hk, hNv]; simp
          try dsimp only at hL
          rw [hk', List.drop_length] at hL;have hL : (match (J.un E d).closed with
            | true => ks.nx (((J.un E d).put (some tI) .dead).put (some tC) .dead)
            | false => none) = some r := hL
          split at hL
          ·exact hL
          ·cases hL
        ·cases hx
       ·obtain ⟨_, hchk, hx⟩ := bind_some' hx;have hlim := chk_some hchk;let body := fun (k : Nat) (d : Ds J.tys) (next : Ds J.tys -> Option R) => match (J.un E d).closed with
         | true => ex P cs fu n bodyc hb ((J.un (E.at tI k) d).put (some tC) (.leaf .bool true))
          ⟨fun E' => (J.pk (E.at tI k) E').bind next, fun j E' => match Nat.beq j b1 with
           | true => (J.pk (E.at tI k) E').bind next
           | false => match Nat.beq j b0' with
            | true => ks.nx E'
            | false => ks.ex j E', ks.rt⟩
         | false => none
        let after := fun (d : Ds J.tys) => match (J.un E d).closed with
         | true => ks.nx (((J.un E d).put (some tI) .dead).put (some tC) .dead)
         | false => none
        have hcl : ∀ k d, cntK body k (Int.toNat N - k) d after = some r -> (J.un E d).closed = true := by
         intro k d h;cases hd : Int.toNat N - k with
         | zero =>
          rw [hd] at h;have h : (match (J.un E d).closed with
           | true => ks.nx (((J.un E d).put (some tI) .dead).put (some tC) .dead)
           | false => none) = some r := h
          split at h
          ·rename_i e; exact e
          ·cases h
         | succ q =>
          rw [hd] at h;have h : (match (J.un E d).closed with | true => _ | false => none) = some r := h;split at h
          ·rename_i e; exact e
          ·cases h
        refine tr_range (N := N) γ (fun k d => cntK body k (Int.toNat N - k) d after) hlim hz hE h0 hNs hsl hp hx hcl (fun k d γ hk hL => ?_) (fun k d hk hL => ?_)
        ·obtain ⟨q, hq⟩ : ∃ q, Int.toNat N - k = q + 1 := ⟨Int.toNat N - k - 1, by omega⟩;have hq' : Int.toNat N - (k + 1) = q := by omega
         try dsimp only at hL ⊢
         rw [hq] at hL;rw [hq'];have hL : (match (J.un E d).closed with
          | true => ex P cs fu n bodyc hb ((J.un (E.at tI k) d).put (some tC) (.leaf .bool true))
           ⟨fun E' => (J.pk (E.at tI k) E').bind fun s' => cntK body (k + 1) q s' after, fun j E' => match Nat.beq j b1 with
            | true => (J.pk (E.at tI k) E').bind fun s' => cntK body (k + 1) q s' after
            | false => match Nat.beq j b0' with
             | true => ks.nx E'
             | false => ks.ex j E', ks.rt⟩
          | false => none) = some r := hL
         split at hL
         ·exact ih bodyc hbs hb _ _ γ hL (ok_put (un_ok (ok_put hE)))
         ·cases hL
        ·have hk' : Int.toNat N - k = 0 := by omega
         try dsimp only at hL
         rw [hk'] at hL;have hL : (match (J.un E d).closed with
           | true => ks.nx (((J.un E d).put (some tI) .dead).put (some tC) .dead)
           | false => none) = some r := hL
         split at hL
         ·exact hL
         ·cases hL
      ·cases hx
     ·cases hx
    ·cases hx
   | _ => exact gen _ hx
  | _ => simp [ex] at hx
def tres (P : Program) (n : Nat) (E : TE) : List ResultVar -> Option (List TV)
 | [] => some []
 | .tmp t :: r => match tres P n E r with
  | some l => some (E.get n t :: l)
  | none => none
 | .cell t ty :: r => match tload P E ty (E.get n t), tres P n E r with
  | some v, some l => some (v :: l)
  | _, _ => none
def finK (P : Program) (n : Nat) (rs : List ResultVar) : (rt : Rt) -> TE -> Option rt.D
 | .one t, E => match tres P n E rs with
  | some [v] => match toD (lf1 (oget E.h)) t v with
   | some (x, bs) => chks bs (some x)
   | none => none
  | _ => none
 | .many ts, E => match Nat.beq ts.length 1, tres P n E rs with
  | false, some vs => match convs (lf1 (oget E.h)) ts vs with
   | some (x, bs) => chks bs (some x)
   | none => none
  | _, _ => none
def Rt.tys : Rt -> List Ty
 | .one t => [t]
 | .many ts => ts
def finS (P : Program) (n : Nat) (rs : List ResultVar) (rt : Rt) (E : TE) : TE := match tres P n E rs with
 | some vs => orE E (foldE2 (sealV 12) rt.tys vs E)
 | none => E
theorem finS_ok (P : Program) (n : Nat) (rs : List ResultVar) (rt : Rt) (E : TE) : Gst n E (finS P n rs rt E) := by
 unfold finS;split
 ·exact orE_ok fun E' h => foldE2_ok (fun t v E E' => sealV_ok 12 t v E E') h
 ·exact Gst.refl n E
def argTV : List Ar -> List TV -> List TV
 | [], _ => []
 | .d _ :: r, v :: vs => v :: argTV r vs
 | .d _ :: _, [] => []
 | .f g cs :: r, vs => .fn g (vs.take cs.length) :: argTV r (vs.drop cs.length)
def argE (l : List TV) : TE := ⟨l.zipIdx.map fun x => (x.2, 0, x.1), [], [], 1⟩
noncomputable def exF {P : Program} (cs : Cs P) (fu : Nat) (fn : Func) (ar : List Ar) (rt : Rt) (h : HT) (d : Ds (tys ar)) : Option rt.D :=
 match fn.body with
  | none => none
  | some c => ex P cs fu fn.ntmps c h (argE (argTV ar (dtv (tys ar) d))) ⟨fun E => finK P fn.ntmps fn.results.toList rt (finS P fn.ntmps fn.results.toList rt E), fun _ _ => none, fun E => finK P fn.ntmps fn.results.toList rt (finS P fn.ntmps fn.results.toList rt E)⟩
theorem argTV_v (H γ : Nat -> Nat) : ∀ (ar : List Ar) (vs : List TV), TV.vL H γ (argTV ar vs) = unflat ar (TV.vL H γ vs)
 | [], _ => rfl
 | .d _ :: r, v :: vs => by simp only [argTV, unflat, TV.vL, argTV_v H γ r vs]
 | .d _ :: _, [] => rfl
 | .f g cs :: r, vs => by
  simp only [argTV, unflat, TV.vL, argTV_v H γ r, TV.v];rw [vL_map, vL_map, vL_map, List.map_take, List.map_drop]
theorem tres_ok {P : Program} {n : Nat} {E : TE} {γ : Nat -> Nat} {st a w} (hr : Rel st (E.env n γ) a w) : ∀ (rs : List ResultVar) (vs : List TV), tres P n E rs = some vs ->
  ∃ ms : List Value, (rs.mapM (m := Sem) fun | .tmp t => pure (a.tmps.getD t undef) | .cell t ty => do loadVar ty (<- asAddr (a.tmps.getD t undef))).run P w = .ok ms w /\ ms.length = vs.length /\
   ∀ (j : Nat) (c : TV) (m : Value), vs[j]? = some c -> ms[j]? = some m -> Rep w st (c.v (olen E.h) γ) m
 | [], vs, h => by simp only [tres] at h; cases h; exact ⟨[], rfl, rfl, by simp⟩
 | rv :: rs, vs, h => by
  have one : ∀ v l, tres P n E rs = some l -> (∃ m, (match rv with | .tmp t => pure (a.tmps.getD t undef) | .cell t ty => do loadVar ty (<- asAddr (a.tmps.getD t undef)) : Sem Value).run P w = .ok m w /\ Rep w st (v.v (olen E.h) γ) m) ->
    ∃ ms : List Value, ((rv :: rs).mapM (m := Sem) fun | .tmp t => pure (a.tmps.getD t undef) | .cell t ty => do loadVar ty (<- asAddr (a.tmps.getD t undef))).run P w = .ok ms w /\ ms.length = (v :: l).length /\
     ∀ (j : Nat) (c : TV) (m : Value), (v :: l)[j]? = some c -> ms[j]? = some m -> Rep w st (c.v (olen E.h) γ) m := by
   intro v l hl ⟨m, r1, r2⟩
   obtain ⟨ms, s1, s2, s3⟩ := tres_ok hr rs l hl
   refine ⟨m :: ms, ?_, by simp [s2], fun j c x hc hx => ?_⟩
   ·rw [List.mapM_cons, Sem.run_bind];have r1' := r1;cases rv with
    | tmp t => simp only [] at r1' ⊢; rw [r1', Result.andThen_ok, Sem.run_bind, s1]; rfl
    | cell t ty => simp only [] at r1' ⊢; rw [r1', Result.andThen_ok, Sem.run_bind, s1]; rfl
   ·cases j with
    | zero => simp at hc hx; subst hc hx; exact r2
    | succ j => simp at hc hx; exact s3 j c x hc hx
  have hev : ∀ t, Rep w st ((E.get n t).v (olen E.h) γ) (a.tmps.getD t undef) := fun t => by
   have := hr.ev (.tmp t);rw [tev_v] at this;exact this
  cases rv with
  | tmp t =>
   simp only [tres] at h;split at h
   ·rename_i l hl; cases h; exact one _ l hl ⟨_, rfl, hev t⟩
   ·cases h
  | cell t ty =>
   simp only [tres] at h;split at h
   ·rename_i v l hv hl;cases h;have h1 := tload_v (γ := γ) hv;obtain ⟨ad, u, g1, g2, g3⟩ := load_spec (hev t) hr.heap h1;refine one v l hl ⟨u, ?_, g3⟩;simp only [g1, asAddr, pure_bind, g2]
   ·cases h
def FinT (P : Program) (fn : Func) (r : V) : Post
 | .normal, e | .ret, e => ∃ e1, Le e e1 /\ ∀ st a w, Rel st e1 a w -> ∃ m, (results fn a.tmps).run P w = .ok m w /\ RepS w (okS st) r m
 | _, _ => False
theorem results_fold {P : Program} {fn : Func} {a : Act} {w : World} {ms : List Value} (h : (fn.results.toList.mapM (m := Sem) fun | .tmp t => pure (a.tmps.getD t undef) | .cell t ty => do loadVar ty (<- asAddr (a.tmps.getD t undef))).run P w = .ok ms w) :
  (results fn a.tmps).run P w = .ok (if h : ms.toArray.size = 1 then ms.toArray[0] else .tuple ms.toArray) w := by
 unfold results
 rw [Sem.run_bind, Array.mapM_eq_mapM_toList, Sem.run_map]
 erw [h]
 rfl
theorem finK_ok {P : Program} {fn : Func} {E : TE} {rt : Rt} {x : rt.D} {γ : Nat -> Nat} (h : finK P fn.ntmps fn.results.toList rt E = some x) :
  ∀ st a w, Rel st (E.env fn.ntmps γ) a w -> ∃ m, (results fn a.tmps).run P w = .ok m w /\ RepS w (okS st) (rt.v x) m := by
 intro st a w hr
 cases rt with
 | one t =>
  simp only [finK] at h;split at h
  ·rename_i v hv;split at h
   ·rename_i y bs hy;obtain ⟨h1, h2⟩ := chks_ok h;cases h2;obtain ⟨ms, r1, r2, r3⟩ := tres_ok hr _ _ hv
    match ms, r2 with
    | [m], _ =>
     refine ⟨m, results_fold r1, ?_⟩;exact toD1_L (fun m _ => rfl) hy h1 w st m hr.heap (r3 0 v m rfl rfl)
   ·cases h
  ·cases h
 | many ts =>
  simp only [finK] at h;split at h
  ·rename_i vs hlen hv;split at h
   ·rename_i y bs hy;obtain ⟨h1, h2⟩ := chks_ok h;cases h2;obtain ⟨ms, r1, r2, r3⟩ := tres_ok hr _ _ hv;have hw : ∀ v ∈ vs, ∀ (t : Ty) (x : t.D) (p : List Bool), toD (lf1 (oget E.h)) t v = some (x, p) -> (∀ b ∈ p, b = true) -> ConvL (E.heap γ) (v.v (olen E.h) γ) (t.enc x) := fun v _ t x p hx hp => toD1_L (fun m _ => rfl) hx hp
    obtain ⟨c1, c2⟩ := convs_ok (thr_L (E.heap γ)) (H := olen E.h) (γ := γ) ts vs x bs hw hy h1;have hne : ¬ ms.toArray.size = 1 := by
     have := beq_false.1 hlen;simp only [List.size_toArray];omega
    refine ⟨_, results_fold r1, ?_⟩;rw [dif_neg hne];refine .tup (by simp [Rt.v, dvs_len]; omega) fun j c m hc hm => ?_
    have hm' : ms[j]? = some m := by simpa using hm
    have hj : j < vs.length := by rw [<- r2]; exact (List.getElem?_eq_some_iff.1 hm').1
    have hv := List.getElem?_eq_getElem hj;exact c2 j vs[j] c hv hc w st m hr.heap (r3 j vs[j] m hv hm')
   ·cases h
  ·cases h
open Classical in
theorem pc_ofT {P : Program} {f : FuncId} {fn : Func} {c : Code} {vs : List V} {r : V} (hf : P.funcs[f]? = some fn) (hb : fn.body = some c) (hn : (fn.name == "runtime.NumGoroutine") = false)
  (h : Tr false P c ⟨vs ++ List.replicate (fn.ntmps - vs.length) .dead, []⟩ (FinT P fn r)) : PC P f vs r := by
 refine ⟨⟨fn, hf, by rw [hb]; rfl, hn⟩, fun w S ms hS hms hrep => callsIn_wide.1 (callsIn_of_wp_marks (n := 0) hf hb trivial ?_)⟩
 let st : Nat -> Own := fun b => if S b then .shut else .none
 have hst : ∀ b, st b = .shut ↔ S b := by
  intro b
  show (if S b then Own.shut else .none) = .shut ↔ S b
  by_cases hb : S b <;> simp [hb]
 have hno : ∀ b n g o, st b ≠ .id n g o := by
  intro b n g o
  show (if S b then Own.shut else .none) ≠ _
  split <;> simp
 have hnh : ∀ b s, st b ≠ .hid s := by
  intro b s
  show (if S b then Own.shut else .none) ≠ _
  split <;> simp
 have hrel : Rel st ⟨vs ++ List.replicate (fn.ntmps - vs.length) .dead, []⟩ { tmps := ms ++ Array.replicate (fn.ntmps - ms.size) undef, defers := [] } w := by
  refine ⟨by simp [hms], fun i c v h1 h2 => ?_, ⟨fun n x hx => by simp [hget] at hx, fun b n g o hb => absurd hb (hno _ _ _ _), fun b b' n g o g' o' hb => absurd hb (hno _ _ _ _), fun b hb => hS b ((hst b).1 hb), fun b s hb => absurd hb (hnh _ _)⟩⟩;simp only at h1 h2;rw [List.getElem?_append] at h1;rw [Array.getElem?_append, hms] at h2;by_cases hi : i < vs.length
  ·rw [if_pos hi] at h1 h2;exact .s ((hrep i c v h1 h2).frame fun b hb => ⟨(hst b).2 hb, rfl⟩)
  ·rw [if_neg hi] at h1;have := List.mem_replicate.1 (List.mem_of_getElem? h1);rw [this.2]; exact .dead
 have post : ∀ (a' : Act) (w' : World) (e' : Env) (st' : Nat -> Own), (∃ e1, Le e' e1 /\ ∀ st a w, Rel st e1 a w -> ∃ m, (results fn a.tmps).run P w = .ok m w /\ RepS w (okS st) r m) -> Rel st' e' a' w' -> MarksOk w.heap.size st' w' a'.defers -> Hist w st w' st' ->
   LeavesInM (FR none) 0 P fn a'.tmps (fun en w' => ∃ m S', en = Ending.returned m /\ RepS w' S' r m /\ (∀ b, b < w.heap.size -> (S' b ↔ S b)) /\ (∀ b, S' b -> b < w'.heap.size) /\
    w.heap.size <= w'.heap.size /\ (∀ b, b < w.heap.size -> w'.heap[b]? = w.heap[b]?) /\ Same3 w w') a'.defers .returning w' := by
  intro a' w' e' st0' ⟨e1, hle, hres⟩ hrel0 hmk0 hfr0
  obtain ⟨st', hrel', hh1⟩ := hle _ _ _ hrel0
  have hfr := hfr0.trans hh1
  refine leaves_marks _ _ (hmk0.hist hh1) fun w2 hnon hlow => ?_
  have hrel2 := hrel'.non hnon
  obtain ⟨m, h1, h2⟩ := hres _ _ _ hrel2
  refine ⟨m, h1, m, okS st', rfl, h2, fun b hb => ?_, fun b hb => ?_, by rw [hnon.size]; exact hfr.size, fun b hb => (hlow b hb).trans (hfr.non b hb (hno b) (hnh b)).2, hfr.env.trans hnon.env⟩
  ·unfold okS;rw [(hfr.non b hb (hno b) (hnh b)).1]
   show (if S b then Own.shut else .none) ≠ .none ↔ S b
   by_cases hb : S b <;> simp [hb]
  ·exact okS_lt hrel2.heap hb
 refine wpIn_mono (h none w.heap.size st _ w (fun _ => rfl) (Nat.le_refl _) hrel trivial) ?_
 rintro ex a' w' ⟨e', st', hq, hrel', hmk, hfr⟩
 cases ex with
 | normal => exact post a' w' e' st' hq hrel' hmk hfr
 | ret => exact post a' w' e' st' hq hrel' hmk hfr
 | exit => exact hq.elim
 | goto => exact hq.elim
 | panic => exact hq.elim
 | outgrown => exact hq.elim
theorem argE_env (n : Nat) (γ : Nat -> Nat) (l : List TV) (hl : l.length <= n) : Le ⟨TV.vL z0 γ l ++ List.replicate (n - (TV.vL z0 γ l).length) .dead, []⟩ ((argE l).env n γ) := by
 refine le_slots rfl (by simp [TE.env, SE, vL_map]; omega) fun i c c' h1 h2 => ?_
 have hi : i < n := by have := (List.getElem?_eq_some_iff.1 h2).1; simpa [TE.env, SE] using this
 rw [env_t hi] at h2;cases h2;right;have hO : olen (argE l).h = z0 := rfl;rw [hO];have key : ∀ (l : List TV) (k i : Nat), sget ((l.zipIdx k).map fun x => (x.2, 0, x.1)) (k + i) = (l[i]?).getD .dead := by
  intro l;induction l with
  | nil => intro k i; rfl
  | cons a l ih =>
   intro k i;simp only [List.zipIdx_cons, List.map_cons, sget];cases i with
   | zero => simp [Nat.beq_refl]
   | succ i =>
    rw [beq_false.2 (by omega), show k + (i + 1) = k + 1 + i by omega];simp only;rw [ih]; simp
 have := key l 0 i;rw [Nat.zero_add] at this
 show (sget (argE l).s i).v z0 γ = c
 rw [show (argE l).s = l.zipIdx.map fun x => (x.2, 0, x.1) from rfl, this];dsimp only at h1;rw [List.getElem?_append] at h1;split at h1
 ·rename_i hlt;rw [vL_get] at h1;simp only [Option.map_eq_some_iff] at h1;obtain ⟨v, hv, rfl⟩ := h1;rw [hv]; rfl
 ·rename_i hlt;have := List.mem_replicate.1 (List.mem_of_getElem? h1);rw [this.2];rw [vL_map, List.length_map] at hlt;rw [List.getElem?_eq_none (by omega)]; rfl
theorem argTV_len : ∀ (ar : List Ar) (vs : List TV), (argTV ar vs).length <= ar.length
 | [], _ => by simp [argTV]
 | .d _ :: r, v :: vs => by simp only [argTV, List.length_cons]; have := argTV_len r vs; omega
 | .d _ :: _, [] => by simp [argTV]
 | .f g cs :: r, vs => by simp only [argTV, List.length_cons]; have := argTV_len r (vs.drop cs.length); omega
def fnOk (fn : Func) (ar : List Ar) : Bool := !(fn.name == "runtime.NumGoroutine") && Nat.ble ar.length fn.ntmps
theorem exF_ok {P : Program} {cs : Cs P} {fu : Nat} {f : FuncId} {fn : Func} {ar : List Ar} {rt : Rt} {h : HT} {d : Ds (tys ar)} {r : rt.D} (hm : P.follows .mixedOrders = true) (hf : P.funcs[f]? = some fn)
  (hn : fnOk fn ar = true) (hx : exF cs fu fn ar rt h d = some r) : PC P f (unflat ar (dvs (tys ar) d)) (rt.v r) := by
 unfold exF at hx
 split at hx
 ·cases hx
 ·rename_i c hb;unfold fnOk at hn;simp only [Bool.and_eq_true, Bool.not_eq_true'] at hn;refine pc_ofT hf hb hn.1 ?_;have hvs : unflat ar (dvs (tys ar) d) = TV.vL z0 z0 (argTV ar (dtv (tys ar) d)) := by rw [argTV_v, dtv_v]
  rw [hvs];refine tr_le (argE_env fn.ntmps z0 _ (Nat.le_trans (argTV_len _ _) (Nat.le_of_ble_eq_true hn.2))) ?_;refine (ex_ok hm _ c (Nat.lt_succ_self _) h _ _ z0 hx (fun m hm => by cases hm)).mono ?_;intro x e hq;cases x with
  | normal => obtain ⟨γ, E', h1, h2, h3, h4, _⟩ := hq; exact ⟨_, h3.trans ((finS_ok _ _ _ _ _).1 γ), finK_ok h4⟩
  | ret => obtain ⟨γ, E', h1, h2, h3, h4, _⟩ := hq; exact ⟨_, h3.trans ((finS_ok _ _ _ _ _).1 γ), finK_ok h4⟩
  | exit i => obtain ⟨γ, E', h1, h2, h3, h4, _⟩ := hq; cases h4
  | _ => exact hq
noncomputable def Ct.mk' {P : Program} (hm : P.follows .mixedOrders = true) (cs : Cs P) (fu : Nat) (f : FuncId) (fn : Func) (ar : List Ar) (rt : Rt) (h : HT) (hf : P.funcs[f]? = some fn) (hn : fnOk fn ar = true)
  (F : Ds (tys ar) -> Option rt.D) (hF : F = exF cs fu fn ar rt h) : Ct P := ⟨f, ar, rt, F, fun d r hd => exF_ok hm hf hn (by rw [<- hF]; exact hd)⟩
end Go.PG.PH
set_option linter.unusedVariables false
namespace Go.PG.PH
open Go.PG
def InR : (t : Ty) -> t.D -> Prop
 | .int k, x => k.min <= (x : Int) /\ (x : Int) <= k.max
 | .list t, l => ∀ x ∈ (l : List t.D), InR t x
 | .box a, x => InR a x
 | .pair a b, x => InR a x.1 /\ InR b x.2
 | .bool, _ => True
 | .str, _ => True
 | .unit, _ => True
 | .map _ _, _ => True
def fitFs (rec : Nat -> Ty -> Bool) : List (Nat × Nat) -> Ty -> Bool
 | [], .unit => true
 | [f], u => rec f.2 u
 | f :: g :: r, .pair a b => match rec f.2 a with
  | true => fitFs rec (g :: r) b
  | false => false
 | _, _ => false
def tyFit (P : Program) : Nat -> Nat -> Ty -> Bool
 | 0, _, _ => false
 | m + 1, t, ty => match tab P t with
  | none => false
  | some i => match Nat.beq i.size ty.size, decide (i.isA = ty.isA) with
   | true, true => match i.kind, ty with
    | .int k, .int k' => decide (k = k')
    | .bool, .bool => true
    | .str, .str => true
    | .slice e, .list u => tyFit P m e u
    | .struct [f], .box u => tyFit P m f.2 u
    | .struct (f :: g :: r), u => fitFs (tyFit P m) (f :: g :: r) u
    | .struct [], .unit => true
    | _, _ => false
   | _, _ => false
theorem fsVT_D {P : Program} {rec : Nat -> List V -> Prop} {fit : Nat -> Ty -> Bool} (hr : ∀ t ty cs, rec t cs -> fit t ty = true -> ∃ d : ty.D, cs = ty.cells d /\ InR ty d) :
  ∀ (fs : List (Nat × Nat)) (ty : Ty) (cs : List V), fsVT P rec fs cs -> fitFs fit fs ty = true -> ∃ d : ty.D, cs = ty.cells d /\ InR ty d
 | [], ty, cs, h, hf => by
  cases ty <;> simp only [fitFs] at hf <;> first | cases hf | skip
  simp only [fsVT] at h;exact ⟨(), h, trivial⟩
 | [f], ty, cs, h, hf => by
  simp only [fitFs] at hf;simp only [fsVT] at h;obtain ⟨i, a, b, _, rfl, _, h2, rfl⟩ := h;obtain ⟨d, h3, h4⟩ := hr _ _ _ h2 hf;exact ⟨d, by simpa using h3, h4⟩
 | f :: g :: r, ty, cs, h, hf => by
  cases ty with
  | pair a b =>
   simp only [fitFs] at hf;split at hf
   ·rename_i hfa;obtain ⟨i, x, y, _, rfl, _, h2, h3⟩ := h;obtain ⟨d1, e1, e2⟩ := hr _ _ _ h2 hfa;obtain ⟨d2, e3, e4⟩ := fsVT_D hr (g :: r) b y h3 hf;exact ⟨(d1, d2), by simp only [Ty.cells]; rw [e1, e3], e2, e4⟩
   ·cases hf
  | _ => simp [fitFs] at hf
theorem fit_size {P : Program} {m t : Nat} {ty : Ty} {i : TI} (h : tyFit P m t ty = true) (hi : tab P t = some i) : i.size = ty.size /\ i.isA = ty.isA := by
 cases m with
 | zero => cases h
 | succ m =>
  simp only [tyFit, hi] at h;split at h
  ·rename_i h1 h2;exact ⟨beqs h1, of_decide_eq_true h2⟩
  ·cases h
theorem VT_D {P : Program} : ∀ (m n t : Nat) (cs : List V) (ty : Ty), VT P n t cs -> tyFit P m t ty = true -> ∃ d : ty.D, cs = ty.cells d /\ InR ty d
 | 0, _, _, _, _, _, h => by cases h
 | m + 1, 0, _, _, _, h, _ => by cases h
 | m + 1, n + 1, t, cs, ty, h, hf => by
  obtain ⟨i, hi, h⟩ := h;obtain ⟨hsz, hA⟩ := fit_size hf hi;simp only [tyFit, hi] at hf;split at hf
  ·rename_i q1 q2;clear q1 q2;split at hf
   ·rename_i k k' hk;rw [hk] at h;have := of_decide_eq_true hf;subst this;obtain ⟨x, rfl, h1, h2⟩ := h;exact ⟨x, rfl, h1, h2⟩
   ·rename_i hk;rw [hk] at h;obtain ⟨b, rfl⟩ := h;exact ⟨b, rfl, trivial⟩
   ·rename_i hk;rw [hk] at h;obtain ⟨b, rfl⟩ := h;exact ⟨b, rfl, trivial⟩
   ·rename_i e u hk;rw [hk] at h;obtain ⟨ei, l, he, rfl, hl⟩ := h;obtain ⟨es, eA⟩ := fit_size hf he;have key : ∀ l : List V, (∀ x ∈ l, ∃ ys, VT P n e ys /\ ys.length = ei.size /\ (ei.isA = true -> x = .agg ys) /\ (ei.isA = false -> [x] = ys)) -> ∃ l' : List u.D, l = List.map (fun x => mkV u.isA (u.cells x)) l' /\ ∀ a ∈ l', InR u a := by
     intro l;induction l with
     | nil => intro _; exact ⟨[], rfl, by simp⟩
     | cons x l ih =>
      intro h;obtain ⟨ys, y1, _, y3, y4⟩ := h x (by simp);obtain ⟨d, e1, e2⟩ := VT_D m n e ys u y1 hf;obtain ⟨l', e3, e4⟩ := ih fun z hz => h z (by simp [hz])
      refine ⟨d :: l', ?_, fun z hz => ?_⟩
      ·rw [List.map_cons, <- e3];congr 1;cases hA : u.isA with
       | true => rw [y3 (by rw [eA]; exact hA), e1]; rfl
       | false =>
        have := y4 (by rw [eA]; exact hA);rw [<- e1, <- this]; rfl
      ·rcases List.mem_cons.1 hz with rfl | hz
       ·exact e2
       ·exact e4 z hz
    obtain ⟨l', e1, e2⟩ := key l hl;exact ⟨l', by simp only [Ty.cells, <- e1, es], e2⟩
   ·rename_i f u hk;rw [hk] at h;obtain ⟨i2, a, b, _, rfl, _, h2, rfl⟩ := h;obtain ⟨d, e1, e2⟩ := VT_D m n _ _ _ h2 hf;exact ⟨d, by simpa [Ty.cells] using e1, e2⟩
   ·rename_i f g r u hk;rw [hk] at h;exact fsVT_D (fun t ty cs h1 h2 => VT_D m n t cs ty h1 h2) _ _ _ h hf
   ·rename_i hk;rw [hk] at h;exact ⟨(), h, trivial⟩
   ·cases hf
  ·cases hf
theorem VA_D {P : Program} {m n t : Nat} {x : V} {ty : Ty} (h : VA P n t x) (hf : tyFit P m t ty = true) : ∃ d : ty.D, x = ty.enc d /\ InR ty d := by
 obtain ⟨i, cs, hi, h1, h2, h3⟩ := h;obtain ⟨_, hA⟩ := fit_size hf hi;obtain ⟨d, e1, e2⟩ := VT_D m n t cs ty h1 hf;refine ⟨d, ?_, e2⟩;unfold Ty.enc;cases hA' : ty.isA with
 | true => rw [h2 (by rw [hA]; exact hA'), e1]; rfl
 | false =>
  have := h3 (by rw [hA]; exact hA');rw [<- e1, this]; rfl
end Go.PG.PH
namespace Go.Proofs.YtgpioploehgpdaaGreat
open Go.PG Go.ChangeShapes Go.WideShapes Go.ChangeAt Go.RowKit
theorem bk (H : Type) : Bk (Rows.uptoBulk (H := H)) Rows.uptoBulkAll := by
 have pos : ∀ d : DataW H, 1 <= Rows.uptoBulk d := by
  intro d;cases d with
  | lit l => cases l <;> simp [Rows.uptoBulk]
  | _ => simp [Rows.uptoBulk]
 refine ⟨fun l => pos _, fun b => by simp [Rows.uptoBulk], pos _, fun es sp => by simp [Rows.uptoBulk], fun ps => by simp [Rows.uptoBulk], fun d ds => by simp [Rows.uptoBulkAll], pos⟩
theorem laidOut : laidOutB Tryz.prog = true := by kernel_rfl
theorem own : ownKnob Tryz.prog.godebug = none := by kernel_rfl
open Go.PG Go.ChangeShapes in
theorem joined_of {P : Program} {f : FuncId} {fn : Func} {s : ChangeSpec} {c : OpenClaim} (h1 : (c.inPlace == P.inPlace f) = true) (h2 : (c.unfollowed == P.unfollowed f) = true) (h3 : (c.recurses == P.recurses f) = true) (h4 : (c.named == P.varsNamed f) = true)
  (h5 : P.mayEnter = true) (h6 : (c.lifted == P.liftsFinal) = true) (h7 : (P.make == some c.make) = true) (h8 : laidOutB P = true) (h9 : P.stopsHeard = true)
  (ha : (c.wf (OpenSpec.ofChange s) && mapsRowed P && fn.params.all (P.readableRec ·) && namedTie P c.named s.vars && (c.stops == []) && (P.stops == []) && (c.knobs == []) && (P.stopKnobs == [])) = true)
  (hb : ((c.maps == (fn.params.toList ++ s.plain.varTypes P).any (P.mapsRec ·)) && (c.ifaces == (fn.params.toList ++ s.plain.varTypes P).any (P.ifacesRec ·)) && (c.mapsOut == P.mapsAmong fn.resultTypes.toList) &&
   (c.loops == (fn.params.toList ++ s.plain.varTypes P).any (P.loopsFrom ·)) && (c.wideKeys == (fn.params.toList ++ s.plain.varTypes P ++ fn.resultTypes.toList).any (P.wideKeysFrom ·)) &&
   s.vars.all (P.varReadable ·) && fn.resultTypes.all (fun t => P.readableRec t && decide (t < P.types.size)) && (c.ifacesOut == fn.resultTypes.toList.any (P.ifacesRec ·)) && (c.loopsOut == fn.resultTypes.toList.any (P.loopsFrom ·)) && (c.plainKeys == P.plainKeys) && c.shortTexts.isNone) = true)
  (hc : ((c.kinds == (if c.domain.isEmpty then [] else fn.params.toList.map fun t => match P.underlying t with | some (.int k) => some k | _ => none)) && (c.pinned == c.pinnedBy) &&
   (c.veiled == (fn.params.toList ++ s.plain.varTypes P ++ fn.resultTypes.toList).any (P.veiledRec ·)) && c.veiledFits P fn.params.toList (fn.params.toList ++ s.plain.varTypes P ++ fn.resultTypes.toList)) = true) : joinedFacts P f fn s c = true := by
 simp only [Bool.and_eq_true] at ha hb hc
 obtain ⟨⟨⟨⟨⟨⟨⟨a1, a2⟩, a3⟩, a4⟩, a5⟩, a6⟩, a7⟩, a8⟩ := ha
 obtain ⟨⟨⟨⟨⟨⟨⟨⟨⟨⟨b1, b2⟩, b3⟩, b4⟩, b5⟩, b6⟩, b7⟩, b8⟩, b9⟩, b10⟩, b11⟩ := hb
 obtain ⟨⟨⟨c1, c2⟩, c3⟩, c4⟩ := hc
 unfold joinedFacts
 simp only [Bool.and_eq_true]
 and_intros <;> first | assumption | exact c1
theorem mayEnter : Tryz.prog.mayEnter = true := by kernel_rfl
theorem stopsHeard : Tryz.prog.stopsHeard = true := by kernel_rfl
end Go.Proofs.YtgpioploehgpdaaGreat
