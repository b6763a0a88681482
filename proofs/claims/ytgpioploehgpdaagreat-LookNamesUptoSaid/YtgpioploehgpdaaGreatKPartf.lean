import Derived.Test.YtgpioploehgpdaaGreatKParte
import Derived.Lib.AppendZerosOnto
import Derived.Lib.Overlaps
import Derived.Laws.Externs
import Derived.Shelf.Sort.Plain
import Derived.Shelf.Slices.In.SortNone
import Derived.Test.YtgpioploehgpdaaGreatProg
import Derived.KernelRfl
import Derived.WalkKit
import Derived.Lib.Walk
import Derived.Lib.SliceRun
import Derived.Lib.JoinLaws
import Derived.Lib.AppendZeros
import Derived.Shelf.RegionOpenPlain
import Derived.Shelf.Spec.SlicesInsert
set_option linter.unusedSimpArgs false
set_option linter.unusedVariables false
set_option linter.unnecessarySimpa false
set_option linter.unusedSectionVars false

set_option linter.unusedSimpArgs false
set_option linter.unusedVariables false
set_option linter.unusedSectionVars false
namespace Go.PG.PH
def inE (js : List Sh) (jh : List (Nat × OSh)) (l : List Dv) : TE := ⟨(inA js l).1.zipIdx.map fun x => (x.2, 0, x.1), inO' js jh l, [], 1⟩
def upFrom : Nat -> Nat -> List Nat
 | _, 0 => []
 | n, k + 1 => n :: upFrom (n + 1) k
def putR : Nat -> List TV -> TE -> TE
 | _, [], E => E
 | n, v :: vs, E => putR (n + 1) vs (E.put (some n) v)
def outJ (ts : List Nat) (rs : List Sh) (rh : List (Nat × OSh)) : J := ⟨[], [], ts.zip rs, rh⟩
def truncT {R : Type} (E : TE) (t : Nat) (k : TE -> Option R) : Option R := match sget E.s t with
 | .so m g s 0 len => match oget E.h m with
  | some (.lst g' ty l) => match Nat.beq g' g, Nat.beq ty.size s with
   | true, true => (chk (len <= List.length l)).bind fun _ => k ((E.onew m (.lst g' ty (List.take len l))).put (some t) (.sof m g s))
   | _, _ => k E
  | _ => k E
 | _ => k E
def truncS {R : Type} : List (Nat × Sh) -> TE -> (TE -> Option R) -> Option R
 | [], E, k => k E
 | (t, .wn _ _) :: r, E, k => truncT E t fun E' => truncS r E' k
 | (_, .ag _) :: r, E, k => truncS r E k
 | (_, .dt _) :: r, E, k => truncS r E k
 | (_, .pt _ _ _) :: r, E, k => truncS r E k
 | (_, .nl) :: r, E, k => truncS r E k
 | (_, .fn _ _) :: r, E, k => truncS r E k
 | (_, .np) :: r, E, k => truncS r E k
 | (_, .nf) :: r, E, k => truncS r E k
 | (_, .ws _ _) :: r, E, k => truncS r E k
 | (_, .mp _) :: r, E, k => truncS r E k
theorem truncT_ok {R : Type} {E : TE} {t n : Nat} {k : TE -> Option R} {r : R} (h : truncT E t k = some r) : ∃ E', k E' = some r /\ Ext E E' /\ ∀ γ, Le (E.env n γ) (E'.env n γ) := by
 unfold truncT at h;split at h
 ·rename_i m g s len hs;split at h
  ·rename_i g' ty l ho;split at h
   ·rename_i hg hz;obtain ⟨_, h1, h2⟩ := bind_some' h;have hlen := chk_some h1;refine ⟨_, h2, (ext_onew _ _ _).trans (ext_put _ _ _), fun γ => ?_⟩;have hm : olen (E.onew m (.lst g' ty (List.take len l))).h m = len := by
     unfold TE.onew TE.oput;simp only [olen_oset, if_true, TOb.len, List.length_take];omega
    have hle : Le (E.env n γ) ((E.onew m (.lst g' ty (List.take len l))).env n γ) := by
     rw [env_onew];refine le_up (fun i _ => .inr (VUp.refl _)) (fun q o' hq => ?_) (fun q o hq => ?_)
     ·rw [hget_hset] at hq;by_cases e : q = m
      ·rw [if_pos e] at hq;cases hq;subst e;refine .inl ⟨(TOb.lst g' ty l).ob (olen E.h) γ q, by rw [hget_heap, ho]; rfl, rfl, fun w st nn hob => ?_⟩;obtain ⟨a1, a2, a3, a4⟩ := hob;simp only [List.length_map] at a1;have hsub : ∀ (i : Nat) (x : V), (List.map ty.enc (List.take len l))[i]? = some x -> (List.map ty.enc l)[i]? = some x := by
        intro i x hx;rw [List.map_take, List.getElem?_take] at hx;split at hx
        ·exact hx
        ·cases hx
       refine ⟨by simp only [List.length_map, List.length_take]; omega, fun x hx => ?_, fun hp x hx => ?_, ?_⟩
       ·obtain ⟨i, hi⟩ := List.getElem?_of_mem hx;exact a2 x (List.mem_of_getElem? (hsub i x hi))
       ·obtain ⟨i, hi⟩ := List.getElem?_of_mem hx;exact a3 hp x (List.mem_of_getElem? (hsub i x hi))
       ·rcases a4 with ⟨e1, e2⟩ | ⟨b, o, cells, tyy, hb, hc, hr⟩
        ·left;refine ⟨?_, e2⟩;have : l = [] := by simpa using e1
         rw [this]; simp
        ·exact .inr ⟨b, o, cells, tyy, hb, hc, fun i j x c hx hc' => hr i j x c (hsub i x hx) hc'⟩
      ·rw [if_neg e] at hq;exact .inl ⟨o', hq, ObUp.refl _⟩
     ·rw [hget_hset];by_cases e : q = m
      ·rw [if_pos e]; simp
      ·rw [if_neg e, hq]; simp
    refine hle.trans ?_;rw [env_put];refine le_slots rfl (by cases n <;> simp [Env.upd]) fun i c c' hc hc' => .inr ?_
    simp only [Env.upd] at hc';rw [List.getElem?_set] at hc';split at hc'
    ·rename_i hti;subst hti;split at hc'
     ·rename_i hlt;cases hc';have hlt' : t < n := by simpa [TE.env, SE] using hlt
      rw [env_t hlt'] at hc;cases hc;have hst : sget (E.onew m (.lst g' ty (List.take len l))).s t = .so m g s 0 len := by
       unfold TE.onew TE.oput TE.told;simp only [sget_told, hs, TV.told]
      rw [hst];simp only [TV.v, hm]
     ·cases hc'
    ·rw [hc] at hc'; cases hc'; rfl
   ·exact ⟨E, h, Ext.refl E, fun γ => Le.refl _⟩
  ·exact ⟨E, h, Ext.refl E, fun γ => Le.refl _⟩
 ·exact ⟨E, h, Ext.refl E, fun γ => Le.refl _⟩
theorem truncS_ok {R : Type} {n : Nat} {r : R} : ∀ {l : List (Nat × Sh)} {E : TE} {k : TE -> Option R}, truncS l E k = some r -> ∃ E', k E' = some r /\ Ext E E' /\ ∀ γ, Le (E.env n γ) (E'.env n γ)
 | [], E, k, h => ⟨E, h, Ext.refl E, fun γ => Le.refl _⟩
 | (t, .wn _ _) :: l, E, k, h => by
  simp only [truncS] at h;obtain ⟨E1, h1, h2, h3⟩ := truncT_ok (n := n) h;obtain ⟨E2, k1, k2, k3⟩ := truncS_ok h1;exact ⟨E2, k1, h2.trans k2, fun γ => (h3 γ).trans (k3 γ)⟩
 | (_, .ag _) :: l, _, _, h => truncS_ok (l := l) h
 | (_, .dt _) :: l, _, _, h => truncS_ok (l := l) h
 | (_, .pt _ _ _) :: l, _, _, h => truncS_ok (l := l) h
 | (_, .nl) :: l, _, _, h => truncS_ok (l := l) h
 | (_, .fn _ _) :: l, _, _, h => truncS_ok (l := l) h
 | (_, .np) :: l, _, _, h => truncS_ok (l := l) h
 | (_, .nf) :: l, _, _, h => truncS_ok (l := l) h
 | (_, .ws _ _) :: l, _, _, h => truncS_ok (l := l) h
 | (_, .mp _) :: l, _, _, h => truncS_ok (l := l) h
def finO1 (ts : List Nat) (rs : List Sh) (rh : List (Nat × OSh)) (E0 E : TE) : Option (Ds (Sh.tysL rs ++ tysO rh)) :=
  match (outJ ts rs rh).pk E0 E with
  | some d' => match ((outJ ts rs rh).un E0 d').closed with
   | true => asm _ (dis _ d')
   | false => none
  | _ => none
def finO2 (n : Nat) (rs : List Sh) (rh : List (Nat × OSh)) (E0 E : TE) (vs : List TV) : Option (Ds (Sh.tysL rs ++ tysO rh)) :=
 truncS ((upFrom n rs.length).zip rs) (orE E (sealSh rs [] vs E)) (finO1 (upFrom n rs.length) rs rh E0)
def finO (P : Program) (n : Nat) (res : List ResultVar) (rs : List Sh) (rh : List (Nat × OSh)) (E0 E : TE) : Option (Ds (Sh.tysL rs ++ tysO rh)) :=
 match tres P n E res with
 | some vs => match Nat.beq vs.length rs.length with
  | true => finO2 n rs rh E0 (putR n vs E) vs
  | false => none
 | none => none
noncomputable def exFo {P : Program} (cs : Cs P) (fu : Nat) (fn : Func) (js : List Sh) (jh : List (Nat × OSh)) (rs : List Sh) (rh : List (Nat × OSh)) (h : HT) (d : Ds (Sh.tysL js ++ tysO jh)) : Option (Ds (Sh.tysL rs ++ tysO rh)) :=
 match fn.body with
  | none => none
  | some c => ex P cs fu fn.ntmps c h (inE js jh (dis _ d)) ⟨finO P fn.ntmps fn.results.toList rs rh (inE js jh (dis _ d)), fun _ _ => none, finO P fn.ntmps fn.results.toList rs rh (inE js jh (dis _ d))⟩
mutual
theorem inI_ref {ids : List Nat} {G : Nat -> Nat} {m : Nat} : ∀ (s : Sh) (l : List Dv), s.inI ids = true -> (s.un G l).1.ref m = true -> m ∈ ids
 | .dt t, l, _, h => by simp [Sh.un, TV.ref] at h
 | .wn n sz, l, hs, h => by simp only [Sh.un, TV.ref] at h; have := beqs h; subst this; exact mem_iff.1 hs
 | .pt n sz off, l, hs, h => by simp only [Sh.un, TV.ref] at h; have := beqs h; subst this; exact mem_iff.1 hs
 | .nl, l, _, h => by simp [Sh.un, TV.ref] at h
 | .ag cs, l, hs, h => inIL_ref cs l hs h
 | .fn _ cs, l, hs, h => inIL_ref cs l hs h
 | .np, l, _, h => by simp [Sh.un, TV.ref] at h
 | .nf, l, _, h => by simp [Sh.un, TV.ref] at h
 | .ws n sz, l, hs, h => by simp only [Sh.un, TV.ref] at h; have := beqs h; subst this; exact mem_iff.1 hs
 | .mp n, l, hs, h => by simp only [Sh.un, TV.ref] at h; have := beqs h; subst this; exact mem_iff.1 hs
theorem inIL_ref {ids : List Nat} {G : Nat -> Nat} {m : Nat} : ∀ (cs : List Sh) (l : List Dv), Sh.inIL ids cs = true -> TV.refL m (Sh.unL G cs l).1 = true -> m ∈ ids
 | [], l, _, h => by simp [Sh.unL, TV.refL] at h
 | c :: cs, l, hs, h => by
  simp only [Sh.inIL] at hs;split at hs
  ·rename_i h1;simp only [Sh.unL, TV.refL] at h;split at h
   ·rename_i h2; exact inI_ref c l h1 h2
   ·exact inIL_ref cs _ hs h
  ·cases hs
end
theorem obs_congr {ids : List Nat} {G H H' γ γ' : Nat -> Nat} {c : Nat} (hh : ∀ n ∈ ids, H' n = H n /\ γ' n = γ n) : ∀ (js : List (Nat × OSh)) (l : List Dv), (∀ n ∈ idsO js, n ∈ ids) -> inIO ids js = true ->
  obs H' γ' (unO G c js l) = obs H γ (unO G c js l)
 | [], l, _, _ => rfl
 | x :: r, l, h1, h2 => by
  simp only [inIO] at h2;split at h2
  ·rename_i h3;have h4 := (hh x.1 (h1 x.1 (by simp [idsO]))).2;have h5 := obs_congr (c := c) (G := G) hh r (x.2.un G x.1 l).2 (fun n hn => h1 n (by simp only [idsO, List.map_cons, List.mem_cons]; exact .inr hn)) h2;simp only [unO, obs, List.map_cons];rw [show List.map (fun x => (x.fst, TOb.ob H' γ' x.fst x.snd.snd)) (unO G c r (x.2.un G x.1 l).2) = _ from h5];congr 1;congr 1;obtain ⟨n, s⟩ := x;cases s with
   | ls t => simp only [OSh.un, TOb.ob, h4]
   | mp k v => simp only [OSh.un, TOb.ob, h4]
   | nm => cases h3
   | nl => cases h3
   | el p sz cs =>
    simp only [OSh.un, TOb.ob, h4];rw [congr_vL _ fun m hm => hh m (inIL_ref cs l h3 hm)]
  ·cases h2
theorem unO_gen {G : Nat -> Nat} {c : Nat} : ∀ (jh : List (Nat × OSh)) (l : List Dv) (n : Nat) (x : TOb), oget (unO G c jh l) n = some x -> x.gen = G n
 | [], l, n, x, h => by simp [unO, oget] at h
 | y :: r, l, n, x, h => by
  simp only [unO, oget] at h;split at h
  ·rename_i e;have := beqs e; subst this;cases h;obtain ⟨m, s⟩ := y;cases s <;> rfl
  ·exact unO_gen r _ n x h
theorem tgen_in (js : List Sh) (jh : List (Nat × OSh)) (l : List Dv) : tgen (inE js jh l).h = z0 := by
 funext n;unfold tgen;cases e : oget (inE js jh l).h n with
 | none => rfl
 | some x => exact unO_gen jh _ n x e
theorem unS_zip (G : Nat -> Nat) (c : Nat) : ∀ (ts : List Nat) (rs : List Sh) (l : List Dv), ts.length = rs.length -> unS G c (ts.zip rs) l = (List.zipWith (fun t v => (t, c, v)) ts (Sh.unL G rs l).1, (Sh.unL G rs l).2)
 | [], [], l, _ => rfl
 | t :: ts, r :: rs, l, h => by
  simp only [List.zip_cons_cons, unS, Sh.unL, List.zipWith_cons_cons];rw [unS_zip G c ts rs _ (by simpa using h)]
 | [], _ :: _, _, h => by simp at h
 | _ :: _, [], _, h => by simp at h
theorem unL_len (G : Nat -> Nat) : ∀ (rs : List Sh) (l : List Dv), (Sh.unL G rs l).1.length = rs.length
 | [], l => rfl
 | r :: rs, l => by simp only [Sh.unL, List.length_cons, unL_len G rs]
theorem sget_zip (c : Nat) (rest : List (Nat × Nat × TV)) : ∀ (ts : List Nat) (vs : List TV), nodup ts = true -> ts.length = vs.length -> ts.map (sget (List.zipWith (fun t v => (t, c, v)) ts vs ++ rest)) = vs
 | [], [], _, _ => rfl
 | t :: ts, v :: vs, h, hl => by
  simp only [nodup] at h;split at h
  ·cases h
  ·rename_i hm;simp only [List.zipWith_cons_cons, List.cons_append, List.map_cons, sget, Nat.beq_refl];congr 1;have := sget_zip c rest ts vs h (by simpa using hl)
   conv => rhs; rw [<- this]
   refine List.map_congr_left fun i hi => ?_
   have : Nat.beq i t = false := beq_false.2 fun e => by
    subst e;rw [mem_iff.2 hi] at hm;cases hm
   simp only [this]
 | [], _ :: _, _, h => by simp at h
 | _ :: _, [], _, h => by simp at h
theorem upFrom_len : ∀ (n k : Nat), (upFrom n k).length = k
 | _, 0 => rfl
 | n, k + 1 => by simp only [upFrom, List.length_cons, upFrom_len]
theorem upFrom_ge : ∀ {n k i : Nat}, i ∈ upFrom n k -> n <= i
 | _, 0, i, h => by cases h
 | n, k + 1, i, h => by
  rcases List.mem_cons.1 h with rfl | h
  ·exact Nat.le_refl _
  ·have := upFrom_ge h; omega
theorem upFrom_nodup : ∀ (n k : Nat), nodup (upFrom n k) = true
 | _, 0 => rfl
 | n, k + 1 => by
  simp only [upFrom, nodup];cases e : mem n (upFrom (n + 1) k) with
  | false => exact upFrom_nodup (n + 1) k
  | true => have := upFrom_ge (mem_iff.1 e); omega
theorem upFrom_get : ∀ (n k i : Nat), i < k -> (upFrom n k)[i]? = some (n + i)
 | n, 0, i, h => by omega
 | n, k + 1, 0, h => rfl
 | n, k + 1, i + 1, h => by
  simp only [upFrom, List.getElem?_cons_succ];rw [upFrom_get (n + 1) k i (by omega)];congr 1; omega
theorem putR_sget : ∀ (n : Nat) (vs : List TV) (E : TE) (i : Nat), sget (putR n vs E).s i = if n <= i /\ i < n + vs.length then (vs[i - n]?).getD .dead else sget E.s i
 | n, [], E, i => by
  rw [if_neg (by simp)]; rfl
 | n, v :: vs, E, i => by
  simp only [putR];rw [putR_sget (n + 1) vs _ i];simp only [List.length_cons];by_cases h : n + 1 <= i /\ i < n + 1 + vs.length
  ·rw [if_pos h, if_pos ⟨by omega, by omega⟩, show i - n = (i - (n + 1)) + 1 by omega, List.getElem?_cons_succ]
  ·rw [if_neg h];by_cases hn : i = n
   ·subst hn;rw [if_pos ⟨Nat.le_refl _, by omega⟩];simp only [TE.put, sget, Nat.beq_refl, Nat.sub_self, List.getElem?_cons_zero, Option.getD_some]
   ·rw [if_neg (by omega)];simp only [TE.put, sget, beq_false.2 hn]
theorem putR_h : ∀ (n : Nat) (vs : List TV) (E : TE), (putR n vs E).h = E.h
 | _, [], E => rfl
 | n, v :: vs, E => by simp only [putR]; exact putR_h (n + 1) vs _
theorem putR_ext : ∀ (n : Nat) (vs : List TV) (E : TE), Ext E (putR n vs E)
 | _, [], E => Ext.refl E
 | n, v :: vs, E => (ext_put E _ _).trans (putR_ext (n + 1) vs _)
theorem putR_env (n : Nat) (vs : List TV) (E : TE) (γ : Nat -> Nat) : (putR n vs E).env (n + vs.length) γ = ⟨(E.env n γ).t ++ TV.vL (olen E.h) γ vs, (E.env n γ).h⟩ := by
 have hl : ((putR n vs E).env (n + vs.length) γ).t = (E.env n γ).t ++ TV.vL (olen E.h) γ vs := by
  refine List.ext_getElem? fun i => ?_
  by_cases hi : i < n + vs.length
  ·rw [env_t hi, putR_sget, putR_h];rw [List.getElem?_append];simp only [TE.env, se_len];by_cases hn : i < n
   ·rw [if_pos hn, if_neg (by omega)];have := env_t (E := E) (γ := γ) hn;exact this.symm
   ·rw [if_neg hn, if_pos ⟨by omega, hi⟩, vL_get];have : i - n < vs.length := by omega
    rw [List.getElem?_eq_getElem this]; rfl
  ·rw [List.getElem?_eq_none (by simp only [TE.env, se_len]; omega), List.getElem?_eq_none (by simp only [List.length_append, TE.env, se_len, vL_map, List.length_map]; omega)]
 have hh : ((putR n vs E).env (n + vs.length) γ).h = (E.env n γ).h := by
  show (putR n vs E).heap γ = E.heap γ
  unfold TE.heap;rw [putR_h]
 rw [<- hl, <- hh]
theorem tres_v {P : Program} {n : Nat} {E : TE} {γ : Nat -> Nat} : ∀ (res : List ResultVar) (vs : List TV), tres P n E res = some vs -> res.mapM (resO P (E.env n γ)) = some (TV.vL (olen E.h) γ vs)
 | [], vs, h => by simp only [tres] at h; cases h; rfl
 | .tmp t :: r, vs, h => by
  simp only [tres] at h;split at h
  ·rename_i l hl;cases h;rw [List.mapM_cons, tres_v r l hl];simp only [resO, TV.vL];rw [te_get];rfl
  ·cases h
 | .cell t ty :: r, vs, h => by
  simp only [tres] at h;split at h
  ·rename_i v l hv hl;cases h;rw [List.mapM_cons, tres_v r l hl];simp only [resO, TV.vL];rw [te_get, env_h, tload_v hv];rfl
  ·cases h
theorem oneR_eq (l : List V) : oneR l = oneV l := by
 match l with
 | [] => rfl
 | [v] => rfl
 | _ :: _ :: _ => rfl
def hiAll (ne : List Nat) : List Nat -> Bool
 | [] => true
 | n :: r => match Nat.ble 1000 n with
  | true => hiAll ne r
  | false => false
def fxAll (ne : List Nat) : List Nat -> Bool
 | [] => true
 | n :: r => match mem n ne, Nat.ble 2000 n with
  | false, false => false
  | _, _ => fxAll ne r
theorem fxAll_ok {ne : List Nat} : ∀ {l : List Nat}, fxAll ne l = true -> ∀ n ∈ l, n ∉ ne -> 2000 <= n
 | [], _, n, h, _ => by cases h
 | a :: r, h, n, hn, hne => by
  simp only [fxAll] at h;split at h
  ·cases h
  ·rename_i h1;rcases List.mem_cons.1 hn with rfl | hn
   ·cases e : mem n ne with
    | true => exact absurd (mem_iff.1 e) hne
    | false =>
     cases e2 : Nat.ble 2000 n with
     | true => exact Nat.le_of_ble_eq_true e2
     | false => exact absurd e2 (h1 e)
   ·exact fxAll_ok h n hn hne
theorem hiAll_hiH {ne : List Nat} {H γ G : Nat -> Nat} {c : Nat} : ∀ (jh : List (Nat × OSh)) (l : List Dv), hiAll ne (idsO jh) = true -> hiH (obs H γ (unO G c jh l))
 | [], l, _ => trivial
 | x :: r, l, h => by
  simp only [idsO, List.map_cons, hiAll] at h;split at h
  ·rename_i h1;exact ⟨Nat.le_of_ble_eq_true h1, hiAll_hiH r _ h⟩
  ·cases h
def foOk (fn : Func) (js : List Sh) (jh : List (Nat × OSh)) (rh : List (Nat × OSh)) (ne : List Nat) : Bool :=
 !(fn.name == "runtime.NumGoroutine") && Nat.ble js.length fn.ntmps && hiAll ne (idsO jh) && fxAll ne (idsO rh)
theorem unO_len {G G' : Nat -> Nat} {c c' : Nat} {n : Nat} : ∀ (rh : List (Nat × OSh)) (l : List Dv), olen (unO G c rh l) n = olen (unO G' c' rh l) n
 | [], l => rfl
 | x :: r, l => by
  have hs : ∀ n, (if n ∈ ([] : List Nat) then z0 n else G n + G' n) = G' n + G n := fun n => by simp [Nat.add_comm]
  have h1 := (osh_sg (H := z0) (γ' := z0) hs x.1 x.2 l).1;have h2 := unO_len (G := G) (G' := G') (c := c) (c' := c') (n := n) r (x.2.un G' x.1 l).2;have h3 : (x.2.un G x.1 l).1.len = (x.2.un G' x.1 l).1.len := by
   obtain ⟨m, s⟩ := x;cases s with
   | ls t => rfl
   | mp k v => rfl
   | nm k v => rfl
   | nl u => rfl
   | el p sz cs => simp only [OSh.un, TOb.len, unL_len]
  unfold olen at h2 ⊢;simp only [unO, oget];rw [h1];cases Nat.beq n x.1 with
  | true => exact h3
  | false => exact h2
theorem unL_rest (G G' : Nat -> Nat) (rs : List Sh) (l : List Dv) : (Sh.unL G rs l).2 = (Sh.unL G' rs l).2 := by
 have hs : ∀ n, (if n ∈ ([] : List Nat) then z0 n else G n + G' n) = G' n + G n := fun n => by simp [Nat.add_comm]
 exact (shL_sg (H := z0) (γ' := z0) hs rs l).1
theorem sget_zipIdx : ∀ (l : List TV) (k i : Nat), sget ((l.zipIdx k).map fun x => (x.2, 0, x.1)) (k + i) = (l[i]?).getD .dead := by
 intro l;induction l with
 | nil => intro k i; rfl
 | cons a l ih =>
  intro k i;simp only [List.zipIdx_cons, List.map_cons, sget];cases i with
  | zero => simp [Nat.beq_refl]
  | succ i =>
   rw [beq_false.2 (by omega), show k + (i + 1) = k + 1 + i by omega];simp only;rw [ih]; simp
theorem inE_env {n : Nat} {γ : Nat -> Nat} {js : List Sh} {jh : List (Nat × OSh)} {l : List Dv} (hl : js.length <= n) :
  Le ⟨TV.vL (olen (inE js jh l).h) γ (inA js l).1 ++ List.replicate (n - (TV.vL (olen (inE js jh l).h) γ (inA js l).1).length) .dead, (inE js jh l).heap γ⟩ ((inE js jh l).env n γ) := by
 have hlen : (inA js l).1.length = js.length := unL_len _ _ _
 refine le_slots rfl (by simp [TE.env, SE, vL_map]; omega) fun i c c' h1 h2 => ?_
 have hi : i < n := by have := (List.getElem?_eq_some_iff.1 h2).1; simpa [TE.env, SE] using this
 rw [env_t hi] at h2
 cases h2
 right
 have := sget_zipIdx (inA js l).1 0 i
 rw [Nat.zero_add] at this
 show (sget (inE js jh l).s i).v _ γ = c
 rw [show (inE js jh l).s = (inA js l).1.zipIdx.map fun x => (x.2, 0, x.1) from rfl, this]
 dsimp only at h1
 rw [List.getElem?_append] at h1
 split at h1
 ·rw [vL_get] at h1;simp only [Option.map_eq_some_iff] at h1;obtain ⟨v, hv, rfl⟩ := h1;rw [hv]; rfl
 ·rename_i hlt;have := List.mem_replicate.1 (List.mem_of_getElem? h1);rw [this.2];rw [vL_map, List.length_map] at hlt;rw [List.getElem?_eq_none (by omega)]; rfl
theorem finO_ok {P : Program} {n : Nat} {res : List ResultVar} {js : List Sh} {jh : List (Nat × OSh)} {rs : List Sh} {rh : List (Nat × OSh)} {ne : List Nat} {l : List Dv} {E' : TE} {r : Ds (Sh.tysL rs ++ tysO rh)} {γ γ' H' : Nat -> Nat} {e : Env}
  (w6 : Sh.inIL (idsO rh) rs = true) (w7 : inIO (idsO rh) rh = true) (n4 : fxAll ne (idsO rh) = true) (hH' : ∀ n ∈ idsO rh, H' n = olen (outO rs rh ne (dis _ r)) n)
  (hfin : finO P n res rs rh (inE js jh l) E' = some r) (hext : Ext (inE js jh l) E') (hle0 : Le e (E'.env n γ')) (hf : Fx γ γ') :
  ∃ e0 vs e1, Le e e0 /\ res.mapM (resO P e0) = some vs /\ Le ⟨e0.t ++ vs, e0.h⟩ e1 /\ ∃ γ2, oneR (e1.t.drop e0.t.length) = (oneV (TV.vL H' γ (outA rs ne (dis _ r)).1)).sg ne γ2 /\ e1.h = Heap.sg ne γ2 (obs H' γ (outO rs rh ne (dis _ r))) := by
 unfold finO at hfin
 split at hfin
 ·rename_i vs hvs;split at hfin
  ·rename_i hvl;have hvl := beqs hvl;refine ⟨E'.env n γ', TV.vL (olen E'.h) γ' vs, ?_⟩;have hex1 : Ext (inE js jh l) (putR n vs E') := hext.trans (putR_ext n vs E');have hpe := putR_env n vs E' γ';have hstart : Le ⟨(E'.env n γ').t ++ TV.vL (olen E'.h) γ' vs, (E'.env n γ').h⟩ ((putR n vs E').env (n + vs.length) γ') := by rw [hpe]; exact Le.refl _
   have hres := tres_v (γ := γ') res vs hvs;have hlen0 : (E'.env n γ').t.length = n := by simp [TE.env, SE]
   generalize putR n vs E' = E1 at *;unfold finO2 at hfin;obtain ⟨b1, b2, _⟩ : Gst (n + vs.length) E1 (orE E1 (sealSh rs [] vs E1)) := orE_ok fun E2 h => sealSh_ok h
   generalize orE E1 (sealSh rs [] vs E1) = E3 at *;obtain ⟨E'', hfin, hex2, hle2⟩ := truncS_ok (n := n + vs.length) hfin
   replace hstart := (hstart.trans (b1 γ')).trans (hle2 γ')
   have hext := (hex1.trans b2).trans hex2;obtain ⟨ts, hts⟩ : ∃ ts, ts = upFrom n rs.length := ⟨_, rfl⟩;rw [<- hts] at hfin;have hlen : ts.length = rs.length := by rw [hts, upFrom_len]
   have q2 : nodup ts = true := by rw [hts]; exact upFrom_nodup _ _
   unfold finO1 at hfin;split at hfin
   ·rename_i d' hp;split at hfin
    ·rename_i hcl;have hd := dis_asm _ _ _ hfin;obtain ⟨γ2, f2, hle⟩ := pk_le (n := n + vs.length) hp hext hcl γ';have hF : Fx γ γ2 := hf.trans f2;obtain ⟨X, hX⟩ : ∃ X, X = (outJ ts rs rh).un (inE js jh l) d' := ⟨_, rfl⟩;rw [<- hX] at hle hcl;have hXs : X.s = List.zipWith (fun t v => (t, (inE js jh l).c, v)) ts (Sh.unL z0 rs (dis _ r)).1 ++ [] := by
      rw [hX, un_s, tgen_in]
      show (unS z0 _ (ts.zip rs) _).1 ++ _ = _
      rw [unS_zip _ _ _ _ _ hlen, hd]; rfl
     have hXh : X.h = unO z0 (inE js jh l).c rh (Sh.unL z0 rs (dis _ r)).2 := by
      rw [hX, un_h, tgen_in]
      show unO z0 _ rh (unS z0 _ (ts.zip rs) _).2 ++ [] = _
      rw [unS_zip _ _ _ _ _ hlen, hd, List.append_nil]
     let γ3 : Nat -> Nat := fun m => if m ∈ ne then γ2 m else γ m
     have hs : ∀ m, (if m ∈ ne then γ2 m else γ m + G1 ne m) = γ3 m + z0 m := by
      intro m
      show _ = (if m ∈ ne then γ2 m else γ m) + 0
      by_cases hm : m ∈ ne
      ·simp only [if_pos hm, Nat.add_zero]
      ·simp only [if_neg hm];have : mem m ne = false := by
        cases e : mem m ne with
        | false => rfl
        | true => exact absurd (mem_iff.1 e) hm
       unfold G1;rw [this]
     have hok : ∀ m ∈ idsO rh, olen X.h m = H' m /\ γ2 m = γ3 m := by
      intro m hm;refine ⟨?_, ?_⟩
      ·rw [hH' m hm, hXh];unfold outO outA;rw [unL_rest (G1 ne) z0];exact unO_len _ _
      ·show _ = if m ∈ ne then γ2 m else γ m
       by_cases hne : m ∈ ne
       ·rw [if_pos hne]
       ·rw [if_neg hne]; exact hF m (fxAll_ok n4 m hm hne)
     refine ⟨X.env (n + vs.length) γ2, hle0, hres, hstart.trans hle, γ2, ?_, ?_⟩
     ·rw [oneR_eq, oneV_sg, hlen0];congr 1;have hd2 : (X.env (n + vs.length) γ2).t.drop n = TV.vL (olen X.h) γ2 (ts.map (sget X.s)) := by
       refine List.ext_getElem? fun i => ?_
       rw [List.getElem?_drop, vL_get, List.getElem?_map];by_cases hi : i < rs.length
       ·rw [env_t (by omega), hts, upFrom_get n rs.length i hi]; rfl
       ·rw [List.getElem?_eq_none (by simp [TE.env, SE]; omega), List.getElem?_eq_none (by rw [hlen]; omega)]; rfl
      rw [hd2, hXs, sget_zip _ _ ts _ q2 (by rw [unL_len]; exact hlen)];have := (shL_sg (H := H') hs rs (dis _ r)).2;unfold outA;rw [<- this];exact congr_vL _ fun m hm => hok m (inIL_ref rs _ w6 hm)
     ·show X.heap γ2 = _
      unfold TE.heap;have h1 := unO_sg (c := (inE js jh l).c) (c0 := 0) (H := H') hs rh (Sh.unL z0 rs (dis _ r)).2;unfold outO outA;rw [unL_rest (G1 ne) z0];rw [show obs H' γ (unO (G1 ne) 0 rh (Sh.unL z0 rs (dis _ r)).2) = List.map (fun x => (x.1, x.2.2.ob H' γ x.1)) (unO (G1 ne) 0 rh (Sh.unL z0 rs (dis _ r)).2) from rfl, <- h1];have h2 := obs_congr (G := z0) (c := (inE js jh l).c) (H := H') (H' := olen X.h) (γ := γ3) (γ' := γ2) hok rh (Sh.unL z0 rs (dis _ r)).2 (fun _ h => h) w7;rw [<- hXh] at h2 ⊢;exact h2
    ·cases hfin
   ·cases hfin
  ·cases hfin
 ·cases hfin
theorem exFo_ok {P : Program} {cs : Cs P} {fu : Nat} {f : FuncId} {fn : Func} {js : List Sh} {jh : List (Nat × OSh)} {rs : List Sh} {rh : List (Nat × OSh)} {ne : List Nat} {h : HT} {d : Ds (Sh.tysL js ++ tysO jh)} {r : Ds (Sh.tysL rs ++ tysO rh)}
  (hm : P.follows .mixedOrders = true) (hf : P.funcs[f]? = some fn) (hn : foOk fn js jh rh ne = true) (hw : owWf js jh rs rh ne = true)
  (hx : exFo cs fu fn js jh rs rh h d = some r) (γ H H' : Nat -> Nat) (hH : ∀ n ∈ idsO jh, H n = olen (inO' js jh (dis _ d)) n) (hH' : ∀ n ∈ idsO rh, H' n = olen (outO rs rh ne (dis _ r)) n) :
  PCO P f (TV.vL H γ (inA js (dis _ d)).1) (obs H γ (inO' js jh (dis _ d))) (oneV (TV.vL H' γ (outA rs ne (dis _ r)).1)) (obs H' γ (outO rs rh ne (dis _ r))) ne := by
 obtain ⟨w1, w2, w3, w4, w5, w6, w7, w8⟩ := owWf_ok hw
 unfold foOk at hn
 simp only [Bool.and_eq_true, Bool.not_eq_true'] at hn
 obtain ⟨⟨⟨n1, n2⟩, n3⟩, n4⟩ := hn
 unfold exFo at hx
 split at hx
 ·cases hx
 ·rename_i c hb;refine pco_of hf hb n1 (hiAll_hiH jh _ n3) ?_;have hvs : TV.vL H γ (inA js (dis _ d)).1 = TV.vL (olen (inE js jh (dis _ d)).h) γ (inA js (dis _ d)).1 :=
   congr_vL _ fun m hm => ⟨hH m (inIL_ref js _ w4 hm), rfl⟩
  have hhs : obs H γ (inO' js jh (dis _ d)) = (inE js jh (dis _ d)).heap γ :=
   obs_congr (fun m hm => ⟨hH m hm, rfl⟩) jh _ (fun _ h => h) w5
  rw [hvs, hhs];refine tr_le (inE_env (Nat.le_of_ble_eq_true n2)) ?_;refine (ex_ok hm _ c (Nat.lt_succ_self _) h _ _ γ hx (fun m hm => by cases hm)).mono ?_;intro x e hq;cases x with
  | normal => obtain ⟨γ', E', h1, h2, h3, h4, h5⟩ := hq; exact finO_ok w6 w7 n4 hH' h4 h2 h3 h5
  | ret => obtain ⟨γ', E', h1, h2, h3, h4, h5⟩ := hq; exact finO_ok w6 w7 n4 hH' h4 h2 h3 h5
  | exit i => obtain ⟨γ', E', h1, h2, h3, h4, _⟩ := hq; cases h4
  | _ => exact hq
noncomputable def Ow.mk' {P : Program} (hm : P.follows .mixedOrders = true) (cs : Cs P) (fu : Nat) (f : FuncId) (fn : Func) (js : List Sh) (jh : List (Nat × OSh)) (rs : List Sh) (rh : List (Nat × OSh)) (ne : List Nat) (h : HT)
  (hf : P.funcs[f]? = some fn) (hn : foOk fn js jh rh ne = true) (hw : owWf js jh rs rh ne = true)
  (F : Ds (Sh.tysL js ++ tysO jh) -> Option (Ds (Sh.tysL rs ++ tysO rh))) (hF : F = exFo cs fu fn js jh rs rh h) : Ow P :=
 ⟨f, js, jh, rs, rh, ne, hw, F, fun d r hd γ H H' h1 h2 => exFo_ok hm hf hn hw (by rw [<- hF]; exact hd) γ H H' h1 h2⟩
end Go.PG.PH
set_option linter.unusedSimpArgs false
set_option linter.unusedVariables false
namespace Go.PG.PH
structure InsW (P : Program) (f tS tI fo K : Nat) : Prop where
 ent : Entered P f
 ov : ∃ tR, ∀ (w : World) (a b : Addr) (la ca lb cb : Nat), (Extern.SlicesOverlaps.overlaps #[tS, tS] #[tR] #[.slice (some a) la ca, .slice (some b) lb cb]).run P w = .ok (.bool false) w ->
  (callFunc fo #[.slice (some a) la ca, .slice (some b) lb cb]).run P w = .ok (.value (.bool false)) w
 fin : ∀ (base : Option Addr) (n c vb voff m vc : Nat) (w : World) (r : Value) (w' : World), 0 < m -> (base = none -> n = 0) ->
  (∀ ty, (Builtin.append_ #[tS, tS] ty #[.slice base n c, .slice (some ⟨vb, voff, none⟩) m vc]).run P w = .ok r w') ->
  Calls P f #[.slice base n c, .int .i64 n, .slice (some ⟨vb, voff, none⟩) m vc] w fun e w'' => e = .returned r /\ w'' = w'
 shift : ∀ (b off n c i vb voff m vc : Nat) (w : World), i < n -> 0 < m -> n + m <= c -> n + m <= 4611686018427387904 ->
  (∀ lb cb, (callFunc fo #[.slice (some ⟨vb, voff, none⟩) m vc, .slice (some ⟨b, off + (i + m) * K, none⟩) lb cb]).run P w = .ok (.value (.bool false)) w) ->
  ∀ (w1 w2 : World) (x1 x2 : Value),
  (∀ ty dc sc, (Builtin.copy_ #[tS, tS] ty #[.slice (some ⟨b, off + (i + m) * K, none⟩) (n + m - (i + m)) dc, .slice (some ⟨b, off + i * K, none⟩) (n + m - i) sc]).run P w.drew = .ok x1 w1) ->
  (∀ ty dc, (Builtin.copy_ #[tS, tS] ty #[.slice (some ⟨b, off + i * K, none⟩) (n + m - i) dc, .slice (some ⟨vb, voff, none⟩) m vc]).run P w1 = .ok x2 w2) ->
  Calls P f #[.slice (some ⟨b, off, none⟩) n c, .int .i64 i, .slice (some ⟨vb, voff, none⟩) m vc] w fun e w' => e = .returned (.slice (some ⟨b, off, none⟩) (n + m) c) /\ w' = w2
 grow : ∀ (b off n c i vb voff m vc N G : Nat) (w w1 : World), i < n -> 0 < m -> n <= c -> c < n + m -> n + m <= G -> G <= 9223372036854775807 -> n + m <= 4611686018427387904 ->
  (∀ ty, (Builtin.append_ #[tS, tI] ty #[.slice (some ⟨b, off, none⟩) i c, .int .i64 ((n : Int) + (m : Int) - (i : Int))]).run P w = .ok (.slice (some ⟨N, 0, none⟩) (n + m) G) w1) ->
  ∀ (x1 x2 : Value) (cA cB : Array Value),
  (∀ W ty dc, W.heap = w1.heap -> (Builtin.copy_ #[tS, tS] ty #[.slice (some ⟨N, i * K, none⟩) (n + m - i) dc, .slice (some ⟨vb, voff, none⟩) m vc]).run P W = .ok x1 (W.setRow N cA)) ->
  (∀ W ty dc sc, W.heap = (w1.setRow N cA).heap -> (Builtin.copy_ #[tS, tS] ty #[.slice (some ⟨N, (i + m) * K, none⟩) (n + m - (i + m)) dc, .slice (some ⟨b, off + i * K, none⟩) (n - i) sc]).run P W = .ok x2 (W.setRow N cB)) ->
  Calls P f #[.slice (some ⟨b, off, none⟩) n c, .int .i64 i, .slice (some ⟨vb, voff, none⟩) m vc] w fun e w' =>
   e = .returned (.slice (some ⟨N, 0, none⟩) (n + m) G) /\ w'.heap = ((w1.setRow N cA).setRow N cB).heap /\ Same3 w1 w'
theorem copy_run {P : Program} {t t' e K : Nat} (ht : P.underlying t = some (.slice e)) {w w' : World} (hz : (sizeOf e).run P w = .ok K w) (a b : Addr) (n dc m sc : Nat) (vs : List Value)
  (hl : vs.length = Nat.min m n * K) (hv : ∀ j v, vs[j]? = some v -> w.cell? (b.add j) = some v) (hst : (storeCells a vs).run P w = .ok () w') (ty : TypeId) :
  (Builtin.copy_ #[t, t'] ty #[.slice (some a) n dc, .slice (some b) m sc]).run P w = .ok (.int .i64 ((Nat.min m n : Nat) : Int)) w' := by
 have hfc := run_firstCells_some (P := P) w K (Nat.min m n) b m sc vs hl hv
 unfold Builtin.copy_
 simp only [List.getElem?_toArray, List.getElem?_cons_zero, List.getElem?_cons_succ, Sem.run_bind, run_underlying ht, Result.andThen_ok, Builtin.lenOf, Sem.run_pure, hz, hfc]
 simp only [hst, Sem.run_bind, Result.andThen_ok, Sem.run_pure]
 rfl
theorem append_runs {P : Program} {w : World} {st : Nat -> Own} {h : Heap} {t t' d : Nat} {a b v : V} {ups : List (Nat × Ob)} {x y : Value} (hx : Rep w st a x) (hy : Rep w st b y) (hh : HeapOk w st h) (he : effAppend P t t' a b d h = some (v, ups)) :
  ∃ m w' st', (∀ ty, (Builtin.append_ #[t, t'] ty #[x, y]).run P w = .ok m w') /\ Rep w' st' v m /\ HeapOk w' st' (hsets h ups) /\ Fr w st w' st' := by
 let o : Oper := { dst := none, op := .call { callee := .builtin .append, args := #[.tmp 0, .tmp 1], argTypes := #[t, t'] }, type := 0, pos := "", after := #[], guard := none }
 let ρ : Operand -> Value := fun z => match z with
  | .tmp 0 => x
  | _ => y
 obtain ⟨m, w', st', hr, h1, h2, h3⟩ := append_good (P := P) (ρ := ρ) (o := o) rfl (show Rep w st a (ρ (.tmp 0)) from hx) (show Rep w st b (ρ (.tmp 1)) from hy) hh he
 refine ⟨m, w', st', fun ty => ?_, h1, h2, h3⟩
 show (Builtin.append_ #[t, t'] 0 #[x, y]).run P w = _
 have e : (execOp ρ o).run P w = ((Builtin.append_ #[t, t'] 0 #[x, y]).run P w).andThen fun v w => .ok (.value v) w := by
  unfold execOp;simp [o, ρ, resolve, invoke, builtin]
 unfold RunV at hr
 rw [e] at hr
 cases hb : (Builtin.append_ #[t, t'] 0 #[x, y]).run P w with
 | ok v0 w0 =>
  rw [hb] at hr;simp only [Result.andThen_ok] at hr;rcases hr with hr | ⟨hr, _⟩
  ·injection hr with e1 e2; injection e1 with e1; rw [e1, e2]
  ·injection hr with e1 e2; cases e1
 | _ => rw [hb] at hr; rcases hr with hr | ⟨hr, _⟩ <;> cases hr
theorem frozen_plain {w : World} {b : Nat} {cells : Array Value} {ty : TypeId} (hb : w.heap[b]? = some (.cells cells ty (0, 0))) (o : Nat) : w.frozen? ⟨b, o, none⟩ = false := by
 simp [World.frozen?, hb]
theorem heap_same {w w' : World} {st : Nat -> Own} {h : Heap} (hh : HeapOk w st h) (he : w'.heap = w.heap) (hs : Same3 w w') : HeapOk w' st h /\ Fr w st w' st := by
 have hf : Fr w st w' st := ⟨hs, Nat.le_of_eq (by rw [he]), fun b _ _ => ⟨rfl, by rw [he]⟩, fun b n g o hb => .inl ⟨hb, fun cells ty hc => ⟨cells, by rw [he]; exact hc, rfl⟩⟩⟩;exact ⟨⟨fun n x hx => (hh.ob n x hx).keep hh.shut hf (fun _ _ _ hb => ⟨hb, by rw [he]⟩) (fun b g o hb => ⟨b, g, o, hb⟩), fun b n g o hb => by rw [he]; exact hh.dom b n g o hb, hh.inj, fun b hb => by rw [he]; exact hh.shut b hb, fun b s hb => by rw [he]; exact hh.hid b s hb⟩, hf⟩
theorem setRow_twice (w : World) (b : Nat) (c c' : Array Value) : (w.setRow b c).setRow b c' = w.setRow b c' := by
 unfold World.setRow;simp only [World.mk.injEq, and_true, true_and];apply Array.ext_getElem?;intro i;simp only [Array.getElem?_modify];by_cases e : b = i
 ·subst e;simp only [if_true, Option.map_map];cases w.heap[b]? with
  | none => rfl
  | some o => cases o <;> rfl
 ·simp [e]
theorem setRow_alloc (w : World) (c c' : Array Value) (e : TypeId) : ((w.alloc (.cells c e)).setRow w.heap.size c').heap = (w.alloc (.cells c' e)).heap := by
 unfold World.setRow World.alloc;apply Array.ext_getElem?;intro i;simp only [Array.getElem?_modify, Array.getElem?_push];by_cases e : w.heap.size = i
 ·subst e; simp
 ·have e' : ¬ i = w.heap.size := fun h => e h.symm
  simp [e, e']
theorem ins_pco {P : Program} {f tS tI fo K e : Nat} {i ei : TI} (W : InsW P f tS tI fo K) (hi : tab P tS = some i) (hik : i.kind = .slice e) (hei : tab P e = some ei) (hK : ei.size = K) (hK0 : 0 < K)
  (htI : P.underlying tI = some (.int .i64)) {t : Ty} (htK : t.size = K) (k : Int) (v l : List t.D) (hk0 : 0 <= k) (hk1 : k <= (l.length : Int)) (hv : v ≠ []) (hlim : l.length + v.length <= LIM) (g g2 : Nat) :
  PCO P f [.so 1000 g K 0 l.length, .int .i64 k, .so 2001 g2 K 0 v.length] [(1000, .arr g true K (l.map t.enc)), (2001, .arr g2 true K (v.map t.enc))]
   (.so 1000 (g + 1) K 0 (l.take k.toNat ++ v ++ l.drop k.toNat).length) [(1000, .arr (g + 1) true K ((l.take k.toNat ++ v ++ l.drop k.toNat).map t.enc)), (2001, .arr g2 true K (v.map t.enc))] [1000] := by
 obtain ⟨infoS, dS, zS, hT⟩ := tab_ok hi
 have hdS := kind_slice (hT.kind.symm.trans hik)
 subst hdS
 obtain ⟨infoe, dse, ze, hE⟩ := tab_ok hei
 obtain ⟨i, rfl⟩ := Int.eq_ofNat_of_zero_le hk0
 have hin : i <= l.length := by omega
 obtain ⟨n, hn⟩ : ∃ n, n = l.length := ⟨_, rfl⟩
 obtain ⟨m, hm⟩ : ∃ m, m = v.length := ⟨_, rfl⟩
 have hm0 : 0 < m := by rw [hm]; exact List.length_pos_iff.2 hv
 have hlen : (l.take i ++ v ++ l.drop i).length = n + m := by simp; omega
 refine ⟨W.ent, fun w st ms hh hN hms hrep => ?_⟩
 obtain ⟨m0, m1, m2, rfl⟩ : ∃ a b c, ms = #[a, b, c] := by
  obtain ⟨ms⟩ := ms
  match ms, hms with
  | [a, b, c], _ => exact ⟨a, b, c, rfl⟩
 have r0 := hrep 0 _ m0 rfl rfl
 have r1 := rep_int (hrep 1 _ m1 rfl rfl)
 have r2 := hrep 2 _ m2 rfl rfl
 subst r1
 obtain ⟨h, hh0⟩ : ∃ h : Heap, h = [(1000, .arr g true K (l.map t.enc)), (2001, .arr g2 true K (v.map t.enc))] := ⟨_, rfl⟩
 rw [<- hh0] at hh
 have g1000 : hget h 1000 = some (.arr g true K (l.map t.enc)) := by rw [hh0]; rfl
 have g2001 : hget h 2001 = some (.arr g2 true K (v.map t.enc)) := by rw [hh0]; rfl
 have e0 : elems h K (.so 1000 g K 0 l.length) = some (l.map t.enc, true) := by
  simp only [elems, g1000];rw [if_pos ⟨trivial, trivial, trivial, by simp⟩, List.drop_zero, List.take_of_length_le (by simp)]
 have e2 : elems h K (.so 2001 g2 K 0 v.length) = some (v.map t.enc, true) := by
  simp only [elems, g2001];rw [if_pos ⟨trivial, trivial, trivial, by simp⟩, List.drop_zero, List.take_of_length_le (by simp)]
 have fin : ∀ (r : Value) (w' : World) (st' : Nat -> Own), Rep w' st' (.so 1000 (g + 1) K 0 (n + m)) r -> HeapOk w' st' (hset h 1000 (.arr (g + 1) true K ((l.take i ++ v ++ l.drop i).map t.enc))) -> Fr w st w' st' ->
   ∃ m st'' γ, Ending.returned r = .returned m /\ Rep w' st'' ((V.so 1000 (g + 1) K 0 (l.take i ++ v ++ l.drop i).length).sg [1000] γ) m /\
    HeapOk w' st'' (Heap.sg [1000] γ [(1000, .arr (g + 1) true K ((l.take i ++ v ++ l.drop i).map t.enc)), (2001, .arr g2 true K (v.map t.enc))]) /\ Fr w st w' st'' := by
  intro r w' st' h1 h2 h3
  refine ⟨r, st', fun _ => g + 1, rfl, ?_, ?_, h3⟩
  ·simp only [V.sg, List.mem_singleton, if_true, hlen]; exact h1
  ·rw [hh0] at h2;simpa [Heap.sg, Ob.sg, hset] using h2
 obtain ⟨ad2, cap2, vs, hm2, hvlim, hvsz, hvfree, hvr, hvad⟩ := elems_rep hh r2 e2
 have hvl : vs.length = m * K := by rw [vs_len hvsz hvr, List.length_map, hm]
 have hl2 : live h 2001 g2 = true := by simp [live, g2001, Ob.gen]
 have hl0 : live h 1000 g = true := by simp [live, g1000, Ob.gen]
 rcases live_so hh hl2 r2 with ⟨_, _, _, h0⟩ | ⟨b2, o2, a2, cap2', cells2, ty2, hm2', hs2, hb2, hcap2, hf2, ha2⟩
 ·omega
 rw [hm2'] at hm2
 injection hm2 with q1 q2 q3
 subst q1
 have hvad' : ∀ (j : Nat) (u : Value), vs[j]? = some u -> w.cell? (Addr.add ⟨b2, a2, none⟩ j) = some u := by
  rcases hvad with ⟨h1, _⟩ | ⟨aa, h1, h2⟩
  ·cases h1
  ·cases h1; exact h2
 have hvl' : v.length = m := hm.symm
 rw [hvl'] at hm2' r2
 by_cases hend : i = n
 ·
  subst hend;have he : effAppend P tS tS (.so 1000 g K 0 l.length) (.so 2001 g2 K 0 v.length) 0 h = some (.so 1000 (g + 1) K 0 (l.length + (v.map t.enc).length), [(1000, .arr (g + 1) (true && true) K (((l.map t.enc).drop 0).take l.length ++ v.map t.enc))]) := by
   simp only [effAppend, hi, hik, hei, hK, e2, g1000];rw [if_pos ⟨trivial, trivial, trivial, by simp, by simpa using hlim⟩]
  have r2' : Rep w st (.so 2001 g2 K 0 v.length) m2 := by rw [hvl']; exact r2
  obtain ⟨rr, w', st', hrun, hr, hhp, hfr⟩ := append_runs r0 r2' hh he;obtain ⟨ad, cap, vs0, hm0', _⟩ := elems_rep hh r0 e0;have hnil : ad = none -> i = 0 := by
   intro e;subst e;rcases live_so hh hl0 r0 with ⟨_, hb, _, h0⟩ | ⟨b, o, a, cap', cells, ty, hb, _⟩
   ·omega
   ·rw [hm0'] at hb; cases hb
  rw [List.length_map, <- hn] at hm0';rw [hm0', hm2'] at hrun ⊢;refine (W.fin ad i cap b2 a2 m cap2' w rr w' hm0 hnil hrun).mono ?_;rintro en w'' ⟨rfl, rfl⟩;refine fin rr w'' st' ?_ ?_ hfr
  ·rw [List.length_map, <- hn, hvl'] at hr; exact hr
  ·simp only [hsets, Bool.and_self, List.drop_zero] at hhp;rw [List.take_of_length_le (by simp)] at hhp;have : l.take i ++ v ++ l.drop i = l ++ v := by rw [hn, List.take_length, List.drop_length, List.append_nil]
   rw [this, List.map_append];exact hhp
 ·
  have hlt : i < n := by omega
  rcases live_so hh hl0 r0 with ⟨_, _, _, h0⟩ | ⟨b, o, a, cap, cells, ty, hm0', hs, hb, hcap, hf, ha⟩
  ·omega
  have hao : a = o := by have := ha (by omega); simpa using this
  subst hao;obtain ⟨ad, cap', olds, hm0'', _, hosz, hofree, hor, hoad⟩ := elems_rep hh r0 e0;have hol : olds.length = n * K := by rw [vs_len hosz hor, List.length_map, hn]
  have hoad' : ∀ (j : Nat) (u : Value), olds[j]? = some u -> w.cell? (Addr.add ⟨b, a, none⟩ j) = some u := by
   rw [hm0'] at hm0'';injection hm0'' with q1 _ _
   rcases hoad with ⟨h1, _⟩ | ⟨aa, h1, h2⟩
   ·rw [<- q1] at h1; cases h1
   ·rw [<- q1] at h1; cases h1; exact h2
  have hcell : ∀ j u, olds[j]? = some u -> cells[a + j]? = some u := by
   intro j u hj;have := hoad' j u hj;rw [add_lit'] at this;simpa [World.cell?, hb] using this
  rw [<- hn] at hm0';have hbb : b2 ≠ b := by rintro rfl; rw [hs] at hs2; cases hs2
  have hb2lt : b2 < w.heap.size := (hh.dom _ _ _ _ hs2).1;have hblt : b < w.heap.size := (hh.dom _ _ _ _ hs).1;have hLIM : n + m <= 4294967296 := by rw [hn, hm]; exact hlim
  have hX : (olds.drop (i * K)).length = (n - i) * K := by rw [List.length_drop, hol, Nat.sub_mul]
  have hiK : i * K <= n * K := Nat.mul_le_mul_right K (Nat.le_of_lt hlt);have hnew : RepL w st ((l.take i ++ v ++ l.drop i).map t.enc |>.flatMap V.cells) (olds.take (i * K) ++ vs ++ olds.drop (i * K)) := by
   have hfl : ∀ (q : Nat), ((l.map t.enc).take q).flatMap V.cells = ((l.map t.enc).flatMap V.cells).take (q * K) /\ ((l.map t.enc).drop q).flatMap V.cells = ((l.map t.enc).flatMap V.cells).drop (q * K) := by
    intro q;by_cases hq : q <= (l.map t.enc).length
    ·have h2 := (List.take_append_drop q (l.map t.enc)).symm;have h4 : (((l.map t.enc).take q).flatMap V.cells).length = q * K := by
      rw [flat_len K _ fun x hx => hosz x (List.mem_of_mem_take hx), List.length_take, Nat.min_eq_left hq]
     have h3 : (l.map t.enc).flatMap V.cells = ((l.map t.enc).take q).flatMap V.cells ++ ((l.map t.enc).drop q).flatMap V.cells := by
      rw [<- List.flatMap_append, <- h2]
     refine ⟨?_, ?_⟩
     ·rw [h3, List.take_append_of_le_length (Nat.le_of_eq h4.symm), <- h4, List.take_length]
     ·rw [h3, List.drop_append_of_le_length (Nat.le_of_eq h4.symm), <- h4, List.drop_length, List.nil_append]
    ·have hq' : (l.map t.enc).length <= q := by omega
     have hl3 : ((l.map t.enc).flatMap V.cells).length <= q * K := by
      rw [flat_len K _ hosz]; exact Nat.mul_le_mul_right K hq'
     rw [List.take_of_length_le hq', List.take_of_length_le hl3, List.drop_eq_nil_of_le hq', List.drop_eq_nil_of_le hl3];exact ⟨rfl, rfl⟩
   rw [List.map_append, List.map_append, List.flatMap_append, List.flatMap_append, List.map_take, List.map_drop, (hfl i).1, (hfl i).2];exact ((hor.take _).append hvr).append (hor.drop _)
  have hall : ∀ x ∈ (l.take i ++ v ++ l.drop i).map t.enc, x.cells.length = K := fun x hx => by
   obtain ⟨z, _, rfl⟩ := List.mem_map.1 hx; rw [enc_cells, cells_len, htK]
  have hfree : true = true -> ∀ x ∈ (l.take i ++ v ++ l.drop i).map t.enc, x.idfree = true := fun _ x hx => by
   obtain ⟨z, _, rfl⟩ := List.mem_map.1 hx; exact enc_free t z
  have hgen : ∀ b g0 o0, st b = .id 1000 g0 o0 -> g0 < g + 1 := by
   intro b' g0 o0 hs';obtain ⟨_, y, hy, hgn⟩ := hh.dom _ _ _ _ hs';rw [g1000] at hy;cases hy;simp only [Ob.gen] at hgn;omega
  have hcl2 : (Nat.min (n + m - i) (n + m - (i + m))) * K = (n - i) * K := by
   have : Nat.min (n + m - i) (n + m - (i + m)) = n - i := by simp only [Nat.min_def]; split <;> omega
   rw [this]
  have hcl3 : Nat.min m (n + m - i) * K = m * K := by
   have : Nat.min m (n + m - i) = m := by simp only [Nat.min_def]; split <;> omega
   rw [this]
  have hcl4 : Nat.min (n - i) (n + m - (i + m)) * K = (n - i) * K := by
   have : Nat.min (n - i) (n + m - (i + m)) = n - i := by simp only [Nat.min_def]; split <;> omega
   rw [this]
  have hone : ∀ u ∈ olds.drop (i * K), u.oneCell' = true := fun u hu => repL_one hor u (List.mem_of_mem_drop hu)
  have ex1 : (i + m) * K = i * K + m * K := Nat.add_mul _ _ _;have ex2 : (n - i) * K = n * K - i * K := Nat.sub_mul _ _ _;have ex3 : (n + m) * K = n * K + m * K := Nat.add_mul _ _ _;by_cases hroom : n + m <= cap
  ·
   have hpos : 0 < (n + m) * K := Nat.mul_pos (by omega) hK0;have hsz : a + (n + m) * K <= cells.size := by
    have := Nat.mul_le_mul_right K hroom;rw [Nat.zero_add] at hf;omega
   obtain ⟨cA, hcA⟩ : ∃ cA, cA = (cells.toList.take (a + (i + m) * K) ++ olds.drop (i * K) ++ cells.toList.drop (a + (i + m) * K + (olds.drop (i * K)).length)).toArray := ⟨_, rfl⟩;have hqA : a + (i + m) * K + (olds.drop (i * K)).length <= cells.size := by rw [hX]; omega
   have hAs : cA.size = cells.size := by rw [hcA]; exact wrote_size cells _ _ hqA
   have hqB : a + i * K + vs.length <= cA.size := by rw [hvl, hAs]; omega
   obtain ⟨cB, hcB⟩ : ∃ cB, cB = (cA.toList.take (a + i * K) ++ vs ++ cA.toList.drop (a + i * K + vs.length)).toArray := ⟨_, rfl⟩;have hBs : cB.size = cells.size := by rw [hcB, wrote_size cA _ _ hqB, hAs]
   have hbd : w.drew.heap[b]? = some (.cells cells ty (0, 0)) := hb;have hst1 := run_storeCells_at P b (a + (i + m) * K) ty (olds.drop (i * K)) 0 cells w.drew hbd (by simpa using hqA) hone;have hb1 : (w.drew.setRow b cA).heap[b]? = some (.cells cA ty (0, 0)) := setRow_heap w.drew b cells cA ty (0, 0) hbd;have hst2 := run_storeCells_at P b (a + i * K) ty vs 0 cA (w.drew.setRow b cA) hb1 (by simpa using hqB) (repL_one hvr);simp only [Nat.add_zero] at hst1 hst2;rw [<- hcA] at hst1;rw [<- hcB] at hst2;have hcp1 : ∀ ty dc sc, (Builtin.copy_ #[tS, tS] ty #[.slice (some ⟨b, a + (i + m) * K, none⟩) (n + m - (i + m)) dc, .slice (some ⟨b, a + i * K, none⟩) (n + m - i) sc]).run P w.drew = .ok _ (w.drew.setRow b cA) := fun ty dc sc =>
    copy_run hT.und (hK ▸ hE.run_size w.drew) _ _ _ dc _ sc (olds.drop (i * K)) (by rw [hcl2, hX]) (fun j u hj => by
     rw [add_lit'];rw [List.getElem?_drop] at hj;have := hcell _ u hj;rw [Nat.add_assoc];simp [World.cell?, hbd, this]) hst1 ty
   have hcp2 : ∀ ty dc, (Builtin.copy_ #[tS, tS] ty #[.slice (some ⟨b, a + i * K, none⟩) (n + m - i) dc, .slice (some ⟨b2, a2, none⟩) m cap2']).run P (w.drew.setRow b cA) = .ok _ ((w.drew.setRow b cA).setRow b cB) := fun ty dc =>
    copy_run hT.und (hK ▸ hE.run_size _) _ _ _ dc _ cap2' vs (by rw [hcl3, hvl]) (fun j u hj => by
     have := hvad' j u hj;rw [add_lit'] at this ⊢;have h3 : (w.drew.setRow b cA).heap[b2]? = w.heap[b2]? := setRow_other w.drew b b2 cA hbb;simp only [World.cell?, h3];simpa [World.cell?] using this) hst2 ty
   obtain ⟨tR, hov⟩ := W.ov;rw [hm0', hm2'];refine (W.shift b a n cap i b2 a2 m cap2' w hlt hm0 hroom (by omega) (fun lb cb => hov w _ _ _ _ _ _ (Lib.run_overlaps_apart w tS tR e hT.und ei.size (fun w => hE.run_size w) ⟨b2, a2, none⟩ ⟨b, a + (i + m) * K, none⟩ m cap2' lb cb hbb ty2 ty cells2.size cells.size
    (by simp [World.shape?, hb2]) (by simp [World.shape?, hb]) (by omega) (frozen_plain hb2 _) (frozen_plain hb2 _))) _ _ _ _ hcp1 hcp2).mono ?_
   rintro en w'' ⟨rfl, rfl⟩;have hww : (w.drew.setRow b cA).setRow b cB = w.drew.setRow b cB := setRow_twice _ _ _ _;rw [hww];have hhd := hh.drew;have hfr := fr_write hhd hs hbd cB hBs (g + 1) a (.inr (by omega));refine fin _ _ _ ?_ (heap_write_id hhd hs hbd cB hBs (.arr (g + 1) true K ((l.take i ++ v ++ l.drop i).map t.enc)) a (.inr (by simp [Ob.gen])) ?_) ((Fr.drew w st).trans hfr)
   ·refine Rep.so (o := a) (b := b) (ty := ty) (by simp [updO, Ob.gen]) (setRow_heap w.drew b cells cB ty (0, 0) hbd) hroom ?_ (fun _ => by simp);rw [hBs]; exact hf
   ·refine ob_arr (b := b) (o := a) (by rw [List.length_map, hlen]; exact Nat.le_trans hLIM (by simp [LIM])) hall hfree (by simp [updO, Ob.gen]) (setRow_heap w.drew b cells cB ty (0, 0) hbd) ?_;refine repL_row (hnew.frame hh.shut ((Fr.drew w st).trans hfr)) _ _ (fun j hj => ?_);have hj' : j < (n + m) * K := by
     simp only [List.length_append, List.length_take, hvl, hX, hol] at hj;omega
    rw [hcB, wrote_get cA _ vs hqB, hcA, wrote_get cells _ _ hqA, hvl, hX];simp only [List.getElem?_append, List.length_append, List.length_take, hvl, hol];have emin : min (i * K) (n * K) = i * K := by omega
    rw [emin];by_cases c1 : j < i * K
    ·rw [if_neg (by omega), if_neg (by omega), if_pos (by omega), if_pos c1, List.getElem?_take, if_pos c1];have hjl : j < olds.length := by omega
     have := hcell j _ (List.getElem?_eq_getElem hjl);rw [this, List.getElem?_eq_getElem hjl]
    ·by_cases c2 : j < i * K + m * K
     ·rw [if_pos (by omega), if_pos c2, if_neg c1];congr 1; omega
     ·rw [if_neg (by omega), if_pos (by omega), if_neg c2];congr 1; omega
  ·
   have hgr : cap < i + (n + m - i) := by omega
   obtain ⟨N, hN⟩ : ∃ N, N = w.heap.size := ⟨_, rfl⟩;have hold : (Builtin.firstCells infoe.size i (.slice (some ⟨b, a, none⟩) i cap)).run P w.drew = .ok (olds.take (i * K)).toArray w.drew := by
    rw [hE.size, hK];exact run_firstCells_some w.drew K i ⟨b, a, none⟩ i cap (olds.take (i * K)) (by rw [List.length_take, hol]; omega) (fun j u hj => by
     rw [List.getElem?_take] at hj;split at hj
     ·exact hoad' j u hj
     ·cases hj)
   have hby : infoe.bytes <= 4096 := by rw [hE.bytes]; exact hE.small
   have hik2 : i + (n + m - i) = n + m := by omega
   obtain ⟨G, hG⟩ : ∃ G, G = grownCap w (n + m) cap e := ⟨_, rfl⟩;have happ : ∀ ty, (Builtin.append_ #[tS, tI] ty #[.slice (some ⟨b, a, none⟩) i cap, .int .i64 ((n : Int) + (m : Int) - (i : Int))]).run P w = .ok (.slice (some ⟨N, 0, none⟩) (n + m) G)
     (w.drew.alloc (.cells ((olds.take (i * K)).toArray ++ Builtin.zeroCells ze.cells (n + m - i) ++ Builtin.zeroCells ze.cells (G - (n + m))) e)) := fun ty => by
    have h1 := Lib.run_append_grow_zeros w tS tI ty e infoe ze .i64 .i64 hT.und htI hE.inf hE.zero (some ⟨b, a, none⟩) i cap (olds.take (i * K)) hold (n + m - i) (by omega) (by rw [hE.size, hK]; exact hK0) hgr (by omega)
     (by have := Nat.mul_le_mul (show n + m - i <= 4294967296 by omega) hby; omega)
     (by rw [hik2]; exact growslice_fits (by omega) (by have := Nat.mul_le_mul hLIM hby; omega))
    rw [hik2] at h1
    have e1 : (n : Int) + (m : Int) - (i : Int) = ((n + m - i : Nat) : Int) := by omega
    rw [e1, hN, hG]
    exact h1
   have hzs : ze.cells.size = K := by
    have := (rep_cells (.s (vOf_sound hE.zv w (fun b => st b = .shut))) (zero_okv hE)).1;rw [hE.len, hK] at this;simpa using this.symm
   have hGe : n + m <= G := by rw [hG]; exact grownCap_ge w _ _ _
   have hG63 : G <= 9223372036854775807 := by
    have := grownCap_le_maxLen w (n + m) cap e (by unfold maxLen; omega);rw [<- hG] at this;unfold maxLen at this;omega
   obtain ⟨ROW, hROW⟩ : ∃ ROW : Array Value, ROW = (olds.take (i * K)).toArray ++ Builtin.zeroCells ze.cells (n + m - i) ++ Builtin.zeroCells ze.cells (G - (n + m)) := ⟨_, rfl⟩;rw [<- hROW] at happ;have hRs : ROW.size = G * K := by
    rw [hROW];simp only [Array.size_append, List.size_toArray, size_zeroCells, hzs, List.length_take, hol];have e1 : min (i * K) (n * K) = i * K := by omega
    rw [e1, <- Nat.add_mul, <- Nat.add_mul];congr 1;omega
   obtain ⟨w1, hw1⟩ : ∃ w1, w1 = w.drew.alloc (.cells ROW e) := ⟨_, rfl⟩;rw [<- hw1] at happ;have hN1 : w1.heap[N]? = some (.cells ROW e (0, 0)) := by rw [hw1, hN]; exact heap_alloc_new w.drew _
   have hold1 : ∀ c, c < w.heap.size -> w1.heap[c]? = w.heap[c]? := fun c hc => by rw [hw1]; exact heap_alloc_old w.drew _ hc
   have hGK : (n + m) * K <= G * K := Nat.mul_le_mul_right K hGe;obtain ⟨cA, hcA⟩ : ∃ cA, cA = (ROW.toList.take (i * K) ++ vs ++ ROW.toList.drop (i * K + vs.length)).toArray := ⟨_, rfl⟩;have hqA : i * K + vs.length <= ROW.size := by rw [hvl, hRs]; omega
   have hAs : cA.size = ROW.size := by rw [hcA]; exact wrote_size ROW _ _ hqA
   have hqB : (i + m) * K + (olds.drop (i * K)).length <= cA.size := by rw [hX, hAs, hRs]; omega
   obtain ⟨cB, hcB⟩ : ∃ cB, cB = (cA.toList.take ((i + m) * K) ++ olds.drop (i * K) ++ cA.toList.drop ((i + m) * K + (olds.drop (i * K)).length)).toArray := ⟨_, rfl⟩;have hBs : cB.size = ROW.size := by rw [hcB, wrote_size cA _ _ hqB, hAs]
   have hcp1 : ∀ W ty dc, W.heap = w1.heap -> (Builtin.copy_ #[tS, tS] ty #[.slice (some ⟨N, i * K, none⟩) (n + m - i) dc, .slice (some ⟨b2, a2, none⟩) m cap2']).run P W = .ok _ (W.setRow N cA) := fun W ty dc hW => by
    have hWN : W.heap[N]? = some (.cells ROW e (0, 0)) := by rw [hW]; exact hN1
    have hst := run_storeCells_at P N (i * K) e vs 0 ROW W hWN (by simpa using hqA) (repL_one hvr);simp only [Nat.add_zero] at hst;rw [<- hcA] at hst;exact copy_run hT.und (hK ▸ hE.run_size _) _ _ _ dc _ cap2' vs (by rw [hcl3, hvl]) (fun j u hj => by
     have := hvad' j u hj;rw [add_lit'] at this ⊢;simp only [World.cell?, hW, hold1 b2 hb2lt];simpa [World.cell?] using this) hst ty
   have hcp2 : ∀ W ty dc sc, W.heap = (w1.setRow N cA).heap -> (Builtin.copy_ #[tS, tS] ty #[.slice (some ⟨N, (i + m) * K, none⟩) (n + m - (i + m)) dc, .slice (some ⟨b, a + i * K, none⟩) (n - i) sc]).run P W = .ok _ (W.setRow N cB) := fun W ty dc sc hW => by
    have hWN : W.heap[N]? = some (.cells cA e (0, 0)) := by rw [hW]; exact setRow_heap w1 N ROW cA e (0, 0) hN1
    have hst := run_storeCells_at P N ((i + m) * K) e (olds.drop (i * K)) 0 cA W hWN (by simpa using hqB) hone;simp only [Nat.add_zero] at hst;rw [<- hcB] at hst;exact copy_run hT.und (hK ▸ hE.run_size _) _ _ _ dc _ sc (olds.drop (i * K)) (by rw [hcl4, hX]) (fun j u hj => by
     rw [add_lit'];rw [List.getElem?_drop] at hj;have := hcell _ u hj;have h3 : (w1.setRow N cA).heap[b]? = w.heap[b]? := by rw [setRow_other w1 N b cA (by omega)]; exact hold1 b hblt
     rw [Nat.add_assoc];simp only [World.cell?, hW, h3, hb];simpa using this) hst ty
   rw [hm0', hm2'];refine (W.grow b a n cap i b2 a2 m cap2' N G w w1 hlt hm0 (by omega) (by omega) hGe hG63 (by omega) happ _ _ cA cB hcp1 hcp2).mono ?_;rintro en w'' ⟨rfl, hheap, hsame⟩;have hhd := hh.drew;have hW2 : w''.heap = (w.drew.alloc (.cells cB e)).heap := by
    rw [hheap, setRow_twice, hw1, hN];exact setRow_alloc w.drew ROW cB e
   have hrel := fr_move hhd (g + 1) (.cells cB e) 0 (d := 1000) hgen;have hrow : (olds.take (i * K)).toArray.size = i * K := by rw [List.size_toArray, List.length_take, hol]; omega
   have hob : ObOk (w.drew.alloc (.cells cB e)) (mvO w.drew st 1000 (g + 1) 0) 1000 (.arr (g + 1) true K ((l.take i ++ v ++ l.drop i).map t.enc)) := by
    refine ob_arr (b := w.drew.heap.size) (o := 0) (by rw [List.length_map, hlen]; exact Nat.le_trans hLIM (by simp [LIM])) hall hfree (by unfold mvO; rw [if_pos rfl]) (heap_alloc_new w.drew _) ?_;refine repL_row (hnew.frame hh.shut ((Fr.drew w st).trans hrel)) _ _ (fun j hj => ?_);have hj' : j < (n + m) * K := by
     simp only [List.length_append, List.length_take, hvl, hX, hol] at hj;omega
    rw [Nat.zero_add, hcB, wrote_get cA _ _ hqB, hcA, wrote_get ROW _ vs hqA, hvl, hX];simp only [List.getElem?_append, List.length_append, List.length_take, hvl, hol];have emin : min (i * K) (n * K) = i * K := by omega
    rw [emin];by_cases c1 : j < i * K
    ·rw [if_neg (by omega), if_neg (by omega), if_pos (by omega), if_pos c1, hROW, Array.append_assoc, Array.getElem?_append, if_pos (by rw [hrow]; exact c1)];simp
    ·by_cases c2 : j < i * K + m * K
     ·rw [if_neg (by omega), if_pos (by omega), if_pos c2, if_neg c1]
     ·rw [if_pos (by omega), if_neg c2];congr 1; omega
   have hmv := heap_move_id hhd (d := 1000) (.arr (g + 1) true K ((l.take i ++ v ++ l.drop i).map t.enc)) (.cells cB e) 0 hgen hob;obtain ⟨hfin, hffin⟩ := heap_same hmv hW2 ⟨by rw [hsame.os, hw1]; rfl, by rw [hsame.tape, hw1]; rfl, by rw [hsame.output, hw1]; rfl, Nat.le_trans (by rw [hw1]; first | exact Nat.le_refl _ | exact Nat.le_add_right _ _) hsame.drawn⟩;refine fin _ _ _ ?_ hfin (((Fr.drew w st).trans hrel).trans hffin);have hRep : Rep (w.drew.alloc (.cells cB e)) (mvO w.drew st 1000 (g + 1) 0) (.so 1000 (g + 1) K 0 (n + m)) (.slice (some ⟨N, 0, none⟩) (n + m) G) := by
    rw [hN];refine Rep.so (o := 0) (b := w.drew.heap.size) (ty := e) (by unfold mvO; rw [if_pos rfl]) (heap_alloc_new w.drew _) hGe ?_ (fun _ => by simp);rw [hBs, hRs];simp
   exact hRep.frame hmv.shut hffin
def insF {α : Type} (k : Int) (l v : List α) : Option (List α × List α) :=
 (chk (0 <= k /\ k <= (l.length : Int) /\ v.length ≠ 0 /\ l.length + v.length <= LIM)).bind fun _ => some (l.take k.toNat ++ v ++ l.drop k.toNat, v)
def insOk (P : Program) (tS tI K : Nat) (t : Ty) : Bool := match tab P tS with
 | some i => match i.kind with
  | .slice e => match tab P e, P.underlying tI with
   | some ei, some (.int .i64) => Nat.beq ei.size K && Nat.blt 0 K && Nat.beq t.size K
   | _, _ => false
  | _ => false
 | none => false
@[reducible] def insJs (K : Nat) : List Sh := [.wn 1000 K, .dt (.int .i64), .wn 2001 K]
@[reducible] def insJh (t : Ty) : List (Nat × OSh) := [(1000, .ls t), (2001, .ls t)]
@[reducible] def insRs (K : Nat) : List Sh := [.wn 1000 K]
theorem ins_ok {P : Program} {f tS tI fo K : Nat} (W : InsW P f tS tI fo K) (t : Ty) (ht : insOk P tS tI K t = true) (k : Int) (l v : List t.D) (r1 r2 : List t.D) (hr : insF k l v = some (r1, r2))
  (γ H H' : Nat -> Nat) (hH : ∀ n ∈ idsO (insJh t), H n = olen (inO' (insJs K) (insJh t) (dis (Sh.tysL (insJs K) ++ tysO (insJh t)) (k, l, v))) n)
  (hH' : ∀ n ∈ idsO (insJh t), H' n = olen (outO (insRs K) (insJh t) [1000] (dis (Sh.tysL (insRs K) ++ tysO (insJh t)) (r1, r2))) n) :
  PCO P f (TV.vL H γ (inA (insJs K) (dis (Sh.tysL (insJs K) ++ tysO (insJh t)) (k, l, v))).1) (obs H γ (inO' (insJs K) (insJh t) (dis (Sh.tysL (insJs K) ++ tysO (insJh t)) (k, l, v))))
   (oneV (TV.vL H' γ (outA (insRs K) [1000] (dis (Sh.tysL (insRs K) ++ tysO (insJh t)) (r1, r2))).1)) (obs H' γ (outO (insRs K) (insJh t) [1000] (dis (Sh.tysL (insRs K) ++ tysO (insJh t)) (r1, r2)))) [1000] := by
 simp only [insF] at hr
 obtain ⟨_, c1, h2⟩ := bind_some' hr
 obtain ⟨h0, h1, hv, hlim⟩ := chk_some c1
 cases h2
 have c : ∀ (x : List t.D), castD (.list t) (.list t) x = some x := fun x => castD_self _ _
 have c' : ∀ (x : Int), castD (.int .i64) (.int .i64) x = some x := fun x => castD_self _ _
 have di : dis (Sh.tysL (insJs K) ++ tysO (insJh t)) (k, l, v) = [⟨.int .i64, k⟩, ⟨.list t, l⟩, ⟨.list t, v⟩] := rfl
 have ro : dis (Sh.tysL (insRs K) ++ tysO (insJh t)) (l.take k.toNat ++ v ++ l.drop k.toNat, v) = [⟨.list t, l.take k.toNat ++ v ++ l.drop k.toNat⟩, ⟨.list t, v⟩] := rfl
 have i1 : inA (insJs K) [⟨.int .i64, k⟩, ⟨.list t, l⟩, ⟨.list t, v⟩] = ([.sof 1000 0 K, .leaf (.int .i64) k, .sof 2001 0 K], [⟨.list t, l⟩, ⟨.list t, v⟩]) := by
  simp only [inA, Sh.unL, Sh.un, takeD, c', z0]
 have i2 : inO' (insJs K) (insJh t) [⟨.int .i64, k⟩, ⟨.list t, l⟩, ⟨.list t, v⟩] = [(1000, 0, .lst 0 t l), (2001, 0, .lst 0 t v)] := by
  simp only [inO', i1, unO, OSh.un, takeD, c, z0]
 have o1 : outA (insRs K) [1000] [⟨.list t, l.take k.toNat ++ v ++ l.drop k.toNat⟩, ⟨.list t, v⟩] = ([.sof 1000 1 K], [⟨.list t, l.take k.toNat ++ v ++ l.drop k.toNat⟩, ⟨.list t, v⟩]) := rfl
 have o2 : outO (insRs K) (insJh t) [1000] [⟨.list t, l.take k.toNat ++ v ++ l.drop k.toNat⟩, ⟨.list t, v⟩] = [(1000, 0, .lst 1 t (l.take k.toNat ++ v ++ l.drop k.toNat)), (2001, 0, .lst 0 t v)] := by
  simp only [outO, o1, unO, OSh.un, takeD, c];rfl
 rw [di, i2] at hH
 rw [ro, o2] at hH'
 rw [di, ro, i1, i2, o1, o2]
 have a1 : H 1000 = l.length := hH 1000 (by simp [idsO])
 have a2 : H 2001 = v.length := hH 2001 (by simp [idsO])
 have a3 : H' 1000 = (l.take k.toNat ++ v ++ l.drop k.toNat).length := hH' 1000 (by simp [idsO])
 unfold insOk at ht
 split at ht
 ·rename_i i hi;split at ht
  ·rename_i e hk;split at ht
   ·rename_i ei hei htI;simp only [Bool.and_eq_true] at ht;obtain ⟨⟨t1, t2⟩, t3⟩ := ht;have hm := ins_pco W hi hk hei (beqs t1) (by simpa [Nat.blt_eq] using t2) htI (beqs t3) k v l h0 h1 (by rintro rfl; simp at hv) hlim (γ 1000) (γ 2001);rw [<- a1, <- a2, <- a3] at hm;have e3 : t.size = K := beqs t3;simp only [TV.vL, TV.v, obs, List.map_cons, List.map_nil, TOb.ob, oneV, e3, Nat.add_zero];exact hm
   ·cases ht
  ·cases ht
 ·cases ht
noncomputable def Ow.ins {P : Program} {f tS tI fo K : Nat} (W : InsW P f tS tI fo K) (t : Ty) (ht : insOk P tS tI K t = true) : Ow P where
 f := f
 js := insJs K
 jh := insJh t
 rs := insRs K
 rh := insJh t
 ne := [1000]
 wf := rfl
 F := fun d => insF d.1 d.2.1 d.2.2
 ok := fun d r hr γ H H' h1 h2 => ins_ok W t ht d.1 d.2.1 d.2.2 r.1 r.2 hr γ H H' h1 h2
end Go.PG.PH
set_option linter.unusedSimpArgs false
set_option linter.unusedVariables false
namespace Go.PG.PH
open Go.Proofs Go.Sort Go.RowKit
def sortedS (l : List ByteArray) : List ByteArray := ((l.map ByteArray.toList).mergeSort fun x y => decide (x <= y)).map fun b => ⟨b.toArray⟩
theorem sortedS_len (l : List ByteArray) : (sortedS l).length = l.length := by simp [sortedS]
theorem bytes_back (b : ByteArray) : (⟨b.toList.toArray⟩ : ByteArray) = b := by rw [ByteArray.toList_eq]
theorem sortedS_perm (l : List ByteArray) : (sortedS l).Perm l := by
 have h := (List.mergeSort_perm (l.map ByteArray.toList) fun x y => decide (x <= y)).map fun b => (⟨b.toArray⟩ : ByteArray)
 rw [List.map_map] at h;have e : ((fun b : List UInt8 => (⟨b.toArray⟩ : ByteArray)) ∘ ByteArray.toList) = id := by funext b; exact bytes_back b
 rw [e, List.map_id] at h;exact h
theorem heap_grow {w w' : World} {st : Nat -> Own} {h : Heap} (hh : HeapOk w st h) (os : Array Obj) (he : w'.heap = w.heap ++ os) (hs : Same3 w w') : HeapOk w' st h /\ Fr w st w' st := by
 have old : ∀ b, b < w.heap.size -> w'.heap[b]? = w.heap[b]? := fun b hb => by rw [he, Array.getElem?_append_left hb]
 have hsz : w.heap.size <= w'.heap.size := by rw [he]; simp
 have hf : Fr w st w' st := ⟨hs, hsz, fun b hb _ => ⟨rfl, old b hb⟩, fun b n g o hb => .inl ⟨hb, fun cells ty hc => ⟨cells, by rw [old b (hh.dom _ _ _ _ hb).1]; exact hc, rfl⟩⟩⟩;exact ⟨⟨fun n x hx => (hh.ob n x hx).keep hh.shut hf (fun b g o hb => ⟨hb, old b (hh.dom _ _ _ _ hb).1⟩) (fun b g o hb => ⟨b, g, o, hb⟩), fun b n g o hb => ⟨Nat.lt_of_lt_of_le (hh.dom _ _ _ _ hb).1 hsz, (hh.dom _ _ _ _ hb).2⟩, hh.inj, fun b hb => Nat.lt_of_lt_of_le (hh.shut b hb) hsz, fun b s hb => Nat.lt_of_lt_of_le (hh.hid b s hb) hsz⟩, hf⟩
theorem sg_nil (γ : Nat -> Nat) : ∀ h : Heap, (∀ n x, (n, x) ∈ h -> ∃ g sz l, x = .arr g true sz l) -> Heap.sg [] γ h = h
 | [], _ => rfl
 | (n, x) :: r, hx => by
  obtain ⟨g, sz, l, rfl⟩ := hx n x (by simp);simp only [Heap.sg, Ob.sg, List.not_mem_nil, if_false, sg_nil γ r fun m y hy => hx m y (by simp [hy])]
theorem sort_pco {P : Program} {ρ : Go.Shelf.Ren} (L : Lays.n190 P ρ) (hent : Entered P (ρ.f 190)) (l : List ByteArray) (hlim : l.length <= LIM) (g : Nat) :
  PCO P (ρ.f 190) [.so 2000 g 1 0 l.length] [(2000, .arr g true 1 (l.map Ty.str.enc))] (.tup []) [(2000, .arr g true 1 ((sortedS l).map Ty.str.enc))] [] := by
 refine ⟨hent, fun w st ms hh hN hms hrep => ?_⟩
 obtain ⟨m0, rfl⟩ : ∃ a, ms = #[a] := by
  obtain ⟨ms⟩ := ms
  match ms, hms with
  | [a], _ => exact ⟨a, rfl⟩
 have r0 := hrep 0 _ m0 rfl rfl
 obtain ⟨h, hh0⟩ : ∃ h : Heap, h = [(2000, .arr g true 1 (l.map Ty.str.enc))] := ⟨_, rfl⟩
 rw [<- hh0] at hh
 have g2000 : hget h 2000 = some (.arr g true 1 (l.map Ty.str.enc)) := by rw [hh0]; rfl
 have hlive : live h 2000 g = true := by simp [live, g2000, Ob.gen]
 have fin : ∀ (w' : World) (st' : Nat -> Own), HeapOk w' st' [(2000, .arr g true 1 ((sortedS l).map Ty.str.enc))] -> Fr w st w' st' ->
   ∃ m st'' γ, Ending.returned (.tuple #[]) = .returned m /\ Rep w' st'' ((V.tup []).sg [] γ) m /\ HeapOk w' st'' (Heap.sg [] γ [(2000, .arr g true 1 ((sortedS l).map Ty.str.enc))]) /\ Fr w st w' st'' := by
  intro w' st' h1 h2
  refine ⟨.tuple #[], st', fun _ => 0, rfl, .tup rfl (by simp), ?_, h2⟩
  rw [sg_nil _ _ fun n x hx => by simp at hx; exact ⟨_, _, _, hx.2⟩]
  exact h1
 rcases live_so hh hlive r0 with ⟨base, hb, _, h0⟩ | ⟨b, o, a, cap, cells, ty, hm0, hs, hb, hcap, hf, ha⟩
 ·have hl : l = [] := List.eq_nil_of_length_eq_zero h0;subst hl;rw [hb];refine (Any.slices_Sort_string_none L base 0 w).mono fun e w' h => ?_
  obtain ⟨he, hw⟩ := h;subst he hw;have := fin w' st (by rw [hh0] at hh; simpa [sortedS] using hh) (Fr.refl _ _);exact this
 ·rw [hm0];by_cases hl0 : l.length = 0
  ·have hl : l = [] := List.eq_nil_of_length_eq_zero hl0;subst hl;refine (Any.slices_Sort_string_none L _ cap w).mono fun e w' h => ?_
   obtain ⟨he, hw⟩ := h;subst he hw;exact fin w' st (by rw [hh0] at hh; simpa [sortedS] using hh) (Fr.refl _ _)
  ·have ea : a = o := by rw [ha (by omega)]; omega
   subst ea;obtain ⟨_, hsz, hp, hob⟩ := hh.ob _ _ g2000;rcases hob with ⟨he, _⟩ | ⟨b1, o1, c1, ty1, hs1, hc1, hR⟩
   ·exact absurd (by simpa using he) (fun e : l = [] => hl0 (by simp [e]))
   ·have e1 := hh.inj _ _ _ _ _ _ _ hs hs1;subst e1;rw [hs] at hs1;injection hs1 with _ _ e2
    subst e2;rw [hb] at hc1;simp only [Option.some.injEq, Obj.cells.injEq, and_true] at hc1;obtain ⟨e3, e4⟩ := hc1;subst e3 e4;have hcell : ∀ j (hj : j < l.length), a + j < cells.size /\ cells.getD (a + j) undef = .string l[j] /\ (l[j]).size <= LIM := by
     intro j hj;obtain ⟨h1, h2, h3⟩ := hR j 0 (Ty.str.enc l[j]) (.str l[j]) (by simp [hj]) (by simp [Ty.enc, mkV, Ty.cells, V.cells]);rw [show a + j * 1 + 0 = a + j by omega] at h1 h3;generalize cells.getD (a + j) undef = v at h3 ⊢;cases h3 with
     | s h => cases h with
      | str h => exact ⟨h1, rfl, h⟩
     | stale ht => cases ht
    obtain ⟨ss, hss⟩ : ∃ ss, ss = l.map ByteArray.toList := ⟨_, rfl⟩;have hsl : ss.length = l.length := by simp [hss]
    have hH : Holds encStr w b a ss.toArray := by
     intro j hj;have hj' : j < l.length := by simpa [hsl] using hj
     obtain ⟨h1, h2, h3⟩ := hcell j hj';refine ⟨?_, frozen_plain hb _⟩;unfold World.cell?;simp only [hb];rw [Array.getElem?_eq_getElem h1];rw [Array.getD_eq_getD_getElem?, Array.getElem?_eq_getElem h1, Option.getD_some] at h2;rw [h2];have : (ss.toArray)[j]! = (l[j]).toList := by
      rw [getElem!_pos _ j (by simpa [hsl] using hj')];simp [hss]
     rw [this];simp [encStr, bytes_back]
    have hbs : b < w.heap.size := (hh.dom _ _ _ _ hs).1;rw [<- hsl];refine (Any.slices_Sort_string L b a cap ss w hH hbs (by rw [hsl]; have : LIM = 2 ^ 32 := rfl; omega)).mono fun e w' h => ?_
    obtain ⟨he, n, os, hw⟩ := h;subst he;obtain ⟨srt, hsrt⟩ : ∃ srt, srt = (ss.mergeSort fun x y => decide (x <= y)) := ⟨_, rfl⟩;rw [<- hsrt] at hw;have hsr : srt.length = l.length := by rw [hsrt]; simp [hsl]
    have hS : sortedS l = srt.map fun b => (⟨b.toArray⟩ : ByteArray) := by rw [hsrt, hss]; rfl
    obtain ⟨c', hc'⟩ : ∃ c', c' = putCells encStr a srt.toArray cells := ⟨_, rfl⟩;have hz : c'.size = cells.size := by rw [hc']; simp [putCells]
    have hw1 : (putRow encStr (Sort.ahead w n) b a srt.toArray).heap = (w.setRow b c').heap := by
     unfold putRow mapBlock World.setRow Sort.ahead;simp only;apply Array.ext_getElem?;intro k;simp only [Array.getElem?_modify];by_cases hk : b = k
     ·subst hk;simp only [if_true, hb, Option.map_some, onCells, hc']
     ·simp [hk]
    have hput : ∀ j (hj : j < l.length), c'.getD (a + j) undef = .string ((sortedS l)[j]'(by rw [sortedS_len]; exact hj)) := by
     intro j hj;obtain ⟨h1, _, _⟩ := hcell j hj;rw [Array.getD_eq_getD_getElem?, hc'];simp only [putCells, Array.getElem?_mapIdx, Array.getElem?_eq_getElem h1, Option.map_some, Option.getD_some];rw [if_pos ⟨by omega, by simp [hsr]; omega⟩];rw [show a + j - a = j by omega, getElem!_pos _ j (by simpa [hsr] using hj)];simp only [hS, List.getElem_toArray, List.getElem_map, encStr]
    have hw2 := heap_write_id hh hs hb c' hz (.arr g true 1 ((sortedS l).map Ty.str.enc)) a (.inl ⟨rfl, rfl⟩) (by
     refine ⟨by simpa [sortedS_len] using hlim, fun x hx => ?_, fun _ x hx => ?_, .inr ⟨b, a, c', ty, by simp [updO, Ob.gen], setRow_heap w b cells c' ty (0, 0) hb, fun i j x c hx hc => ?_⟩⟩
     ·obtain ⟨y, _, rfl⟩ := List.mem_map.1 hx; rfl
     ·obtain ⟨y, _, rfl⟩ := List.mem_map.1 hx; rfl
     ·simp only [List.getElem?_map, Option.map_eq_some_iff] at hx;obtain ⟨y, hy, rfl⟩ := hx;obtain ⟨hi, hy'⟩ := List.getElem?_eq_some_iff.1 hy;have hi' : i < l.length := by simpa [sortedS_len] using hi
      have hj0 : j = 0 /\ c = .str y := by
       cases j with
       | zero => simpa [Ty.enc, mkV, Ty.cells, V.cells, eq_comm] using hc
       | succ j => simp [Ty.enc, mkV, Ty.cells, V.cells] at hc
      obtain ⟨rfl, rfl⟩ := hj0;obtain ⟨h1, _, _⟩ := hcell i hi';have hcc := hput i hi';simp only [Nat.mul_one, Nat.add_zero];rw [hcc, hy'];refine ⟨by omega, rfl, .s (.str ?_)⟩;have : y ∈ sortedS l := List.mem_of_getElem? hy;have : y ∈ l := (sortedS_perm l).mem_iff.1 this;obtain ⟨k, hk, rfl⟩ := List.getElem_of_mem this;exact (hcell k hk).2.2)
    have hf2 := fr_write hh hs hb c' hz g a (.inl ⟨rfl, rfl⟩);have e5 : updO st b (.id 2000 g a) = st := by
     funext x; unfold updO; split
     ·rename_i e; subst e; exact hs.symm
     ·rfl
    simp only [Ob.gen] at hw2;rw [e5] at hw2 hf2;have hq : hset h 2000 (.arr g true 1 ((sortedS l).map Ty.str.enc)) = [(2000, .arr g true 1 ((sortedS l).map Ty.str.enc))] := by rw [hh0]; rfl
    rw [hq] at hw2;obtain ⟨k1, k2⟩ := heap_same (w' := putRow encStr (Sort.ahead w n) b a srt.toArray) hw2 hw1 ⟨rfl, rfl, rfl, Nat.le_add_right _ _⟩;obtain ⟨k3, k4⟩ := heap_grow (w' := w') k1 os (by rw [hw]; rfl) (by rw [hw]; exact ⟨rfl, rfl, rfl, Nat.le_refl _⟩);exact fin w' st k3 ((hf2.trans k2).trans k4)
def srtF (l : List ByteArray) : Option (List ByteArray) := (chk (l.length <= LIM)).bind fun _ => some (sortedS l)
@[reducible] def srtJs : List Sh := [.wn 2000 1]
@[reducible] def srtJh : List (Nat × OSh) := [(2000, .ls .str)]
theorem srt_ok {P : Program} {ρ : Go.Shelf.Ren} (L : Lays.n190 P ρ) (hent : Entered P (ρ.f 190)) (l r : List ByteArray) (hr : srtF l = some r)
  (γ H H' : Nat -> Nat) (hH : ∀ n ∈ idsO srtJh, H n = olen (inO' srtJs srtJh (dis (Sh.tysL srtJs ++ tysO srtJh) l)) n) :
  PCO P (ρ.f 190) (TV.vL H γ (inA srtJs (dis (Sh.tysL srtJs ++ tysO srtJh) l)).1) (obs H γ (inO' srtJs srtJh (dis (Sh.tysL srtJs ++ tysO srtJh) l)))
   (oneV (TV.vL H' γ (outA [] [] (dis (Sh.tysL [] ++ tysO srtJh) r)).1)) (obs H' γ (outO [] srtJh [] (dis (Sh.tysL [] ++ tysO srtJh) r))) [] := by
 obtain ⟨_, c1, h2⟩ := bind_some' hr
 cases h2
 have hlim := chk_some c1
 have c : ∀ (x : List ByteArray), castD (.list .str) (.list .str) x = some x := fun x => castD_self _ _
 have di : dis (Sh.tysL srtJs ++ tysO srtJh) l = [⟨.list .str, l⟩] := rfl
 have ro : dis (Sh.tysL [] ++ tysO srtJh) (sortedS l) = [⟨.list .str, sortedS l⟩] := rfl
 have i1 : inA srtJs [⟨.list .str, l⟩] = ([.sof 2000 0 1], [⟨.list .str, l⟩]) := by
  simp only [inA, Sh.unL, Sh.un, z0]
 have i2 : inO' srtJs srtJh [⟨.list .str, l⟩] = [(2000, 0, .lst 0 .str l)] := by
  simp only [inO', i1, unO, OSh.un, takeD, c, z0]
 have o1 : outA [] [] [⟨.list .str, sortedS l⟩] = ([], [⟨.list .str, sortedS l⟩]) := rfl
 have o2 : outO [] srtJh [] [⟨.list .str, sortedS l⟩] = [(2000, 0, .lst 0 .str (sortedS l))] := by
  simp only [outO, o1, unO, OSh.un, takeD, c];rfl
 rw [di, i2] at hH
 rw [di, ro, i1, i2, o1, o2]
 have a1 : H 2000 = l.length := hH 2000 (by simp [idsO])
 have hm := sort_pco L hent l hlim (γ 2000)
 rw [<- a1] at hm
 simp only [TV.vL, TV.v, obs, List.map_cons, List.map_nil, TOb.ob, oneV, Nat.add_zero]
 exact hm
noncomputable def Ow.srt {P : Program} {ρ : Go.Shelf.Ren} (L : Lays.n190 P ρ) (hent : Entered P (ρ.f 190)) : Ow P where
 f := ρ.f 190
 js := srtJs
 jh := srtJh
 rs := []
 rh := srtJh
 ne := []
 wf := rfl
 F := fun l => srtF l
 ok := fun d r hr γ H H' h1 h2 => srt_ok L hent d r hr γ H H' h1
end Go.PG.PH
set_option linter.unusedVariables false
namespace Go.PG.PH
abbrev Ow.Fn (js : List Sh) (jh : List (Nat × OSh)) (rs : List Sh) (rh : List (Nat × OSh)) := Ds (Sh.tysL js ++ tysO jh) -> Option (Ds (Sh.tysL rs ++ tysO rh))
def OwOk (P : Program) (f : FuncId) (js : List Sh) (jh : List (Nat × OSh)) (rs : List Sh) (rh : List (Nat × OSh)) (ne : List Nat) (F : Ow.Fn js jh rs rh) : Prop :=
 ∀ d r, F d = some r -> ∀ γ H H' : Nat -> Nat, (∀ n ∈ idsO jh, H n = olen (inO' js jh (dis _ d)) n) -> (∀ n ∈ idsO rh, H' n = olen (outO rs rh ne (dis _ r)) n) ->
  PCO P f (TV.vL H γ (inA js (dis _ d)).1) (obs H γ (inO' js jh (dis _ d))) (oneV (TV.vL H' γ (outA rs ne (dis _ r)).1)) (obs H' γ (outO rs rh ne (dis _ r))) ne
@[reducible] def Ow.of {P : Program} (f : FuncId) (js : List Sh) (jh : List (Nat × OSh)) (rs : List Sh) (rh : List (Nat × OSh)) (ne : List Nat) (wf : owWf js jh rs rh ne = true)
  (F : Ow.Fn js jh rs rh) (ok : OwOk P f js jh rs rh ne F) : Ow P := ⟨f, js, jh, rs, rh, ne, wf, F, ok⟩
theorem OwOk.zero {P : Program} {f : FuncId} {js : List Sh} {jh : List (Nat × OSh)} {rs : List Sh} {rh : List (Nat × OSh)} {ne : List Nat} : OwOk P f js jh rs rh ne (fun _ => none) :=
 fun d r h => by cases h
theorem OwOk.step {P : Program} (hm : P.follows .mixedOrders = true) (cs : Cs P) (fu : Nat) (f : FuncId) (fn : Func) (js : List Sh) (jh : List (Nat × OSh)) (rs : List Sh) (rh : List (Nat × OSh)) (ne : List Nat) (h : HT)
  (hf : P.funcs[f]? = some fn) (hn : foOk fn js jh rh ne = true) (hw : owWf js jh rs rh ne = true) (F : Ow.Fn js jh rs rh) (hF : F = exFo cs fu fn js jh rs rh h) : OwOk P f js jh rs rh ne F :=
 fun d r hd γ H H' h1 h2 => exFo_ok hm hf hn hw (by rw [<- hF]; exact hd) γ H H' h1 h2
def famO {js : List Sh} {jh : List (Nat × OSh)} {rs : List Sh} {rh : List (Nat × OSh)} (B : Ow.Fn js jh rs rh -> Ow.Fn js jh rs rh) : Nat -> Ow.Fn js jh rs rh
 | 0 => fun _ => none
 | k + 1 => B (famO B k)
theorem famO_ok {P : Program} {f : FuncId} {js : List Sh} {jh : List (Nat × OSh)} {rs : List Sh} {rh : List (Nat × OSh)} {ne : List Nat} {B : Ow.Fn js jh rs rh -> Ow.Fn js jh rs rh}
  (h : ∀ F, OwOk P f js jh rs rh ne F -> OwOk P f js jh rs rh ne (B F)) : ∀ k, OwOk P f js jh rs rh ne (famO B k)
 | 0 => OwOk.zero
 | k + 1 => h _ (famO_ok h k)
end Go.PG.PH
set_option linter.unusedVariables false
set_option maxRecDepth 100000
namespace Go.PG.PH
end Go.PG.PH
set_option linter.unusedVariables false
set_option linter.unusedSimpArgs false
namespace Go.Proofs.YtgpioploehgpdaaGreat
open Go.Shelf Go.RowKit Go.Lib Go.PG Go.PG.PH
set_option maxHeartbeats 4000000 in
set_option maxRecDepth 100000 in
theorem ins_fin_106 (base : Option Addr) (n c vb voff m vc : Nat) (w : World) (r : Value) (w' : World) (hm : 0 < m) (hb : base = none -> n = 0)
  (hrun : ∀ ty, (Builtin.append_ #[39, 39] ty #[.slice base n c, .slice (some ⟨vb, voff, none⟩) m vc]).run Tryz.prog w = .ok r w') :
  Calls Tryz.prog 106 #[.slice base n c, .int .i64 n, .slice (some ⟨vb, voff, none⟩) m vc] w fun e w'' => e = .returned r /\ w'' = w' := by
 have hz1 : ¬ ((m : Int) = 0) := by omega
 have hz2 : ((n : Int) == (n : Int)) = true := beq_self_eq_true _
 have hz3 : ((m : Int) == 0) = false := by simpa using hz1
 cases base with
 | none =>
  have h0 := hb rfl;subst h0
  go_enter Tryz.func106, Tryz.ntmps106
  go_wp2_with (at_builtin; refine Lib.wpList_append_run _ rfl _ _ _ _ rfl _ _ rfl rfl _ _ (hrun _) ?_)
  all_goals first
   | (exfalso; simp_all; done)
   | (go_ret; exact ⟨rfl, rfl⟩)
 | some a =>
  obtain ⟨ab, ao, asp⟩ := a
  go_enter Tryz.func106, Tryz.ntmps106
  go_wp2_with (at_builtin; refine Lib.wpList_append_run _ rfl _ _ _ _ rfl _ _ rfl rfl _ _ (hrun _) ?_)
  all_goals first
   | (exfalso; simp_all; done)
   | (go_ret; exact ⟨rfl, rfl⟩)
set_option maxHeartbeats 4000000 in
set_option maxRecDepth 100000 in
theorem ins_shift_106 (b off n c i vb voff m vc : Nat) (w : World) (hi : i < n) (hm : 0 < m) (hroom : n + m <= c) (hlim : n + m <= 4611686018427387904)
  (hov : ∀ lb cb, (callFunc 169 #[.slice (some ⟨vb, voff, none⟩) m vc, .slice (some ⟨b, off + (i + m) * 7, none⟩) lb cb]).run Tryz.prog w = .ok (.value (.bool false)) w)
  (w1 w2 : World) (x1 x2 : Value)
  (hcp1 : ∀ ty dc sc, (Builtin.copy_ #[39, 39] ty #[.slice (some ⟨b, off + (i + m) * 7, none⟩) (n + m - (i + m)) dc, .slice (some ⟨b, off + i * 7, none⟩) (n + m - i) sc]).run Tryz.prog w.drew = .ok x1 w1)
  (hcp2 : ∀ ty dc, (Builtin.copy_ #[39, 39] ty #[.slice (some ⟨b, off + i * 7, none⟩) (n + m - i) dc, .slice (some ⟨vb, voff, none⟩) m vc]).run Tryz.prog w1 = .ok x2 w2) :
  Calls Tryz.prog 106 #[.slice (some ⟨b, off, none⟩) n c, .int .i64 i, .slice (some ⟨vb, voff, none⟩) m vc] w fun e w' => e = .returned (.slice (some ⟨b, off, none⟩) (n + m) c) /\ w' = w2 := by
 have mixed : Tryz.prog.follows .mixedOrders = true := by kernel_rfl
 have hz1 : ¬ ((m : Int) = 0) := by omega
 have hz2 : ¬ ((i : Int) = (n : Int)) := by omega
 have hw1 : IntKind.i64.wrap ((i : Int) + (m : Int)) = (i : Int) + (m : Int) := by rw [IntKind.wrap_i64]; omega
 have hw2 : IntKind.i64.wrap ((n : Int) + (m : Int)) = (n : Int) + (m : Int) := by rw [IntKind.wrap_i64]; omega
 have hb1 : (0 : Int) <= (i : Int) + (m : Int) := by omega
 have hin : i <= n := by omega
 have htn : ((i : Int) + (m : Int)).toNat = i + m := by omega
 have htn2 : ((n : Int) + (m : Int)).toNat = n + m := by omega
 have hb2 : ¬ (c = i + m) := by omega
 have hb3 : (i : Int) <= (n : Int) + (m : Int) := by omega
 have hb4 : ¬ (c = i) := by omega
 have hb5 : ¬ ((c : Int) < (n : Int) + (m : Int)) := by omega
 go_enter Tryz.func106, Tryz.ntmps106
 go_wp2_with (simp only [hov])
 go_region_law_o (refine step_copy_runI rfl _ _ 39 39 rfl _ _ (by simp [Act.eval, Act.put]) (by simp [Act.eval, Act.put]) (hcp1 _ _ _) ?_)
 go_wp2_with (at_builtin; refine wpList_copy_runI _ rfl _ _ 39 39 rfl _ _ rfl rfl (hcp2 _ _) ?_)
 go_ret
 exact ⟨rfl, rfl⟩
set_option maxHeartbeats 4000000 in
set_option maxRecDepth 100000 in
theorem ins_grow_106 (b off n c i vb voff m vc N G : Nat) (w w1 : World) (hi : i < n) (hm : 0 < m) (hnc : n <= c) (hroom : c < n + m) (hG : n + m <= G) (hG63 : G <= 9223372036854775807) (hlim : n + m <= 4611686018427387904)
  (hrz : ∀ ty, (Builtin.append_ #[39, 3] ty #[.slice (some ⟨b, off, none⟩) i c, .int .i64 ((n : Int) + (m : Int) - (i : Int))]).run Tryz.prog w = .ok (.slice (some ⟨N, 0, none⟩) (n + m) G) w1)
  (x1 x2 : Value) (cA cB : Array Value)
  (hcp1 : ∀ W ty dc, W.heap = w1.heap -> (Builtin.copy_ #[39, 39] ty #[.slice (some ⟨N, i * 7, none⟩) (n + m - i) dc, .slice (some ⟨vb, voff, none⟩) m vc]).run Tryz.prog W = .ok x1 (W.setRow N cA))
  (hcp2 : ∀ W ty dc sc, W.heap = (w1.setRow N cA).heap -> (Builtin.copy_ #[39, 39] ty #[.slice (some ⟨N, (i + m) * 7, none⟩) (n + m - (i + m)) dc, .slice (some ⟨b, off + i * 7, none⟩) (n - i) sc]).run Tryz.prog W = .ok x2 (W.setRow N cB)) :
  Calls Tryz.prog 106 #[.slice (some ⟨b, off, none⟩) n c, .int .i64 i, .slice (some ⟨vb, voff, none⟩) m vc] w fun e w' =>
   e = .returned (.slice (some ⟨N, 0, none⟩) (n + m) G) /\ w'.heap = ((w1.setRow N cA).setRow N cB).heap /\ Same3 w1 w' := by
 have mixed : Tryz.prog.follows .mixedOrders = true := by kernel_rfl
 have hz1 : ¬ ((m : Int) = 0) := by omega
 have hz2 : ¬ ((i : Int) = (n : Int)) := by omega
 have hz3 : (c : Int) < (n : Int) + (m : Int) := by omega
 have hw1 : IntKind.i64.wrap ((i : Int) + (m : Int)) = (i : Int) + (m : Int) := by rw [IntKind.wrap_i64]; omega
 have hw2 : IntKind.i64.wrap ((n : Int) + (m : Int)) = (n : Int) + (m : Int) := by rw [IntKind.wrap_i64]; omega
 have hw3 : IntKind.i64.wrap ((n : Int) + (m : Int) - (i : Int)) = (n : Int) + (m : Int) - (i : Int) := by rw [IntKind.wrap_i64]; omega
 have hb1 : (0 : Int) <= (i : Int) + (m : Int) := by omega
 have hin : i <= n := by omega
 have htn : ((i : Int) + (m : Int)).toNat = i + m := by omega
 have htn2 : ((n : Int) + (m : Int)).toNat = n + m := by omega
 have hb3 : (i : Int) <= (n : Int) := by omega
 have hGi : ¬ (G = i) := by omega
 have hGim : ¬ (G = i + m) := by omega
 have hci : ¬ (c = i) := by omega
 go_enter Tryz.func106, Tryz.ntmps106
 go_wp2_with (first
  | (at_builtin; refine Lib.wpList_append_run _ rfl _ _ _ _ rfl _ _ rfl rfl _ _ (hrz _) ?_)
  | (at_builtin; refine wpList_copy_runI _ rfl _ _ 39 39 rfl _ _ rfl rfl (hcp1 _ _ _ rfl) ?_)
  | (at_builtin; refine wpList_copy_runI _ rfl _ _ 39 39 rfl _ _ rfl rfl (hcp2 _ _ _ _ rfl) ?_))
 go_region_law_o (refine step_copy_runI rfl _ _ 39 39 rfl (.slice (some ⟨N, (i + m) * 7, none⟩) (n + m - (i + m)) (G - (i + m))) (.slice (some ⟨b, off + i * 7, none⟩) (n - i) (c - i)) (by simp [Act.eval, Act.put]) (by simp [Act.eval, Act.put]) (hcp2 _ _ _ _ rfl) ?_)
 go_wp2
 go_ret
 exact ⟨rfl, rfl, ⟨rfl, rfl, rfl, by show _ <= _; simp [World.drew, World.drewN]⟩⟩
theorem ins_w_106 : InsW Tryz.prog 106 39 3 169 7 :=
 ⟨⟨Tryz.f106, Tryz.func106, by kernel_rfl, by kernel_rfl⟩,
  ⟨4, fun w a b la ca lb cb h => by
   rw [run_callFunc_extern Tryz.func169 (by kernel_rfl) (by kernel_rfl) (by kernel_rfl) (e := Extern.SlicesOverlaps.overlaps #[39, 39] #[4]) (by kernel_rfl), h];rfl⟩,
  ins_fin_106, ins_shift_106, ins_grow_106⟩
noncomputable def o_106 : Ow Tryz.prog := Ow.ins ins_w_106 (.pair .str (.pair (.int .i64) (.pair .bool (.pair (.int .i64) (.pair (.int .i64) (.pair (.int .i64) (.int .i64))))))) (by kernel_rfl)
noncomputable def o_106w0 : Ow Tryz.prog := o_106
set_option maxHeartbeats 4000000 in
set_option maxRecDepth 100000 in
theorem ins_fin_171 (base : Option Addr) (n c vb voff m vc : Nat) (w : World) (r : Value) (w' : World) (hm : 0 < m) (hb : base = none -> n = 0)
  (hrun : ∀ ty, (Builtin.append_ #[27, 27] ty #[.slice base n c, .slice (some ⟨vb, voff, none⟩) m vc]).run Tryz.prog w = .ok r w') :
  Calls Tryz.prog 171 #[.slice base n c, .int .i64 n, .slice (some ⟨vb, voff, none⟩) m vc] w fun e w'' => e = .returned r /\ w'' = w' := by
 have hz1 : ¬ ((m : Int) = 0) := by omega
 have hz2 : ((n : Int) == (n : Int)) = true := beq_self_eq_true _
 have hz3 : ((m : Int) == 0) = false := by simpa using hz1
 cases base with
 | none =>
  have h0 := hb rfl;subst h0
  go_enter Tryz.func171, Tryz.ntmps171
  go_wp2_with (at_builtin; refine Lib.wpList_append_run _ rfl _ _ _ _ rfl _ _ rfl rfl _ _ (hrun _) ?_)
  all_goals first
   | (exfalso; simp_all; done)
   | (go_ret; exact ⟨rfl, rfl⟩)
 | some a =>
  obtain ⟨ab, ao, asp⟩ := a
  go_enter Tryz.func171, Tryz.ntmps171
  go_wp2_with (at_builtin; refine Lib.wpList_append_run _ rfl _ _ _ _ rfl _ _ rfl rfl _ _ (hrun _) ?_)
  all_goals first
   | (exfalso; simp_all; done)
   | (go_ret; exact ⟨rfl, rfl⟩)
set_option maxHeartbeats 4000000 in
set_option maxRecDepth 100000 in
theorem ins_shift_171 (b off n c i vb voff m vc : Nat) (w : World) (hi : i < n) (hm : 0 < m) (hroom : n + m <= c) (hlim : n + m <= 4611686018427387904)
  (hov : ∀ lb cb, (callFunc 217 #[.slice (some ⟨vb, voff, none⟩) m vc, .slice (some ⟨b, off + (i + m), none⟩) lb cb]).run Tryz.prog w = .ok (.value (.bool false)) w)
  (w1 w2 : World) (x1 x2 : Value)
  (hcp1 : ∀ ty dc sc, (Builtin.copy_ #[27, 27] ty #[.slice (some ⟨b, off + (i + m), none⟩) (n + m - (i + m)) dc, .slice (some ⟨b, off + i, none⟩) (n + m - i) sc]).run Tryz.prog w.drew = .ok x1 w1)
  (hcp2 : ∀ ty dc, (Builtin.copy_ #[27, 27] ty #[.slice (some ⟨b, off + i, none⟩) (n + m - i) dc, .slice (some ⟨vb, voff, none⟩) m vc]).run Tryz.prog w1 = .ok x2 w2) :
  Calls Tryz.prog 171 #[.slice (some ⟨b, off, none⟩) n c, .int .i64 i, .slice (some ⟨vb, voff, none⟩) m vc] w fun e w' => e = .returned (.slice (some ⟨b, off, none⟩) (n + m) c) /\ w' = w2 := by
 have mixed : Tryz.prog.follows .mixedOrders = true := by kernel_rfl
 have hz1 : ¬ ((m : Int) = 0) := by omega
 have hz2 : ¬ ((i : Int) = (n : Int)) := by omega
 have hw1 : IntKind.i64.wrap ((i : Int) + (m : Int)) = (i : Int) + (m : Int) := by rw [IntKind.wrap_i64]; omega
 have hw2 : IntKind.i64.wrap ((n : Int) + (m : Int)) = (n : Int) + (m : Int) := by rw [IntKind.wrap_i64]; omega
 have hb1 : (0 : Int) <= (i : Int) + (m : Int) := by omega
 have hin : i <= n := by omega
 have htn : ((i : Int) + (m : Int)).toNat = i + m := by omega
 have htn2 : ((n : Int) + (m : Int)).toNat = n + m := by omega
 have hb2 : ¬ (c = i + m) := by omega
 have hb3 : (i : Int) <= (n : Int) + (m : Int) := by omega
 have hb4 : ¬ (c = i) := by omega
 have hb5 : ¬ ((c : Int) < (n : Int) + (m : Int)) := by omega
 go_enter Tryz.func171, Tryz.ntmps171
 go_wp2_with (simp only [hov])
 go_region_law_o (refine step_copy_runI rfl _ _ 27 27 rfl _ _ (by simp [Act.eval, Act.put]) (by simp [Act.eval, Act.put]) (hcp1 _ _ _) ?_)
 go_wp2_with (at_builtin; refine wpList_copy_runI _ rfl _ _ 27 27 rfl _ _ rfl rfl (hcp2 _ _) ?_)
 go_ret
 exact ⟨rfl, rfl⟩
set_option maxHeartbeats 4000000 in
set_option maxRecDepth 100000 in
theorem ins_grow_171 (b off n c i vb voff m vc N G : Nat) (w w1 : World) (hi : i < n) (hm : 0 < m) (hnc : n <= c) (hroom : c < n + m) (hG : n + m <= G) (hG63 : G <= 9223372036854775807) (hlim : n + m <= 4611686018427387904)
  (hrz : ∀ ty, (Builtin.append_ #[27, 3] ty #[.slice (some ⟨b, off, none⟩) i c, .int .i64 ((n : Int) + (m : Int) - (i : Int))]).run Tryz.prog w = .ok (.slice (some ⟨N, 0, none⟩) (n + m) G) w1)
  (x1 x2 : Value) (cA cB : Array Value)
  (hcp1 : ∀ W ty dc, W.heap = w1.heap -> (Builtin.copy_ #[27, 27] ty #[.slice (some ⟨N, i, none⟩) (n + m - i) dc, .slice (some ⟨vb, voff, none⟩) m vc]).run Tryz.prog W = .ok x1 (W.setRow N cA))
  (hcp2 : ∀ W ty dc sc, W.heap = (w1.setRow N cA).heap -> (Builtin.copy_ #[27, 27] ty #[.slice (some ⟨N, (i + m), none⟩) (n + m - (i + m)) dc, .slice (some ⟨b, off + i, none⟩) (n - i) sc]).run Tryz.prog W = .ok x2 (W.setRow N cB)) :
  Calls Tryz.prog 171 #[.slice (some ⟨b, off, none⟩) n c, .int .i64 i, .slice (some ⟨vb, voff, none⟩) m vc] w fun e w' =>
   e = .returned (.slice (some ⟨N, 0, none⟩) (n + m) G) /\ w'.heap = ((w1.setRow N cA).setRow N cB).heap /\ Same3 w1 w' := by
 have mixed : Tryz.prog.follows .mixedOrders = true := by kernel_rfl
 have hz1 : ¬ ((m : Int) = 0) := by omega
 have hz2 : ¬ ((i : Int) = (n : Int)) := by omega
 have hz3 : (c : Int) < (n : Int) + (m : Int) := by omega
 have hw1 : IntKind.i64.wrap ((i : Int) + (m : Int)) = (i : Int) + (m : Int) := by rw [IntKind.wrap_i64]; omega
 have hw2 : IntKind.i64.wrap ((n : Int) + (m : Int)) = (n : Int) + (m : Int) := by rw [IntKind.wrap_i64]; omega
 have hw3 : IntKind.i64.wrap ((n : Int) + (m : Int) - (i : Int)) = (n : Int) + (m : Int) - (i : Int) := by rw [IntKind.wrap_i64]; omega
 have hb1 : (0 : Int) <= (i : Int) + (m : Int) := by omega
 have hin : i <= n := by omega
 have htn : ((i : Int) + (m : Int)).toNat = i + m := by omega
 have htn2 : ((n : Int) + (m : Int)).toNat = n + m := by omega
 have hb3 : (i : Int) <= (n : Int) := by omega
 have hGi : ¬ (G = i) := by omega
 have hGim : ¬ (G = i + m) := by omega
 have hci : ¬ (c = i) := by omega
 go_enter Tryz.func171, Tryz.ntmps171
 go_wp2_with (first
  | (at_builtin; refine Lib.wpList_append_run _ rfl _ _ _ _ rfl _ _ rfl rfl _ _ (hrz _) ?_)
  | (at_builtin; refine wpList_copy_runI _ rfl _ _ 27 27 rfl _ _ rfl rfl (hcp1 _ _ _ rfl) ?_)
  | (at_builtin; refine wpList_copy_runI _ rfl _ _ 27 27 rfl _ _ rfl rfl (hcp2 _ _ _ _ rfl) ?_))
 go_region_law_o (refine step_copy_runI rfl _ _ 27 27 rfl (.slice (some ⟨N, (i + m), none⟩) (n + m - (i + m)) (G - (i + m))) (.slice (some ⟨b, off + i, none⟩) (n - i) (c - i)) (by simp [Act.eval, Act.put]) (by simp [Act.eval, Act.put]) (hcp2 _ _ _ _ rfl) ?_)
 go_wp2
 go_ret
 exact ⟨rfl, rfl, ⟨rfl, rfl, rfl, by show _ <= _; simp [World.drew, World.drewN]⟩⟩
theorem ins_w_171 : InsW Tryz.prog 171 27 3 217 1 :=
 ⟨⟨Tryz.f171, Tryz.func171, by kernel_rfl, by kernel_rfl⟩,
  ⟨4, fun w a b la ca lb cb h => by
   rw [run_callFunc_extern Tryz.func217 (by kernel_rfl) (by kernel_rfl) (by kernel_rfl) (e := Extern.SlicesOverlaps.overlaps #[27, 27] #[4]) (by kernel_rfl), h];rfl⟩,
  ins_fin_171, by simpa only [Nat.mul_one] using ins_shift_171, by simpa only [Nat.mul_one] using ins_grow_171⟩
noncomputable def o_171 : Ow Tryz.prog := Ow.ins ins_w_171 (.str) (by kernel_rfl)
noncomputable def o_171w0 : Ow Tryz.prog := o_171
end Go.Proofs.YtgpioploehgpdaaGreat
set_option maxRecDepth 100000
set_option linter.unusedVariables false
namespace Go.Proofs.YtgpioploehgpdaaGreat
open Go.PG Go.PG.PH
def Tryz.lays190_ren : Go.Shelf.Ren := ⟨fun | 190 => 89 | 125 => 155 | 258 => 154 | 128 => 199 | 129 => 200 | 302 => 190 | 303 => 191 | 304 => 192 | 305 => 193 | 306 => 194 | 307 => 195 | 308 => 196 | 309 => 197 | 310 => 198 | 333 => 242 | 329 => 243 | 330 => 244 | 334 => 245 | 335 => 246 | 336 => 184 | 344 => 276 | n => n, fun | 31 => 27 | 9 => 9 | 3 => 3 | 46 => 213 | 0 => 0 | 51 => 250 | 53 => 252 | 4 => 4 | 183 => 243 | 182 => 242 | 131 => 38 | 5 => 5 | 218 => 280 | 222 => 284 | 228 => 303 | 229 => 69 | n => n, fun | n => n⟩
theorem Tryz.lays190 : Go.Proofs.Lays.n190 Tryz.prog Tryz.lays190_ren where
 mixed := by kernel_rfl
 f125 := Tryz.func155.trans (congrArg some (by kernel_rfl))
 f128 := Tryz.func199.trans (congrArg some (by kernel_rfl))
 f129 := Tryz.func200.trans (congrArg some (by kernel_rfl))
 f190 := Tryz.func89.trans (congrArg some (by kernel_rfl))
 f258 := Tryz.func154.trans (congrArg some (by kernel_rfl))
 f302 := Tryz.func190.trans (congrArg some (by kernel_rfl))
 f303 := Tryz.func191.trans (congrArg some (by kernel_rfl))
 f304 := Tryz.func192.trans (congrArg some (by kernel_rfl))
 f305 := Tryz.func193.trans (congrArg some (by kernel_rfl))
 f306 := Tryz.func194.trans (congrArg some (by kernel_rfl))
 f307 := Tryz.func195.trans (congrArg some (by kernel_rfl))
 f308 := Tryz.func196.trans (congrArg some (by kernel_rfl))
 f309 := Tryz.func197.trans (congrArg some (by kernel_rfl))
 f310 := Tryz.func198.trans (congrArg some (by kernel_rfl))
 f329 := Tryz.func243.trans (congrArg some (by kernel_rfl))
 f330 := Tryz.func244.trans (congrArg some (by kernel_rfl))
 f333 := Tryz.func242.trans (congrArg some (by kernel_rfl))
 f334 := Tryz.func245.trans (congrArg some (by kernel_rfl))
 f335 := Tryz.func246.trans (congrArg some (by kernel_rfl))
 f336 := Tryz.func184.trans (congrArg some (by kernel_rfl))
 f344 := Tryz.func276.trans (congrArg some (by kernel_rfl))
 t0 := Tryz.underlying0
 a0 := Tryz.isAgg0
 z0 := Tryz.sizeOf0
 v0 := Tryz.zeroValue0
 t3 := Tryz.underlying3
 a3 := Tryz.isAgg3
 z3 := Tryz.sizeOf3
 v3 := Tryz.zeroValue3
 t4 := Tryz.underlying4
 a4 := Tryz.isAgg4
 z4 := Tryz.sizeOf4
 v4 := Tryz.zeroValue4
 t5 := Tryz.underlying5
 a5 := Tryz.isAgg5
 z5 := Tryz.sizeOf5
 v5 := Tryz.zeroValue5
 t9 := Tryz.underlying9
 a9 := Tryz.isAgg9
 z9 := Tryz.sizeOf9
 v9 := Tryz.zeroValue9
 t31 := Tryz.underlying27
 a31 := Tryz.isAgg27
 z31 := Tryz.sizeOf27
 v31 := Tryz.zeroValue27
 t46 := Tryz.underlying213
 a46 := Tryz.isAgg213
 z46 := Tryz.sizeOf213
 v46 := Tryz.zeroValue213
 t51 := Tryz.underlying250
 a51 := Tryz.isAgg250
 z51 := Tryz.sizeOf250
 v51 := Tryz.zeroValue250
 t53 := Tryz.underlying252
 a53 := Tryz.isAgg252
 z53 := Tryz.sizeOf252
 v53 := Tryz.zeroValue252
 t131 := Tryz.underlying38
 a131 := Tryz.isAgg38
 z131 := Tryz.sizeOf38
 v131 := Tryz.zeroValue38
 t182 := Tryz.underlying242
 a182 := Tryz.isAgg242
 z182 := Tryz.sizeOf242
 v182 := Tryz.zeroValue242
 t183 := Tryz.underlying243
 a183 := Tryz.isAgg243
 z183 := Tryz.sizeOf243
 v183 := Tryz.zeroValue243
 t218 := Tryz.underlying280
 a218 := Tryz.isAgg280
 z218 := Tryz.sizeOf280
 v218 := Tryz.zeroValue280
 t222 := Tryz.underlying284
 a222 := Tryz.isAgg284
 z222 := Tryz.sizeOf284
 v222 := Tryz.zeroValue284
 t228 := Tryz.underlying303
 a228 := Tryz.isAgg303
 z228 := Tryz.sizeOf303
 v228 := Tryz.zeroValue303
 t229 := Tryz.underlying69
 a229 := Tryz.isAgg69
 z229 := Tryz.sizeOf69
 v229 := Tryz.zeroValue69
noncomputable def o_89 : Ow Tryz.prog := Ow.srt Tryz.lays190 ⟨Tryz.f89, Tryz.func89, by kernel_rfl, by kernel_rfl⟩
end Go.Proofs.YtgpioploehgpdaaGreat
set_option maxRecDepth 100000
set_option linter.unusedVariables false
namespace Go.Proofs.YtgpioploehgpdaaGreat
open Go.PG Go.PG.PH
noncomputable section
abbrev Tz3 : Ty := .int .i64
abbrev Tz4 : Ty := .pair .str .str
abbrev Tz8 : Ty := .list .str
abbrev Yz3 : Type := Int × List Int × Int × Int × ByteArray
abbrev Yz4 : Type := ByteArray × List ByteArray
abbrev Yz5 : Type := ByteArray × ByteArray
abbrev Yz6 : Type := List ByteArray
abbrev Yz7 : Type := ByteArray × Int
abbrev Sz6 : List (Nat × OSh) := [(9, .mp .str .bool), (12, .ls .str)]
abbrev Tz2 : Ty := .pair Tz3 (.pair (.list Tz3) (.pair Tz3 (.pair Tz3 .str)))
abbrev Tz6 : Ty := .pair .str (.pair Tz3 (.pair Tz3 (.pair .bool (.list (.pair Tz3 Tz3)))))
abbrev Tz7 : Ty := .pair .str (.pair Tz3 (.pair .bool (.pair Tz3 (.pair Tz3 (.pair Tz3 Tz3)))))
abbrev Tz9 : Ty := .list Tz4
abbrev Tz10 : Ty := .map .str Tz8
abbrev Yz1 : Type := ByteArray × Int × Int × List (ByteArray × Int × Bool × Int × Int × Int × Int) × List (ByteArray × Int × Int × Bool × List (Int × Int)) × List (ByteArray × ByteArray × List Yz3 × List Yz3 × List Yz5 × Int)
abbrev Yz2 : Type := Yz5 × List Yz5
abbrev Sz5 : List (Nat × OSh) := [(2050, .el true 1 [.dt Tz3])]
abbrev Tz5 : Ty := .pair .str (.pair .str (.pair (.list Tz2) (.pair (.list Tz2) (.pair Tz9 Tz3))))
abbrev Yz8 : Type := Bool × List (Yz5 × Int) × List Yz2
abbrev Sz1 : List (Nat × OSh) := [(2001, .el false 1 [.mp 3001]), (3001, .mp Tz4 Tz3), (2002, .el false 1 [(.fn 100 [.pt 2004 1 0])]), (2004, .el false 1 [.mp 3004]), (3004, .mp Tz4 Tz9), (2003, .el false 1 [(.fn 166 [.pt 2001 1 0, .pt 2002 1 0, .pt 2003 1 0])])]
abbrev Sz2 : List (Nat × OSh) := [(2001, .el false 1 [.mp 3001]), (3001, .mp Tz4 Tz3), (2002, .el false 1 [.fn 100 [.pt 2004 1 0]]), (2004, .el false 1 [.mp 3004]), (3004, .mp Tz4 Tz9), (2003, .el false 1 [.fn 166 [.pt 2001 1 0, .pt 2002 1 0, .pt 2003 1 0]])]
abbrev Sz3 : List (Nat × OSh) := [(2001, .el false 1 [.mp 3001]), (3001, .mp .str Tz3), (2002, .el false 1 [(.fn 103 [.pt 2004 1 0])]), (2004, .el true 1 [.dt Tz10]), (2003, .el false 1 [(.fn 168 [.pt 2001 1 0, .pt 2002 1 0, .pt 2003 1 0])])]
abbrev Sz4 : List (Nat × OSh) := [(2001, .el false 1 [.mp 3001]), (3001, .mp .str Tz3), (2002, .el false 1 [.fn 103 [.pt 2004 1 0]]), (2004, .el true 1 [.dt Tz10]), (2003, .el false 1 [.fn 168 [.pt 2001 1 0, .pt 2002 1 0, .pt 2003 1 0]])]
abbrev Tz1 : Ty := .list (.pair .str (.pair Tz3 (.pair Tz3 (.pair (.list Tz7) (.pair (.list Tz6) (.list Tz5))))))
abbrev Tz11 : Ty := .pair Tz4 (.pair (.pair Tz3 (.pair Tz3 Tz3)) Tz5)
theorem mixA : Tryz.prog.follows .mixedOrders = true := by kernel_rfl
def h_body_Chk_1 : HT := .n
def body_Chk_1 (x0 : ByteArray × ByteArray) (x1 : List Yz2) : Option (List Yz5 × List Yz2) := some ((mget (Ty.str.pair Ty.str).beq (x0.1, x0.2) x1).getD [], x1)
def o_body_Chk_1 : Ow Tryz.prog := .mk' mixA ⟨[], []⟩ 0 100 Tryz.f100 [.dt Tz4, .pt 2001 1 0] [(2001, .el false 1 [.mp 3001]), (3001, .mp Tz4 Tz9)] [.dt Tz9] [(2001, .el false 1 [.mp 3001]), (3001, .mp Tz4 Tz9)] [] h_body_Chk_1 Tryz.func100 (by kernel_rfl) (by kernel_rfl) (fun d => body_Chk_1 d.1 d.2) (by kernel_rfl)
def zq17 : HT := (.s .n (.s .n (.s .n (.s (.s .n (.l ⟨[1, 3, 4, 20, 21, 22], [4], [], Sz1⟩ .n)) .n))))
def zq5 (F0 : Yz5 × List (Yz5 × Int) × List Yz2 -> Option Yz8) (fu : Nat) (x0 : ByteArray × ByteArray) (x1 : List (Yz5 × Int)) (x2 : List Yz2) : Option Yz8 := bif decide ((mget (Ty.str.pair Ty.str).beq (x0.1, x0.2) x1).getD (0 : Int) > 0) then some ((mget (Ty.str.pair Ty.str).beq (x0.1, x0.2) x1).getD (0 : Int) == 1, x1, x2) else (chk (x1.length + 1 <= LIM)).bind fun x => (body_Chk_1 (x0.1, x0.2) x2).bind fun r => forK (fun k x d next => (F0 ((x.1, x.2), d.1, d.2)).bind fun r => bif r.1 then some (true, r.2.1, r.2.2) else next (r.2.1, r.2.2)) 0 r.1 (mset (Ty.str.pair Ty.str).beq (x0.1, x0.2) (1 : Int) x1, r.2) fun d => (chk (d.1.length + 1 <= LIM)).bind fun x => some (false, mset (Ty.str.pair Ty.str).beq (x0.1, x0.2) (2 : Int) d.1, d.2)
abbrev zq22 : List Sh := [.dt Tz4, .pt 2001 1 0, .pt 2002 1 0, .pt 2003 1 0]
abbrev zq20 : List (Nat × OSh) := Sz2
abbrev zq43 : List Sh := [.dt .bool]
abbrev zq41 : List (Nat × OSh) := Sz2
theorem zq6 (fu : Nat) (F0 : Ow.Fn zq22 zq20 zq43 zq41) (ok0 : OwOk Tryz.prog 166 zq22 zq20 zq43 zq41 [] F0) : (fun d => zq5 F0 fu d.1 d.2.1 d.2.2) = exFo ⟨[], [.of 166 zq22 zq20 zq43 zq41 [] (by kernel_rfl) F0 ok0, o_body_Chk_1]⟩ fu Tryz.f166 zq22 zq20 zq43 zq41 zq17 := by kernel_rfl
def circle_Ref_1 (fu : Nat) : Yz5 × List (Yz5 × Int) × List Yz2 -> Option Yz8 := famO (js := zq22) (jh := zq20) (rs := zq43) (rh := zq41) (fun F0 d => zq5 F0 fu d.1 d.2.1 d.2.2) fu
def zq39 (fu : Nat) : Ow Tryz.prog := .of 166 zq22 zq20 zq43 zq41 [] (by kernel_rfl) (circle_Ref_1 fu) (famO_ok (fun F0 ok0 => OwOk.step mixA ⟨[], [.of 166 zq22 zq20 zq43 zq41 [] (by kernel_rfl) F0 ok0, o_body_Chk_1]⟩ fu 166 Tryz.f166 zq22 zq20 zq43 zq41 [] zq17 Tryz.func166 (by kernel_rfl) (by kernel_rfl) _ (zq6 fu F0 ok0)) fu)
def zq15 : HT := (.s .n (.s (.s .n (.l ⟨[0, 1, 6, 7, 8], [], [], Sz1⟩ .n)) .n))
def zq2 (fu : Nat) (x0 : List Yz5) (x1 : List (Yz5 × Int)) (x2 : List Yz2) : Option (Int × List (Yz5 × Int) × List Yz2) := forK (fun k x d next => (idx x0 (↑k : Int)).bind fun y => (circle_Ref_1 fu ((y.1, y.2), d.1, d.2)).bind fun r => bif r.1 then some ((↑k : Int), r.2.1, r.2.2) else next (r.2.1, r.2.2)) 0 x0 (x1, x2) fun d => some ((-1 : Int), d.1, d.2)
def zq37 (fu : Nat) : Ow Tryz.prog := .mk' mixA ⟨[], [zq39 fu]⟩ fu 215 Tryz.f215 [.dt Tz9, .fn 166 [.pt 2001 1 0, .pt 2002 1 0, .pt 2003 1 0]] Sz2 [.dt Tz3] Sz1 [] zq15 Tryz.func215 (by kernel_rfl) (by kernel_rfl) (fun d => zq2 fu d.1 d.2.1 d.2.2) (by kernel_rfl)
def zq13 : HT := .n
def zq0 (fu : Nat) (x0 : List Yz5) (x1 : List (Yz5 × Int)) (x2 : List Yz2) : Option Yz8 := (zq2 fu x0 x1 x2).bind fun r => some (decide (r.1 >= 0), r.2.1, r.2.2)
def zq35 (fu : Nat) : Ow Tryz.prog := .mk' mixA ⟨[], [zq37 fu]⟩ fu 167 Tryz.f167 [.dt Tz9, .fn 166 [.pt 2001 1 0, .pt 2002 1 0, .pt 2003 1 0]] Sz2 [.dt .bool] Sz1 [] zq13 Tryz.func167 (by kernel_rfl) (by kernel_rfl) (fun d => zq0 fu d.1 d.2.1 d.2.2) (by kernel_rfl)
def h_circle_Ref : HT := .n
def circle_Ref (fu : Nat) (x0 : List Yz5) (x1 : List Yz2) : Option (Bool × List Yz2) := (zq0 fu x0 [] x1).bind fun r => some (r.1, r.2.2)
def o_99_100l0 (fu : Nat) : Ow Tryz.prog := .mk' mixA ⟨[], [zq35 fu]⟩ fu 99 Tryz.f99 [.dt Tz9, .fn 100 [.pt 2004 1 0]] [(2004, .el false 1 [.mp 3004]), (3004, .mp Tz4 Tz9)] [.dt .bool] [(2004, .el false 1 [.mp 3004]), (3004, .mp Tz4 Tz9)] [] h_circle_Ref Tryz.func99 (by kernel_rfl) (by kernel_rfl) (fun d => circle_Ref fu d.1 d.2) (by kernel_rfl)
def h_body_Chk_2 : HT := .n
def body_Chk_2 (x0 : ByteArray) (x1 : List Yz4) : Option (List ByteArray × List Yz4) := some ((mget Ty.str.beq x0 x1).getD [], x1)
def o_body_Chk_2 : Ow Tryz.prog := .mk' mixA ⟨[], []⟩ 0 103 Tryz.f103 [.dt .str, .pt 2001 1 0] [(2001, .el true 1 [.dt Tz10])] [.dt Tz8] [(2001, .el true 1 [.dt Tz10])] [] h_body_Chk_2 Tryz.func103 (by kernel_rfl) (by kernel_rfl) (fun d => body_Chk_2 d.1 d.2) (by kernel_rfl)
def zq19 : HT := (.s .n (.s .n (.s .n (.s (.s .n (.l ⟨[0, 1, 3, 20, 21, 22], [], [], Sz3⟩ .n)) .n))))
def zq9 (F0 : ByteArray × List Yz7 × List Yz4 -> Option (Bool × List Yz7 × List Yz4)) (fu : Nat) (x0 : ByteArray) (x1 : List Yz7) (x2 : List Yz4) : Option (Bool × List Yz7 × List Yz4) := bif decide ((mget Ty.str.beq x0 x1).getD (0 : Int) > 0) then some ((mget Ty.str.beq x0 x1).getD (0 : Int) == 1, x1, x2) else (chk (x1.length + 1 <= LIM)).bind fun x => (body_Chk_2 x0 x2).bind fun r => forK (fun k x d next => (F0 (x, d.1, d.2)).bind fun r => bif r.1 then some (true, r.2.1, r.2.2) else next (r.2.1, r.2.2)) 0 r.1 (mset Ty.str.beq x0 (1 : Int) x1, r.2) fun d => (chk (d.1.length + 1 <= LIM)).bind fun x => some (false, mset Ty.str.beq x0 (2 : Int) d.1, d.2)
abbrev zq23 : List Sh := [.dt .str, .pt 2001 1 0, .pt 2002 1 0, .pt 2003 1 0]
abbrev zq21 : List (Nat × OSh) := Sz4
abbrev zq44 : List Sh := [.dt .bool]
abbrev zq42 : List (Nat × OSh) := Sz4
theorem zq10 (fu : Nat) (F0 : Ow.Fn zq23 zq21 zq44 zq42) (ok0 : OwOk Tryz.prog 168 zq23 zq21 zq44 zq42 [] F0) : (fun d => zq9 F0 fu d.1 d.2.1 d.2.2) = exFo ⟨[], [.of 168 zq23 zq21 zq44 zq42 [] (by kernel_rfl) F0 ok0, o_body_Chk_2]⟩ fu Tryz.f168 zq23 zq21 zq44 zq42 zq19 := by kernel_rfl
def zq8 (fu : Nat) : ByteArray × List Yz7 × List Yz4 -> Option (Bool × List Yz7 × List Yz4) := famO (js := zq23) (jh := zq21) (rs := zq44) (rh := zq42) (fun F0 d => zq9 F0 fu d.1 d.2.1 d.2.2) fu
def zq40 (fu : Nat) : Ow Tryz.prog := .of 168 zq23 zq21 zq44 zq42 [] (by kernel_rfl) (zq8 fu) (famO_ok (fun F0 ok0 => OwOk.step mixA ⟨[], [.of 168 zq23 zq21 zq44 zq42 [] (by kernel_rfl) F0 ok0, o_body_Chk_2]⟩ fu 168 Tryz.f168 zq23 zq21 zq44 zq42 [] zq19 Tryz.func168 (by kernel_rfl) (by kernel_rfl) _ (zq10 fu F0 ok0)) fu)
def zq16 : HT := (.s .n (.s (.s .n (.l ⟨[0, 1, 6, 7, 8], [], [], Sz3⟩ .n)) .n))
def zq3 (fu : Nat) (x0 : List ByteArray) (x1 : List Yz7) (x2 : List Yz4) : Option (Int × List Yz7 × List Yz4) := forK (fun k x d next => (idx x0 (↑k : Int)).bind fun y => (zq8 fu (y, d.1, d.2)).bind fun r => bif r.1 then some ((↑k : Int), r.2.1, r.2.2) else next (r.2.1, r.2.2)) 0 x0 (x1, x2) fun d => some ((-1 : Int), d.1, d.2)
def zq38 (fu : Nat) : Ow Tryz.prog := .mk' mixA ⟨[], [zq40 fu]⟩ fu 156 Tryz.f156 [.dt Tz8, .fn 168 [.pt 2001 1 0, .pt 2002 1 0, .pt 2003 1 0]] Sz4 [.dt Tz3] Sz3 [] zq16 Tryz.func156 (by kernel_rfl) (by kernel_rfl) (fun d => zq3 fu d.1 d.2.1 d.2.2) (by kernel_rfl)
def zq14 : HT := .n
def zq1 (fu : Nat) (x0 : List ByteArray) (x1 : List Yz7) (x2 : List Yz4) : Option (Bool × List Yz7 × List Yz4) := (zq3 fu x0 x1 x2).bind fun r => some (decide (r.1 >= 0), r.2.1, r.2.2)
def zq36 (fu : Nat) : Ow Tryz.prog := .mk' mixA ⟨[], [zq38 fu]⟩ fu 109 Tryz.f109 [.dt Tz8, .fn 168 [.pt 2001 1 0, .pt 2002 1 0, .pt 2003 1 0]] Sz4 [.dt .bool] Sz3 [] zq14 Tryz.func109 (by kernel_rfl) (by kernel_rfl) (fun d => zq1 fu d.1 d.2.1 d.2.2) (by kernel_rfl)
def zq18 : HT := .n
def zq7 (fu : Nat) (x0 : List ByteArray) (x1 : List Yz4) : Option (Bool × List Yz4) := (zq1 fu x0 [] x1).bind fun r => some (r.1, r.2.2)
def o_102_103l0 (fu : Nat) : Ow Tryz.prog := .mk' mixA ⟨[], [zq36 fu]⟩ fu 102 Tryz.f102 [.dt Tz8, .fn 103 [.pt 2004 1 0]] [(2004, .el true 1 [.dt Tz10])] [.dt .bool] [(2004, .el true 1 [.dt Tz10])] [] zq18 Tryz.func102 (by kernel_rfl) (by kernel_rfl) (fun d => zq7 fu d.1 d.2) (by kernel_rfl)
def h_94 : HT := (.s .n (.s .n (.s (.s .n (.l ⟨[0, 6, 7, 8], [], [(3, .dt Tz3)], []⟩ (.s .n (.s .n (.j ⟨[0, 3, 6, 7, 8], [], [(26, .dt .bool)], []⟩ .n .n))))) (.s (.j ⟨[], [], [(34, .dt .bool)], []⟩ .n .n) .n))))
def body_limits (p0 : List Yz1) : Option (Int) := forK (fun k x d next => join (fun d_1 => bif d_1 then some (2 : Int) else next (IntKind.i64.wrap (d + (↑x.2.2.2.1.length : Int)))) fun K => bif decide ((↑x.2.2.2.2.2.length : Int) > 60) then K true else K (decide ((↑x.2.2.2.2.1.length : Int) > 8))) 0 p0 (0 : Int) fun d => join (fun d => bif d then some (2 : Int) else some (0 : Int)) fun K => bif decide ((↑p0.length : Int) > 8) then K true else K (decide (d > 40))
def c_94 : Ct Tryz.prog := .mk' mixA ⟨[], []⟩ 0 94 Tryz.f94 [.d Tz1] (.one Tz3) h_94 Tryz.func94 (by kernel_rfl) (fun d => body_limits d) (by kernel_rfl)
def h_205 : HT := .n
def word_letter (p0 : Int) : Option (Bool) := bif decide (p0 >= 97) then some (decide (p0 <= 122)) else some false
def c_205 : Ct Tryz.prog := .mk' mixA ⟨[], []⟩ 0 205 Tryz.f205 [.d (.int .u8)] (.one .bool) h_205 Tryz.func205 (by kernel_rfl) (fun d => word_letter d) (by kernel_rfl)
def h_248 : HT := .n
def word_digit (p0 : Int) : Option (Bool) := bif decide (p0 >= 48) then some (decide (p0 <= 57)) else some false
def c_248 : Ct Tryz.prog := .mk' mixA ⟨[], []⟩ 0 248 Tryz.f248 [.d (.int .u8)] (.one .bool) h_248 Tryz.func248 (by kernel_rfl) (fun d => word_digit d) (by kernel_rfl)
def h_206 : HT := .n
def word_inner (p0 : Int) : Option (Bool) := (word_letter p0).bind fun r => bif r then some true else (word_digit p0).bind fun r => bif r then some true else some (p0 == 45)
def c_206 : Ct Tryz.prog := .mk' mixA ⟨[c_205, c_248], []⟩ 0 206 Tryz.f206 [.d (.int .u8)] (.one .bool) h_206 Tryz.func206 (by kernel_rfl) (fun d => word_inner d) (by kernel_rfl)
def h_208 : HT := .n
def word_Keys : Option Yz6 := some [ByteArray.mk #[(97 : UInt8), (99 : UInt8), (116 : UInt8)], ByteArray.mk #[(97 : UInt8), (110 : UInt8), (100 : UInt8)], ByteArray.mk #[(97 : UInt8), (114 : UInt8), (116 : UInt8), (105 : UInt8), (99 : UInt8), (108 : UInt8), (101 : UInt8)], ByteArray.mk #[(97 : UInt8), (116 : UInt8), (45 : UInt8), (109 : UInt8), (111 : UInt8), (115 : UInt8), (116 : UInt8)], ByteArray.mk #[(97 : UInt8), (116 : UInt8), (116 : UInt8), (114 : UInt8), (105 : UInt8), (98 : UInt8), (117 : UInt8), (116 : UInt8), (101 : UInt8)], ByteArray.mk #[(98 : UInt8), (97 : UInt8), (115 : UInt8), (101 : UInt8)], ByteArray.mk #[(98 : UInt8), (101 : UInt8), (108 : UInt8), (111 : UInt8), (119 : UInt8)], ByteArray.mk #[(98 : UInt8), (111 : UInt8), (111 : UInt8), (108 : UInt8)], ByteArray.mk #[(99 : UInt8), (111 : UInt8), (117 : UInt8), (110 : UInt8), (116 : UInt8)], ByteArray.mk #[(100 : UInt8), (97 : UInt8), (116 : UInt8), (101 : UInt8)], ByteArray.mk #[(100 : UInt8), (97 : UInt8), (121 : UInt8), (115 : UInt8)], ByteArray.mk #[(100 : UInt8), (111 : UInt8), (119 : UInt8), (110 : UInt8)], ByteArray.mk #[(101 : UInt8), (108 : UInt8), (115 : UInt8), (101 : UInt8)], ByteArray.mk #[(101 : UInt8), (110 : UInt8), (97 : UInt8), (99 : UInt8), (116 : UInt8), (101 : UInt8), (100 : UInt8)], ByteArray.mk #[(101 : UInt8), (113 : UInt8), (117 : UInt8), (97 : UInt8), (108 : UInt8), (115 : UInt8)], ByteArray.mk #[(102 : UInt8), (97 : UInt8), (108 : UInt8), (115 : UInt8), (101 : UInt8)], ByteArray.mk #[(102 : UInt8), (114 : UInt8), (111 : UInt8), (109 : UInt8)], ByteArray.mk #[(103 : UInt8), (105 : UInt8), (118 : UInt8), (101 : UInt8), (115 : UInt8)], ByteArray.mk #[(103 : UInt8), (114 : UInt8), (101 : UInt8), (97 : UInt8), (116 : UInt8), (101 : UInt8), (115 : UInt8), (116 : UInt8)], ByteArray.mk #[(104 : UInt8), (97 : UInt8), (108 : UInt8), (102 : UInt8)], ByteArray.mk #[(104 : UInt8), (97 : UInt8), (108 : UInt8), (102 : UInt8), (45 : UInt8), (111 : UInt8), (117 : UInt8), (116 : UInt8)], ByteArray.mk #[(104 : UInt8), (97 : UInt8), (108 : UInt8), (102 : UInt8), (45 : UInt8), (116 : UInt8), (119 : UInt8), (111 : UInt8)], ByteArray.mk #[(105 : UInt8), (102 : UInt8)], ByteArray.mk #[(105 : UInt8), (110 : UInt8), (112 : UInt8), (117 : UInt8), (116 : UInt8)], ByteArray.mk #[(105 : UInt8), (115 : UInt8)], ByteArray.mk #[(108 : UInt8), (101 : UInt8), (97 : UInt8), (115 : UInt8), (116 : UInt8)], ByteArray.mk #[(108 : UInt8), (101 : UInt8), (118 : UInt8), (101 : UInt8), (108 : UInt8)], ByteArray.mk #[(109 : UInt8), (105 : UInt8), (110 : UInt8), (117 : UInt8), (115 : UInt8)], ByteArray.mk #[(109 : UInt8), (111 : UInt8), (110 : UInt8), (101 : UInt8), (121 : UInt8)], ByteArray.mk #[(110 : UInt8), (111 : UInt8), (116 : UInt8)], ByteArray.mk #[(110 : UInt8), (117 : UInt8), (109 : UInt8), (98 : UInt8), (101 : UInt8), (114 : UInt8)], ByteArray.mk #[(111 : UInt8), (102 : UInt8)], ByteArray.mk #[(111 : UInt8), (114 : UInt8)], ByteArray.mk #[(111 : UInt8), (118 : UInt8), (101 : UInt8), (114 : UInt8)], ByteArray.mk #[(112 : UInt8), (108 : UInt8), (117 : UInt8), (115 : UInt8)], ByteArray.mk #[(114 : UInt8), (111 : UInt8), (117 : UInt8), (110 : UInt8), (100 : UInt8)], ByteArray.mk #[(115 : UInt8), (99 : UInt8), (97 : UInt8), (108 : UInt8), (101 : UInt8)], ByteArray.mk #[(115 : UInt8), (104 : UInt8), (97 : UInt8), (114 : UInt8), (101 : UInt8)], ByteArray.mk #[(115 : UInt8), (108 : UInt8), (105 : UInt8), (99 : UInt8), (101 : UInt8), (115 : UInt8)], ByteArray.mk #[(116 : UInt8), (97 : UInt8), (98 : UInt8), (108 : UInt8), (101 : UInt8)], ByteArray.mk #[(116 : UInt8), (104 : UInt8), (101 : UInt8), (110 : UInt8)], ByteArray.mk #[(116 : UInt8), (105 : UInt8), (109 : UInt8), (101 : UInt8), (115 : UInt8)], ByteArray.mk #[(116 : UInt8), (111 : UInt8)], ByteArray.mk #[(116 : UInt8), (111 : UInt8), (116 : UInt8), (97 : UInt8), (108 : UInt8)], ByteArray.mk #[(116 : UInt8), (114 : UInt8), (117 : UInt8), (101 : UInt8)], ByteArray.mk #[(117 : UInt8), (112 : UInt8)], ByteArray.mk #[(119 : UInt8), (101 : UInt8), (105 : UInt8), (103 : UInt8), (104 : UInt8), (116 : UInt8)], ByteArray.mk #[(119 : UInt8), (104 : UInt8), (101 : UInt8), (110 : UInt8)], ByteArray.mk #[(121 : UInt8), (101 : UInt8), (97 : UInt8), (114 : UInt8), (115 : UInt8)]]
def c_208 : Ct Tryz.prog := .mk' mixA ⟨[], []⟩ 0 208 Tryz.f208 [] (.one Tz8) h_208 Tryz.func208 (by kernel_rfl) (fun d => word_Keys) (by kernel_rfl)
def h_184 : HT := .n
def zq12 (p0 : ByteArray) : Option (Bool) := some !p0.toList == p0.toList
def c_184 : Ct Tryz.prog := .mk' mixA ⟨[], []⟩ 0 184 Tryz.f184 [.d .str] (.one .bool) h_184 Tryz.func184 (by kernel_rfl) (fun d => zq12 d) (by kernel_rfl)
def h_196 : HT := .n
def zq11 (p0 : ByteArray) (p1 : ByteArray) : Option (Bool) := (zq12 p0).bind fun r => bif r then (zq12 p1).bind fun r => bif !r then some true else some (Op.bytesLess p0.toList p1.toList) else some (Op.bytesLess p0.toList p1.toList)
def c_196 : Ct Tryz.prog := .mk' mixA ⟨[c_184], []⟩ 0 196 Tryz.f196 [.d .str, .d .str] (.one .bool) h_196 Tryz.func196 (by kernel_rfl) (fun d => zq11 d.1 d.2) (by kernel_rfl)
def h_249 : HT := .n
def zq61 (p0 : ByteArray) : Option (Bool) := some !p0.toList == p0.toList
def c_249 : Ct Tryz.prog := .mk' mixA ⟨[], []⟩ 0 249 Tryz.f249 [.d .str] (.one .bool) h_249 Tryz.func249 (by kernel_rfl) (fun d => zq61 d) (by kernel_rfl)
def h_207 : HT := (.s .n (.s .n (.s .n (.s (.w ⟨[0, 1, 6], [], [(7, .dt Tz3), (8, .dt Tz3)], []⟩ .n) (.j ⟨[], [], [(4, .dt Tz3), (5, .dt .bool)], []⟩ .n .n)))))
def zq46 (fu : Nat) (p0 : List ByteArray) (p1 : ByteArray) : Option (Int × Bool) := whK (fun self d => bif decide (d.1 < d.2) then (idx p0 (IntKind.i64.wrap ((IntKind.u64.wrap (IntKind.i64.wrap (d.1 + d.2))).fdiv ((2 : Int) ^ min (Int.toNat (1 : Int)) IntKind.u64.bits)))).bind fun y => (zq11 y p1).bind fun r => bif r then self (IntKind.i64.wrap (IntKind.i64.wrap ((IntKind.u64.wrap (IntKind.i64.wrap (d.1 + d.2))).fdiv ((2 : Int) ^ min (Int.toNat (1 : Int)) IntKind.u64.bits)) + 1), d.2) else self (d.1, IntKind.i64.wrap ((IntKind.u64.wrap (IntKind.i64.wrap (d.1 + d.2))).fdiv ((2 : Int) ^ min (Int.toNat (1 : Int)) IntKind.u64.bits))) else join (fun d => some (d.1, d.2)) fun K => bif decide (d.1 < (↑p0.length : Int)) then (idx p0 d.1).bind fun y => bif y.toList == p1.toList then K (d.1, true) else (idx p0 d.1).bind fun y => (zq61 y).bind fun r => bif r then (zq61 p1).bind fun r => K (d.1, r) else K (d.1, false) else K (d.1, false)) fu ((0 : Int), (↑p0.length : Int))
def c_207 (fu : Nat) : Ct Tryz.prog := .mk' mixA ⟨[c_196, c_249], []⟩ fu 207 Tryz.f207 [.d Tz8, .d .str] (.many [Tz3, .bool]) h_207 Tryz.func207 (by kernel_rfl) (fun d => zq46 fu d.1 d.2) (by kernel_rfl)
def h_164 : HT := (.s .n (.s (.j ⟨[0], [], [(18, .dt .bool)], []⟩ .n .n) (.s (.s .n (.l ⟨[0, 20, 21], [], [], []⟩ .n)) .n)))
def word_Name (fu : Nat) (p0 : ByteArray) : Option (Bool) := join (fun d => bif d then some false else (chk ((↑p0.size : Int) <= (↑LIM : Int))).bind fun x => cntK (fun k d next => (bidx p0 (↑k : Int)).bind fun b => (word_inner b).bind fun r => bif !r then some false else next ()) 0 (↑p0.size : Int).toNat () fun d => word_Keys.bind fun r => (zq46 fu r p0).bind fun r => some !r.2) fun K => bif p0.toList == (ByteArray.mk #[]).toList then K true else bif decide ((↑p0.size : Int) > 20) then K true else (bidx p0 (0 : Int)).bind fun b => (word_letter b).bind fun r => K !r
def c_164 (fu : Nat) : Ct Tryz.prog := .mk' mixA ⟨[c_205, c_206, c_208, c_207 fu], []⟩ fu 164 Tryz.f164 [.d .str] (.one .bool) h_164 Tryz.func164 (by kernel_rfl) (fun d => word_Name fu d) (by kernel_rfl)
def h_96 : HT := .n
def zq4 (fu : Nat) (p1 : ByteArray) (p0 : List (ByteArray × Bool)) : Option (Int × List (ByteArray × Bool)) := (word_Name fu p1).bind fun r => bif !r then some ((15 : Int), p0) else bif (mget Ty.str.beq p1 p0).getD false then some ((5 : Int), p0) else (chk (p0.length + 1 <= LIM)).bind fun x => some ((0 : Int), mset Ty.str.beq p1 true p0)
def o_96 (fu : Nat) : Ow Tryz.prog := .mk' mixA ⟨[c_164 fu], []⟩ fu 96 Tryz.f96 [.mp 2000, .dt .str] [(2000, .mp .str .bool)] [.dt Tz3] [(2000, .mp .str .bool)] [] h_96 Tryz.func96 (by kernel_rfl) (by kernel_rfl) (fun d => zq4 fu d.1 d.2) (by kernel_rfl)
def h_204 : HT := .n
def unit_Range (p0 : Int) : Option (Int × Int) := bif p0 == 1 then some ((0 : Int), (1 : Int)) else bif p0 == 2 then some ((-1099511627776 : Int), (1099511627776 : Int)) else bif p0 == 3 then some ((-1048576 : Int), (1048576 : Int)) else bif p0 == 4 then some ((0 : Int), (1048575 : Int)) else bif p0 == 5 then some ((-1048576 : Int), (1048576 : Int)) else bif p0 == 6 then some ((-1000000000 : Int), (1000000000 : Int)) else some ((0 : Int), (0 : Int))
def c_204 : Ct Tryz.prog := .mk' mixA ⟨[], []⟩ 0 204 Tryz.f204 [.d Tz3] (.many [Tz3, Tz3]) h_204 Tryz.func204 (by kernel_rfl) (fun d => unit_Range d) (by kernel_rfl)
def h_247 : HT := .n
def unit_known (p0 : Int) : Option (Bool) := bif decide (p0 >= 0) then some (decide (p0 <= 6)) else some false
def c_247 : Ct Tryz.prog := .mk' mixA ⟨[], []⟩ 0 247 Tryz.f247 [.d Tz3] (.one .bool) h_247 Tryz.func247 (by kernel_rfl) (fun d => unit_known d) (by kernel_rfl)
def h_201 : HT := (.s .n (.s .n (.s (.s .n (.c .n (.j ⟨[], [], [(16, .dt .bool)], []⟩ .n .n))) .n)))
def unit_Check (p0 : Int × Int) : Option (Int) := (unit_Range p0.1).bind fun r => (unit_known p0.1).bind fun r_1 => bif !r_1 then some (8 : Int) else join (fun d => bif d then some (2 : Int) else some (0 : Int)) fun K => bif decide (p0.2 < r.1) then K true else K (decide (p0.2 > r.2))
def c_201 : Ct Tryz.prog := .mk' mixA ⟨[c_204, c_247], []⟩ 0 201 Tryz.f201 [.d (.pair Tz3 Tz3)] (.one Tz3) h_201 Tryz.func201 (by kernel_rfl) (fun d => unit_Check d) (by kernel_rfl)
def h_162 : HT := (.s .n (.s (.j ⟨[1], [1], [(14, .dt .bool)], []⟩ .n .n) (.s (.s .n (.c (.s .n (.s (.s .n (.l ⟨[1, 25, 26, 27], [1, 25], [], []⟩ .n)) .n)) .n)) (.s (.j ⟨[1], [1], [(52, .dt .bool)], []⟩ .n .n) (.s .n (.s (.j ⟨[], [], [(70, .dt .bool)], []⟩ .n .n) .n))))))
def body_attr (p0 : ByteArray × Int × Bool × Int × Int × Int × Int) : Option (Int) := join (fun d => bif d then some (8 : Int) else bif p0.2.2.1 then bif !(p0.2.2.2.2.2.1 == 0 && (p0.2.2.2.2.2.2 == 0 && true)) then some (3 : Int) else cntK (fun k d next => (chk ((0 : Int) <= (↑k : Int) /\ (↑k : Int) < (↑(2 : Nat) : Int))).bind fun x => [p0.2.2.2.1, p0.2.2.2.2.1][(↑k : Int).toNat]?.bind fun x => (unit_Check (p0.2.1, x)).bind fun r => bif r != 0 then some r else next ()) 0 (↑(2 : Nat) : Int).toNat () fun d => bif decide (p0.2.2.2.1 > p0.2.2.2.2.1) then some (9 : Int) else some (0 : Int) else join (fun d => bif d then some (3 : Int) else (unit_Check (p0.2.2.2.2.2.1, p0.2.2.2.2.2.2)).bind fun r => bif r != 0 then some r else join (fun d => bif d then some (8 : Int) else some (0 : Int)) fun K => bif p0.2.2.2.2.2.1 != 0 then K (p0.2.2.2.2.2.1 != p0.2.1) else K false) fun K => bif p0.2.2.2.1 != 0 then K true else K (p0.2.2.2.2.1 != 0)) fun K => bif decide (p0.2.1 <= 0) then K true else K (decide (p0.2.1 > 6))
def c_162 : Ct Tryz.prog := .mk' mixA ⟨[c_201], []⟩ 0 162 Tryz.f162 [.d Tz7] (.one Tz3) h_162 Tryz.func162 (by kernel_rfl) (fun d => body_attr d) (by kernel_rfl)
def h_202 : HT := (.s .n (.s (.j ⟨[0], [], [(16, .dt .bool)], []⟩ .n .n) (.s (.s .n (.l ⟨[18, 19, 20], [], [], []⟩ (.s .n (.j ⟨[18, 19, 20], [], [(42, .dt .bool)], []⟩ .n .n)))) .n)))
def fact_Name (p0 : ByteArray) : Option (Bool) := join (fun d => bif d then some false else forK (fun k x d next => join (fun d => bif d then some false else next ()) fun K => bif decide (x >= 97) then bif decide (x <= 122) then K !true else bif decide (x >= 48) then bif decide (x <= 57) then K !true else K !x == 45 else K !x == 45 else bif decide (x >= 48) then bif decide (x <= 57) then K !true else K !x == 45 else K !x == 45) 0 (List.map (fun b => (↑b.toNat : Int)) p0.data.toList) () fun d => some true) fun K => bif p0.toList == (ByteArray.mk #[]).toList then K true else bif decide ((↑p0.size : Int) > 20) then K true else (bidx p0 (0 : Int)).bind fun b => K (decide (b < 97))
def c_202 : Ct Tryz.prog := .mk' mixA ⟨[], []⟩ 0 202 Tryz.f202 [.d .str] (.one .bool) h_202 Tryz.func202 (by kernel_rfl) (fun d => fact_Name d) (by kernel_rfl)
def h_203 : HT := (.s .n (.j ⟨[1], [1], [(3, .dt .bool)], []⟩ .n (.j ⟨[1, 3], [1], [(4, .dt .bool)], []⟩ .n (.j ⟨[], [], [(2, .dt .bool)], []⟩ .n .n))))
def table_kinds (p0 : ByteArray × Int × Int × Bool × List (Int × Int)) : Option (Bool) := join (fun d => join (fun d_1 => join (fun d => some d) fun K => bif d then bif d_1 then bif !p0.2.2.2.1 then K true else bif p0.2.1 == 2 then K (p0.2.2.1 == 2) else K false else K false else K false) fun K => bif p0.2.2.1 == 2 then K true else bif p0.2.2.1 == 3 then K true else bif p0.2.2.1 == 5 then K true else K (p0.2.2.1 == 6)) fun K => bif decide (p0.2.1 >= 2) then K (decide (p0.2.1 <= 6)) else K false
def c_203 : Ct Tryz.prog := .mk' mixA ⟨[], []⟩ 0 203 Tryz.f203 [.d Tz6] (.one .bool) h_203 Tryz.func203 (by kernel_rfl) (fun d => table_kinds d) (by kernel_rfl)
def h_163 : HT := (.s .n (.s .n (.s .n (.s .n (.j ⟨[1, 3, 4], [1], [(5, .dt Tz3), (6, .dt Tz3)], []⟩ .n (.s (.s .n (.l ⟨[1, 3, 4, 5, 6, 43, 44, 45], [1], [], []⟩ (.s .n (.j ⟨[1, 3, 4, 5, 6, 7, 8, 43, 44, 45], [1, 8], [(50, .dt .bool)], []⟩ .n (.c .n (.j ⟨[1, 3, 4, 5, 6, 43, 44, 45], [1], [(73, .dt .bool)], []⟩ .n .n)))))) .n))))))
def table_Check (p0 : ByteArray × Int × Int × Bool × List (Int × Int)) : Option (Int) := (fact_Name p0.1).bind fun r => bif !r then some (15 : Int) else (table_kinds (p0.1, p0.2.1, p0.2.2.1, p0.2.2.2.1, p0.2.2.2.2)).bind fun r => bif !r then some (8 : Int) else bif (↑p0.2.2.2.2.length : Int) == 0 then some (13 : Int) else bif decide ((↑p0.2.2.2.2.length : Int) > 20) then some (2 : Int) else (unit_Range p0.2.1).bind fun r => (unit_Range p0.2.2.1).bind fun r_1 => join (fun d => forK (fun k x d_1 next => join (fun d => bif d then some (2 : Int) else join (fun d => bif d then some (9 : Int) else next ()) fun K => bif decide ((↑k : Int) > 0) then (idx p0.2.2.2.2 (IntKind.i64.wrap ((↑k : Int) - 1))).bind fun y => K (decide (x.1 <= y.1)) else K false) fun K => bif decide (x.1 < r.1) then K true else bif decide (x.1 > r.2) then K true else bif decide (x.2 < d.1) then K true else K (decide (x.2 > d.2))) 0 p0.2.2.2.2 () fun d => some (0 : Int)) fun K => bif p0.2.2.2.1 then K ((0 : Int), (1000000 : Int)) else K (r_1.1, r_1.2)
def c_163 : Ct Tryz.prog := .mk' mixA ⟨[c_202, c_203, c_204], []⟩ 0 163 Tryz.f163 [.d Tz6] (.one Tz3) h_163 Tryz.func163 (by kernel_rfl) (fun d => table_Check d) (by kernel_rfl)
def h_95 : HT := (.s .n (.s .n (.s (.s .n (.l ⟨[3, 4, 5, 20, 21, 22], [], [], [(17, .mp .str .bool), (18, .mp .str .bool), (19, .mp .str .bool)]⟩ (.s .n (.s .n (.s (.j ⟨[3, 4, 5, 7, 20, 21, 22], [17, 18, 19, 7], [(50, .dt .bool)], []⟩ .n .n) (.s (.s .n (.l ⟨[3, 4, 5, 7, 20, 21, 22, 52, 53, 54], [17, 19, 7], [], [(18, .mp .str .bool)]⟩ .n)) (.s .n (.l ⟨[3, 4, 5, 20, 21, 22, 72, 73, 74], [17, 18], [], [(19, .mp .str .bool)]⟩ .n)))))))) .n)))
def body_parts (fu : Nat) (p0 : List Yz1) : Option (Int) := forK (fun k x d next => ((word_Name fu x.1).bind fun r => bif !r then some ((15 : Int), d.1) else bif (mget Ty.str.beq x.1 d.1).getD false then some ((5 : Int), d.1) else (chk (d.1.length + 1 <= LIM)).bind fun x_1 => some ((0 : Int), mset Ty.str.beq x.1 true d.1)).bind fun r => bif r.1 != 0 then some r.1 else join (fun d_1 => bif d_1 then some (1 : Int) else forK (fun k x d next => ((word_Name fu x.1).bind fun r => bif !r then some ((15 : Int), d) else bif (mget Ty.str.beq x.1 d).getD false then some ((5 : Int), d) else (chk (d.length + 1 <= LIM)).bind fun x_1 => some ((0 : Int), mset Ty.str.beq x.1 true d)).bind fun r => bif r.1 != 0 then some r.1 else (body_attr (x.1, x.2.1, x.2.2.1, x.2.2.2.1, x.2.2.2.2.1, x.2.2.2.2.2.1, x.2.2.2.2.2.2)).bind fun r_1 => bif r_1 != 0 then some r_1 else next r.2) 0 x.2.2.2.1 d.2.1 fun d_2 => forK (fun k x d next => ((word_Name fu x.1).bind fun r => bif !r then some ((15 : Int), d) else bif (mget Ty.str.beq x.1 d).getD false then some ((5 : Int), d) else (chk (d.length + 1 <= LIM)).bind fun x_1 => some ((0 : Int), mset Ty.str.beq x.1 true d)).bind fun r => bif r.1 != 0 then some r.1 else (table_Check (x.1, x.2.1, x.2.2.1, x.2.2.2.1, x.2.2.2.2)).bind fun r_1 => bif r_1 != 0 then some r_1 else next r.2) 0 x.2.2.2.2.1 d.2.2 fun d => next (r.2, d_2, d)) fun K => bif decide (x.2.1 < 0) then K true else bif decide (x.2.1 > 9) then K true else bif decide (x.2.2.1 < 0) then K true else K (decide (x.2.2.1 > 1048575))) 0 p0 ([], [], []) fun d => some (0 : Int)
def c_95 (fu : Nat) : Ct Tryz.prog := .mk' mixA ⟨[c_162, c_163], [o_96 fu]⟩ fu 95 Tryz.f95 [.d Tz1] (.one Tz3) h_95 Tryz.func95 (by kernel_rfl) (fun d => body_parts fu d) (by kernel_rfl)
def h_104 : HT := (.s .n (.s (.s .n (.l ⟨[1, 4, 10, 11, 12], [4], [], []⟩ (.s .n (.s .n (.l ⟨[1, 4, 10, 11, 12, 17, 18, 19], [4], [], []⟩ .n))))) .n))
def body_Attr (p0 : List Yz1) (p1 : ByteArray) : Option ((ByteArray × Int × Bool × Int × Int × Int × Int) × Bool) := forK (fun k x d next => forK (fun k x d next => bif x.1.toList == p1.toList then some ((x.1, x.2.1, x.2.2.1, x.2.2.2.1, x.2.2.2.2.1, x.2.2.2.2.2.1, x.2.2.2.2.2.2), true) else next ()) 0 x.2.2.2.1 () fun d => next ()) 0 p0 () fun d => some ((ByteArray.mk (Array.mk []), (0 : Int), false, (0 : Int), (0 : Int), (0 : Int), (0 : Int)), false)
def c_104 : Ct Tryz.prog := .mk' mixA ⟨[], []⟩ 0 104 Tryz.f104 [.d Tz1, .d .str] (.many [Tz7, .bool]) h_104 Tryz.func104 (by kernel_rfl) (fun d => body_Attr d.1 d.2) (by kernel_rfl)
def h_277 : HT := (.s .n (.s (.s .n (.j ⟨[0, 3], [], [(4, .dt .bool)], []⟩ .n (.c .n (.j ⟨[0, 3], [], [(9, .dt .bool)], []⟩ .n .n)))) (.s (.j ⟨[], [], [(20, .dt .bool)], []⟩ .n .n) .n)))
def tree_Kids (p0 : Int) : Option (Int) := join (fun d => bif d then some (0 : Int) else join (fun d => bif d then some (1 : Int) else bif p0 == 15 then some (3 : Int) else join (fun d => bif d then some (2 : Int) else some (-1 : Int)) fun K => bif decide (p0 > 4) then K (decide (p0 < 19)) else K false) fun K => bif p0 == 4 then K true else bif p0 == 16 then K true else K (p0 == 17)) fun K => bif p0 == 0 then K true else bif p0 == 1 then K true else bif p0 == 2 then K true else K (p0 == 3)
def c_277 : Ct Tryz.prog := .mk' mixA ⟨[], []⟩ 0 277 Tryz.f277 [.d Tz3] (.one Tz3) h_277 Tryz.func277 (by kernel_rfl) (fun d => tree_Kids d) (by kernel_rfl)
def h_279 : HT := .n
def tree_one_1 (p0 : Int) (c0_0 : Int) : Option (Bool × Int) := bif decide (p0 < 0) then some (true, c0_0) else some (decide (p0 >= c0_0), c0_0)
def o_279 : Ow Tryz.prog := .mk' mixA ⟨[], []⟩ 0 279 Tryz.f279 [.dt Tz3, .pt 2001 1 0] [(2001, .el true 1 [.dt Tz3])] [.dt .bool] [(2001, .el true 1 [.dt Tz3])] [] h_279 Tryz.func279 (by kernel_rfl) (by kernel_rfl) (fun d => tree_one_1 d.1 d.2) (by kernel_rfl)
def h_291_279 : HT := (.s .n (.s (.s .n (.l ⟨[0, 1, 6, 7, 8], [], [], Sz5⟩ .n)) .n))
def zq57 (p0 : List Int) (q1_0_0 : Int) : Option (Int × Int) := forK (fun k x d next => (idx p0 (↑k : Int)).bind fun y => (tree_one_1 y d).bind fun r => bif r.1 then some ((↑k : Int), r.2) else next r.2) 0 p0 q1_0_0 fun d => some ((-1 : Int), d)
def o_291_279 : Ow Tryz.prog := .mk' mixA ⟨[], [o_279]⟩ 0 291 Tryz.f291 [.dt (.list Tz3), .fn 279 [.pt 2050 1 0]] Sz5 [.dt Tz3] Sz5 [] h_291_279 Tryz.func291 (by kernel_rfl) (by kernel_rfl) (fun d => zq57 d.1 d.2) (by kernel_rfl)
def h_278_279 : HT := .n
def zq52 (p0 : List Int) (q1_0_0 : Int) : Option (Bool × Int) := (zq57 p0 q1_0_0).bind fun r => some (decide (r.1 >= 0), r.2)
def o_278_279 : Ow Tryz.prog := .mk' mixA ⟨[], [o_291_279, o_279]⟩ 0 278 Tryz.f278 [.dt (.list Tz3), .fn 279 [.pt 2050 1 0]] Sz5 [.dt .bool] Sz5 [] h_278_279 Tryz.func278 (by kernel_rfl) (by kernel_rfl) (fun d => zq52 d.1 d.2) (by kernel_rfl)
def h_280 : HT := (.s .n (.j ⟨[], [], [(2, .dt .bool)], []⟩ .n .n))
def tree_named (p0 : Int) : Option (Bool) := join (fun d => some d) fun K => bif p0 == 1 then K true else bif p0 == 2 then K true else bif p0 == 3 then K true else K (p0 == 16)
def c_280 : Ct Tryz.prog := .mk' mixA ⟨[], []⟩ 0 280 Tryz.f280 [.d Tz3] (.one .bool) h_280 Tryz.func280 (by kernel_rfl) (fun d => tree_named d) (by kernel_rfl)
def h_250 : HT := (.s .n (.s .n (.s (.j ⟨[2], [2], [(21, .dt .bool)], []⟩ .n .n) (.s (.j ⟨[2], [2], [(50, .dt .bool)], []⟩ .n .n) (.s (.j ⟨[2], [2], [(51, .dt .bool)], []⟩ .n (.c .n (.s .n (.c .n (.j ⟨[2], [2], [(70, .dt .bool)], []⟩ .n (.c .n (.j ⟨[], [], [(94, .dt .bool)], []⟩ .n .n))))))) .n)))))
def tree_one (fu : Nat) (p0 : Int × List Int × Int × Int × ByteArray) (p1 : Int) : Option (Int) := (tree_Kids p0.1).bind fun r => bif decide (r < 0) then some (1 : Int) else join (fun d => bif d then some (3 : Int) else join (fun d => bif d then some (3 : Int) else join (fun d => bif d then some (8 : Int) else bif p0.1 == 0 then (unit_Check (p0.2.2.1, p0.2.2.2.1)).bind fun r => some r else join (fun d => bif d then some (1 : Int) else join (fun d => bif d then some (15 : Int) else some (0 : Int)) fun K => (tree_named p0.1).bind fun r => bif r then (word_Name fu p0.2.2.2.2).bind fun r => K !r else K false) fun K => bif p0.1 == 17 then bif decide (p0.2.2.1 < 0) then K true else bif decide (p0.2.2.1 >= 5) then K true else bif decide (p0.2.2.2.1 < 1) then K true else K (decide (p0.2.2.2.1 > 1099511627776)) else K false) fun K => bif p0.1 == 0 then K (p0.2.2.1 == 0) else K false) fun K => bif p0.1 != 0 then bif p0.1 != 17 then bif p0.2.2.1 != 0 then K true else bif p0.2.2.2.1 != 0 then K true else (tree_named p0.1).bind fun r => bif !r then K !p0.2.2.2.2.toList == (ByteArray.mk #[]).toList else K false else (tree_named p0.1).bind fun r => bif !r then K !p0.2.2.2.2.toList == (ByteArray.mk #[]).toList else K false else (tree_named p0.1).bind fun r => bif !r then K !p0.2.2.2.2.toList == (ByteArray.mk #[]).toList else K false) fun K => (tree_Kids p0.1).bind fun r => bif (↑p0.2.1.length : Int) != r then K true else (zq52 p0.2.1 p1).bind fun r => K r.1
def c_250 (fu : Nat) : Ct Tryz.prog := .mk' mixA ⟨[c_277, c_280, c_201, c_164 fu], [o_278_279, o_279]⟩ fu 250 Tryz.f250 [.d Tz2, .d Tz3] (.one Tz3) h_250 Tryz.func250 (by kernel_rfl) (fun d => tree_one fu d.1 d.2) (by kernel_rfl)
def h_281 : HT := (.s .n (.s (.s .n (.l ⟨[0, 1, 6, 7, 8], [], [], []⟩ .n)) .n))
def zq59 (p0 : List Int) (p1 : Int) : Option (Int) := forK (fun k x d next => (idx p0 (↑k : Int)).bind fun y => bif p1 == y then some (↑k : Int) else next ()) 0 p0 () fun d => some (-1 : Int)
def c_281 : Ct Tryz.prog := .mk' mixA ⟨[], []⟩ 0 281 Tryz.f281 [.d (.list Tz3), .d Tz3] (.one Tz3) h_281 Tryz.func281 (by kernel_rfl) (fun d => zq59 d.1 d.2) (by kernel_rfl)
def h_251 : HT := .n
def zq54 (p0 : List Int) (p1 : Int) : Option (Bool) := (zq59 p0 p1).bind fun r => some (decide (r >= 0))
def c_251 : Ct Tryz.prog := .mk' mixA ⟨[c_281], []⟩ 0 251 Tryz.f251 [.d (.list Tz3), .d Tz3] (.one .bool) h_251 Tryz.func251 (by kernel_rfl) (fun d => zq54 d.1 d.2) (by kernel_rfl)
def h_209 : HT := (.s .n (.s .n (.s .n (.s .n (.s (.s .n (.l ⟨[0, 3, 18, 19, 20], [], [], [(17, .ls Tz3)]⟩ (.s .n (.s .n (.s .n (.l ⟨[0, 3, 18, 19, 20, 32, 33, 34], [], [], [(17, .ls Tz3)]⟩ .n)))))) .n)))))
def tree_Check (fu : Nat) (p0 : List Yz3) : Option (Int) := bif decide ((↑p0.length : Int) > 100) then some (2 : Int) else bif (↑p0.length : Int) == 0 then some (4 : Int) else (chk ((0 : Int) <= (↑p0.length : Int) /\ (↑p0.length : Int) <= (↑p0.length : Int) /\ (↑p0.length : Int) <= (↑LIM : Int))).bind fun x => forK (fun k x d next => (tree_one fu (x.1, x.2.1, x.2.2.1, x.2.2.2.1, x.2.2.2.2) (↑k : Int)).bind fun r => bif r != 0 then some r else forK (fun k x d next => (chk ((0 : Int) <= x /\ x < (↑d.length : Int))).bind fun x_1 => d[x.toNat]?.bind fun x_2 => (chk ((0 : Int) <= x /\ x < (↑d.length : Int))).bind fun x_3 => (chk (x.toNat < d.length)).bind fun x_4 => (chk ((0 : Int) <= x /\ x < (↑(d.set x.toNat (IntKind.i64.wrap (x_2 + 1))).length : Int))).bind fun x_5 => (d.set x.toNat (IntKind.i64.wrap (x_2 + 1)))[x.toNat]?.bind fun x_6 => bif decide (x_6 > 1) then some (3 : Int) else next (d.set x.toNat (IntKind.i64.wrap (x_2 + 1)))) 0 x.2.1 d fun d => next d) 0 p0 (List.replicate (↑p0.length : Int).toNat (0 : Int)) fun d => (chk ((0 : Int) <= IntKind.i64.wrap ((↑p0.length : Int) - 1) /\ IntKind.i64.wrap ((↑p0.length : Int) - 1) <= (↑d.length : Int))).bind fun x => (chk (decide ((0 : Nat) + ((IntKind.i64.wrap ((↑p0.length : Int) - 1)).toNat - 0) <= d.length) = true)).bind fun x => (zq54 (List.take ((IntKind.i64.wrap ((↑p0.length : Int) - 1)).toNat - 0) (List.drop 0 d)) (0 : Int)).bind fun r => bif r then some (3 : Int) else some (0 : Int)
def c_209 (fu : Nat) : Ct Tryz.prog := .mk' mixA ⟨[c_250 fu, c_251], []⟩ fu 209 Tryz.f209 [.d (.list Tz2)] (.one Tz3) h_209 Tryz.func209 (by kernel_rfl) (fun d => tree_Check fu d) (by kernel_rfl)
def h_252 : HT := (.s .n (.s (.s .n (.l ⟨[1, 10, 11, 12], [], [], []⟩ (.s .n (.s .n (.l ⟨[1, 10, 11, 12, 17, 18, 19], [], [], []⟩ .n))))) .n))
def types_attr (p0 : List Yz1) (p1 : ByteArray) : Option (Int × Bool) := forK (fun k x d next => forK (fun k x d next => bif x.1.toList == p1.toList then some (x.2.1, true) else next ()) 0 x.2.2.2.1 () fun d => next ()) 0 p0 () fun d => some ((0 : Int), false)
def c_252 : Ct Tryz.prog := .mk' mixA ⟨[], []⟩ 0 252 Tryz.f252 [.d Tz1, .d .str] (.many [Tz3, .bool]) h_252 Tryz.func252 (by kernel_rfl) (fun d => types_attr d.1 d.2) (by kernel_rfl)
def h_213 : HT := .n
def zq63 (p0 : Int) : Option (Bool) := bif decide (p0 > 0) then some (decide (p0 <= 6)) else some false
def c_213 : Ct Tryz.prog := .mk' mixA ⟨[], []⟩ 0 213 Tryz.f213 [.d Tz3] (.one .bool) h_213 Tryz.func213 (by kernel_rfl) (fun d => zq63 d) (by kernel_rfl)
def h_210 : HT := (.s .n (.s .n (.s (.s .n (.c .n (.j ⟨[3, 6], [3], [(18, .dt .bool)], []⟩ .n (.c .n (.j ⟨[3, 6], [3], [(27, .dt .bool)], []⟩ .n (.c .n (.j ⟨[6], [], [(35, .dt .bool)], []⟩ .n .n))))))) .n)))
def types_looked (p0 : List Yz1) (p1 : Int × List Int × Int × Int × ByteArray) : Option (Int × Int) := (types_attr p0 p1.2.2.2.2).bind fun r => bif !r.2 then some ((0 : Int), (15 : Int)) else join (fun d => bif d then some (r.1, (0 : Int)) else join (fun d => bif d then some ((5 : Int), (0 : Int)) else join (fun d => bif d then some (r.1, (0 : Int)) else some ((0 : Int), (8 : Int))) fun K => bif p1.1 == 2 then bif r.1 == 2 then K true else bif r.1 == 3 then K true else bif r.1 == 5 then K true else K (r.1 == 6) else K false) fun K => bif p1.1 == 3 then K (r.1 == 1) else K false) fun K => bif p1.1 == 1 then (zq63 r.1).bind fun r => K r else K false
def c_210 : Ct Tryz.prog := .mk' mixA ⟨[c_252, c_213], []⟩ 0 210 Tryz.f210 [.d Tz1, .d Tz2] (.many [Tz3, Tz3]) h_210 Tryz.func210 (by kernel_rfl) (fun d => types_looked d.1 d.2) (by kernel_rfl)
def h_212 : HT := (.s .n (.s .n (.s (.s .n (.l ⟨[8, 9, 10], [], [(3, .wn 28 5)], [(28, .ls Tz6)]⟩ (.s .n (.s .n (.l ⟨[8, 9, 10, 15, 16, 17], [], [(3, .wn 28 5)], [(28, .ls Tz6)]⟩ (.s .n (.s .n (.g [.sl 23 (.pair Tz3 Tz3)])))))))) .n)))
def types_Tables (p0 : List Yz1) : Option (List (ByteArray × Int × Int × Bool × List (Int × Int))) := forK (fun k x d next => forK (fun k x d next => (chk (x.2.2.2.2.length <= LIM)).bind fun x_1 => (chk (d.length + 1 <= LIM)).bind fun x_2 => next (d ++ [(x.1, x.2.1, x.2.2.1, x.2.2.2.1, x.2.2.2.2)])) 0 x.2.2.2.2.1 d fun d => next d) 0 p0 [] fun d => some d
def c_212 : Ct Tryz.prog := .mk' mixA ⟨[], []⟩ 0 212 Tryz.f212 [.d Tz1] (.one (.list Tz6)) h_212 Tryz.func212 (by kernel_rfl) (fun d => types_Tables d) (by kernel_rfl)
def h_211 : HT := (.s .n (.s (.s .n (.l ⟨[1, 4, 8, 9, 10], [4], [], []⟩ .n)) .n))
def types_find (p0 : List (ByteArray × Int × Int × Bool × List (Int × Int))) (p1 : ByteArray) : Option ((ByteArray × Int × Int × Bool × List (Int × Int)) × Bool) := forK (fun k x d next => bif x.1.toList == p1.toList then some ((x.1, x.2.1, x.2.2.1, x.2.2.2.1, x.2.2.2.2), true) else next ()) 0 p0 () fun d => some ((ByteArray.mk (Array.mk []), (0 : Int), (0 : Int), false, []), false)
def c_211 : Ct Tryz.prog := .mk' mixA ⟨[], []⟩ 0 211 Tryz.f211 [.d (.list Tz6), .d .str] (.many [Tz6, .bool]) h_211 Tryz.func211 (by kernel_rfl) (fun d => types_find d.1 d.2) (by kernel_rfl)
def h_253 : HT := (.s .n (.s (.s .n (.l ⟨[0, 7, 8, 9], [], [], []⟩ .n)) .n))
def types_either (p0 : Int) (p1 : List Int) : Option (Bool) := forK (fun k x d next => bif p0 == x then some true else next ()) 0 p1 () fun d => some (p0 == 0)
def c_253 : Ct Tryz.prog := .mk' mixA ⟨[], []⟩ 0 253 Tryz.f253 [.d Tz3, .d (.list Tz3)] (.one .bool) h_253 Tryz.func253 (by kernel_rfl) (fun d => types_either d.1 d.2) (by kernel_rfl)
def h_254 : HT := (.s .n (.s (.s .n (.c .n (.j ⟨[0], [], [(10, .dt .bool)], []⟩ .n .n))) .n))
def types_join (p0 : Int) (p1 : Int) : Option (Int × Bool) := bif p0 == 0 then some (p1, true) else join (fun d => bif d then some (p0, true) else some ((0 : Int), false)) fun K => bif p1 == 0 then K true else K (p0 == p1)
def c_254 : Ct Tryz.prog := .mk' mixA ⟨[], []⟩ 0 254 Tryz.f254 [.d Tz3, .d Tz3] (.many [Tz3, .bool]) h_254 Tryz.func254 (by kernel_rfl) (fun d => types_join d.1 d.2) (by kernel_rfl)
def h_255 : HT := (.s .n (.s (.j ⟨[0, 1, 2], [], [(8, .dt .bool)], []⟩ .n (.c .n (.j ⟨[0, 1, 2], [], [(15, .dt .bool)], []⟩ .n (.c .n (.j ⟨[0, 1, 2], [], [(28, .dt .bool)], []⟩ .n (.c .n (.j ⟨[0, 1, 2], [], [(35, .dt .bool)], []⟩ .n .n))))))) .n))
def types_sum (p0 : Int) (p1 : Int) (p2 : Int) : Option (Int × Bool) := join (fun d => bif d then some ((0 : Int), false) else join (fun d => bif d then bif p2 != 4 then some ((0 : Int), true) else some ((0 : Int), p0 == 11) else join (fun d => bif d then some ((4 : Int), true) else join (fun d => bif d then some ((3 : Int), p0 == 11) else some (p1, p1 == p2)) fun K => bif p1 == 4 then K (p2 == 4) else K false) fun K => bif p1 == 4 then K (p2 == 3) else K false) fun K => bif p1 == 0 then K true else K (p2 == 0)) fun K => bif p1 == 1 then K true else K (p2 == 1)
def c_255 : Ct Tryz.prog := .mk' mixA ⟨[], []⟩ 0 255 Tryz.f255 [.d Tz3, .d Tz3, .d Tz3] (.many [Tz3, .bool]) h_255 Tryz.func255 (by kernel_rfl) (fun d => types_sum d.1 d.2.1 d.2.2) (by kernel_rfl)
def h_256 : HT := (.s .n (.s (.j ⟨[0, 1], [], [(6, .dt .bool)], []⟩ .n (.c .n (.j ⟨[0, 1], [], [(17, .dt .bool)], []⟩ .n .n))) .n))
def zq62 (p0 : Int) (p1 : Int) : Option (Int × Bool) := join (fun d => bif d then some ((0 : Int), false) else join (fun d => bif d then some ((0 : Int), true) else bif p1 == 5 then bif p0 == 2 then some (p0, true) else some (p0, p0 == 3) else some (p0, true)) fun K => bif p0 == 0 then K true else K (p1 == 0)) fun K => (types_either p0 [(2 : Int), (3 : Int), (5 : Int), (6 : Int)]).bind fun r => bif !r then K true else (types_either p1 [(5 : Int), (6 : Int)]).bind fun r => K !r
def c_256 : Ct Tryz.prog := .mk' mixA ⟨[c_253], []⟩ 0 256 Tryz.f256 [.d Tz3, .d Tz3] (.many [Tz3, .bool]) h_256 Tryz.func256 (by kernel_rfl) (fun d => zq62 d.1 d.2) (by kernel_rfl)
def h_214 : HT := (.s .n (.s (.s .n (.s .n (.c .n (.s .n (.c .n (.j ⟨[1, 3, 5, 17], [3, 5], [(29, .dt .bool)], []⟩ .n (.c .n (.s .n (.c .n (.j ⟨[1, 3, 5, 17], [3, 5], [(57, .dt .bool)], []⟩ .n (.c .n (.j ⟨[1, 3, 5, 17], [3, 5], [(75, .dt .bool)], []⟩ .n (.c .n (.j ⟨[1, 3, 5, 17], [3, 5], [(94, .dt .bool)], []⟩ .n .n)))))))))))))) .n))
def types_kind (p0 : Int × List Int × Int × Int × ByteArray) (p1 : List Int) (p2 : ByteArray × Int × Int × Bool × List (Int × Int)) : Option (Int × Bool) := bif p0.1 == 0 then some (p0.2.2.1, true) else bif p0.1 == 4 then (idx p1 (0 : Int)).bind fun y => (types_either y [(1 : Int)]).bind fun r => some ((1 : Int), r) else join (fun d => bif d then (idx p1 (0 : Int)).bind fun y => (types_either y [(1 : Int)]).bind fun r => bif r then (idx p1 (1 : Int)).bind fun y => (types_either y [(1 : Int)]).bind fun r => some ((1 : Int), r) else some ((1 : Int), false) else bif p0.1 == 9 then (idx p1 (0 : Int)).bind fun y => (idx p1 (1 : Int)).bind fun y_1 => (types_join y y_1).bind fun r => some ((1 : Int), r.2) else join (fun d => bif d then (idx p1 (0 : Int)).bind fun y => (idx p1 (1 : Int)).bind fun y_1 => (types_join y y_1).bind fun r => bif r.2 then some ((1 : Int), r.1 != 1) else some ((1 : Int), false) else join (fun d => bif d then (idx p1 (0 : Int)).bind fun y => (idx p1 (1 : Int)).bind fun y_1 => (types_join y y_1).bind fun r => bif r.2 then some (r.1, r.1 != 1) else some (r.1, false) else join (fun d => bif d then (idx p1 (0 : Int)).bind fun y => (idx p1 (1 : Int)).bind fun y_1 => (types_sum p0.1 y y_1).bind fun r => some (r.1, r.2) else bif p0.1 == 12 then (idx p1 (0 : Int)).bind fun y => (idx p1 (1 : Int)).bind fun y_1 => (zq62 y y_1).bind fun r => some (r.1, r.2) else bif p0.1 == 15 then (idx p1 (1 : Int)).bind fun y => (idx p1 (2 : Int)).bind fun y_1 => (types_join y y_1).bind fun r => bif r.2 then (idx p1 (0 : Int)).bind fun y => (types_either y [(1 : Int)]).bind fun r_1 => some (r.1, r_1) else some (r.1, false) else bif p0.1 == 16 then (idx p1 (0 : Int)).bind fun y => (types_either y [p2.2.1]).bind fun r => some (p2.2.2.1, r) else bif p0.1 == 17 then (idx p1 (0 : Int)).bind fun y => (types_either y [(2 : Int)]).bind fun r => some ((2 : Int), r) else (idx p1 (0 : Int)).bind fun y => (types_either y [(4 : Int)]).bind fun r => bif r then (idx p1 (1 : Int)).bind fun y => (types_either y [(4 : Int)]).bind fun r => some ((5 : Int), r) else some ((5 : Int), false)) fun K => bif p0.1 == 10 then K true else K (p0.1 == 11)) fun K => bif p0.1 == 13 then K true else K (p0.1 == 14)) fun K => bif p0.1 == 7 then K true else K (p0.1 == 8)) fun K => bif p0.1 == 5 then K true else K (p0.1 == 6)
def c_214 : Ct Tryz.prog := .mk' mixA ⟨[c_253, c_254, c_255, c_256], []⟩ 0 214 Tryz.f214 [.d Tz2, .d (.list Tz3), .d Tz6] (.many [Tz3, .bool]) h_214 Tryz.func214 (by kernel_rfl) (fun d => types_kind d.1 d.2.1 d.2.2) (by kernel_rfl)
def h_165 : HT := (.s .n (.s .n (.s .n (.s (.s .n (.l ⟨[0, 1, 7, 27, 28, 29], [], [], [(26, .ls Tz3)]⟩ (.s .n (.s (.j ⟨[0, 1, 7, 8, 9, 27, 28, 29], [9, 26], [(46, .dt .bool)], []⟩ .n .n) (.s .n (.s (.s .n (.l ⟨[0, 1, 7, 8, 9, 27, 28, 29, 61, 62, 63], [9, 26], [(12, .wn 73 1)], [(73, .ls Tz3)]⟩ .n)) (.s .n (.j ⟨[0, 1, 7, 8, 9, 12, 15, 27, 28, 29], [73, 9, 26], [], [(15, .el true 5 [(.ag [.dt .str, .dt Tz3, .dt Tz3, .dt .bool, .dt (.list (.pair Tz3 Tz3))])])]⟩ (.s .n (.c (.s .n (.s .n (.j ⟨[0, 1, 7, 8, 9, 12, 15, 27, 28, 29], [73, 9, 26, 15], [(98, .dt .bool)], []⟩ .n .n))) .n)) .n)))))))) .n))))
def types_Of (fu : Nat) (p0 : List Yz1) (p1 : List Yz3) : Option (Int × Int) := (tree_Check fu p1).bind fun r => bif r != 0 then some ((0 : Int), r) else (chk ((0 : Int) <= (↑p1.length : Int) /\ (↑p1.length : Int) <= (↑p1.length : Int) /\ (↑p1.length : Int) <= (↑LIM : Int))).bind fun x => forK (fun k x d next => join (fun d_1 => bif d_1 then (types_looked p0 (x.1, x.2.1, x.2.2.1, x.2.2.2.1, x.2.2.2.2)).bind fun r => bif r.2 != 0 then some ((0 : Int), r.2) else (chk ((0 : Int) <= (↑k : Int) /\ (↑k : Int) < (↑d.length : Int))).bind fun x => (chk ((↑k : Int).toNat < d.length)).bind fun x => next (d.set (↑k : Int).toNat r.1) else forK (fun k x d_2 next => (chk ((0 : Int) <= x /\ x < (↑d.length : Int))).bind fun x_1 => d[x.toNat]?.bind fun x => (chk (d_2.length + 1 <= LIM)).bind fun x_2 => next (d_2 ++ [x])) 0 x.2.1 [] fun d_2 => join (fun d_3 => (types_kind (x.1, x.2.1, x.2.2.1, x.2.2.2.1, x.2.2.2.2) d_2 (d_3.1, d_3.2.1, d_3.2.2.1, d_3.2.2.2.1, d_3.2.2.2.2)).bind fun r => bif !r.2 then some ((0 : Int), (8 : Int)) else (chk ((0 : Int) <= (↑k : Int) /\ (↑k : Int) < (↑d.length : Int))).bind fun x => (chk ((↑k : Int).toNat < d.length)).bind fun x => next (d.set (↑k : Int).toNat r.1)) fun K => bif x.1 == 16 then (types_Tables p0).bind fun r => (types_find r x.2.2.2.2).bind fun r => bif !r.2 then some ((0 : Int), (15 : Int)) else join (fun d => bif d then some ((0 : Int), (8 : Int)) else K (r.1.1, r.1.2.1, r.1.2.2.1, r.1.2.2.2.1, r.1.2.2.2.2)) fun K => (zq63 r.1.2.1).bind fun r_1 => bif !r_1 then K true else (zq63 r.1.2.2.1).bind fun r => K !r else K (ByteArray.mk (Array.mk []), (0 : Int), (0 : Int), false, [])) fun K => bif x.1 == 1 then K true else bif x.1 == 2 then K true else K (x.1 == 3)) 0 p1 (List.replicate (↑p1.length : Int).toNat (0 : Int)) fun d => (chk ((0 : Int) <= IntKind.i64.wrap ((↑p1.length : Int) - 1) /\ IntKind.i64.wrap ((↑p1.length : Int) - 1) < (↑d.length : Int))).bind fun x => d[(IntKind.i64.wrap ((↑p1.length : Int) - 1)).toNat]?.bind fun x => some (x, (0 : Int))
def c_165 (fu : Nat) : Ct Tryz.prog := .mk' mixA ⟨[c_209 fu, c_210, c_212, c_211, c_213, c_214], []⟩ fu 165 Tryz.f165 [.d Tz1, .d (.list Tz2)] (.many [Tz3, Tz3]) h_165 Tryz.func165 (by kernel_rfl) (fun d => types_Of fu d.1 d.2) (by kernel_rfl)
def h_97 : HT := (.s .n (.s (.j ⟨[0, 3], [3], [(18, .dt .bool)], []⟩ .n .n) (.s .n (.s .n (.s .n (.s .n (.j ⟨[0, 3, 5], [3, 5], [], []⟩ .n (.s .n (.s (.j ⟨[10], [], [(64, .dt .bool)], []⟩ .n .n) .n)))))))))
def body_article (fu : Nat) (p0 : List Yz1) (p1 : ByteArray × ByteArray × List Yz3 × List Yz3 × List Yz5 × Int) : Option (Int) := join (fun d => bif d then some (1 : Int) else bif decide ((↑p1.2.2.2.2.1.length : Int) > 8) then some (2 : Int) else (body_Attr p0 p1.2.1).bind fun r => bif !r.2 then some (4 : Int) else bif r.1.2.2.1 then some (19 : Int) else join (fun d => (types_Of fu p0 p1.2.2.2.1).bind fun r_1 => join (fun d => bif d then some (8 : Int) else some r_1.2) fun K => bif r_1.2 == 0 then K (r_1.1 != r.1.2.1) else K false) fun K => bif decide ((↑p1.2.2.1.length : Int) > 0) then (types_Of fu p0 p1.2.2.1).bind fun r => bif r.2 != 0 then some r.2 else bif r.1 != 1 then some (8 : Int) else K () else K ()) fun K => bif decide (p1.2.2.2.2.2 < 0) then K true else K (decide (p1.2.2.2.2.2 > 9))
def c_97 (fu : Nat) : Ct Tryz.prog := .mk' mixA ⟨[c_104, c_165 fu], []⟩ fu 97 Tryz.f97 [.d Tz1, .d Tz5] (.one Tz3) h_97 Tryz.func97 (by kernel_rfl) (fun d => body_article fu d.1 d.2) (by kernel_rfl)
def h_219 : HT := (.s .n (.s (.j ⟨[], [], [(0, .dt (.list Tz3)), (4, .dt .bool)], []⟩ (.q 0) .n) .n))
def zq48 (p0 : List Int) : Option (List Int) := join (fun d => bif d.2 then some [] else (chk ((0 : Nat) + d.1.length <= LIM)).bind fun x => some d.1) fun K => lcase p0 (K ([], true)) (K ([], false)) fun x xs => K (x :: xs, false)
def c_219 : Ct Tryz.prog := .mk' mixA ⟨[], []⟩ 0 219 Tryz.f219 [.d (.list Tz3)] (.one (.list Tz3)) h_219 Tryz.func219 (by kernel_rfl) (fun d => zq48 d) (by kernel_rfl)
def h_173 : HT := (.s .n (.s .n (.s (.s .n (.l ⟨[6, 7, 8], [], [(3, .wn 19 5)], [(19, .ls Tz2)]⟩ .n)) .n)))
def tree_Copy (p0 : List Yz3) : Option (List Yz3) := forK (fun k x d next => (zq48 x.2.1).bind fun r => (chk (d.length + 1 <= LIM)).bind fun x_1 => next (d ++ [(x.1, r, x.2.2.1, x.2.2.2.1, x.2.2.2.2)])) 0 p0 [] fun d => some d
def c_173 : Ct Tryz.prog := .mk' mixA ⟨[c_219], []⟩ 0 173 Tryz.f173 [.d (.list Tz2)] (.one (.list Tz2)) h_173 Tryz.func173 (by kernel_rfl) (fun d => tree_Copy d) (by kernel_rfl)
def h_174 : HT := (.s .n (.s (.j ⟨[], [], [(0, .dt Tz9), (4, .dt .bool)], []⟩ (.q 0) .n) .n))
def zq47 (p0 : List Yz5) : Option (List Yz5) := join (fun d => bif d.2 then some [] else (chk ((0 : Nat) + d.1.length <= LIM)).bind fun x => some d.1) fun K => lcase p0 (K ([], true)) (K ([], false)) fun x xs => K (x :: xs, false)
def c_174 : Ct Tryz.prog := .mk' mixA ⟨[], []⟩ 0 174 Tryz.f174 [.d Tz9] (.one Tz9) h_174 Tryz.func174 (by kernel_rfl) (fun d => zq47 d) (by kernel_rfl)
def h_114 : HT := .n
def zq45 (p0 : ByteArray × ByteArray × List Yz3 × List Yz3 × List Yz5 × Int) : Option (ByteArray × ByteArray × List Yz3 × List Yz3 × List Yz5 × Int) := (tree_Copy p0.2.2.1).bind fun r => (tree_Copy p0.2.2.2.1).bind fun r_1 => (zq47 p0.2.2.2.2.1).bind fun r_2 => some (p0.1, p0.2.1, r, r_1, r_2, p0.2.2.2.2.2)
def c_114 : Ct Tryz.prog := .mk' mixA ⟨[c_173, c_174], []⟩ 0 114 Tryz.f114 [.d Tz5] (.one Tz5) h_114 Tryz.func114 (by kernel_rfl) (fun d => zq45 d) (by kernel_rfl)
def h_42 : HT := (.s .n (.s (.s .n (.l ⟨[3, 4, 10, 11, 12], [3, 4], [], []⟩ (.s .n (.s .n (.l ⟨[3, 4, 7, 10, 11, 12, 17, 18, 19], [3, 4, 7], [], []⟩ (.s .n (.j ⟨[3, 4, 7, 9, 10, 11, 12, 17, 18, 19], [3, 4, 7, 9], [(34, .dt .bool)], []⟩ .n .n))))))) .n))
def body_Article (p0 : List Yz1) (p1 : ByteArray × ByteArray) : Option ((ByteArray × ByteArray × List Yz3 × List Yz3 × List Yz5 × Int) × Bool) := forK (fun k x d next => forK (fun k x_1 d next => join (fun d => bif d then (zq45 (x_1.1, x_1.2.1, x_1.2.2.1, x_1.2.2.2.1, x_1.2.2.2.2.1, x_1.2.2.2.2.2)).bind fun r => some ((r.1, r.2.1, r.2.2.1, r.2.2.2.1, r.2.2.2.2.1, r.2.2.2.2.2), true) else next ()) fun K => bif x.1.toList == p1.1.toList then K (x_1.1.toList == p1.2.toList) else K false) 0 x.2.2.2.2.2 () fun d => next ()) 0 p0 () fun d => some ((ByteArray.mk (Array.mk []), ByteArray.mk (Array.mk []), [], [], [], (0 : Int)), false)
def c_42 : Ct Tryz.prog := .mk' mixA ⟨[c_114], []⟩ 0 42 Tryz.f42 [.d Tz1, .d Tz4] (.many [Tz5, .bool]) h_42 Tryz.func42 (by kernel_rfl) (fun d => body_Article d.1 d.2) (by kernel_rfl)
def h_48 : HT := (.s .n (.s (.s .n (.l ⟨[0, 3, 6, 7, 8], [3], [], []⟩ .n)) .n))
def zq58 (p0 : List Yz5) (p1 : ByteArray × ByteArray) : Option (Int) := forK (fun k x d next => (idx p0 (↑k : Int)).bind fun y => bif p1.1.toList == y.1.toList && (p1.2.toList == y.2.toList && true) then some (↑k : Int) else next ()) 0 p0 () fun d => some (-1 : Int)
def c_48 : Ct Tryz.prog := .mk' mixA ⟨[], []⟩ 0 48 Tryz.f48 [.d Tz9, .d Tz4] (.one Tz3) h_48 Tryz.func48 (by kernel_rfl) (fun d => zq58 d.1 d.2) (by kernel_rfl)
def h_37 : HT := .n
def zq53 (p0 : List Yz5) (p1 : ByteArray × ByteArray) : Option (Bool) := (zq58 p0 (p1.1, p1.2)).bind fun r => some (decide (r >= 0))
def c_37 : Ct Tryz.prog := .mk' mixA ⟨[c_48], []⟩ 0 37 Tryz.f37 [.d Tz9, .d Tz4] (.one .bool) h_37 Tryz.func37 (by kernel_rfl) (fun d => zq53 d.1 d.2) (by kernel_rfl)
def h_98 : HT := (.s .n (.s (.s .n (.l ⟨[0, 4, 5, 12, 13, 14], [4, 5], [], []⟩ (.s .n (.s .n (.s .n (.c .n (.j ⟨[0, 4, 5, 7, 8, 12, 13, 14], [4, 5, 8], [(28, .dt .bool)], []⟩ .n .n))))))) .n))
def body_over (p0 : List Yz1) (p1 : ByteArray × ByteArray) (p2 : ByteArray × ByteArray × List Yz3 × List Yz3 × List Yz5 × Int) : Option (Int) := forK (fun k x d next => (body_Article p0 (x.1, x.2)).bind fun r => bif !r.2 then some (4 : Int) else join (fun d => bif d then some (19 : Int) else (chk ((0 : Int) <= (↑k : Int) /\ (↑k : Int) <= (↑p2.2.2.2.2.1.length : Int))).bind fun x_1 => (zq53 (List.take (↑k : Int).toNat p2.2.2.2.2.1) (x.1, x.2)).bind fun r => bif r then some (5 : Int) else next ()) fun K => bif x.1.toList == p1.1.toList && (x.2.toList == p1.2.toList && true) then K true else K !r.1.2.1.toList == p2.2.1.toList) 0 p2.2.2.2.2.1 () fun d => some (0 : Int)
def c_98 : Ct Tryz.prog := .mk' mixA ⟨[c_42, c_37], []⟩ 0 98 Tryz.f98 [.d Tz1, .d Tz4, .d Tz5] (.one Tz3) h_98 Tryz.func98 (by kernel_rfl) (fun d => body_over d.1 d.2.1 d.2.2) (by kernel_rfl)
def h_161 : HT := (.s .n (.s .n (.s (.s .n (.w ⟨[0], [2000], [(3, .dt Tz3)], []⟩ (.s .n (.s (.s .n (.c (.s .n (.s (.s .n (.w ⟨[0, 4], [], [(3, .dt Tz3), (5, .dt Tz3)], [(2000, .ls .str)]⟩ (.s .n (.j ⟨[0, 4, 5], [], [(3, .dt Tz3)], [(2000, .ls .str)]⟩ .n .n)))) .n)) .n)) .n)))) .n)))
def zq49 (fu : Nat) (p0 : List ByteArray) : Option Yz6 := bif decide ((↑p0.length : Int) < 2) then some p0 else whK (fun self d => bif decide (d < (↑p0.length : Int)) then (chk ((0 : Int) <= d /\ d < (↑p0.length : Int))).bind fun x => p0[d.toNat]?.bind fun x => (chk ((0 : Int) <= IntKind.i64.wrap (d - 1) /\ IntKind.i64.wrap (d - 1) < (↑p0.length : Int))).bind fun x_1 => p0[(IntKind.i64.wrap (d - 1)).toNat]?.bind fun x_2 => bif x.toList == x_2.toList then (chk ((0 : Int) <= d /\ d <= (↑p0.length : Int))).bind fun x => whK (fun self d_1 => bif decide (d_1.2.1 < (↑(p0.length - d.toNat) : Int)) then join (fun d => self (d.1, IntKind.i64.wrap (d_1.2.1 + 1), d.2)) fun K => (chk ((0 : Int) <= d_1.2.1 /\ d_1.2.1 < (↑(p0.length - d.toNat) : Int))).bind fun x => d_1.2.2[d.toNat + d_1.2.1.toNat]?.bind fun x => (chk ((0 : Int) <= IntKind.i64.wrap (d_1.2.1 - 1) /\ IntKind.i64.wrap (d_1.2.1 - 1) < (↑(p0.length - d.toNat) : Int))).bind fun x_3 => d_1.2.2[d.toNat + (IntKind.i64.wrap (d_1.2.1 - 1)).toNat]?.bind fun x_4 => bif !x.toList == x_4.toList then (chk ((0 : Int) <= d_1.2.1 /\ d_1.2.1 < (↑(p0.length - d.toNat) : Int))).bind fun x => d_1.2.2[d.toNat + d_1.2.1.toNat]?.bind fun x => (chk ((0 : Int) <= d_1.1 /\ d_1.1 < (↑d_1.2.2.length : Int))).bind fun x_5 => (chk (d_1.1.toNat < d_1.2.2.length)).bind fun x_6 => K (IntKind.i64.wrap (d_1.1 + 1), d_1.2.2.set d_1.1.toNat x) else K (d_1.1, d_1.2.2) else (chk ((0 : Int) <= d_1.1 /\ d_1.1 <= (↑d_1.2.2.length : Int))).bind fun x => (chk (d_1.1.toNat + (d_1.2.2.length - d_1.1.toNat) <= d_1.2.2.length)).bind fun x => (chk ((0 : Int) <= d_1.1 /\ d_1.1 <= (↑(List.take d_1.1.toNat d_1.2.2 ++ (List.replicate (d_1.2.2.length - d_1.1.toNat) (ByteArray.mk (Array.mk (@List.nil UInt8))) ++ List.drop (d_1.1.toNat + (List.replicate (d_1.2.2.length - d_1.1.toNat) (ByteArray.mk (Array.mk (@List.nil UInt8)))).length) d_1.2.2)).length : Int))).bind fun x => (chk (d_1.1.toNat - 0 <= (List.take d_1.1.toNat d_1.2.2 ++ (List.replicate (d_1.2.2.length - d_1.1.toNat) (ByteArray.mk (Array.mk (@List.nil UInt8))) ++ List.drop (d_1.1.toNat + (List.replicate (d_1.2.2.length - d_1.1.toNat) (ByteArray.mk (Array.mk (@List.nil UInt8)))).length) d_1.2.2)).length)).bind fun x => some (List.take (d_1.1.toNat - 0) (List.take d_1.1.toNat d_1.2.2 ++ (List.replicate (d_1.2.2.length - d_1.1.toNat) (ByteArray.mk (Array.mk (@List.nil UInt8))) ++ List.drop (d_1.1.toNat + (List.replicate (d_1.2.2.length - d_1.1.toNat) (ByteArray.mk (Array.mk (@List.nil UInt8)))).length) d_1.2.2)))) fu (d, (1 : Int), p0) else self (IntKind.i64.wrap (d + 1)) else some p0) fu (1 : Int)
def o_161 (fu : Nat) : Ow Tryz.prog := .mk' mixA ⟨[], []⟩ fu 161 Tryz.f161 [.wn 2000 1] [(2000, .ls .str)] [.wn 2000 1] [(2000, .ls .str)] [] h_161 Tryz.func161 (by kernel_rfl) (by kernel_rfl) (fun d => zq49 fu d) (by kernel_rfl)
def h_160 : HT := (.s .n (.s .n (.s (.s .n (.l ⟨[8, 9, 10], [], [(4, .wn 24 1), (5, .wn 31 1)], [(24, .ls .str), (31, .ls .str)]⟩ (.s .n (.s .n (.j ⟨[4, 5, 7, 8, 9, 10, 15], [7, 24, 31], [(16, .dt .bool)], []⟩ .n .n))))) .n)))
def tree_Names (fu : Nat) (p0 : List Yz3) : Option (List ByteArray × List ByteArray) := forK (fun k x d next => join (fun d_1 => bif d_1 then (chk (d.1.length + 1 <= LIM)).bind fun x_1 => next (d.1 ++ [x.2.2.2.2], d.2) else bif x.1 == 16 then (chk (d.2.length + 1 <= LIM)).bind fun x_1 => next (d.1, d.2 ++ [x.2.2.2.2]) else next (d.1, d.2)) fun K => bif x.1 == 1 then K true else bif x.1 == 2 then K true else K (x.1 == 3)) 0 p0 ([], []) fun d => ((chk (d.1.length <= LIM)).bind fun x => some (List.map (fun b => ByteArray.mk b.toArray) ((List.map ByteArray.toList d.1).mergeSort fun x y => decide (x <= y)))).bind fun r => (chk (r.length = d.1.length)).bind fun x => ((chk (d.2.length <= LIM)).bind fun x => some (List.map (fun b => ByteArray.mk b.toArray) ((List.map ByteArray.toList d.2).mergeSort fun x y => decide (x <= y)))).bind fun r_1 => (chk (r_1.length = d.2.length)).bind fun x => (zq49 fu r).bind fun r => (zq49 fu r_1).bind fun r_2 => some (r, r_2)
def c_160 (fu : Nat) : Ct Tryz.prog := .mk' mixA ⟨[], [o_89, o_161 fu]⟩ fu 160 Tryz.f160 [.d (.list Tz2)] (.many [Tz8, Tz8]) h_160 Tryz.func160 (by kernel_rfl) (fun d => tree_Names fu d) (by kernel_rfl)
def h_101 : HT := (.s .n (.s .n (.s (.s .n (.l ⟨[3, 13, 14, 15], [], [], [(12, .nm .str Tz8)]⟩ (.s .n (.s .n (.l ⟨[3, 13, 14, 15, 20, 21, 22], [], [], [(12, .nm .str Tz8)]⟩ (.s .n (.s .n (.s .n (.ga [.bm 12 962 (.mem 7 1)] [.rm 12 962]))))))))) .n)))
def body_looks (fu : Nat) (p0 : List Yz1) : Option (List Yz4) := forK (fun k x d next => forK (fun k x d next => (tree_Names fu x.2.2.1).bind fun r => (tree_Names fu x.2.2.2.1).bind fun r_1 => (chk (Ty.str.beq x.2.1 x.2.1 = true /\ ((mget Ty.str.beq x.2.1 d).isSome = true \/ ((mget Ty.str.beq x.2.1 d).getD []).length = 0))).bind fun x_1 => (chk (((mget Ty.str.beq x.2.1 d).getD []).length + r.1.length <= LIM)).bind fun x_2 => (chk (((mget Ty.str.beq x.2.1 d).getD [] ++ r.1).length + r_1.1.length <= LIM)).bind fun x_3 => (chk (Ty.str.beq x.2.1 x.2.1 = true /\ d.length + 1 <= LIM)).bind fun x_4 => next (mset Ty.str.beq x.2.1 ((mget Ty.str.beq x.2.1 d).getD [] ++ r.1 ++ r_1.1) d)) 0 x.2.2.2.2.2 d fun d => next d) 0 p0 [] fun d => some d
def c_101 (fu : Nat) : Ct Tryz.prog := .mk' mixA ⟨[c_160 fu], []⟩ fu 101 Tryz.f101 [.d Tz1] (.one Tz10) h_101 Tryz.func101 (by kernel_rfl) (fun d => body_looks fu d) (by kernel_rfl)
def h_100 : HT := .n
def body_Check_1 (p0 : ByteArray × ByteArray) (c0_0 : List Yz2) : Option (List Yz5 × List Yz2) := some ((mget (Ty.str.pair Ty.str).beq (p0.1, p0.2) c0_0).getD [], c0_0)
def o_100 : Ow Tryz.prog := .mk' mixA ⟨[], []⟩ 0 100 Tryz.f100 [.dt Tz4, .pt 2001 1 0] [(2001, .el true 1 [.dt (.map Tz4 Tz9)])] [.dt Tz9] [(2001, .el true 1 [.dt (.map Tz4 Tz9)])] [] h_100 Tryz.func100 (by kernel_rfl) (by kernel_rfl) (fun d => body_Check_1 d.1 d.2) (by kernel_rfl)
def h_103 : HT := .n
def body_Check_2 (p0 : ByteArray) (c0_0 : List Yz4) : Option (List ByteArray × List Yz4) := some ((mget Ty.str.beq p0 c0_0).getD [], c0_0)
def o_103 : Ow Tryz.prog := .mk' mixA ⟨[], []⟩ 0 103 Tryz.f103 [.dt .str, .pt 2001 1 0] [(2001, .el true 1 [.dt Tz10])] [.dt Tz8] [(2001, .el true 1 [.dt Tz10])] [] h_103 Tryz.func103 (by kernel_rfl) (by kernel_rfl) (fun d => body_Check_2 d.1 d.2) (by kernel_rfl)
def h_23 : HT := (.s .n (.s .n (.s .n (.s .n (.s .n (.s (.s .n (.l ⟨[0, 5, 34, 35, 36], [5], [(6, .wn 71 2)], [(33, .mp Tz4 Tz9), (71, .ls Tz4)]⟩ (.s .n (.s .n (.s .n (.l ⟨[0, 5, 8, 9, 34, 35, 36, 42, 43, 44], [5, 8], [(6, .wn 71 2)], [(33, .mp Tz4 Tz9), (71, .ls Tz4), (40, .mp .str .bool)]⟩ .n)))))) (.s (.s .n (.l ⟨[0, 5, 6, 76, 77, 78], [5, 33, 71], [], []⟩ (.s .n (.s .n (.l ⟨[0, 5, 6, 16, 76, 77, 78, 83, 84, 85], [16, 5, 33, 71], [], []⟩ .n))))) (.s .n (.s .n (.s .n (.s (.m ⟨[20, 108], [20], [(21, .wn 116 1)], [(116, .ls .str)]⟩ [] .n) .n)))))))))))
def body_Check (fu : Nat) (p0 : List Yz1) : Option (Int) := (body_limits p0).bind fun r => bif r != 0 then some r else (body_parts fu p0).bind fun r => bif r != 0 then some r else forK (fun k x d next => forK (fun k x_1 d next => ((word_Name fu x_1.1).bind fun r => bif !r then some ((15 : Int), d.2.2) else bif (mget Ty.str.beq x_1.1 d.2.2).getD false then some ((5 : Int), d.2.2) else (chk (d.2.2.length + 1 <= LIM)).bind fun x => some ((0 : Int), mset Ty.str.beq x_1.1 true d.2.2)).bind fun r => bif r.1 != 0 then some r.1 else (body_article fu p0 (x_1.1, x_1.2.1, x_1.2.2.1, x_1.2.2.2.1, x_1.2.2.2.2.1, x_1.2.2.2.2.2)).bind fun r_1 => bif r_1 != 0 then some r_1 else (chk (d.2.1.length + 1 <= LIM)).bind fun x_2 => (chk (d.1.length + 1 <= LIM)).bind fun x_3 => next (mset (Ty.str.pair Ty.str).beq (x.1, x_1.1) x_1.2.2.2.2.1 d.1, d.2.1 ++ [(x.1, x_1.1)], r.2)) 0 x.2.2.2.2.2 (d.1, d.2, []) fun d => next (d.1, d.2.1)) 0 p0 ([], []) fun d => forK (fun k x d next => forK (fun k x_1 d next => (body_over p0 (x.1, x_1.1) (x_1.1, x_1.2.1, x_1.2.2.1, x_1.2.2.2.1, x_1.2.2.2.2.1, x_1.2.2.2.2.2)).bind fun r => bif r != 0 then some r else next ()) 0 x.2.2.2.2.2 () fun d => next ()) 0 p0 () fun d_1 => (circle_Ref fu d.2 d.1).bind fun r => bif r.1 then some (10 : Int) else (body_looks fu p0).bind fun r => allR (A := Nat) fun rb => anyK (fun x d next => (chk (d.length + 1 <= LIM)).bind fun x_1 => next (d ++ [x.1])) r [] fun d => (zq7 fu d r).bind fun r => bif r.1 then some (10 : Int) else some (0 : Int)
def c_23 (fu : Nat) : Ct Tryz.prog := .mk' mixA ⟨[c_94, c_95 fu, c_97 fu, c_98, c_101 fu], [o_96 fu, o_99_100l0 fu, o_102_103l0 fu, o_100, o_103]⟩ fu 23 Tryz.f23 [.d Tz1] (.one Tz3) h_23 Tryz.func23 (by kernel_rfl) (fun d => body_Check fu d) (by kernel_rfl)
def h_27 : HT := (.s .n (.s .n (.s (.s .n (.l ⟨[9, 10, 11], [], [(3, .wn 903 7)], [(903, .ls Tz7)]⟩ (.s .n (.s .n (.l ⟨[9, 10, 11, 16, 17, 18], [], [(3, .wn 903 7)], [(903, .ls Tz7)]⟩ (.s .n (.s .n (.s (.w ⟨[3, 7, 9, 10, 11, 16, 17, 18], [7, 903], [(8, .dt Tz3)], []⟩ (.s (.j ⟨[3, 7, 8, 9, 10, 11, 16, 17, 18], [7, 903], [(36, .dt .bool)], []⟩ .n .n) .n)) .n)))))))) .n)))
def zq32 (fu : Nat) (p0 : List Yz1) : Option (List (ByteArray × Int × Bool × Int × Int × Int × Int)) := forK (fun k x d next => forK (fun k x d next => whK (fun self d_1 => join (fun d_2 => bif d_2 then self (IntKind.i64.wrap (d_1 - 1)) else ((chk ((0 : Int) <= d_1 /\ d_1 <= (↑d.length : Int) /\ (1 : Nat) ≠ (0 : Nat) /\ d.length + 1 <= LIM)).bind fun x_1 => some (List.take d_1.toNat d ++ [(x.1, x.2.1, x.2.2.1, x.2.2.2.1, x.2.2.2.2.1, x.2.2.2.2.2.1, x.2.2.2.2.2.2)] ++ List.drop d_1.toNat d, [(x.1, x.2.1, x.2.2.1, x.2.2.2.1, x.2.2.2.2.1, x.2.2.2.2.2.1, x.2.2.2.2.2.2)])).bind fun r => (chk (r.2.length = 1)).bind fun x => next r.1) fun K => bif decide (d_1 > 0) then (chk ((0 : Int) <= IntKind.i64.wrap (d_1 - 1) /\ IntKind.i64.wrap (d_1 - 1) < (↑d.length : Int))).bind fun x_1 => d[(IntKind.i64.wrap (d_1 - 1)).toNat]?.bind fun x_2 => K !(Op.bytesLess x_2.1.toList x.1.toList || x_2.1.toList == x.1.toList) else K false) fu (↑d.length : Int)) 0 x.2.2.2.1 d fun d => next d) 0 p0 [] fun d => some d
def c_27 (fu : Nat) : Ct Tryz.prog := .mk' mixA ⟨[], [o_106w0]⟩ fu 27 Tryz.f27 [.d Tz1] (.one (.list Tz7)) h_27 Tryz.func27 (by kernel_rfl) (fun d => zq32 fu d) (by kernel_rfl)
end
end Go.Proofs.YtgpioploehgpdaaGreat
namespace Go.PG
inductive Ctl (σ ρ : Type) where
 | nx (s : σ) | bk (s : σ) | rt (r : ρ)
end Go.PG
namespace Go.PG
theorem wrap64 {x : Int} (h : -9223372036854775808 <= x) (h' : x <= 9223372036854775807) : IntKind.i64.wrap x = x := by
 simp [IntKind.wrap, IntKind.signed, IntKind.bits];omega
end Go.PG
set_option linter.unusedVariables false
namespace Go.PG
open Go.PG.PH
def Ctl.out {σ ρ S R : Type} (g : σ -> S) (next K : S -> Option R) (F : ρ -> Option R) : Ctl σ ρ -> Option R
 | .nx s => next (g s)
 | .bk s => K (g s)
 | .rt r => F r
theorem idx_nat {α : Type} (l : List α) (k : Nat) : idx l (k : Int) = l[k]? := by unfold idx; simp
theorem idx_at {α : Type} {l : List α} {i : Int} {x : α} (h : idx l i = some x) : 0 <= i /\ i.toNat < l.length /\ l[i.toNat]? = some x := by
 unfold idx at h;split at h
 ·rename_i hi; exact ⟨hi, (List.getElem?_eq_some_iff.1 h).1, h⟩
 ·cases h
theorem chk_eq {p : Prop} [Decidable p] (h : p) : chk p = some () := by unfold chk; rw [if_pos h]
end Go.PG
set_option linter.unusedVariables false
namespace Go.PG.PH
def Sm {R : Type} (Q : R -> Prop) (f : Option R) : Prop := ∃ r, f = some r /\ Q r
class Tot {R : Type} (f : Option R) (P : outParam (R -> Prop)) : Prop where
 h : Sm P f
section
variable {A B R S α : Type} {Q : R -> Prop}
theorem Sm.some {r : R} (h : Q r) : Sm Q (Option.some r) := ⟨r, rfl, h⟩
theorem Sm.weak {Q' : R -> Prop} {f : Option R} (h : Sm Q f) (hq : ∀ r, Q r -> Q' r) : Sm Q' f := by
 obtain ⟨r, h1, h2⟩ := h;exact ⟨r, h1, hq r h2⟩
theorem Sm.any {f : Option R} (h : Sm Q f) : Sm (fun _ => True) f := h.weak fun _ _ => trivial
theorem Sm.bind {P : A -> Prop} {f : Option A} {g : A -> Option R} (hf : Sm P f) (hg : ∀ a, P a -> Sm Q (g a)) : Sm Q (f.bind g) := by
 obtain ⟨a, rfl, ha⟩ := hf;exact hg a ha
theorem Sm.bindT {P : A -> Prop} {f : Option A} {g : A -> Option R} [t : Tot f P] (hg : ∀ a, P a -> Sm Q (g a)) : Sm Q (f.bind g) := Sm.bind t.h hg
theorem Sm.chk {p : Prop} [Decidable p] {g : Unit -> Option R} (hp : p) (hg : Sm Q (g ())) : Sm Q ((PG.chk p).bind g) := by
 unfold PG.chk; rw [if_pos hp]; exact hg
theorem Sm.idx {l : List α} {i : Int} {g : α -> Option R} (h0 : 0 <= i) (h1 : i.toNat < l.length) (hg : ∀ x, l[i.toNat]? = Option.some x -> Sm Q (g x)) : Sm Q ((PG.idx l i).bind g) := by
 unfold PG.idx; rw [if_pos h0, List.getElem?_eq_getElem h1]; exact hg _ (List.getElem?_eq_getElem h1)
theorem Sm.get {l : List α} {i : Nat} {g : α -> Option R} (h1 : i < l.length) (hg : ∀ x, l[i]? = Option.some x -> Sm Q (g x)) : Sm Q ((l[i]?).bind g) := by
 rw [List.getElem?_eq_getElem h1]; exact hg _ (List.getElem?_eq_getElem h1)
theorem Sm.cond {b : Bool} {f g : Option R} (h1 : b = true -> Sm Q f) (h2 : b = false -> Sm Q g) : Sm Q (bif b then f else g) := by
 cases b with
 | true => exact h1 rfl
 | false => exact h2 rfl
theorem Sm.join (I : S -> Prop) {rest : S -> Option R} {body : (S -> Option R) -> Option R} (hr : ∀ d, I d -> Sm Q (rest d)) (hb : ∀ K : S -> Option R, (∀ d, I d -> Sm Q (K d)) -> Sm Q (body K)) : Sm Q (PH.join rest body) := hb rest hr
theorem Sm.joinT {rest : S -> Option R} {body : (S -> Option R) -> Option R} (hr : ∀ d, Sm Q (rest d)) (hb : ∀ K : S -> Option R, (∀ d, Sm Q (K d)) -> Sm Q (body K)) : Sm Q (PH.join rest body) := hb rest hr
theorem Sm.ap {K : S -> Option R} (h : ∀ d, Sm Q (K d)) (d : S) : Sm Q (K d) := h d
theorem Sm.allR [Inhabited A] {f : Option R} (h : Sm Q f) : Sm Q (PH.allR fun _ : A => f) := by
 rw [allR_same]; exact h
theorem Sm.lcase {l : List α} {a : Option R} {c : α -> List α -> Option R} (h1 : l = [] -> Sm Q a) (h2 : ∀ x xs, l = x :: xs -> Sm Q (c x xs)) : Sm Q (PH.lcase l a a c) := by
 cases l with
 | nil =>
  obtain ⟨r, hr, hq⟩ := h1 rfl;exact ⟨r, by simp only [PH.lcase]; rw [both_same]; exact hr, hq⟩
 | cons x xs => exact h2 x xs rfl
theorem Sm.forK {body : Nat -> α -> S -> (S -> Option R) -> Option R} {K : S -> Option R} (I : Nat -> S -> Prop) : ∀ (l : List α) (k : Nat) (s : S), I k s ->
  (∀ (i : Nat) (x : α) (s : S) (K : S -> Option R), k <= i -> l[i - k]? = Option.some x -> I i s -> (∀ s', I (i + 1) s' -> Sm Q (K s')) -> Sm Q (body i x s K)) ->
  (∀ s, I (k + l.length) s -> Sm Q (K s)) -> Sm Q (PH.forK body k l s K)
 | [], k, s, hI, _, hK => hK s hI
 | x :: xs, k, s, hI, hb, hK => by
  refine hb k x s _ (Nat.le_refl _) (by simp) hI fun s' hs' => ?_
  refine Sm.forK I xs (k + 1) s' hs' (fun i y s K hi hy => hb i y s K (by omega) ?_) (fun s hs => hK s (by rw [List.length_cons]; rw [show k + (xs.length + 1) = k + 1 + xs.length by omega]; exact hs));rw [show i - k = (i - (k + 1)) + 1 by omega]; simpa using hy
theorem Sm.for0 {body : Nat -> α -> S -> (S -> Option R) -> Option R} {K : S -> Option R} (I : Nat -> S -> Prop) {l : List α} {s : S} (h0 : I 0 s)
  (hb : ∀ (i : Nat) (x : α) (s : S) (K : S -> Option R), i < l.length -> l[i]? = Option.some x -> I i s -> (∀ s', I (i + 1) s' -> Sm Q (K s')) -> Sm Q (body i x s K))
  (hK : ∀ s, I l.length s -> Sm Q (K s)) : Sm Q (PH.forK body 0 l s K) :=
 Sm.forK I l 0 s h0 (fun i x s K _ hx => hb i x s K (List.getElem?_eq_some_iff.1 hx).1 hx) (fun s hs => hK s (by simpa using hs))
theorem Sm.forT {body : Nat -> α -> S -> (S -> Option R) -> Option R} {K : S -> Option R} {l : List α} {s : S}
  (hb : ∀ (i : Nat) (x : α) (s : S) (K : S -> Option R), i < l.length -> l[i]? = Option.some x -> (∀ s', Sm Q (K s')) -> Sm Q (body i x s K))
  (hK : ∀ s, Sm Q (K s)) : Sm Q (PH.forK body 0 l s K) :=
 Sm.for0 (fun _ _ => True) trivial (fun i x s K hi hx _ h => hb i x s K hi hx fun s' => h s' trivial) fun s _ => hK s
theorem Sm.cntK {body : Nat -> S -> (S -> Option R) -> Option R} {K : S -> Option R} (I : Nat -> S -> Prop) : ∀ (m k : Nat) (s : S), I k s ->
  (∀ (i : Nat) (s : S) (K : S -> Option R), k <= i -> i < k + m -> I i s -> (∀ s', I (i + 1) s' -> Sm Q (K s')) -> Sm Q (body i s K)) ->
  (∀ s, I (k + m) s -> Sm Q (K s)) -> Sm Q (PH.cntK body k m s K)
 | 0, k, s, hI, _, hK => hK s hI
 | m + 1, k, s, hI, hb, hK => by
  refine hb k s _ (Nat.le_refl _) (by omega) hI fun s' hs' => ?_
  exact Sm.cntK I m (k + 1) s' hs' (fun i s K hi hm => hb i s K (by omega) (by omega)) (fun s hs => hK s (by rw [show k + (m + 1) = k + 1 + m by omega]; exact hs))
theorem Sm.cntT {body : Nat -> S -> (S -> Option R) -> Option R} {K : S -> Option R} {m : Nat} {s : S}
  (hb : ∀ (i : Nat) (s : S) (K : S -> Option R), i < m -> (∀ s', Sm Q (K s')) -> Sm Q (body i s K)) (hK : ∀ s, Sm Q (K s)) : Sm Q (PH.cntK body 0 m s K) :=
 Sm.cntK (fun _ _ => True) m 0 s trivial (fun i s K _ hi _ h => hb i s K (by omega) fun s' => h s' trivial) fun s _ => hK s
theorem Sm.whK {body : (S -> Option R) -> S -> Option R} (I : S -> Prop) (μ : S -> Nat)
  (hb : ∀ (s : S) (self : S -> Option R), I s -> (∀ s', I s' -> μ s' < μ s -> Sm Q (self s')) -> Sm Q (body self s)) :
  ∀ (n : Nat) (s : S), I s -> μ s < n -> Sm Q (PH.whK body n s)
 | 0, s, _, h => by omega
 | n + 1, s, hI, h => hb s _ hI fun s' h' hlt => Sm.whK I μ hb n s' h' (by omega)
end
theorem Sm.anyN {α S R : Type} {body : α -> S -> (S -> Option R) -> Option R} {m : List α} {K : S -> Option R} {r : R} (P : List α -> S -> Prop)
  (hb : ∀ (done : List α) (x : α) (s : S) (K' : S -> Option R), x ∈ m -> done.length < m.length -> P done s -> (∀ s', P (done ++ [x]) s' -> K' s' = Option.some r) -> body x s K' = Option.some r) :
  ∀ (n : Nat) (rem : List Nat) (done : List α) (s : S), rem.length = n -> (∀ i ∈ rem, i < m.length) -> rem.Nodup -> (done ++ rem.filterMap (fun i => m[i]?)).Perm m -> P done s -> (∀ done s, done.Perm m -> P done s -> K s = Option.some r) ->
   PH.anyN body m n rem s K = Option.some r
 | 0, rem, done, s, hn, hr, hnd, hp, hP, hK => by
  have : rem = [] := List.eq_nil_of_length_eq_zero hn;subst this;simp only [List.filterMap_nil, List.append_nil] at hp;exact hK done s hp hP
 | n + 1, rem, done, s, hn, hr, hnd, hp, hP, hK => by
  have main : ∀ i ∈ rem, ∀ x, m[i]? = Option.some x -> body x s (fun s' => PH.anyN body m n (rem.erase i) s' K) = Option.some r := by
   intro i hi x hx;have hl : done.length < m.length := by
    have h1 := hp.length_eq;have h2 : 0 < (rem.filterMap (fun i => m[i]?)).length := List.length_pos_iff.2 (by
     intro e;have : x ∈ rem.filterMap (fun i => m[i]?) := List.mem_filterMap.2 ⟨i, hi, hx⟩;rw [e] at this;cases this)
    rw [List.length_append] at h1;omega
   refine hb done x s _ (List.mem_of_getElem? hx) hl hP fun s' hs' => ?_
   refine Sm.anyN P hb n (rem.erase i) (done ++ [x]) s' (by rw [List.length_erase_of_mem hi, hn]; rfl) (fun j hj => hr j (List.mem_of_mem_erase hj)) (hnd.erase i) ?_ hs' hK;have h1 : (i :: rem.erase i).Perm rem := (List.perm_cons_erase hi).symm;have h2 := (h1.filterMap (fun i => m[i]?)).append_left done;rw [List.filterMap_cons, hx] at h2;simp only at h2;rw [List.append_assoc];exact h2.trans hp
  have hne : rem ≠ [] := by intro e; rw [e] at hn; simp at hn
  obtain ⟨i, hi⟩ := List.exists_mem_of_ne_nil rem hne;have hlt := hr i hi;unfold PH.anyN;have hex : ∃ r, ∀ i ∈ rem, ∀ x, m[i]? = Option.some x -> body x s (fun s' => PH.anyN body m n (rem.erase i) s' K) = Option.some r := ⟨r, main⟩;rw [dif_pos hex];have h1 := hex.choose_spec i hi _ (List.getElem?_eq_getElem hlt);have h2 := main i hi _ (List.getElem?_eq_getElem hlt);rw [h1] at h2;exact h2
theorem range_getElem? {α : Type} (m : List α) : (List.range m.length).filterMap (fun i => m[i]?) = m := by
 apply List.ext_getElem?;intro i;have key : ∀ (l : List α) (k : Nat) (p : List α), p ++ l = m -> k = p.length -> (List.range' k l.length).filterMap (fun i => m[i]?) = l := by
  intro l;induction l with
  | nil => intros; rfl
  | cons a l ih =>
   intro k p hp hk;rw [List.length_cons, List.range'_succ, List.filterMap_cons];have : m[k]? = Option.some a := by rw [<- hp, hk]; simp
   rw [this];simp only;rw [ih (k + 1) (p ++ [a]) (by simpa using hp) (by simp [hk])]
 rw [List.range_eq_range', key m 0 [] rfl rfl]
theorem Sm.anyK {α S R : Type} {Q : R -> Prop} {body : α -> S -> (S -> Option R) -> Option R} {m : List α} {s : S} {K : S -> Option R} (P : List α -> S -> Prop) (r : R) (hq : Q r)
  (hb : ∀ (done : List α) (x : α) (s : S) (K' : S -> Option R), x ∈ m -> done.length < m.length -> P done s -> (∀ s', P (done ++ [x]) s' -> K' s' = Option.some r) -> body x s K' = Option.some r)
  (hs : P [] s) (hK : ∀ done s, done.Perm m -> P done s -> K s = Option.some r) : Sm Q (PH.anyK body m s K) := by
 refine ⟨r, ?_, hq⟩
 unfold PH.anyK
 refine Sm.anyN P hb _ _ [] s (by simp) (fun i hi => by simpa using hi) List.nodup_range ?_ hs hK
 rw [List.nil_append, range_getElem?]
def vsum {K V : Type} (d : List (K × List V)) : Nat := (d.map fun p => p.2.length).sum
theorem vsum_set {K V : Type} (eq : K -> K -> Bool) (x : K) (v : List V) : ∀ d : List (K × List V), vsum (mset eq x v d) + ((mget eq x d).getD []).length = vsum d + v.length
 | [] => by simp [mset, mget, vsum]
 | (a, b) :: r => by
  have ih := vsum_set eq x v r;simp only [mset, mget];cases e : eq x a with
  | true => simp only [vsum, List.map_cons, List.sum_cons, Option.getD_some]; omega
  | false =>
   simp only [vsum, List.map_cons, List.sum_cons] at ih ⊢;omega
theorem mget_mem {K V : Type} {eq : K -> K -> Bool} {x : K} {v : V} : ∀ {d : List (K × V)}, mget eq x d = some v -> ∃ a, (a, v) ∈ d
 | (a, b) :: r, h => by
  simp only [mget] at h;split at h
  ·cases h; exact ⟨a, by simp⟩
  ·obtain ⟨a', h'⟩ := mget_mem h;exact ⟨a', by simp [h']⟩
 | [], h => by cases h
theorem vsum_flat {K V : Type} : ∀ d : List (K × List V), (d.flatMap (·.2)).length = vsum d
 | [] => rfl
 | (a, b) :: r => by
  have := vsum_flat r;simp only [List.flatMap_cons, List.length_append, this];simp [vsum]
theorem mset_le {K V : Type} {eq : K -> K -> Bool} (x : K) (v : V) : ∀ d : List (K × V), (mset eq x v d).length <= d.length + 1
 | [] => by simp [mset]
 | (a, b) :: r => by
  have := mset_le (eq := eq) x v r;simp only [mset];split <;> simp only [List.length_cons] <;> omega
abbrev q0 := @Sm.some
abbrev q1 := @Sm.bindT
abbrev q2 := @Sm.cond
abbrev q3 := @Sm.joinT
abbrev q4 := @Sm.ap
abbrev q5 := @Sm.chk
abbrev q6 := @Sm.allR
abbrev q7 := @Sm.forT
abbrev q8 := @Sm.cntT
abbrev q9 := @Sm.lcase
end Go.PG.PH
set_option linter.unusedVariables false
set_option linter.unusedSimpArgs false
namespace Go.PG.PH
section
variable {K V : Type} [DecidableEq K] {eq : K -> K -> Bool} (he : ∀ a b, eq a b = true ↔ a = b)
theorem mget_set (he : ∀ a b, eq a b = true ↔ a = b) (x y : K) (v : V) : ∀ l : List (K × V), mget eq y (mset eq x v l) = if y = x then some v else mget eq y l
 | [] => by
  simp only [mset, mget];by_cases h : y = x
  ·subst h; rw [(he y y).2 rfl]; simp
  ·cases e : eq y x with
   | true => exact absurd ((he _ _).1 e) h
   | false => simp [h]
 | (a, b) :: r => by
  simp only [mset];cases e : eq x a with
  | true =>
   have := (he _ _).1 e; subst this;simp only [mget];by_cases h : y = x
   ·subst h; rw [e]; simp
   ·cases e2 : eq y x with
    | true => exact absurd ((he _ _).1 e2) h
    | false => simp [h]
  | false =>
   simp only [mget, mget_set he x y v r];cases e2 : eq y a with
   | true =>
    have := (he _ _).1 e2; subst this;have : ¬ y = x := fun h => by subst h; rw [(he y y).2 rfl] at e; cases e
    simp [this]
   | false => simp only []
theorem mset_len (he : ∀ a b, eq a b = true ↔ a = b) (x : K) (v : V) : ∀ l : List (K × V), (mset eq x v l).length = if (mget eq x l).isSome then l.length else l.length + 1
 | [] => by simp [mset, mget]
 | (a, b) :: r => by
  by_cases e : eq x a = true
  ·simp only [mset, mget, e]; simp
  ·have e' : eq x a = false := by simpa using e
   simp only [mset, mget, e', List.length_cons, mset_len he x v r];split <;> rfl
end
section
variable {K : Type} [DecidableEq K] {eq : K -> K -> Bool} (he : ∀ a b, eq a b = true ↔ a = b) (nx : K -> List K)
def gst (eq : K -> K -> Bool) (st : List (K × Int)) (y : K) : Int := (mget eq y st).getD 0
inductive Acy (nx : K -> List K) : K -> Prop
 | mk {y} (h : ∀ z ∈ nx y, Acy nx z) : Acy nx y
inductive Lead (nx : K -> List K) : K -> K -> Prop
 | one {x y} (h : y ∈ nx x) : Lead nx x y
 | more {x y z} (h : Lead nx x y) (h' : z ∈ nx y) : Lead nx x z
theorem Lead.trans {nx : K -> List K} {x y z : K} (h : Lead nx x y) (h' : Lead nx y z) : Lead nx x z := by
 induction h' with
 | one h1 => exact .more h h1
 | more _ h1 ih => exact .more ih h1
theorem Acy.next {nx : K -> List K} {y z : K} (h : Acy nx y) (hz : z ∈ nx y) : Acy nx z := by
 cases h with
 | mk h => exact h z hz
theorem acy_irrefl {nx : K -> List K} {x : K} (h : Acy nx x) : ¬ Lead nx x x := by
 induction h with
 | @mk y hy ih =>
  intro hl;have key : ∀ {a b : K}, Lead nx a b -> ∃ c ∈ nx a, c = b \/ Lead nx c b := by
   intro a b h;induction h with
   | one h1 => exact ⟨_, h1, .inl rfl⟩
   | @more b c _ h1 ih =>
    obtain ⟨d, hd, h2⟩ := ih;refine ⟨d, hd, .inr ?_⟩;rcases h2 with rfl | h2
    ·exact .one h1
    ·exact .more h2 h1
  obtain ⟨c, hc, h⟩ := key hl;rcases h with rfl | h
  ·exact ih c hc hl
  ·exact ih c hc (h.trans (.one hc))
def whites (eq : K -> K -> Bool) (U : List K) (st : List (K × Int)) : Nat := (U.filter fun u => decide (gst eq st u = 0)).length
theorem whites_set (he : ∀ a b, eq a b = true ↔ a = b) {U : List K} {st : List (K × Int)} {x : K} (v : Int) (hv : v ≠ 0) (hx : x ∈ U) (h0 : gst eq st x = 0) : whites eq U (mset eq x v st) < whites eq U st := by
 unfold whites;have e : ∀ u, gst eq (mset eq x v st) u = if u = x then v else gst eq st u := fun u => by
  unfold gst; rw [mget_set he]; split <;> rfl
 have le : ∀ l : List K, (l.filter fun u => decide (gst eq (mset eq x v st) u = 0)).length <= (l.filter fun u => decide (gst eq st u = 0)).length := by
  intro l;induction l with
  | nil => simp
  | cons a l ih =>
   simp only [List.filter_cons, e];by_cases ha : a = x
   ·subst ha; simp only [if_true, hv, decide_false, Bool.false_eq_true, if_false];split
    ·simp; have := ih; simp only [e] at this; omega
    ·have := ih; simp only [e] at this; exact this
   ·simp only [ha, if_false];split
    ·simp; have := ih; simp only [e] at this; exact this
    ·have := ih; simp only [e] at this; exact this
 have main : ∀ l : List K, x ∈ l -> (l.filter fun u => decide (gst eq (mset eq x v st) u = 0)).length < (l.filter fun u => decide (gst eq st u = 0)).length := by
  intro l;induction l with
  | nil => intro h; cases h
  | cons a l ih =>
   intro h;by_cases ha : a = x
   ·subst ha;have := le l;simp only [List.filter_cons, e, if_true, hv, decide_false, Bool.false_eq_true, if_false, h0, decide_true, List.length_cons];simp only [e] at this;omega
   ·have hm : x ∈ l := by rcases List.mem_cons.1 h with h | h; exact absurd h.symm ha; exact h
    have := ih hm;simp only [List.filter_cons, e, ha, if_false];simp only [e] at this;split
    ·simp; exact this
    ·exact this
 exact main U hx
theorem whites_same (he : ∀ a b, eq a b = true ↔ a = b) {U : List K} {st : List (K × Int)} {x : K} (v : Int) (hv : v ≠ 0) (h0 : gst eq st x ≠ 0) : whites eq U (mset eq x v st) = whites eq U st := by
 unfold whites;congr 1;apply List.filter_congr;intro u _;have e : gst eq (mset eq x v st) u = if u = x then v else gst eq st u := by
  unfold gst; rw [mget_set he]; split <;> rfl
 rw [e];by_cases hu : u = x
 ·subst hu; simp [hv, h0]
 ·simp [hu]
theorem gst_set (he : ∀ a b, eq a b = true ↔ a = b) (st : List (K × Int)) (x u : K) (v : Int) : gst eq (mset eq x v st) u = if u = x then v else gst eq st u := by
 unfold gst; rw [mget_set he]; split <;> rfl
theorem some_of_gst {st : List (K × Int)} {x : K} (h : gst eq st x ≠ 0) : (mget eq x st).isSome = true := by
 unfold gst at h;cases e : mget eq x st with
 | none => rw [e] at h; simp at h
 | some _ => rfl
def walkG {M : Type} (eq : K -> K -> Bool) (nx : K -> M -> List K) : Nat -> K × List (K × Int) × M -> Option (Bool × List (K × Int) × M)
 | 0, _ => none
 | n + 1, d =>
  bif decide ((mget eq d.1 d.2.1).getD (0 : Int) > (0 : Int)) then some ((mget eq d.1 d.2.1).getD (0 : Int) == (1 : Int), d.2.1, d.2.2)
  else (chk (d.2.1.length + (1 : Nat) <= LIM)).bind fun _ =>
   forK (fun _ x s next => (walkG eq nx n (x, s.fst, s.snd)).bind fun r => bif r.fst then some (true, r.snd.fst, r.snd.snd) else next (r.snd.fst, r.snd.snd)) (0 : Nat) (nx d.1 d.2.2)
    (mset eq d.1 (1 : Int) d.2.1, d.2.2) fun s => (chk (s.fst.length + (1 : Nat) <= LIM)).bind fun _ => some (false, mset eq d.1 (2 : Int) s.fst, s.snd)
structure GInv (eq : K -> K -> Bool) (nx : K -> List K) (U : List K) (st : List (K × Int)) : Prop where
 vals : ∀ y v, mget eq y st = some v -> v = 1 \/ v = 2
 done : ∀ y, gst eq st y = 2 -> Acy nx y
 size : st.length + whites eq U st <= U.length
theorem GInv.none {nx : K -> List K} {U : List K} {st : List (K × Int)} (h : GInv eq nx U st) {x : K} (h0 : gst eq st x = 0) : mget eq x st = .none := by
 cases e : mget eq x st with
 | none => rfl
 | some v =>
  have h1 := h.vals x v e;have h2 : v = 0 := by simpa [gst, e] using h0
  omega
theorem GInv.set {nx : K -> List K} {U : List K} {st : List (K × Int)} (he : ∀ a b, eq a b = true ↔ a = b) (h : GInv eq nx U st) {x : K} {v : Int} (hv : v = 1 \/ (v = 2 /\ Acy nx x)) (hx : x ∈ U) : GInv eq nx U (mset eq x v st) := by
 have hv0 : v ≠ 0 := by rcases hv with h | ⟨h, _⟩ <;> omega
 refine ⟨fun y w hw => ?_, fun y hy => ?_, ?_⟩
 ·rw [mget_set he] at hw;split at hw
  ·cases hw; rcases hv with h | ⟨h, _⟩ <;> omega
  ·exact h.vals y w hw
 ·rw [gst_set he] at hy;split at hy
  ·rename_i e; subst e;rcases hv with h | ⟨_, h⟩
   ·omega
   ·exact h
  ·exact h.done y hy
 ·rw [mset_len he];have hs := h.size;by_cases h0 : gst eq st x = 0
  ·rw [h.none h0];have := whites_set he v hv0 hx h0;simp only [Option.isSome_none, Bool.false_eq_true, if_false];omega
  ·rw [some_of_gst h0, whites_same he v hv0 h0];simpa using hs
theorem walk_ok {M : Type} (m : M) (he : ∀ a b, eq a b = true ↔ a = b) {nxm : K -> M -> List K} {nx : K -> List K} (hnx : ∀ x, nxm x m = nx x) {U : List K} (hU : ∀ x ∈ U, ∀ y ∈ nx x, y ∈ U) (hlim : U.length < LIM) : ∀ (n : Nat) (x : K) (st : List (K × Int)), x ∈ U -> GInv eq nx U st -> whites eq U st < n ->
  (∀ g, gst eq st g = 1 -> Lead nx g x) ->
  ∃ b st', walkG eq nxm n (x, st, m) = some (b, st', m) /\ (b = true -> ¬ Acy nx x) /\
   (b = false -> Acy nx x /\ GInv eq nx U st' /\ whites eq U st' <= whites eq U st /\ (∀ y, gst eq st' y = 1 ↔ gst eq st y = 1)) := by
 intro n
 induction n with
 | zero => intro x st _ _ h; omega
 | succ n ih =>
  intro x st hx hI hw hg;simp only [walkG, hnx];by_cases h0 : gst eq st x = 0
  ·
   have hnone := hI.none h0;have hs := hI.size;rw [hnone];simp only [Option.getD_none];rw [show decide ((0 : Int) > 0) = false from rfl];simp only [cond_false];rw [chk_eq (by omega : st.length + 1 <= LIM)];simp only [Option.bind_some];have hI1 := hI.set he (v := 1) (.inl rfl) hx;have hw1 := whites_set he (1 : Int) (by decide) hx h0;have key : ∀ (l : List K) (k : Nat) (s : List (K × Int)), (∀ y ∈ l, y ∈ nx x) -> GInv eq nx U s -> whites eq U s < n -> (∀ y, gst eq s y = 1 ↔ (gst eq st y = 1 \/ y = x)) -> (∀ y ∈ nx x, y ∉ l -> Acy nx y) ->
     ∃ b st', forK (fun _ x s next => (walkG eq nxm n (x, s.fst, s.snd)).bind fun r => bif r.fst then some (true, r.snd.fst, r.snd.snd) else next (r.snd.fst, r.snd.snd)) k l (s, m)
       (fun s => (chk (s.fst.length + (1 : Nat) <= LIM)).bind fun _ => some (false, mset eq x (2 : Int) s.fst, s.snd)) = some (b, st', m) /\ (b = true -> ¬ Acy nx x) /\
      (b = false -> Acy nx x /\ GInv eq nx U st' /\ whites eq U st' <= whites eq U s /\ (∀ y, gst eq st' y = 1 ↔ gst eq st y = 1)) := by
    intro l
    induction l with
    | nil =>
     intro k s _ hIs hws hgs hall;have hacy : Acy nx x := .mk fun z hz => hall z hz (by simp)
     have hss := hIs.size;have hx1 : gst eq s x = 1 := (hgs x).2 (.inr rfl);simp only [forK];rw [chk_eq (by omega : s.length + 1 <= LIM)];refine ⟨false, _, rfl, by simp, fun _ => ⟨hacy, hIs.set he (.inr ⟨rfl, hacy⟩) hx, ?_, fun y => ?_⟩⟩
     ·rw [whites_same he 2 (by decide) (by rw [hx1]; decide)]; exact Nat.le_refl _
     ·rw [gst_set he];by_cases e : y = x
      ·subst e; simp [h0]
      ·simp only [e, if_false]; rw [hgs]; simp [e]
    | cons z l ihl =>
     intro k s hsub hIs hws hgs hall;have hz : z ∈ nx x := hsub z (by simp);obtain ⟨b, st', h1, h2, h3⟩ := ih z s (hU x hx z hz) hIs hws (fun g hgg => by
      rcases (hgs g).1 hgg with h | rfl
      ·exact (hg g h).trans (.one hz)
      ·exact .one hz)
     simp only [forK];rw [h1];simp only [Option.bind_some];cases b with
     | true =>
      exact ⟨true, st', rfl, fun _ ha => h2 rfl (ha.next hz), by simp⟩
     | false =>
      obtain ⟨q1, q2, q3, q4⟩ := h3 rfl;obtain ⟨b2, st2, r1, r2, r3⟩ := ihl (k + 1) st' (fun y hy => hsub y (by simp [hy])) q2 (by omega) (fun y => (q4 y).trans (hgs y)) (fun y hy hn => by
       by_cases e : y = z
       ·subst e; exact q1
       ·exact hall y hy (by simp [e, hn]))
      refine ⟨b2, st2, r1, r2, fun hb => ?_⟩;obtain ⟨t1, t2, t3, t4⟩ := r3 hb;exact ⟨t1, t2, by omega, t4⟩
   obtain ⟨b, st', h1, h2, h3⟩ := key (nx x) 0 (mset eq x 1 st) (fun y hy => hy) hI1 (by omega) (fun y => by
    rw [gst_set he];by_cases e : y = x
    ·simp [e]
    ·simp [e]) (fun y hy hn => absurd hy hn)
   refine ⟨b, st', h1, h2, fun hb => ?_⟩;obtain ⟨t1, t2, t3, t4⟩ := h3 hb;exact ⟨t1, t2, by omega, t4⟩
  ·
   have hs := some_of_gst h0;obtain ⟨v, hv⟩ := Option.isSome_iff_exists.1 hs;have hgv : gst eq st x = v := by unfold gst; rw [hv]; rfl
   rw [hv];simp only [Option.getD_some];rcases hI.vals x v hv with rfl | rfl
   ·refine ⟨true, st, by simp, fun _ ha => acy_irrefl ha (hg x hgv), by simp⟩
   ·refine ⟨false, st, by simp, by simp, fun _ => ⟨hI.done x hgv, hI, Nat.le_refl _, fun _ => Iff.rfl⟩⟩
theorem walks_ok {M : Type} (m : M) (he : ∀ a b, eq a b = true ↔ a = b) {nxm : K -> M -> List K} {nx : K -> List K} (hnx : ∀ x, nxm x m = nx x) {U : List K} (hU : ∀ x ∈ U, ∀ y ∈ nx x, y ∈ U) (hlim : U.length < LIM) {n : Nat} (hn : U.length < n) (all : List K) (hall : ∀ x ∈ all, x ∈ U) :
  ∃ i : Int, ((forK (fun k x d next => (idx all (↑k : Int)).bind fun y => (walkG eq nxm n (y, d.fst, d.snd)).bind fun r => bif r.fst then some ((↑k : Int), r.snd.fst, r.snd.snd) else next (r.snd.fst, r.snd.snd)) (0 : Nat) all (([] : List (K × Int)), m) fun d => some ((-1 : Int), d.fst, d.snd)).bind fun r => some (decide (r.fst >= (0 : Int)), r.snd.snd)) =
   some (decide (i >= 0), m) /\ (i >= 0 ↔ ∃ x ∈ all, ¬ Acy nx x) := by
 have key : ∀ (l : List K) (k : Nat) (s : List (K × Int)), all.drop k = l -> GInv eq nx U s -> whites eq U s < n -> (∀ y, gst eq s y ≠ 1) -> (∀ y ∈ all.take k, Acy nx y) ->
   ∃ i : Int, ((forK (fun k x d next => (idx all (↑k : Int)).bind fun y => (walkG eq nxm n (y, d.fst, d.snd)).bind fun r => bif r.fst then some ((↑k : Int), r.snd.fst, r.snd.snd) else next (r.snd.fst, r.snd.snd)) k l (s, m) fun d => some ((-1 : Int), d.fst, d.snd)).bind fun r => some (decide (r.fst >= (0 : Int)), r.snd.snd)) =
    some (decide (i >= 0), m) /\ (i >= 0 ↔ ∃ x ∈ all, ¬ Acy nx x) := by
  intro l
  induction l with
  | nil =>
   intro k s hd hI hw hg hacy;refine ⟨-1, rfl, ?_⟩;have hk : all.length <= k := by
    have := congrArg List.length hd;simp at this; omega
   rw [List.take_of_length_le hk] at hacy;constructor
   ·intro h; omega
   ·rintro ⟨x, hx, hn⟩; exact absurd (hacy x hx) hn
  | cons z l ih =>
   intro k s hd hI hw hg hacy;have hz : all[k]? = some z := by
    have : (all.drop k)[0]? = some z := by rw [hd]; rfl
    simpa using this
   have hzm : z ∈ all := List.mem_of_getElem? hz;simp only [forK];rw [show idx all (k : Int) = some z from by rw [idx_nat]; exact hz];simp only [Option.bind_some];obtain ⟨b, st', h1, h2, h3⟩ := walk_ok m he hnx hU hlim n z s (hall z hzm) hI hw (fun g hgg => absurd hgg (hg g));rw [h1];simp only [Option.bind_some];cases b with
   | true =>
    refine ⟨(k : Int), rfl, ?_⟩;constructor
    ·intro _; exact ⟨z, hzm, h2 rfl⟩
    ·intro _; omega
   | false =>
    obtain ⟨q1, q2, q3, q4⟩ := h3 rfl;refine ih (k + 1) st' ?_ q2 (by omega) (fun y hy => hg y ((q4 y).1 hy)) (fun y hy => ?_)
    ·rw [<- List.drop_drop, hd]; rfl
    ·rw [List.take_add_one, hz] at hy;rcases List.mem_append.1 hy with hy | hy
     ·exact hacy y hy
     ·simp at hy; subst hy; exact q1
 refine key all 0 [] rfl ⟨fun y v h => (by cases h), fun y h => (by simp [gst, mget] at h), ?_⟩ ?_ (fun y h => by simp [gst, mget] at h) (fun y hy => by simp at hy)
 ·unfold whites;have := List.length_filter_le (fun u => decide (gst eq ([] : List (K × Int)) u = 0)) U;simpa using this
 ·have := List.length_filter_le (fun u => decide (gst eq ([] : List (K × Int)) u = 0)) U;unfold whites; omega
end
end Go.PG.PH
