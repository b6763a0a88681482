import Derived.Test.YtfhddbnacbcppaaKPartd
import Derived.Test.YtfhddbnacbcppaaRows
import Derived.JoinedCond
set_option linter.unusedSimpArgs false
set_option linter.unusedVariables false
set_option linter.unnecessarySimpa false
set_option linter.unusedSectionVars false

/- The interpreter: regions and code. -/
set_option linter.unusedSimpArgs false
set_option linter.unusedVariables false
namespace Go.PG.PH
variable {rr : Bool}

/-! ### Regions -/

/-- A test whose answer is known. -/
def TE.lit (E : TE) (d : Nat) (b : Bool) : TE := ⟨(d, (match stime E.s d with | some c => c | none => 0), .leaf .bool b) :: E.s, E.h, E.m, E.c⟩

theorem lit_get {E : TE} {d : Nat} {b : Bool} (h : sget E.s d = .leaf .bool b) (i : Nat) : sget (E.lit d b).s i = sget E.s i ∧ stime (E.lit d b).s i = stime E.s i := by
  unfold TE.lit
  simp only [sget, stime]
  cases e : Nat.beq i d with
  | false => exact ⟨rfl, rfl⟩
  | true =>
    have := beqs e; subst this
    refine ⟨h.symm, ?_⟩
    cases ht : stime E.s i with
    | none => rw [sget_notime ht] at h; cases h
    | some c => rfl

theorem lit_env {E : TE} {d : Nat} {b : Bool} (h : sget E.s d = .leaf .bool b) (n : Nat) (γ : Nat → Nat) : (E.lit d b).env n γ = E.env n γ := by
  unfold TE.env SE
  simp only [Env.mk.injEq]
  refine ⟨?_, rfl⟩
  apply List.map_congr_left
  intro i _
  rw [show aget ((E.lit d b).slots γ) i = _ from aget_slots _ _ _ _, show aget (E.slots γ) i = _ from aget_slots _ _ _ _, (lit_get h i).1]
  rfl

theorem lit_ext {E : TE} {d : Nat} {b : Bool} (h : sget E.s d = .leaf .bool b) : Ext E (E.lit d b) :=
  ⟨Nat.le_refl _, fun i c h1 _ => by rw [(lit_get h i).2] at h1; exact ⟨h1, (lit_get h i).1⟩, fun i c h1 _ => ⟨h1, rfl⟩⟩

theorem lit_ok {E : TE} {d : Nat} {b : Bool} (h : sget E.s d = .leaf .bool b) (hE : E.ok) : (E.lit d b).ok := by
  intro m hm
  obtain ⟨g1, g2, g3⟩ := hE m hm
  exact ⟨by rw [(lit_get h _).1]; exact g1, by rw [(lit_get h _).1]; exact g2, g3⟩

def wkK (dst : Option Nat) (wk : List Nat) : List Key := (match dst with | some d => [.s d] | none => []) ++ wk.map Key.h

/-- What may be written where the generations of G's ids must stay. -/
def disN (G : List Nat) : List Nat → Bool
  | [] => true
  | m :: r => match memN m G with
    | true => false
    | false => disN G r
def gOk (G : List Nat) (o : Oper) (wk : List Nat) : Bool := match isSt o with
  | true => true
  | false => disN G wk
theorem disN_ok {G : List Nat} : ∀ {l : List Nat}, disN G l = true → ∀ m ∈ l, m ∉ G
  | [], _, m, hm => by cases hm
  | a :: r, h, m, hm => by
    simp only [disN] at h
    split at h
    · cases h
    · rename_i ha
      rcases List.mem_cons.1 hm with rfl | hm
      · intro hg; rw [memN_iff.2 hg] at ha; cases ha
      · exact disN_ok h m hm

/-- Contracts: of functions that change nothing, and of those that do. -/
structure Cs (P : Program) where
  c : List (Ct P)
  o : List (Ow P)

mutual
/-- Functions that are given are those that a shape names. -/
def Sh.fnsOk : Sh → TV → Bool
  | .fn f cs, v => match v with
    | .fn f' vs => match Nat.beq f' f with
      | true => Sh.fnsOkL cs vs
      | false => false
    | _ => false
  | .dt _, _ => true
  | .wn _ _, v => match v with
    | .sof _ _ _ => true
    | .nil => true
    | _ => false
  | .pt _ _ _, v => match v with
    | .ep _ _ _ _ _ => true
    | _ => false
  | .nl, _ => true
  | .ag _, _ => true
  | .np, _ => true
  | .nf, _ => true
  | .ws _ _, v => match v with
    | .so _ _ _ _ _ => true
    | .sof _ _ _ => true
    | .nil => true
    | _ => false
def Sh.fnsOkL : List Sh → List TV → Bool
  | c :: cs, v :: vs => match c.fnsOk v with
    | true => Sh.fnsOkL cs vs
    | false => false
  | _, _ => true
end
def Ow.find {P : Program} : List (Ow P) → FuncId → List TV → Option (Ow P)
  | [], _, _ => none
  | w :: r, f, vs => match Nat.beq w.f f, Sh.fnsOkL w.js vs with
    | true, true => some w
    | _, _ => find r f vs
theorem Ow.find_ok {P : Program} {f : FuncId} {vs : List TV} {w : Ow P} : ∀ {l : List (Ow P)}, Ow.find l f vs = some w → w.f = f
  | [], h => by cases h
  | a :: r, h => by
    simp only [find] at h
    split at h
    · rename_i e _; cases h; exact beqs e
    · exact find_ok h
def owOf {P : Program} (ws : List (Ow P)) (n : Nat) (o : Oper) (E : TE) : Option (Ow P × List TV) := match o.op with
  | .call c => match c.callee with
    | .value x => match tev E n x with
      | .fn f caps => match Ow.find ws f (c.args.toList.map (tev E n) ++ caps) with
        | some w => some (w, c.args.toList.map (tev E n) ++ caps)
        | none => none
      | _ => none
    | _ => none
  | _ => none
/-- One step in a region whose order is open. -/
def dstep {R : Type} {P : Program} (cs : Cs P) (n : Nat) (o : Oper) (E : TE) (k : K R) : Option R := match owOf cs.o n o E with
  | some (w, args) => towK w o E args k (swL (idsC E (o.dst.getD 0) w.js w.jh w.rh args))
  | none => tstep P cs.c n o E k
theorem dstep_ok {R : Type} {P : Program} {cs : Cs P} {G : List Nat} {ops : Array Oper} {n : Nat} {o : Oper} {E : TE} {k : K R} {r : R} (hE : E.ok) (h : dstep cs n o E k = some r) : ∃ E' wk rd, k wk rd E' = some r ∧ Stp P G ops n o E E' wk rd := by
  unfold dstep at h
  split at h
  · rename_i w args hw
    unfold owOf at hw
    split at hw
    · rename_i c ho
      split at hw
      · rename_i x hb
        split at hw
        · rename_i f caps hx
          split at hw
          · rename_i w' hf
            cases hw
            exact towK_ok (swI_swL _) (swL_swI _) ho hb (by rw [hx, Ow.find_ok hf]) h
          · cases hw
        · cases hw
      · cases hw
    · cases hw
  · exact tstep_ok hE h

def exD {R : Type} (P : Program) (cs : Cs P) (n : Nat) (G : List Nat) (ops : Array Oper) : List (Nat × Oper) → TE → List Inf → (List Inf → TE → Option R) → Option R
  | [], E, acc, k => k acc.reverse E
  | (i, o) :: os, E, acc, k =>
    match o.guard with
    | none => dstep cs n o E fun wk rd E' => match gOk G o wk with
      | true => exD P cs n G ops os E' (⟨i, wkK o.dst wk, trd G ops o E n ++ rd.map Key.h⟩ :: acc) k
      | false => none
    | some (j, want) => match dstOf ops j with
      | none => none
      | some d => match E.get n d with
        | .leaf .bool b => cond b
          (match want with
            | true => dstep cs n o (E.lit d true) fun wk rd E' => match gOk G o wk with
              | true => exD P cs n G ops os E' (⟨i, wkK o.dst wk, trd G ops o (E.lit d true) n ++ rd.map Key.h⟩ :: acc) k
              | false => none
            | false => exD P cs n G ops os ((E.lit d true).put o.dst (.tup [])) (⟨i, wkK o.dst [], trd G ops o (E.lit d true) n⟩ :: acc) k)
          (match want with
            | true => exD P cs n G ops os ((E.lit d false).put o.dst (.tup [])) (⟨i, wkK o.dst [], trd G ops o (E.lit d false) n⟩ :: acc) k
            | false => dstep cs n o (E.lit d false) fun wk rd E' => match gOk G o wk with
              | true => exD P cs n G ops os E' (⟨i, wkK o.dst wk, trd G ops o (E.lit d false) n ++ rd.map Key.h⟩ :: acc) k
              | false => none)
        | .tup [] => exD P cs n G ops os (E.put o.dst (.tup [])) (⟨i, wkK o.dst [], trd G ops o E n⟩ :: acc) k
        | _ => none

theorem get_slot {E : TE} {n d : Nat} {v : TV} (h : E.get n d = v) (hv : v ≠ .dead) : d < n ∧ sget E.s d = v := by
  unfold TE.get at h
  split at h
  · rename_i hb; exact ⟨by simpa [Nat.blt_eq] using hb, h⟩
  · exact absurd h.symm hv

theorem env_t {E : TE} {n d : Nat} {γ : Nat → Nat} (hd : d < n) : (E.env n γ).t[d]? = some ((sget E.s d).v (olen E.h) γ) := by
  unfold TE.env
  rw [se_get _ _ _ _ hd]
  rw [show aget (E.slots γ) d = _ from aget_slots _ _ _ _]

theorem exD_ok {R : Type} {P : Program} {cs : Cs P} {n : Nat} {G : List Nat} {ops : Array Oper} {r : R} : ∀ (l : List (Nat × Oper)) (E : TE) (acc : List Inf) (k : List Inf → TE → Option R), exD P cs n G ops l E acc k = some r → E.ok → ∀ γ,
    EvD P G ops l (E.env n γ) acc (fun infs e' => ∃ γ' E', k infs E' = some r ∧ E'.ok ∧ Ext E E' ∧ e' = E'.env n γ' ∧ Fx γ γ')
  | [], E, acc, k, h, hE, γ => ⟨γ, E, h, hE, Ext.refl E, rfl, Fx.refl _⟩
  | (i, o) :: os, E, acc, k, h, hE, γ => by
    have lift : ∀ {l : List (Nat × Oper)} {e : Env} {acc : List Inf} {K K' : List Inf → Env → Prop}, (∀ infs e', K infs e' → K' infs e') → EvD P G ops l e acc K → EvD P G ops l e acc K' := by
      intro l
      induction l with
      | nil => intro e acc K K' hK h; exact hK _ _ h
      | cons x l ih =>
        obtain ⟨i, o⟩ := x
        intro e acc K K' hK h
        rcases h with ⟨g, h⟩ | ⟨v, ups, rd, hl, hgk, h⟩
        · exact .inl ⟨g, ih hK h⟩
        · exact .inr ⟨v, ups, rd, hl, hgk, ih hK h⟩
    have go : ∀ (E1 : TE), Ext E E1 → E1.ok → E1.env n γ = E.env n γ → gd ops (E.env n γ) o = some true →
        (dstep cs n o E1 fun wk rd E' => match gOk G o wk with
          | true => exD P cs n G ops os E' (⟨i, wkK o.dst wk, trd G ops o E1 n ++ rd.map Key.h⟩ :: acc) k
          | false => none) = some r →
        EvD P G ops ((i, o) :: os) (E.env n γ) acc (fun infs e' => ∃ γ' E', k infs E' = some r ∧ E'.ok ∧ Ext E E' ∧ e' = E'.env n γ' ∧ Fx γ γ') := by
      intro E1 hx hok henv hg hs
      obtain ⟨E', wk, rd, hk, s1, s2, s3⟩ := dstep_ok (G := G) (ops := ops) hok hs
      obtain ⟨γ', v, ups, q1, q2, q3, q4, q5⟩ := s3 γ
      split at hk
      rotate_left
      · cases hk
      rename_i hgk
      have hgk2 : GKept G (E.env n γ).h ups := fun m hm x hx => by
        unfold gOk at hgk
        split at hgk
        · rename_i hst
          have := q5 hst m x hx
          rw [← env_h (n := n), henv, env_h] at this
          rw [env_h]; exact this
        · exfalso
          have h1 := (upKey_mem ups m).1 ⟨x, hx⟩
          rw [q2] at h1
          exact disN_ok hgk m h1 hm
      refine .inr ⟨v, ups, trd G ops o E1 n ++ rd.map Key.h, fun e2 hl2 hs2 hk2 => ⟨?_, ?_⟩, hgk2, ?_⟩
      · rw [gd_local (G := G) (d0 := dstD o) (e := E1.env n γ) (fun k hk' => by rw [trd_eq] at hk'; rw [henv]; exact hk2 k (by simp [hk'])), henv]; exact hg
      · exact q1 e2 (by rw [hl2]; simp [TE.env, SE]) (by rw [henv]; exact hs2) (fun k hk' => by rw [henv]; exact hk2 k hk')
      · rw [← henv, ← q3]
        have hwk : wkOf o.dst ups = wkK o.dst wk := by
          unfold wkOf wkK
          rw [← q2, List.map_map]; rfl
        rw [hwk]
        exact lift (fun infs e' ⟨γ2, E2, a1, a2, a3, a4, a5⟩ => ⟨γ2, E2, a1, a2, (hx.trans s1).trans a3, a4, q4.trans a5⟩) (exD_ok os E' _ k hk (s2 hok) γ')
    have skip : ∀ (E1 : TE), Ext E E1 → E1.ok → E1.env n γ = E.env n γ → gd ops (E.env n γ) o = some false →
        exD P cs n G ops os (E1.put o.dst (.tup [])) (⟨i, wkK o.dst [], trd G ops o E1 n⟩ :: acc) k = some r →
        EvD P G ops ((i, o) :: os) (E.env n γ) acc (fun infs e' => ∃ γ' E', k infs E' = some r ∧ E'.ok ∧ Ext E E' ∧ e' = E'.env n γ' ∧ Fx γ γ') := by
      intro E1 hx hok henv hg hs
      refine .inl ⟨hg, ?_⟩
      have := exD_ok os _ _ k hs (ok_put hok) γ
      rw [env_put, henv] at this
      have hrd : rdOf G ops o (dstD o) (E.env n γ) = trd G ops o E1 n := by rw [← henv, trd_eq]
      rw [hrd]
      have hwk : wkOf o.dst [] = wkK o.dst [] := by unfold wkOf wkK; rfl
      rw [hwk]
      exact lift (fun infs e' ⟨γ2, E2, a1, a2, a3, a4, a5⟩ => ⟨γ2, E2, a1, a2, (hx.trans (ext_put _ _ _)).trans a3, a4, a5⟩) this
    simp only [exD] at h
    split at h
    · rename_i hgd
      exact go E (Ext.refl E) hE rfl (by unfold gd; rw [hgd]) h
    · rename_i j want hgd
      split at h
      · cases h
      · rename_i d hd
        split at h
        · rename_i b hb
          obtain ⟨hdn, hs⟩ := get_slot hb (by simp)
          have hgv : ∀ w : Bool, want = w → gd ops (E.env n γ) o = some (bif w then b else !b) := by
            intro w hw
            unfold gd
            rw [hgd]
            simp only [dstOf_eq, hd, env_t hdn, hs, TV.v]
            rw [← hw]
            rfl
          cases b with
          | true =>
            simp only [cond_true] at h
            cases want with
            | true => exact go _ (lit_ext hs) (lit_ok hs hE) (lit_env hs n γ) (hgv true rfl) h
            | false => exact skip _ (lit_ext hs) (lit_ok hs hE) (lit_env hs n γ) (hgv false rfl) h
          | false =>
            simp only [cond_false] at h
            cases want with
            | true => exact skip _ (lit_ext hs) (lit_ok hs hE) (lit_env hs n γ) (hgv true rfl) h
            | false => exact go _ (lit_ext hs) (lit_ok hs hE) (lit_env hs n γ) (hgv false rfl) h
        · rename_i hb
          obtain ⟨hdn, hs⟩ := get_slot hb (by simp)
          refine skip E (Ext.refl E) hE rfl ?_ h
          unfold gd
          rw [hgd]
          simp only [dstOf_eq, hd, env_t hdn, hs, TV.v, TV.vL]
        · cases h

/-! ### Sealing what a call is given -/

def Ty.ctys : Ty → List Ty
  | .unit => []
  | .box a => a.ctys
  | .pair a b => a.ctys ++ b.ctys
  | t => [t]

def foldE (f : TV → TE → Option TE) : List TV → TE → Option TE
  | [], E => some E
  | c :: cs, E => match f c E with
    | some E' => foldE f cs E'
    | none => none

def foldE2 (f : Ty → TV → TE → Option TE) : List Ty → List TV → TE → Option TE
  | t :: ts, c :: cs, E => match f t c E with
    | some E' => foldE2 f ts cs E'
    | none => none
  | _, _, E => some E

/-- Seals what a value of a type names. -/
def sealV : Nat → Ty → TV → TE → Option TE
  | 0, _, _, E => some E
  | m + 1, t, v, E => match v with
    | .sof n _ _ => match t, oget E.h n with
      | .list u, some (.lst _ _ _) => E.sealT n u
      | .list u, some (.els _ _ _ l) => match foldE (sealV m u) l E with
        | some E' => E'.sealT n u
        | none => none
      | _, _ => some E
    | .agg cs => foldE2 (sealV m) t.ctys cs E
    | _ => some E

def orE (E : TE) : Option TE → TE
  | some E' => E'
  | none => E

def autoSeal {P : Program} (cs : List (Ct P)) (n : Nat) (o : Oper) (E : TE) : TE :=
  match o.op with
  | .call c => match c.callee with
    | .value x => match tev E n x with
      | .fn f caps => match Ct.find cs f (c.args.toList.map (tev E n) ++ caps) with
        | some (ct, ws) => match convs lf0 (tys ct.ar) ws with
          | some _ => E
          | none => match ct.rt.flat, convs (lf1 (oget E.h)) (tys ct.ar) ws with
            | true, some _ => E
            | _, _ => orE E (foldE2 (sealV 4) (tys ct.ar) ws E)
        | none => E
      | _ => E
    | .builtin .append => match c.args.toList with
      | [x, y] => match tev E n y with
        | .sof m _ _ => match oget E.h m with
          | some (.els _ _ _ l) => match tev E n x, c.argTypes.toList with
            | .sof q _ _, t :: _ => match oget E.h q with
              | some (.lst _ et _) => orE E (foldE (sealV 4 et) l E)
              | _ => E
            | .nil, t :: _ => match tab P t with
              | some i => match i.kind with
                | .slice e => match tyOf P 8 e with
                  | some et => orE E (foldE (sealV 4 et) l E)
                  | none => E
                | _ => E
              | none => E
            | _, _ => E
          | _ => E
        | _ => E
      | _ => E
    | _ => E
  | .store _ a x => match tev E n a with
    | .ep m _ _ _ _ => match oget E.h m with
      | some (.lst _ t' _) => orE E (sealV 4 t' (tev E n x) E)
      | _ => E
    | _ => E
  | _ => E

/-- Sealing is a step that nobody sees. -/
def Gst (n : Nat) (E E' : TE) : Prop := (∀ γ, Le (E.env n γ) (E'.env n γ)) ∧ Ext E E' ∧ (E.ok → E'.ok)
theorem Gst.refl (n : Nat) (E : TE) : Gst n E E := ⟨fun _ => Le.refl _, Ext.refl _, id⟩
theorem Gst.trans {n : Nat} {A B C : TE} (h : Gst n A B) (k : Gst n B C) : Gst n A C := ⟨fun γ => (h.1 γ).trans (k.1 γ), h.2.1.trans k.2.1, fun hE => k.2.2 (h.2.2 hE)⟩

theorem foldE_ok {n : Nat} {f : TV → TE → Option TE} (hf : ∀ v E E', f v E = some E' → Gst n E E') : ∀ {l : List TV} {E E' : TE}, foldE f l E = some E' → Gst n E E'
  | [], E, E', h => by simp only [foldE] at h; cases h; exact Gst.refl n E
  | c :: cs, E, E', h => by
    simp only [foldE] at h
    split at h
    · rename_i E1 h1; exact (hf _ _ _ h1).trans (foldE_ok hf h)
    · cases h

theorem foldE2_ok {n : Nat} {f : Ty → TV → TE → Option TE} (hf : ∀ t v E E', f t v E = some E' → Gst n E E') : ∀ {ts : List Ty} {l : List TV} {E E' : TE}, foldE2 f ts l E = some E' → Gst n E E'
  | [], _, E, E', h => by simp only [foldE2] at h; cases h; exact Gst.refl n E
  | _ :: _, [], E, E', h => by simp only [foldE2] at h; cases h; exact Gst.refl n E
  | t :: ts, c :: cs, E, E', h => by
    simp only [foldE2] at h
    split at h
    · rename_i E1 h1; exact (hf _ _ _ _ h1).trans (foldE2_ok hf h)
    · cases h

theorem sealV_ok {n : Nat} : ∀ (m : Nat) (t : Ty) (v : TV) (E E' : TE), sealV m t v E = some E' → Gst n E E'
  | 0, _, _, E, E', h => by simp only [sealV] at h; cases h; exact Gst.refl n E
  | m + 1, t, v, E, E', h => by
    unfold sealV at h
    split at h
    · split at h
      · exact sealT_ok h
      · split at h
        · rename_i E1 h1; exact (foldE_ok (fun v E E' => sealV_ok m _ v E E') h1).trans (sealT_ok h)
        · cases h
      · cases h; exact Gst.refl n E
    · exact foldE2_ok (fun t v E E' => sealV_ok m t v E E') h
    · cases h; exact Gst.refl n E

theorem orE_ok {n : Nat} {E : TE} {x : Option TE} (h : ∀ E', x = some E' → Gst n E E') : Gst n E (orE E x) := by
  cases x with
  | none => exact Gst.refl n E
  | some E' => exact h E' rfl

theorem autoSeal_ok {P : Program} (cs : List (Ct P)) (n : Nat) (o : Oper) (E : TE) : Gst n E (autoSeal cs n o E) := by
  have r := Gst.refl n E
  unfold autoSeal
  split
  · split
    · split
      · split
        · split
          · exact r
          · split
            · exact r
            · exact orE_ok fun E' h => foldE2_ok (fun t v E E' => sealV_ok 4 t v E E') h
        · exact r
      · exact r
    · split
      · split
        · split
          · split
            · split
              · exact orE_ok fun E' h => foldE_ok (fun v E E' => sealV_ok 4 _ v E E') h
              · exact r
            · split
              · split
                · split
                  · exact orE_ok fun E' h => foldE_ok (fun v E E' => sealV_ok 4 _ v E E') h
                  · exact r
                · exact r
              · exact r
            · exact r
          · exact r
        · exact r
      · exact r
    · exact r
  · split
    · split
      · exact orE_ok fun E' h => sealV_ok 4 _ _ _ _ h
      · exact r
    · exact r
  · exact r

/-- Seals what is given as data. -/
def oshOf : List (Nat × OSh) → Nat → Option OSh
  | [], _ => none
  | x :: r, n => match Nat.beq x.1 n with
    | true => some x.2
    | false => oshOf r n
def seal1 (jh : List (Nat × OSh)) (rec : List Sh → List TV → TE → Option TE) (s : Sh) (c : TV) (E : TE) : Option TE := match s with
  | .dt t => sealV 4 t c E
  | .fn _ us => match c with
    | .fn _ vs => rec us vs E
    | _ => some E
  | .ag us => match c with
    | .agg vs => rec us vs E
    | _ => some E
  | .pt n _ _ => match c with
    | .ep m _ _ _ _ => match oshOf jh n, oget E.h m with
      | some (.el _ _ us), some (.els _ _ _ l) => rec us l E
      | _, _ => some E
    | _ => some E
  | _ => some E
def sealF (f : Sh → TV → TE → Option TE) : List Sh → List TV → TE → Option TE
  | t :: ts, c :: cs, E => match f t c E with
    | some E' => sealF f ts cs E'
    | none => none
  | _, _, E => some E
def sealN (jh : List (Nat × OSh)) : Nat → List Sh → List TV → TE → Option TE
  | 0, _, _, E => some E
  | m + 1, js, vs, E => sealF (seal1 jh (sealN jh m)) js vs E
def sealSh (js : List Sh) (jh : List (Nat × OSh)) (vs : List TV) (E : TE) : Option TE := sealN jh 5 js vs E
theorem sealF_ok {n : Nat} {f : Sh → TV → TE → Option TE} (hf : ∀ t c E E', f t c E = some E' → Gst n E E') : ∀ (js : List Sh) (vs : List TV) (E E' : TE), sealF f js vs E = some E' → Gst n E E'
  | [], _, E, E', h => by simp only [sealF] at h; cases h; exact Gst.refl n E
  | _ :: _, [], E, E', h => by simp only [sealF] at h; cases h; exact Gst.refl n E
  | t :: ts, c :: cs, E, E', h => by
    simp only [sealF] at h
    split at h
    · rename_i E1 h1; exact (hf _ _ _ _ h1).trans (sealF_ok hf _ _ _ _ h)
    · cases h
theorem seal1_ok {n : Nat} {jh : List (Nat × OSh)} {rec : List Sh → List TV → TE → Option TE} (hr : ∀ us vs E E', rec us vs E = some E' → Gst n E E') : ∀ (t : Sh) (c : TV) (E E' : TE), seal1 jh rec t c E = some E' → Gst n E E' := by
  intro t c E E' h
  unfold seal1 at h
  split at h
  · exact sealV_ok 4 _ _ _ _ h
  · split at h
    · exact hr _ _ _ _ h
    · cases h; exact Gst.refl n E
  · split at h
    · exact hr _ _ _ _ h
    · cases h; exact Gst.refl n E
  · split at h
    · split at h
      · exact hr _ _ _ _ h
      · cases h; exact Gst.refl n E
    · cases h; exact Gst.refl n E
  · cases h; exact Gst.refl n E
theorem sealN_ok {n : Nat} {jh : List (Nat × OSh)} : ∀ (m : Nat) (us : List Sh) (vs : List TV) (E E' : TE), sealN jh m us vs E = some E' → Gst n E E'
  | 0, _, _, E, E', h => by simp only [sealN] at h; cases h; exact Gst.refl n E
  | m + 1, js, vs, E, E', h => sealF_ok (seal1_ok (sealN_ok m)) _ _ _ _ h
theorem sealSh_ok {n : Nat} {E E' : TE} {js : List Sh} {jh : List (Nat × OSh)} {vs : List TV} (h : sealSh js jh vs E = some E') : Gst n E E' := sealN_ok 5 _ _ _ _ h
def callS {R : Type} {P : Program} (cs : Cs P) (n : Nat) (o : Oper) (E : TE) (k : TE → Option R) : Option R := match owOf cs.o n o E with
  | some (w0, args0) => match owOf cs.o n o (orE E (sealSh w0.js w0.jh args0 E)) with
    | some (w, args) => owK w o (orE E (sealSh w0.js w0.jh args0 E)) args k
    | none => none
  | none => tstep P cs.c n o (autoSeal cs.c n o E) fun _ _ E' => k E'

theorem callS_ok {R : Type} {P : Program} {cs : Cs P} {n : Nat} {ops : Array Oper} {o : Oper} {E : TE} {k : TE → Option R} {r : R} (hE : E.ok) (h : callS cs n o E k = some r) (γ : Nat → Nat) :
    ∃ (e1 : Env) (γ2 : Nat → Nat) (E2 : TE) (v : V) (ups : List (Nat × Ob)), k E2 = some r ∧ Fx γ γ2 ∧ Le (E.env n γ) e1 ∧ ExU P o e1 v ups ∧ E2.env n γ2 = e1.upd o.dst v ups ∧ Ext E E2 ∧ E2.ok := by
  unfold callS at h
  split at h
  · rename_i w0 args0 hw0
    have hg : Gst n E (orE E (sealSh w0.js w0.jh args0 E)) := orE_ok fun E' h => sealSh_ok h
    obtain ⟨b1, b2, b3⟩ := hg
    generalize orE E (sealSh w0.js w0.jh args0 E) = E0 at *
    split at h
    · rename_i w args hw
      unfold owOf at hw
      split at hw
      · rename_i c ho
        split at hw
        · rename_i x hb
          split at hw
          · rename_i f caps hx
            split at hw
            · rename_i w' hf
              cases hw
              have hfe := Ow.find_ok hf
              obtain ⟨γ1, E1, E2, v, ups, a1, a2, a3, a4, a5, a6, a7⟩ := owKr_ok (swI_swL _) (swL_swI _) ho hb (by rw [hx, hfe]) (b3 hE) h γ
              exact ⟨_, γ1, E2, v, ups, a1, a2, (b1 γ).trans a3, a4, a5, b2.trans a6, a7⟩
            · cases hw
          · cases hw
        · cases hw
      · cases hw
    · cases h
  · obtain ⟨a1, a2, a3⟩ := autoSeal_ok cs.c n o E
    obtain ⟨E', wk, rd, hk, s1, s2, s3⟩ := tstep_ok (G := []) (ops := ops) (a3 hE) h
    obtain ⟨γ', v, ups, q1, q2, q3, q4, _⟩ := s3 γ
    exact ⟨_, γ', E', v, ups, hk, q4, a1 γ, q1 _ (by simp [TE.env, SE]) (SameG.refl _ _) (fun _ _ => rfl), q3, a2.trans s1, s2 (a3 hE)⟩

/-- The operations of a region in text order. -/
def exS {R : Type} (P : Program) (cs : Cs P) (n : Nat) (ops : Array Oper) : List (Nat × Oper) → TE → (TE → Option R) → Option R
  | [], E, k => k E
  | (i, o) :: os, E, k =>
    match o.guard with
    | none => callS cs n o E fun E' => exS P cs n ops os E' k
    | some (j, want) => match dstOf ops j with
      | none => none
      | some d => match E.get n d with
        | .leaf .bool b => cond b
          (match want with
            | true => callS cs n o (E.lit d true) fun E' => exS P cs n ops os E' k
            | false => exS P cs n ops os ((E.lit d true).put o.dst (.tup [])) k)
          (match want with
            | true => exS P cs n ops os ((E.lit d false).put o.dst (.tup [])) k
            | false => callS cs n o (E.lit d false) fun E' => exS P cs n ops os E' k)
        | .tup [] => exS P cs n ops os (E.put o.dst (.tup [])) k
        | _ => none

def EvS (P : Program) (ops : Array Oper) : List (Nat × Oper) → Env → (Env → Prop) → Prop
  | [], e, K => K e
  | (_, o) :: os, e, K => (gd ops e o = some false ∧ EvS P ops os (e.upd o.dst (.tup []) []) K) ∨
    (gd ops e o = some true ∧ ∃ e1, Le e e1 ∧ ∃ v ups, ExU P o e1 v ups ∧ EvS P ops os (e1.upd o.dst v ups) K)

theorem evs_mono {P : Program} {ops : Array Oper} {K K' : Env → Prop} (hK : ∀ e, K e → K' e) : ∀ {l : List (Nat × Oper)} {e : Env}, EvS P ops l e K → EvS P ops l e K'
  | [], e, h => hK e h
  | (i, o) :: os, e, h => by
    rcases h with ⟨g, h⟩ | ⟨g, e1, hl, v, ups, hx, h⟩
    · exact .inl ⟨g, evs_mono hK h⟩
    · exact .inr ⟨g, e1, hl, v, ups, hx, evs_mono hK h⟩

theorem evs_run {P : Program} {ops : Array Oper} {K : Env → Prop} : ∀ (l : List (Nat × Oper)) (e : Env), (∀ x ∈ l, ops[x.1]? = some x.2) → EvS P ops l e K → ∃ e', Run hiI P ops (l.map (·.1)) e e' ∧ K e'
  | [], e, _, h => ⟨e, .nil, h⟩
  | (i, o) :: os, e, hl, h => by
    have ho : ops[i]? = some o := hl (i, o) (by simp)
    rcases h with ⟨g, h⟩ | ⟨g, e1, hle, v, ups, hx, h⟩
    · obtain ⟨e', h1, h2⟩ := evs_run os _ (fun x hx => hl x (by simp [hx])) h
      exact ⟨e', .skip ho g h1, h2⟩
    · obtain ⟨e', h1, h2⟩ := evs_run os _ (fun x hx => hl x (by simp [hx])) h
      exact ⟨e', .opw ho g hle hx h1, h2⟩

theorem exS_ok {R : Type} {P : Program} {cs : Cs P} {n : Nat} {ops : Array Oper} {r : R} : ∀ (l : List (Nat × Oper)) (E : TE) (k : TE → Option R), exS P cs n ops l E k = some r → E.ok → ∀ γ,
    EvS P ops l (E.env n γ) (fun e' => ∃ γ' E', k E' = some r ∧ E'.ok ∧ Ext E E' ∧ e' = E'.env n γ' ∧ Fx γ γ')
  | [], E, k, h, hE, γ => ⟨γ, E, h, hE, Ext.refl E, rfl, Fx.refl _⟩
  | (i, o) :: os, E, k, h, hE, γ => by
    have go : ∀ (E1 : TE), Ext E E1 → E1.ok → E1.env n γ = E.env n γ → gd ops (E.env n γ) o = some true →
        (callS cs n o E1 fun E' => exS P cs n ops os E' k) = some r →
        EvS P ops ((i, o) :: os) (E.env n γ) (fun e' => ∃ γ' E', k E' = some r ∧ E'.ok ∧ Ext E E' ∧ e' = E'.env n γ' ∧ Fx γ γ') := by
      intro E1 hx hok henv hg hs
      obtain ⟨e1, γ', E', v, ups, hk, q4, hle, q1, q3, s1, s2⟩ := callS_ok (ops := ops) hok hs γ
      refine .inr ⟨hg, e1, by rw [← henv]; exact hle, v, ups, q1, ?_⟩
      rw [← q3]
      exact evs_mono (fun e' ⟨γ2, E2, b1, b2, b3, b4, b5⟩ => ⟨γ2, E2, b1, b2, (hx.trans s1).trans b3, b4, q4.trans b5⟩) (exS_ok os E' k hk s2 γ')
    have skip : ∀ (E1 : TE), Ext E E1 → E1.ok → E1.env n γ = E.env n γ → gd ops (E.env n γ) o = some false →
        exS P cs n ops os (E1.put o.dst (.tup [])) k = some r →
        EvS P ops ((i, o) :: os) (E.env n γ) (fun e' => ∃ γ' E', k E' = some r ∧ E'.ok ∧ Ext E E' ∧ e' = E'.env n γ' ∧ Fx γ γ') := by
      intro E1 hx hok henv hg hs
      refine .inl ⟨hg, ?_⟩
      have := exS_ok os _ k hs (ok_put hok) γ
      rw [env_put, henv] at this
      exact evs_mono (fun e' ⟨γ2, E2, a1, a2, a3, a4, a5⟩ => ⟨γ2, E2, a1, a2, (hx.trans (ext_put _ _ _)).trans a3, a4, a5⟩) this
    simp only [exS] at h
    split at h
    · rename_i hgd
      exact go E (Ext.refl E) hE rfl (by unfold gd; rw [hgd]) h
    · rename_i j want hgd
      split at h
      · cases h
      · rename_i d hd
        split at h
        · rename_i b hb
          obtain ⟨hdn, hs⟩ := get_slot hb (by simp)
          have hgv : ∀ w : Bool, want = w → gd ops (E.env n γ) o = some (bif w then b else !b) := by
            intro w hw
            unfold gd
            rw [hgd]
            simp only [dstOf_eq, hd, env_t hdn, hs, TV.v]
            rw [← hw]
            rfl
          cases b with
          | true =>
            simp only [cond_true] at h
            cases want with
            | true => exact go _ (lit_ext hs) (lit_ok hs hE) (lit_env hs n γ) (hgv true rfl) h
            | false => exact skip _ (lit_ext hs) (lit_ok hs hE) (lit_env hs n γ) (hgv false rfl) h
          | false =>
            simp only [cond_false] at h
            cases want with
            | true => exact skip _ (lit_ext hs) (lit_ok hs hE) (lit_env hs n γ) (hgv true rfl) h
            | false => exact go _ (lit_ext hs) (lit_ok hs hE) (lit_env hs n γ) (hgv false rfl) h
        · rename_i hb
          obtain ⟨hdn, hs⟩ := get_slot hb (by simp)
          refine skip E (Ext.refl E) hE rfl ?_ h
          unfold gd
          rw [hgd]
          simp only [dstOf_eq, hd, env_t hdn, hs, TV.v, TV.vL]
        · cases h

def idxd (l : List Oper) : List (Nat × Oper) := l.zipIdx.map fun x => (x.2, x.1)

/-- Does something get a new generation? -/
def hasApp : List Oper → Bool
  | [] => false
  | o :: r => match o.op with
    | .call c => match c.callee with
      | .builtin .len => hasApp r
      | .builtin .clear => hasApp r
      | .builtin .copy => hasApp r
      | .builtin .min => hasApp r
      | .builtin .max => hasApp r
      | _ => true
    | _ => hasApp r
def gens (l : List Oper) (E : TE) : List Nat := match hasApp l with
  | true => []
  | false => E.h.map (·.1)
def exR {R : Type} (P : Program) (cs : Cs P) (n : Nat) (l : List Oper) (draw : Bool) (E : TE) (k : TE → Option R) : Option R :=
  match draw with
  | false => exS P cs n l.toArray (idxd l) E k
  | true => match dstOk l n, edgesBack .any l.toArray with
    | true, true => exD P cs n (gens l E) l.toArray (idxd l) E [] fun infs E' => match okInf l.toArray infs with
      | true => k E'
      | false => none
    | _, _ => none

/-! ### Code -/

structure Ks (R : Type) where
  nx : TE → Option R
  ex : Nat → TE → Option R
  rt : TE → Option R

/-- What a piece of code comes to. -/
def PostK {R : Type} (n : Nat) (E0 : TE) (γ : Nat → Nat) (ks : Ks R) (r : R) : Post
  | .normal, e => ∃ γ' E', E'.ok ∧ Ext E0 E' ∧ Le e (E'.env n γ') ∧ ks.nx E' = some r ∧ Fx γ γ'
  | .exit j, e => ∃ γ' E', E'.ok ∧ Ext E0 E' ∧ Le e (E'.env n γ') ∧ ks.ex j E' = some r ∧ Fx γ γ'
  | .ret, e => ∃ γ' E', E'.ok ∧ Ext E0 E' ∧ Le e (E'.env n γ') ∧ ks.rt E' = some r ∧ Fx γ γ'
  | _, _ => False

theorem evd_monoK {P : Program} {l : List (Nat × Oper)} {G : List Nat} {ops : Array Oper} {e : Env} {acc : List Inf} {K K' : List Inf → Env → Prop} (hK : ∀ infs e', K infs e' → K' infs e') (h : EvD P G ops l e acc K) : EvD P G ops l e acc K' := by
  induction l generalizing e acc with
  | nil => exact hK _ _ h
  | cons x l ih =>
    obtain ⟨i, o⟩ := x
    rcases h with ⟨g, h⟩ | ⟨v, ups, rd, hl, hgk, h⟩
    · exact .inl ⟨g, ih h⟩
    · exact .inr ⟨v, ups, rd, hl, hgk, ih h⟩

theorem exR_ok {R : Type} {P : Program} {cs : Cs P} {n id : Nat} {l : List Oper} {draw : Bool} {E : TE} {ks : Ks R} {r : R} (hm : P.follows .mixedOrders = true) (h : exR P cs n l draw E ks.nx = some r) (hE : E.ok) (γ : Nat → Nat) :
    Tr rr P (.region id l.toArray draw) (E.env n γ) (PostK n E γ ks r) := by
  unfold exR at h
  split at h
  · have := exS_ok _ E _ h hE γ
    refine tr_region ?_
    obtain ⟨e', h1, γ', E', h2, h3, h4, h5, h6⟩ := evs_run _ _ (idx_mem l) this
    rw [idx_map] at h1
    exact ⟨e', by simpa using h1, γ', E', h3, h4, by rw [h5]; exact Le.refl _, h2, h6⟩
  · split at h
    · rename_i h1 h2
      have := exD_ok _ E [] _ h hE γ
      refine tr_draw (gens l E) (fun t => sched_mixed hm h2 t) n (by simp [TE.env, SE]) h1 ?_
      refine evd_monoK (fun infs e' ⟨γ', E', h1, h2, h3, h4, h6⟩ => ?_) this
      split at h1
      · rename_i ho; exact ⟨ho, γ', E', h2, h3, by rw [h4]; exact Le.refl _, h1, h6⟩
      · cases h1
    · cases h

/-- Ways that meet. -/
def join {J R : Type} (rest : J → Option R) (body : (J → Option R) → Option R) : Option R := body rest

def forK {α S R : Type} (body : Nat → α → S → (S → Option R) → Option R) : Nat → List α → S → (S → Option R) → Option R
  | _, [], s, k => k s
  | i, x :: xs, s, k => body i x s fun s' => forK body (i + 1) xs s' k

/-- From i on, m times. -/
def cntK {S R : Type} (body : Nat → S → (S → Option R) → Option R) : Nat → Nat → S → (S → Option R) → Option R
  | _, 0, s, k => k s
  | i, m + 1, s, k => body i s fun s' => cntK body (i + 1) m s' k

def whK {S R : Type} (body : (S → Option R) → S → Option R) : Nat → S → Option R
  | 0, _ => none
  | k + 1, s => body (whK body k) s

/-- Hints: what is told anew where ways meet, and what is sealed. -/
inductive HT where
  | n
  | g (gs : List Gh)
  | s (a b : HT)
  | j (J : J) (a b : HT)
  | c (a b : HT)
  | w (J : J) (a : HT)
  | l (J : J) (a : HT)
  | q (slot : Nat)

/-- Whatever an empty list is, nil or not. -/
noncomputable def both {R : Type} (a b : Option R) : Option R := open Classical in if a = b then a else none

noncomputable def lcase {α R : Type} (l : List α) (a b : Option R) (c : α → List α → Option R) : Option R := match l with
  | [] => both a b
  | x :: xs => c x xs

theorem both_some {R : Type} {a b : Option R} {r : R} (h : both a b = some r) : a = some r ∧ b = some r := by
  unfold both at h
  split at h
  · rename_i e; exact ⟨h, e ▸ h⟩
  · cases h
theorem both_same {R : Type} (a : Option R) : both a a = a := by unfold both; rw [if_pos rfl]

def HT.two : HT → HT × HT
  | .s a b => (a, b)
  | .c a b => (a, b)
  | _ => (.n, .n)

def oneI : Operand → Bool
  | .const (.int .i64 (.ofNat n)) => Nat.beq n 1
  | _ => false

/-- The parts of a counting loop: its test, its counter, its number, the counter's successor. -/
def rngOk (b0 b0' : Nat) (ops1 : List Oper) (d1 : Bool) (c : Operand) (ops2 : List Oper) (d2 : Bool) : Option (Nat × Nat × Nat × Nat) :=
  match d1, d2, c, Nat.beq b0' b0 with
  | false, false, .tmp tC, true => match ops1, ops2 with
    | [⟨some tC', .binOp .lss _ (.tmp tI) (.tmp tN) _, _, _, _, none⟩], [⟨some t2, .binOp .add _ (.tmp tI') one _, _, _, _, none⟩, ⟨some tI'', opz, _, _, _, none⟩] =>
      match Nat.beq tC' tC, Nat.beq tI' tI, Nat.beq tI'' tI, oneI one, (match opz with | .move (.tmp x) => Nat.beq x t2 | .assign (.tmp x) => Nat.beq x t2 | _ => false) with
      | true, true, true, true, true => some (tC, tI, tN, t2)
      | _, _, _, _, _ => none
    | _, _ => none
  | _, _, _, _ => none

def zeroI : TV → Bool
  | .leaf (.int .i64) z => match (z : Int) with
    | .ofNat n => Nat.beq n 0
    | _ => false
  | _ => false

def findL (ms : List Memo) (tN : Nat) : Option Memo := ms.find? fun m => match Nat.beq m.ti tN, m.w with
  | true, none => true
  | _, _ => false

/-- The slots of a counting loop keep out of each other's way. -/
def slotsOk (n tC tI tN t2 : Nat) (j : J) : Bool :=
  match Nat.beq tC tI, Nat.beq tC tN, Nat.beq t2 tI, Nat.beq t2 tN, Nat.beq tI tN with
  | false, false, false, false, false => match Nat.blt tC n, Nat.blt tI n, Nat.blt tN n, Nat.blt t2 n with
    | true, true, true, true => match mem tI j.ks, mem tN j.ks, mem t2 j.ks with
      | true, true, false => match mem tI (j.js.map (·.1)), mem tN (j.js.map (·.1)), mem t2 (j.js.map (·.1)) with
        | false, false, false => true
        | _, _, _ => false
      | _, _, _ => false
    | _, _, _, _ => false
  | _, _, _, _, _ => false

def TE.at (E : TE) (tI k : Nat) : TE := E.put (some tI) (.leaf (.int .i64) (k : Int))

variable {R : Type} (P : Program) (cs : Cs P) (fu n : Nat)

noncomputable def ex : Code → HT → TE → Ks R → Option R
  | .skip, _, E, ks => ks.nx E
  | .label _, _, E, ks => ks.nx E
  | .ret, _, E, ks => ks.rt E
  | .exit j, _, E, ks => ks.ex j E
  | .region _ ops draw, h, E, ks => match h with
    | .g gs => match ghost E gs with
      | some E' => exR P cs n ops.toList draw E' ks.nx
      | none => none
    | .q i => match E.get n i with
      | .leaf (.list t) l => lcase l (exR P cs n ops.toList draw (E.put (some i) .nil) ks.nx) (exR P cs n ops.toList draw (E.put (some i) (.emp t.size)) ks.nx)
        fun x xs => exR P cs n ops.toList draw (E.put (some i) (.leaf (.list t) (x :: xs))) ks.nx
      | _ => none
    | _ => exR P cs n ops.toList draw E ks.nx
  | .seq a b, h, E, ks => match h with
    | .j J ha hb => join (fun d => match (J.un E d).closed with
        | true => ex b hb (J.un E d) ks
        | false => none) fun K => ex a ha E ⟨fun E' => (J.pk E E').bind K, ks.ex, ks.rt⟩
    | h => ex a h.two.1 E ⟨fun E' => ex b h.two.2 E' ks, ks.ex, ks.rt⟩
  | .cond c x y, h, E, ks => match c with
    | .tmp t => match E.get n t with
      | .leaf .bool b => cond b (ex x h.two.1 (E.lit t true) ks) (ex y h.two.2 (E.lit t false) ks)
      | _ => none
    | c => match tev E n c with
      | .leaf .bool b => cond b (ex x h.two.1 E ks) (ex y h.two.2 E ks)
      | _ => none
  | .loop c, h, E, ks => match h with
    | .w J hb => match J.pk E E with
      | some d0 => whK (fun self d => match (J.un E d).closed with
        | true => ex c hb (J.un E d) ⟨fun E' => (J.pk E E').bind self, ks.ex, ks.rt⟩
        | false => none) fu d0
      | none => none
    | _ => none
  | .block b0 c, h, E, ks => match h with
    | .l J hb => match c with
      | .loop (.seq (.region _ ops1 d1) (.seq (.cond cc .skip (.exit b0')) (.seq (.block b1 bodyc) (.region _ ops2 d2)))) =>
        match rngOk b0 b0' ops1.toList d1 cc ops2.toList d2 with
        | some (tC, tI, tN, t2) => match zeroI (E.get n tI), E.get n tN, slotsOk n tC tI tN t2 J, J.pk (E.at tI 0) (E.at tI 0) with
          | true, .leaf (.int .i64) N, true, some d0 =>
            match findL E.m tN with
            | some m => match mem m.tl J.ks, mem m.tl (J.js.map (·.1)), Nat.beq m.tl tI, Nat.beq m.tl tC, Nat.blt m.tl n with
              | true, false, false, false, true =>
                forK (fun k x d next => match (J.un E d).closed with
                  | true => ex bodyc hb ((((J.un (E.at tI k) d).put (some tC) (.leaf .bool true))).memo ⟨m.tl, tI, m.t, m.l, (k : Int), some x⟩)
                    ⟨fun E' => (J.pk (E.at tI k) E').bind next, fun j E' => match Nat.beq j b1 with
                      | true => (J.pk (E.at tI k) E').bind next
                      | false => match Nat.beq j b0 with
                        | true => ks.nx E'
                        | false => ks.ex j E', ks.rt⟩
                  | false => none) 0 m.l d0 fun d => match (J.un E d).closed with
                    | true => ks.nx (((J.un E d).put (some tI) .dead).put (some tC) .dead)
                    | false => none
              | _, _, _, _, _ => none
            | none => (chk ((N : Int) ≤ (LIM : Nat))).bind fun _ =>
                cntK (fun k d next => match (J.un E d).closed with
                  | true => ex bodyc hb ((J.un (E.at tI k) d).put (some tC) (.leaf .bool true))
                    ⟨fun E' => (J.pk (E.at tI k) E').bind next, fun j E' => match Nat.beq j b1 with
                      | true => (J.pk (E.at tI k) E').bind next
                      | false => match Nat.beq j b0 with
                        | true => ks.nx E'
                        | false => ks.ex j E', ks.rt⟩
                  | false => none) 0 (Int.toNat N) d0 fun d => match (J.un E d).closed with
                    | true => ks.nx (((J.un E d).put (some tI) .dead).put (some tC) .dead)
                    | false => none
          | _, _, _, _ => none
        | none => none
      | _ => none
    | h => ex c h E ⟨ks.nx, fun j E' => match Nat.beq j b0 with
        | true => ks.nx E'
        | false => ks.ex j E', ks.rt⟩
  | _, _, _, _ => none

end Go.PG.PH

/- The interpreter is right about code. -/
set_option linter.unusedSimpArgs false
set_option linter.unusedVariables false
namespace Go.PG.PH
variable {rr : Bool}

theorem post_ext {R : Type} {n : Nat} {E E1 : TE} {γ γ1 : Nat → Nat} {ks : Ks R} {r : R} (hx : Ext E E1) (hf : Fx γ γ1) : ∀ x e, PostK n E1 γ1 ks r x e → PostK n E γ ks r x e := by
  intro x e h
  cases x <;> first
    | (obtain ⟨γ', E', h1, h2, h3, h4, h5⟩ := h; exact ⟨γ', E', h1, hx.trans h2, h3, h4, hf.trans h5⟩)
    | exact h

/-! ### Counting loops -/

theorem sget_un_keep {j : J} {E : TE} {d : Ds j.tys} {i : Nat} (h1 : mem i j.ks = true) (h2 : mem i (j.js.map (·.1)) = false) : sget (j.un E d).s i = sget E.s i := by
  rw [un_s, sget_app, (unS_get _ _ 0 _ _).2.2.1, if_neg (fun h => by rw [mem_iff.2 h] at h2; cases h2), sget_keep, if_pos (mem_iff.1 h1)]
theorem sget_un_dead {j : J} {E : TE} {d : Ds j.tys} {i : Nat} (h1 : mem i j.ks = false) (h2 : mem i (j.js.map (·.1)) = false) : sget (j.un E d).s i = .dead := by
  rw [un_s, sget_app, (unS_get _ _ 0 _ _).2.2.1, if_neg (fun h => by rw [mem_iff.2 h] at h2; cases h2), sget_keep, if_neg (fun h => by rw [mem_iff.2 h] at h1; cases h1)]

theorem at_h (E : TE) (tI k : Nat) : (E.at tI k).h = E.h := rfl
theorem at_c (E : TE) (tI k : Nat) : (E.at tI k).c = E.c + 1 := rfl
theorem at_get (E : TE) (tI k i : Nat) : sget (E.at tI k).s i = if i = tI then .leaf (.int .i64) (k : Int) else sget E.s i := by
  unfold TE.at TE.put
  simp only [sget]
  cases e : Nat.beq i tI with
  | true => rw [if_pos (beqs e)]
  | false => rw [if_neg (beq_false.1 e)]

/-- The frame of a round, and that of the loop's end. -/
theorem un_at {j : J} {E : TE} {d : Ds j.tys} {tI k : Nat} : (∀ i, i ≠ tI → sget (j.un (E.at tI k) d).s i = sget (j.un E d).s i) ∧ ∀ m, oget (j.un (E.at tI k) d).h m = oget (j.un E d).h m := by
  refine ⟨fun i hi => ?_, fun m => ?_⟩
  · rw [un_s, un_s, sget_app, sget_app, at_h, (unS_get _ _ 0 _ _).2.2.1, (unS_get _ E.c 0 _ _).2.2.1, sget_keep, sget_keep, at_get, if_neg hi, (unS_get _ _ E.c _ _).2.1]
  · rw [un_h, un_h, oget_app, oget_app, at_h, (unS_get _ _ E.c _ _).1, (unO_get' _ _ E.c _ _).1]

theorem inS_iff {h : List (Nat × Nat × TOb)} : ∀ {s : List (Nat × Nat × TV)}, inS h s = true ↔ ∀ x ∈ s, x.2.2.inH h = true
  | [] => by simp [inS]
  | x :: r => by
    simp only [inS, List.mem_cons]
    cases hx : x.2.2.inH h with
    | true => simp only [inS_iff (s := r)]; exact ⟨fun h y hy => by rcases hy with rfl | hy; exact hx; exact h y hy, fun h y hy => h y (.inr hy)⟩
    | false => simp only [Bool.false_eq_true, false_iff]; intro h; have := h x (.inl rfl); rw [hx] at this; cases this

mutual
theorem inH_congr {h h' : List (Nat × Nat × TOb)} (he : ∀ m, oget h m = oget h' m) : ∀ v : TV, v.inH h = v.inH h'
  | .leaf _ _ => rfl
  | .agg cs => inHL_congr he cs
  | .tup cs => inHL_congr he cs
  | .pr cs => inHL_congr he cs
  | .fn _ cs => inHL_congr he cs
  | .nil => rfl | .emp _ => rfl | .nilp => rfl | .nilfn => rfl | .nilm => rfl | .dead => rfl
  | .so n _ _ _ _ => by simp only [TV.inH, he n]
  | .sof n _ _ => by simp only [TV.inH, he n]
  | .ep n _ _ _ _ => by simp only [TV.inH, he n]
theorem inHL_congr {h h' : List (Nat × Nat × TOb)} (he : ∀ m, oget h m = oget h' m) : ∀ cs : List TV, TV.inHL h cs = TV.inHL h' cs
  | [] => rfl
  | c :: cs => by simp only [TV.inHL, inH_congr he c, inHL_congr he cs]
end

theorem inO_mem {h : List (Nat × Nat × TOb)} : ∀ {s : List (Nat × Nat × TOb)}, inO h s = true ↔ ∀ x ∈ s, (match x.2.2 with | .els _ _ _ l => TV.inHL h l = true | _ => True)
  | [] => by simp [inO]
  | (i, c, .lst _ _ _) :: r => by
    simp only [inO, List.mem_cons, inO_mem (s := r)]
    exact ⟨fun h y hy => by rcases hy with rfl | hy; trivial; exact h y hy, fun h y hy => h y (.inr hy)⟩
  | (i, c, .els _ _ _ l) :: r => by
    simp only [inO, List.mem_cons]
    cases hx : TV.inHL h l with
    | true => simp only [inO_mem (s := r)]; exact ⟨fun h y hy => by rcases hy with rfl | hy; exact hx; exact h y hy, fun h y hy => h y (.inr hy)⟩
    | false => simp only [Bool.false_eq_true, false_iff]; intro h; have := h _ (.inl rfl); simp only [hx] at this; cases this

theorem unS_mem (G : Nat → Nat) (c c' : Nat) : ∀ (js : List (Nat × Sh)) (l : List Dv) x, x ∈ (unS G c js l).1 → ∃ y ∈ (unS G c' js l).1, y.2.2 = x.2.2
  | [], l, x, h => by simp [unS] at h
  | a :: js, l, x, h => by
    simp only [unS, List.mem_cons] at h ⊢
    rcases h with rfl | h
    · exact ⟨_, .inl rfl, rfl⟩
    · obtain ⟨y, h1, h2⟩ := unS_mem G c c' js _ x h; exact ⟨y, .inr h1, h2⟩
theorem unO_mem (G : Nat → Nat) (c c' : Nat) : ∀ (js : List (Nat × OSh)) (l : List Dv) x, x ∈ unO G c js l → ∃ y ∈ unO G c' js l, y.2.2 = x.2.2
  | [], l, x, h => by simp [unO] at h
  | a :: js, l, x, h => by
    simp only [unO, List.mem_cons] at h ⊢
    rcases h with rfl | h
    · exact ⟨_, .inl rfl, rfl⟩
    · obtain ⟨y, h1, h2⟩ := unO_mem G c c' js _ x h; exact ⟨y, .inr h1, h2⟩

theorem closed_at {j : J} {E : TE} {d : Ds j.tys} {tI k : Nat} (h : (j.un E d).closed = true) : (j.un (E.at tI k) d).closed = true := by
  have he : ∀ m, oget (j.un (E.at tI k) d).h m = oget (j.un E d).h m := un_at.2
  unfold TE.closed at h ⊢
  split at h
  · rename_i h1
    rw [inS_iff] at h1
    have s1 : inS (j.un (E.at tI k) d).h (j.un (E.at tI k) d).s = true := by
      rw [inS_iff]
      intro x hx
      rw [inH_congr he]
      rw [un_s, List.mem_append] at hx
      rcases hx with hx | hx
      · obtain ⟨y, hy, e⟩ := unS_mem _ _ E.c _ _ x hx
        rw [← e]
        exact h1 y (by rw [un_s]; exact List.mem_append_left _ hy)
      · obtain ⟨q1, q2, q3⟩ := keepS_mem hx
        rw [q2, at_get]
        split
        · rfl
        · rename_i hne
          have ht : stime E.s x.1 = some x.2.1 := by
            have := q3
            unfold TE.at TE.put at this
            simp only [stime, beq_false.2 hne] at this
            exact this
          have hm : (x.1, x.2.1, sget E.s x.1) ∈ keepS E.s j.ks := by
            have : ∀ ks : List Nat, x.1 ∈ ks → (x.1, x.2.1, sget E.s x.1) ∈ keepS E.s ks := by
              intro ks
              induction ks with
              | nil => intro h; cases h
              | cons a ks ih =>
                intro hm
                simp only [keepS]
                by_cases e : x.1 = a
                · subst e; rw [ht]; simp
                · have := ih (by rcases List.mem_cons.1 hm with h | h; exact absurd h e; exact h)
                  split
                  · exact List.mem_cons_of_mem _ this
                  · exact this
            exact this _ q1
          exact h1 _ (by rw [un_s]; exact List.mem_append_right _ hm)
    rw [s1]
    rw [inO_mem] at h ⊢
    intro x hx
    rw [un_h, List.mem_append] at hx
    have key : ∀ y ∈ (j.un E d).h, y.2.2 = x.2.2 → (match x.2.2 with | .els _ _ _ l => TV.inHL (j.un (E.at tI k) d).h l = true | _ => True) := by
      intro y hy e
      have := h y hy
      rw [e] at this
      split
      · rename_i hx'; rw [hx'] at this; rw [inHL_congr he]; exact this
      · trivial
    rcases hx with hx | hx
    · rw [at_h, (unS_get _ _ E.c _ _).1] at hx
      obtain ⟨y, hy, e⟩ := unO_mem _ _ E.c _ _ x hx
      exact key y (by rw [un_h]; exact List.mem_append_left _ hy) e
    · exact key x (by rw [un_h]; exact List.mem_append_right _ hx) rfl
  · cases h

theorem env_at_set {j : J} {E : TE} {d : Ds j.tys} {tI k k' n : Nat} {γ : Nat → Nat} (h1 : mem tI j.ks = true) (h2 : mem tI (j.js.map (·.1)) = false) (hn : tI < n) :
    (j.un (E.at tI k) d).env n γ = ⟨((j.un (E.at tI k') d).env n γ).t.set tI (.int .i64 k), ((j.un (E.at tI k') d).env n γ).h⟩ := by
  have hh : (j.un (E.at tI k) d).h = (j.un (E.at tI k') d).h := rfl
  have e1 : (⟨((j.un (E.at tI k') d).env n γ).t.set tI (.int .i64 k), ((j.un (E.at tI k') d).env n γ).h⟩ : Env) = SE n ((tI, .int .i64 k) :: (j.un (E.at tI k') d).slots γ) ((j.un (E.at tI k') d).heap γ) := by
    have := se_upd n ((j.un (E.at tI k') d).slots γ) ((j.un (E.at tI k') d).heap γ) tI (.int .i64 k) []
    exact this
  rw [e1]
  unfold TE.env SE
  simp only [Env.mk.injEq]
  refine ⟨?_, rfl⟩
  apply List.map_congr_left
  intro i _
  rw [show aget ((j.un (E.at tI k) d).slots γ) i = _ from aget_slots _ _ _ _]
  simp only [aget]
  rw [show aget ((j.un (E.at tI k') d).slots γ) i = _ from aget_slots _ _ _ _, hh]
  by_cases hi : i = tI
  · subst hi
    rw [if_pos rfl, sget_un_keep h1 h2, at_get, if_pos rfl]; rfl
  · rw [if_neg hi, un_at.1 i hi, un_at.1 i hi]

theorem slotsOk_ok {n tC tI tN t2 : Nat} {j : J} (h : slotsOk n tC tI tN t2 j = true) : (tC ≠ tI ∧ tC ≠ tN ∧ t2 ≠ tI ∧ t2 ≠ tN ∧ tI ≠ tN) ∧ (tC < n ∧ tI < n ∧ tN < n ∧ t2 < n) ∧ (mem tI j.ks = true ∧ mem tN j.ks = true ∧ mem t2 j.ks = false) ∧
    (mem tI (j.js.map (·.1)) = false ∧ mem tN (j.js.map (·.1)) = false ∧ mem t2 (j.js.map (·.1)) = false) := by
  unfold slotsOk at h
  split at h
  · rename_i a1 a2 a3 a4 a5
    split at h
    · rename_i b1 b2 b3 b4
      split at h
      · rename_i c1 c2 c3
        split at h
        · rename_i d1 d2 d3
          exact ⟨⟨beq_false.1 a1, beq_false.1 a2, beq_false.1 a3, beq_false.1 a4, beq_false.1 a5⟩, ⟨by simpa [Nat.blt_eq] using b1, by simpa [Nat.blt_eq] using b2, by simpa [Nat.blt_eq] using b3, by simpa [Nat.blt_eq] using b4⟩, ⟨c1, c2, c3⟩, d1, d2, d3⟩
        · cases h
      · cases h
    · cases h
  · cases h

theorem zeroI_ok {v : TV} (h : zeroI v = true) : v = .leaf (.int .i64) (0 : Int) := by
  unfold zeroI at h
  split at h
  · split at h
    · have := beqs h; subst this; rfl
    · cases h
  · cases h

theorem oneI_ok {x : Operand} (h : oneI x = true) : x = .const (.int .i64 1) := by
  unfold oneI at h
  split at h
  · have := beqs h; subst this; rfl
  · cases h

/-- A counting loop: L tells what is to come. -/
theorem tr_range {R : Type} {P : Program} {n b0 b1 ida idz tC tI tN t2 ty1 ty2 ty3 ty4 ty5 ty6 ty7 : Nat} {p1 p2 p3 : String} {a1 a2 a3 : Array Edge} {body : Code} {opz : Op} {j : J} {E : TE} {ks : Ks R} {r : R} {N : Int} {d0 : Ds j.tys} (γ : Nat → Nat)
    (L : Nat → Ds j.tys → Option R) (hN : N ≤ LIM) (hz : opz = .move (.tmp t2) ∨ opz = .assign (.tmp t2)) (hE : E.ok)
    (h0 : E.get n tI = .leaf (.int .i64) (0 : Int)) (hNs : E.get n tN = .leaf (.int .i64) N) (hs : slotsOk n tC tI tN t2 j = true) (hp : j.pk (E.at tI 0) (E.at tI 0) = some d0) (hL : L 0 d0 = some r)
    (hcl : ∀ k d, L k d = some r → (j.un E d).closed = true)
    (hstep : ∀ (k : Nat) d γ, (k : Int) < N → L k d = some r → Tr rr P body ((((j.un (E.at tI k) d).put (some tC) (.leaf .bool true))).env n γ)
      (PostK n ((j.un (E.at tI k) d).put (some tC) (.leaf .bool true)) γ ⟨fun E' => (j.pk (E.at tI k) E').bind (L (k + 1)), fun i E' => match Nat.beq i b1 with
        | true => (j.pk (E.at tI k) E').bind (L (k + 1))
        | false => match Nat.beq i b0 with
          | true => ks.nx E'
          | false => ks.ex i E', ks.rt⟩ r))
    (hend : ∀ k d, k = N.toNat → L k d = some r → ks.nx (((j.un E d).put (some tI) .dead).put (some tC) .dead) = some r) :
    Tr rr P (.block b0 (.loop (.seq (.region ida #[⟨some tC, .binOp .lss ty1 (.tmp tI) (.tmp tN) ty2, ty3, p1, a1, none⟩] false)
      (.seq (.cond (.tmp tC) .skip (.exit b0)) (.seq (.block b1 body)
        (.region idz #[⟨some t2, .binOp .add ty4 (.tmp tI) (.const (.int .i64 1)) ty5, ty6, p2, a2, none⟩, ⟨some tI, opz, ty7, p3, a3, none⟩] false)))))) (E.env n γ) (PostK n E γ ks r) := by
  obtain ⟨hne, ⟨l1, l2, l3, l4⟩, ⟨k1, k2, k3⟩, m1, m2, m3⟩ := slotsOk_ok hs
  have hne' := hne
  obtain ⟨d1, d2, d3, d4, d5⟩ := hne'
  have hNs' : sget E.s tN = .leaf (.int .i64) N := (get_slot hNs (by simp)).2
  have h0' : sget E.s tI = .leaf (.int .i64) (0 : Int) := (get_slot h0 (by simp)).2
  have hat : (E.at tI 0).env n γ = E.env n γ := by
    unfold TE.at
    rw [env_put]
    unfold TE.env
    rw [se_upd]
    unfold SE
    simp only [Env.mk.injEq]
    refine ⟨?_, rfl⟩
    apply List.map_congr_left
    intro i _
    simp only [aget]
    split
    · rename_i e
      subst e
      rw [show aget (E.slots γ) i = _ from aget_slots _ _ _ _, h0']; rfl
    · rfl
  obtain ⟨γ0, hf0, hle0⟩ := pk_le (n := n) hp (Ext.refl _) (closed_at (hcl 0 d0 hL)) γ
  rw [hat] at hle0
  refine tr_rangeE (N := N) (fun k (s : Ds j.tys × (Nat → Nat)) => (j.un (E.at tI k) s.1).env n s.2) (fun k s => L k s.1 = some r ∧ Fx γ s.2) (d0, γ0) hN hz hne (fun k s => ?_) ⟨hL, hf0⟩ hle0 (fun k s hk hI => ?_) (fun k s hk hI => ?_)
  · refine ⟨?_, ?_, ?_, by rw [TE.env, se_len]; exact l1⟩
    · rw [env_t l3, sget_un_keep k2 m2, at_get, if_neg (Ne.symm d5), hNs']; rfl
    · rw [env_t l2, sget_un_keep k1 m1, at_get, if_pos rfl]; rfl
    · rw [env_t l4, sget_un_dead k3 m3]; rfl
  · obtain ⟨d, γ1⟩ := s
    obtain ⟨hI, hf1⟩ := hI
    dsimp only at hI hf1 ⊢
    have := hstep k d γ1 hk hI
    rw [env_put] at this
    refine this.mono ?_
    have hx : Ext (E.at tI k) ((j.un (E.at tI k) d).put (some tC) (.leaf .bool true)) := (ext_un _ _ _).trans (ext_put _ _ _)
    have hx0 : Ext E ((j.un (E.at tI k) d).put (some tC) (.leaf .bool true)) := (ext_put E _ _).trans hx
    have nxt : ∀ e' γ' E', Fx γ γ' → E'.ok → Ext ((j.un (E.at tI k) d).put (some tC) (.leaf .bool true)) E' → Le e' (E'.env n γ') → (j.pk (E.at tI k) E').bind (L (k + 1)) = some r →
        ∃ s' : Ds j.tys × (Nat → Nat), (L (k + 1) s'.1 = some r ∧ Fx γ s'.2) ∧ Le e' ⟨((j.un (E.at tI (k + 1)) s'.1).env n s'.2).t.set tI (.int .i64 k), ((j.un (E.at tI (k + 1)) s'.1).env n s'.2).h⟩ := by
      intro e' γ' E' hfx hok hext hle hb
      obtain ⟨d', hd', hL'⟩ := bind_some' hb
      obtain ⟨γ2, hf2, hle2⟩ := pk_le (n := n) hd' (hx.trans hext) (closed_at (hcl _ _ hL')) γ'
      refine ⟨(d', γ2), ⟨hL', hfx.trans hf2⟩, ?_⟩
      rw [← env_at_set k1 m1 l2]
      exact hle.trans hle2
    intro x e' hq
    cases x with
    | normal =>
      obtain ⟨γ', E', h1, h2, h3, h4, h5⟩ := hq
      exact nxt e' γ' E' (hf1.trans h5) h1 h2 h3 h4
    | exit i =>
      obtain ⟨γ', E', h1, h2, h3, h4, h5⟩ := hq
      simp only [rangePost]
      cases e1 : Nat.beq i b1 with
      | true =>
        rw [if_pos (beqs e1)]
        simp only [e1] at h4
        exact nxt e' γ' E' (hf1.trans h5) h1 h2 h3 h4
      | false =>
        rw [if_neg (beq_false.1 e1)]
        simp only [e1] at h4
        cases e2 : Nat.beq i b0 with
        | true =>
          rw [if_pos (beqs e2)]
          simp only [e2] at h4
          exact ⟨γ', E', h1, hx0.trans h2, h3, h4, hf1.trans h5⟩
        | false =>
          rw [if_neg (beq_false.1 e2)]
          simp only [e2] at h4
          exact ⟨γ', E', h1, hx0.trans h2, h3, h4, hf1.trans h5⟩
    | ret =>
      obtain ⟨γ', E', h1, h2, h3, h4, h5⟩ := hq
      exact ⟨γ', E', h1, hx0.trans h2, h3, h4, hf1.trans h5⟩
    | _ => exact hq
  · obtain ⟨d, γ1⟩ := s
    obtain ⟨hI, hf1⟩ := hI
    dsimp only at hI hf1 ⊢
    have hk' := hend k d hk hI
    refine ⟨γ1, _, ok_put (ok_put (un_ok hE)), (ext_un _ _ _).trans ((ext_put _ _ _).trans (ext_put _ _ _)), ?_, hk', hf1⟩
    rw [env_put, env_put]
    unfold TE.env
    rw [se_upd, se_upd, se_upd]
    obtain ⟨u1, u2⟩ := un_at (j := j) (E := E) (d := d) (tI := tI) (k := k)
    have hol : olen (j.un (E.at tI k) d).h = olen (j.un E d).h := by funext m; unfold olen; rw [u2 m]
    have hol2 : olen (((j.un E d).put (some tI) .dead)).h = olen (j.un E d).h := rfl
    simp only [hsets]
    refine le_up (fun i _ => ?_) (fun m o' ho' => .inl ⟨o', ?_, ObUp.refl _⟩) (fun m o ho => ?_)
    · simp only [aget]
      split
      · exact .inl rfl
      · split
        · exact .inl rfl
        · rename_i hi
          right
          rw [show aget ((j.un (E.at tI k) d).slots γ1) i = _ from aget_slots _ _ _ _, show aget ((j.un E d).slots γ1) i = _ from aget_slots _ _ _ _, hol, u1 i hi]
          exact VUp.refl _
    · rw [show hget ((j.un (E.at tI k) d).heap γ1) m = _ from hget_heap _ _ _, hol, u2 m]
      rw [show hget ((j.un E d).heap γ1) m = _ from hget_heap _ _ _] at ho'
      exact ho'
    · rw [show hget ((j.un (E.at tI k) d).heap γ1) m = _ from hget_heap _ _ _, hol, u2 m] at ho
      rw [show hget ((j.un E d).heap γ1) m = _ from hget_heap _ _ _, ho]
      simp

end Go.PG.PH

/- The interpreter is right: code, functions. -/
set_option linter.unusedSimpArgs false
set_option linter.unusedVariables false
namespace Go.PG.PH
variable {rr : Bool}

theorem rngOk_ok {b0 b0' : Nat} {ops1 ops2 : List Oper} {dd1 dd2 : Bool} {c : Operand} {tC tI tN t2 : Nat} (h : rngOk b0 b0' ops1 dd1 c ops2 dd2 = some (tC, tI, tN, t2)) :
    dd1 = false ∧ dd2 = false ∧ c = .tmp tC ∧ b0' = b0 ∧ ∃ ty1 ty2 ty3 ty4 ty5 ty6 ty7 p1 p2 p3 a1 a2 a3 opz, ops1 = [⟨some tC, .binOp .lss ty1 (.tmp tI) (.tmp tN) ty2, ty3, p1, a1, none⟩] ∧
      ops2 = [⟨some t2, .binOp .add ty4 (.tmp tI) (.const (.int .i64 1)) ty5, ty6, p2, a2, none⟩, ⟨some tI, opz, ty7, p3, a3, none⟩] ∧ (opz = .move (.tmp t2) ∨ opz = .assign (.tmp t2)) := by
  unfold rngOk at h
  split at h
  · rename_i hb
    split at h
    · split at h
      · rename_i h1 h2 h3 h4 h5
        cases h
        have := beqs h1; subst this
        have := beqs h2; subst this
        have := beqs h3; subst this
        have := oneI_ok h4; subst this
        refine ⟨rfl, rfl, rfl, beqs hb, _, _, _, _, _, _, _, _, _, _, _, _, _, _, rfl, rfl, ?_⟩
        split at h5
        · have := beqs h5; subst this; exact .inl rfl
        · have := beqs h5; subst this; exact .inr rfl
        · cases h5
      · cases h
    · cases h
  · cases h

theorem toArr (a : Array Oper) : a.toList.toArray = a := by simp

theorem findL_ok {ms : List Memo} {tN : Nat} {m : Memo} (h : findL ms tN = some m) : m ∈ ms ∧ m.ti = tN ∧ m.w = none := by
  unfold findL at h
  refine ⟨List.mem_of_find?_eq_some h, ?_⟩
  have hp := List.find?_some h
  split at hp
  · rename_i h1 h2; exact ⟨beqs h1, h2⟩
  · cases hp

theorem forK_drop {α S R : Type} (body : Nat → α → S → (S → Option R) → Option R) (l : List α) (k : Nat) (x : α) (s : S) (K : S → Option R) (h : l[k]? = some x) :
    forK body k (l.drop k) s K = body k x s fun s' => forK body (k + 1) (l.drop (k + 1)) s' K := by
  have hk := (List.getElem?_eq_some_iff.1 h)
  obtain ⟨hlt, rfl⟩ := hk
  rw [List.drop_eq_getElem_cons hlt]
  rfl

theorem tr_limK {P : Program} {c : Code} {n t sz : Nat} {l : List V} {E : TE} {γ : Nat → Nat} {Q : Post} (ht : t < n) (hv : (sget E.s t).v (olen E.h) γ = .sl sz l) (hk : l.length ≤ LIM → Tr rr P c (E.env n γ) Q) : Tr rr P c (E.env n γ) Q := by
  refine tr_lim_sl (t := t) (sz := sz) (l := l) ?_ (by simpa using ht) hk
  rw [show aget (E.slots γ) t = _ from aget_slots _ _ _ _]; exact hv

theorem ex_ok {R : Type} {P : Program} {cs : Cs P} {fu n : Nat} {r : R} (hm : P.follows .mixedOrders = true) : ∀ (sz : Nat) (c : Code), SizeOf.sizeOf c < sz → ∀ (h : HT) (E : TE) (ks : Ks R) (γ : Nat → Nat),
    ex P cs fu n c h E ks = some r → E.ok → Tr rr P c (E.env n γ) (PostK n E γ ks r) := by
  intro sz
  induction sz with
  | zero => intro c hc; omega
  | succ sz ih =>
    intro c hc h E ks γ hx hE
    have self : ∀ {K : TE → Option R}, K E = some r → ∃ γ' E', E'.ok ∧ Ext E E' ∧ Le (E.env n γ) (E'.env n γ') ∧ K E' = some r ∧ Fx γ γ' := fun h => ⟨γ, E, hE, Ext.refl E, Le.refl _, h, Fx.refl _⟩
    cases c with
    | skip => exact tr_skip (self (K := ks.nx) hx)
    | label l => exact tr_label (self (K := ks.nx) hx)
    | ret => exact tr_ret (self (K := ks.rt) hx)
    | exit j => exact tr_exit (self (K := ks.ex j) hx)
    | region id ops draw =>
      have plain : exR P cs n ops.toList draw E ks.nx = some r → Tr rr P (.region id ops draw) (E.env n γ) (PostK n E γ ks r) := fun hx => by
        have := exR_ok (rr := rr) (id := id) (ks := ks) hm hx hE γ
        rwa [toArr] at this
      cases h with
      | g gs =>
        simp only [ex] at hx
        split at hx
        · rename_i E' hg
          obtain ⟨g1, g2, g3⟩ := ghost_ok (k := n) hg
          obtain ⟨γ', hf1, hle⟩ := g1 γ
          have := exR_ok (rr := rr) (id := id) (ks := ks) hm hx (g3 hE) γ'
          rw [toArr] at this
          exact tr_le hle (this.mono (post_ext g2 hf1))
        · cases hx
      | q i =>
        simp only [ex] at hx
        split at hx
        · rename_i t l hg
          obtain ⟨hin, hs⟩ := get_slot hg (by simp)
          have go : ∀ v : TV, exR P cs n ops.toList draw (E.put (some i) v) ks.nx = some r → Tr rr P (.region id ops draw) (SE n ((i, v.v (olen E.h) γ) :: E.slots γ) (E.heap γ)) (PostK n E γ ks r) := fun v hv => by
            have := exR_ok (rr := rr) (id := id) (ks := ks) hm hv (ok_put hE) γ
            rw [toArr, env_put] at this
            unfold TE.env at this
            rw [se_upd] at this
            exact this.mono (post_ext (ext_put _ _ _) (Fx.refl _))
          have hv : aget (E.slots γ) i = .sl t.size (l.map t.enc) := by rw [show aget (E.slots γ) i = _ from aget_slots _ _ _ _, hs]; rfl
          cases l with
          | nil =>
            obtain ⟨h1, h2⟩ := both_some (show both _ _ = some r from hx)
            exact tr_nilqS i t.size hv (by simpa using hin) (go .nil h1) (go (.emp t.size) h2)
          | cons x xs =>
            have h1 : exR P cs n ops.toList draw (E.put (some i) (.leaf (.list t) (x :: xs))) ks.nx = some r := hx
            have := go _ h1
            have e : SE n ((i, (TV.leaf (.list t) (x :: xs)).v (olen E.h) γ) :: E.slots γ) (E.heap γ) = E.env n γ := by
              unfold TE.env SE
              simp only [Env.mk.injEq, and_true]
              apply List.map_congr_left
              intro j _
              simp only [aget]
              split
              · rename_i e; subst e; rw [hv]; rfl
              · rfl
            rwa [e] at this
        · cases hx
      | _ => exact plain hx
    | seq a b =>
      simp at hc
      have gen : ∀ ha hb, ex P cs fu n a ha E ⟨fun E' => ex P cs fu n b hb E' ks, ks.ex, ks.rt⟩ = some r → Tr rr P (.seq a b) (E.env n γ) (PostK n E γ ks r) := by
        intro ha hb hx
        refine tr_seq ((ih a (by omega) ha E _ γ hx hE).mono ?_)
        intro x e hq
        cases x with
        | normal =>
          obtain ⟨γ', E', h1, h2, h3, h4, h5⟩ := hq
          exact tr_le h3 ((ih b (by omega) hb E' ks γ' h4 h1).mono (post_ext h2 h5))
        | exit i => exact hq
        | ret => exact hq
        | _ => exact hq
      cases h with
      | j J ha hb =>
        simp only [ex, join] at hx
        refine tr_seq ((ih a (by omega) ha E _ γ hx hE).mono ?_)
        intro x e hq
        cases x with
        | normal =>
          obtain ⟨γ', E', h1, h2, h3, h4, h6⟩ := hq
          obtain ⟨d, hd, h5⟩ := bind_some' h4
          split at h5
          · rename_i hcl
            obtain ⟨γ2, hf2, hle⟩ := pk_le (n := n) hd h2 hcl γ'
            exact tr_le (h3.trans hle) ((ih b (by omega) hb _ ks γ2 h5 (un_ok hE)).mono (post_ext (ext_un _ _ _) (h6.trans hf2)))
          · cases h5
        | exit i => exact hq
        | ret => exact hq
        | _ => exact hq
      | _ => simp only [ex] at hx; exact gen _ _ hx
    | cond c x y =>
      simp at hc
      have gen : ∀ (b : Bool), tev E n c = .leaf .bool b → cond b (ex P cs fu n x h.two.1 E ks) (ex P cs fu n y h.two.2 E ks) = some r → Tr rr P (.cond c x y) (E.env n γ) (PostK n E γ ks r) := by
        intro b hb hx
        refine tr_cond (b := b) (by rw [tev_v, hb]; rfl) (fun hbt => ?_) (fun hbf => ?_)
        · subst hbt; exact ih x (by omega) _ E ks γ hx hE
        · subst hbf; exact ih y (by omega) _ E ks γ hx hE
      cases c with
      | tmp t =>
        simp only [ex] at hx
        split at hx
        · rename_i b hb
          obtain ⟨_, hs⟩ := get_slot hb (by simp)
          refine tr_cond (b := b) (by rw [tev_v]; simp only [tev, hb]; rfl) (fun hbt => ?_) (fun hbf => ?_)
          · subst hbt
            rw [← lit_env hs]
            exact (ih x (by omega) _ _ ks γ hx (lit_ok hs hE)).mono (post_ext (lit_ext hs) (Fx.refl _))
          · subst hbf
            rw [← lit_env hs]
            exact (ih y (by omega) _ _ ks γ hx (lit_ok hs hE)).mono (post_ext (lit_ext hs) (Fx.refl _))
        · cases hx
      | const v =>
        simp only [ex] at hx
        split at hx
        · rename_i b hb; exact gen b hb hx
        · cases hx
      | global g =>
        simp only [ex] at hx
        split at hx
        · rename_i b hb; exact gen b hb hx
        · cases hx
      | func f =>
        simp only [ex] at hx
        split at hx
        · rename_i b hb; exact gen b hb hx
        · cases hx
    | loop c =>
      simp at hc
      cases h with
      | w J hb =>
        simp only [ex] at hx
        split at hx
        · rename_i d0 hp
          have hcl : ∀ m d, whK (fun self d => match (J.un E d).closed with
              | true => ex P cs fu n c hb (J.un E d) ⟨fun E' => (J.pk E E').bind self, ks.ex, ks.rt⟩
              | false => none) m d = some r → (J.un E d).closed = true := by
            intro m d hw
            cases m with
            | zero => cases hw
            | succ m =>
              simp only [whK] at hw
              split at hw
              · rename_i h; exact h
              · cases hw
          obtain ⟨γ0, hf0, hle⟩ := pk_le (n := n) hp (Ext.refl E) (hcl _ _ hx) γ
          refine tr_loop (fun s : Nat × Ds J.tys × (Nat → Nat) => (J.un E s.2.1).env n s.2.2) (fun s => whK (fun self d => match (J.un E d).closed with
              | true => ex P cs fu n c hb (J.un E d) ⟨fun E' => (J.pk E E').bind self, ks.ex, ks.rt⟩
              | false => none) s.1 s.2.1 = some r ∧ Fx γ s.2.2) (fun s => s.1) (fu, d0, γ0) ⟨hx, hf0⟩ hle ?_
          rintro ⟨m, d, γ1⟩ ⟨hI, hf1⟩
          dsimp only at hI hf1 ⊢
          cases m with
          | zero => cases hI
          | succ m =>
            simp only [whK] at hI
            split at hI
            · rename_i hcl0
              refine (ih c (by omega) hb _ _ γ1 hI (un_ok hE)).mono ?_
              intro x e hq
              cases x with
              | normal =>
                obtain ⟨γ', E', h1, h2, h3, h4, h6⟩ := hq
                obtain ⟨d', hd', h5⟩ := bind_some' h4
                obtain ⟨γ2, hf2, hle2⟩ := pk_le (n := n) hd' ((ext_un _ _ _).trans h2) (hcl _ _ h5) γ'
                exact ⟨(m, d', γ2), ⟨h5, hf1.trans (h6.trans hf2)⟩, Nat.lt_succ_self m, h3.trans hle2⟩
              | exit i => exact post_ext (ext_un J E d) hf1 (.exit i) e hq
              | ret => exact post_ext (ext_un J E d) hf1 .ret e hq
              | _ => exact hq
            · cases hI
        · cases hx
      | _ => simp [ex] at hx
    | block b0 c =>
      have gen : ∀ h', ex P cs fu n c h' E ⟨ks.nx, fun j E' => match Nat.beq j b0 with
          | true => ks.nx E'
          | false => ks.ex j E', ks.rt⟩ = some r → Tr rr P (.block b0 c) (E.env n γ) (PostK n E γ ks r) := by
        intro h' hx
        simp at hc
        refine tr_block ((ih c (by omega) h' E _ γ hx hE).mono ?_)
        intro x e hq
        cases x with
        | exit i =>
          obtain ⟨γ', E', h1, h2, h3, h4, h5⟩ := hq
          simp only [Post.inBlock]
          cases e1 : Nat.beq i b0 with
          | true => rw [if_pos (beqs e1)]; simp only [e1] at h4; exact ⟨γ', E', h1, h2, h3, h4, h5⟩
          | false => rw [if_neg (beq_false.1 e1)]; simp only [e1] at h4; exact ⟨γ', E', h1, h2, h3, h4, h5⟩
        | _ => exact hq
      cases h with
      | l J hb =>
        unfold ex at hx
        dsimp only at hx
        split at hx
        · rename_i ida ops1 dd1 cc b0' b1 bodyc idz ops2 dd2
          split at hx
          · rename_i tC tI tN t2 hr
            obtain ⟨rfl, rfl, rfl, rfl, ty1, ty2, ty3, ty4, ty5, ty6, ty7, p1, p2, p3, a1, a2, a3, opz, e1, e2, hz⟩ := rngOk_ok hr
            have e1' : ops1 = #[⟨some tC, .binOp .lss ty1 (.tmp tI) (.tmp tN) ty2, ty3, p1, a1, none⟩] := by rw [← toArr ops1, e1]
            have e2' : ops2 = #[⟨some t2, .binOp .add ty4 (.tmp tI) (.const (.int .i64 1)) ty5, ty6, p2, a2, none⟩, ⟨some tI, opz, ty7, p3, a3, none⟩] := by rw [← toArr ops2, e2]
            subst e1' e2'
            have hbs : SizeOf.sizeOf bodyc < sz := by simp at hc; omega
            split at hx
            · rename_i N d0 hz0 hNs hsl hp
              have h0 := zeroI_ok hz0
              obtain ⟨hne, ⟨l1, l2, l3, l4⟩, ⟨k1, k2, k3⟩, m1, m2, m3⟩ := slotsOk_ok hsl
              split at hx
              · rename_i m hfl
                obtain ⟨hmem, hti, hw⟩ := findL_ok hfl
                split at hx
                · rename_i q1 q2 q3 q4 q5
                  have hq5 : m.tl < n := by simpa [Nat.blt_eq] using q5
                  obtain ⟨g1, g2, g3⟩ := hE m hmem
                  unfold Memo.so at g3
                  rw [hw] at g3
                  rw [hti] at g2
                  have hNv : (N : Int) = (m.l.length : Int) := by
                    have := (get_slot hNs (by simp)).2
                    rw [this] at g2
                    injection g2 with _ g4
                    rw [← g3]; exact eq_of_heq (heq_of_eq g4)
                  refine tr_limK (t := m.tl) (sz := m.t.size) (l := m.l.map m.t.enc) hq5 (by rw [g1]; rfl) fun hlim => ?_
                  have hlim : m.l.length ≤ LIM := by simpa using hlim
                  let body := fun (k : Nat) (x : m.t.D) (d : Ds J.tys) (next : Ds J.tys → Option R) => match (J.un E d).closed with
                    | true => ex P cs fu n bodyc hb ((((J.un (E.at tI k) d).put (some tC) (.leaf .bool true))).memo ⟨m.tl, tI, m.t, m.l, (k : Int), some x⟩)
                      ⟨fun E' => (J.pk (E.at tI k) E').bind next, fun j E' => match Nat.beq j b1 with
                        | true => (J.pk (E.at tI k) E').bind next
                        | false => match Nat.beq j b0' with
                          | true => ks.nx E'
                          | false => ks.ex j E', ks.rt⟩
                    | false => none
                  let after := fun (d : Ds J.tys) => match (J.un E d).closed with
                    | true => ks.nx (((J.un E d).put (some tI) .dead).put (some tC) .dead)
                    | false => none
                  have hcl : ∀ k d, forK body k (m.l.drop k) d after = some r → (J.un E d).closed = true := by
                    intro k d h
                    cases hd : m.l.drop k with
                    | nil =>
                      rw [hd] at h
                      have h : (match (J.un E d).closed with
                        | true => ks.nx (((J.un E d).put (some tI) .dead).put (some tC) .dead)
                        | false => none) = some r := h
                      split at h
                      · rename_i e; exact e
                      · cases h
                    | cons x xs =>
                      rw [hd] at h
                      have h : body k x d (fun s' => forK body (k + 1) xs s' after) = some r := h
                      have h : (match (J.un E d).closed with | true => _ | false => none) = some r := h
                      split at h
                      · rename_i e; exact e
                      · cases h
                  refine tr_range (N := N) γ (fun k d => forK body k (m.l.drop k) d after) (by rw [hNv]; exact Int.ofNat_le.2 hlim) hz hE h0 hNs hsl hp hx hcl (fun k d γ hk hL => ?_) (fun k d hk hL => ?_)
                  · have hk' : k < m.l.length := by rw [hNv] at hk; omega
                    have hgk : m.l[k]? = some m.l[k] := List.getElem?_eq_getElem hk'
                    try dsimp only at hL
                    rw [forK_drop body m.l k m.l[k] d after hgk] at hL
                    have hL : (match (J.un E d).closed with
                      | true => ex P cs fu n bodyc hb ((((J.un (E.at tI k) d).put (some tC) (.leaf .bool true))).memo ⟨m.tl, tI, m.t, m.l, (k : Int), some m.l[k]⟩)
                        ⟨fun E' => (J.pk (E.at tI k) E').bind fun s' => forK body (k + 1) (m.l.drop (k + 1)) s' after, fun j E' => match Nat.beq j b1 with
                          | true => (J.pk (E.at tI k) E').bind fun s' => forK body (k + 1) (m.l.drop (k + 1)) s' after
                          | false => match Nat.beq j b0' with
                            | true => ks.nx E'
                            | false => ks.ex j E', ks.rt⟩
                      | false => none) = some r := hL
                    split at hL
                    · have hok : ((((J.un (E.at tI k) d).put (some tC) (.leaf .bool true))).memo ⟨m.tl, tI, m.t, m.l, (k : Int), some m.l[k]⟩).ok := by
                        intro m' hm'
                        rcases List.mem_cons.1 hm' with rfl | hm'
                        · refine ⟨?_, ?_, ⟨k, rfl, hgk⟩⟩
                          · simp only [TE.memo, TE.put, sget, q4]
                            rw [sget_un_keep q1 q2, at_get, if_neg (beq_false.1 q3)]
                            exact g1
                          · simp only [TE.memo, TE.put, sget, beq_false.2 (Ne.symm hne.1)]
                            rw [sget_un_keep k1 m1, at_get, if_pos rfl]
                        · exact ok_put (un_ok (ok_put hE)) m' hm'
                      have := ih bodyc hbs hb _ _ γ hL hok
                      rw [memo_env] at this
                      exact this.mono (post_ext (ext_memo _ _) (Fx.refl _))
                    · cases hL
                  · have hk' : k = m.l.length := by rw [hk, hNv]; simp
                    try dsimp only at hL
                    rw [hk', List.drop_length] at hL
                    have hL : (match (J.un E d).closed with
                        | true => ks.nx (((J.un E d).put (some tI) .dead).put (some tC) .dead)
                        | false => none) = some r := hL
                    split at hL
                    · exact hL
                    · cases hL
                · cases hx
              · obtain ⟨_, hchk, hx⟩ := bind_some' hx
                have hlim := chk_some hchk
                let body := fun (k : Nat) (d : Ds J.tys) (next : Ds J.tys → Option R) => match (J.un E d).closed with
                  | true => ex P cs fu n bodyc hb ((J.un (E.at tI k) d).put (some tC) (.leaf .bool true))
                    ⟨fun E' => (J.pk (E.at tI k) E').bind next, fun j E' => match Nat.beq j b1 with
                      | true => (J.pk (E.at tI k) E').bind next
                      | false => match Nat.beq j b0' with
                        | true => ks.nx E'
                        | false => ks.ex j E', ks.rt⟩
                  | false => none
                let after := fun (d : Ds J.tys) => match (J.un E d).closed with
                  | true => ks.nx (((J.un E d).put (some tI) .dead).put (some tC) .dead)
                  | false => none
                have hcl : ∀ k d, cntK body k (Int.toNat N - k) d after = some r → (J.un E d).closed = true := by
                  intro k d h
                  cases hd : Int.toNat N - k with
                  | zero =>
                    rw [hd] at h
                    have h : (match (J.un E d).closed with
                      | true => ks.nx (((J.un E d).put (some tI) .dead).put (some tC) .dead)
                      | false => none) = some r := h
                    split at h
                    · rename_i e; exact e
                    · cases h
                  | succ q =>
                    rw [hd] at h
                    have h : (match (J.un E d).closed with | true => _ | false => none) = some r := h
                    split at h
                    · rename_i e; exact e
                    · cases h
                refine tr_range (N := N) γ (fun k d => cntK body k (Int.toNat N - k) d after) hlim hz hE h0 hNs hsl hp hx hcl (fun k d γ hk hL => ?_) (fun k d hk hL => ?_)
                · obtain ⟨q, hq⟩ : ∃ q, Int.toNat N - k = q + 1 := ⟨Int.toNat N - k - 1, by omega⟩
                  have hq' : Int.toNat N - (k + 1) = q := by omega
                  try dsimp only at hL ⊢
                  rw [hq] at hL
                  rw [hq']
                  have hL : (match (J.un E d).closed with
                    | true => ex P cs fu n bodyc hb ((J.un (E.at tI k) d).put (some tC) (.leaf .bool true))
                      ⟨fun E' => (J.pk (E.at tI k) E').bind fun s' => cntK body (k + 1) q s' after, fun j E' => match Nat.beq j b1 with
                        | true => (J.pk (E.at tI k) E').bind fun s' => cntK body (k + 1) q s' after
                        | false => match Nat.beq j b0' with
                          | true => ks.nx E'
                          | false => ks.ex j E', ks.rt⟩
                    | false => none) = some r := hL
                  split at hL
                  · exact ih bodyc hbs hb _ _ γ hL (ok_put (un_ok (ok_put hE)))
                  · cases hL
                · have hk' : Int.toNat N - k = 0 := by omega
                  try dsimp only at hL
                  rw [hk'] at hL
                  have hL : (match (J.un E d).closed with
                      | true => ks.nx (((J.un E d).put (some tI) .dead).put (some tC) .dead)
                      | false => none) = some r := hL
                  split at hL
                  · exact hL
                  · cases hL
            · cases hx
          · cases hx
        · cases hx
      | _ => exact gen _ hx
    | _ => simp [ex] at hx

/-! ### Functions -/

/-- What a function's results are. -/
def tres (P : Program) (n : Nat) (E : TE) : List ResultVar → Option (List TV)
  | [] => some []
  | .tmp t :: r => match tres P n E r with
    | some l => some (E.get n t :: l)
    | none => none
  | .cell t ty :: r => match tload P E ty (E.get n t), tres P n E r with
    | some v, some l => some (v :: l)
    | _, _ => none

def finK (P : Program) (n : Nat) (rs : List ResultVar) : (rt : Rt) → TE → Option rt.D
  | .one t, E => match tres P n E rs with
    | some [v] => match toD (lf1 (oget E.h)) t v with
      | some (x, bs) => chks bs (some x)
      | none => none
    | _ => none
  | .many ts, E => match Nat.beq ts.length 1, tres P n E rs with
    | false, some vs => match convs (lf1 (oget E.h)) ts vs with
      | some (x, bs) => chks bs (some x)
      | none => none
    | _, _ => none

/-- The parameters' values, by name. -/
def argTV : List Ar → List TV → List TV
  | [], _ => []
  | .d _ :: r, v :: vs => v :: argTV r vs
  | .d _ :: _, [] => []
  | .f g cs :: r, vs => .fn g (vs.take cs.length) :: argTV r (vs.drop cs.length)

def argE (l : List TV) : TE := ⟨l.zipIdx.map fun x => (x.2, 0, x.1), [], [], 1⟩

noncomputable def exF {P : Program} (cs : Cs P) (fu : Nat) (fn : Func) (ar : List Ar) (rt : Rt) (h : HT) (d : Ds (tys ar)) : Option rt.D :=
  match fn.body with
    | none => none
    | some c => ex P cs fu fn.ntmps c h (argE (argTV ar (dtv (tys ar) d))) ⟨finK P fn.ntmps fn.results.toList rt, fun _ _ => none, finK P fn.ntmps fn.results.toList rt⟩

theorem argTV_v (H γ : Nat → Nat) : ∀ (ar : List Ar) (vs : List TV), TV.vL H γ (argTV ar vs) = unflat ar (TV.vL H γ vs)
  | [], _ => rfl
  | .d _ :: r, v :: vs => by simp only [argTV, unflat, TV.vL, argTV_v H γ r vs]
  | .d _ :: _, [] => rfl
  | .f g cs :: r, vs => by
    simp only [argTV, unflat, TV.vL, argTV_v H γ r, TV.v]
    rw [vL_map, vL_map, vL_map, List.map_take, List.map_drop]

theorem tres_ok {P : Program} {n : Nat} {E : TE} {γ : Nat → Nat} {st a w} (hr : Rel st (E.env n γ) a w) : ∀ (rs : List ResultVar) (vs : List TV), tres P n E rs = some vs →
    ∃ ms : List Value, (rs.mapM (m := Sem) fun | .tmp t => pure (a.tmps.getD t undef) | .cell t ty => do loadVar ty (← asAddr (a.tmps.getD t undef))).run P w = .ok ms w ∧ ms.length = vs.length ∧
      ∀ (j : Nat) (c : TV) (m : Value), vs[j]? = some c → ms[j]? = some m → Rep w st (c.v (olen E.h) γ) m
  | [], vs, h => by simp only [tres] at h; cases h; exact ⟨[], rfl, rfl, by simp⟩
  | rv :: rs, vs, h => by
    have one : ∀ v l, tres P n E rs = some l → (∃ m, (match rv with | .tmp t => pure (a.tmps.getD t undef) | .cell t ty => do loadVar ty (← asAddr (a.tmps.getD t undef)) : Sem Value).run P w = .ok m w ∧ Rep w st (v.v (olen E.h) γ) m) →
        ∃ ms : List Value, ((rv :: rs).mapM (m := Sem) fun | .tmp t => pure (a.tmps.getD t undef) | .cell t ty => do loadVar ty (← asAddr (a.tmps.getD t undef))).run P w = .ok ms w ∧ ms.length = (v :: l).length ∧
          ∀ (j : Nat) (c : TV) (m : Value), (v :: l)[j]? = some c → ms[j]? = some m → Rep w st (c.v (olen E.h) γ) m := by
      intro v l hl ⟨m, r1, r2⟩
      obtain ⟨ms, s1, s2, s3⟩ := tres_ok hr rs l hl
      refine ⟨m :: ms, ?_, by simp [s2], fun j c x hc hx => ?_⟩
      · rw [List.mapM_cons, Sem.run_bind]
        have r1' := r1
        cases rv with
        | tmp t => simp only [] at r1' ⊢; rw [r1', Result.andThen_ok, Sem.run_bind, s1]; rfl
        | cell t ty => simp only [] at r1' ⊢; rw [r1', Result.andThen_ok, Sem.run_bind, s1]; rfl
      · cases j with
        | zero => simp at hc hx; subst hc hx; exact r2
        | succ j => simp at hc hx; exact s3 j c x hc hx
    have hev : ∀ t, Rep w st ((E.get n t).v (olen E.h) γ) (a.tmps.getD t undef) := fun t => by
      have := hr.ev (.tmp t)
      rw [tev_v] at this
      exact this
    cases rv with
    | tmp t =>
      simp only [tres] at h
      split at h
      · rename_i l hl; cases h; exact one _ l hl ⟨_, rfl, hev t⟩
      · cases h
    | cell t ty =>
      simp only [tres] at h
      split at h
      · rename_i v l hv hl
        cases h
        have h1 := tload_v (γ := γ) hv
        obtain ⟨ad, u, g1, g2, g3⟩ := load_spec (hev t) hr.heap h1
        refine one v l hl ⟨u, ?_, g3⟩
        simp only [g1, asAddr, pure_bind, g2]
      · cases h

/-- What a body owes at its end. -/
def FinT (P : Program) (fn : Func) (r : V) : Post
  | .normal, e | .ret, e => ∃ e1, Le e e1 ∧ ∀ st a w, Rel st e1 a w → ∃ m, (results fn a.tmps).run P w = .ok m w ∧ RepS w (okS st) r m
  | _, _ => False

theorem results_fold {P : Program} {fn : Func} {a : Act} {w : World} {ms : List Value} (h : (fn.results.toList.mapM (m := Sem) fun | .tmp t => pure (a.tmps.getD t undef) | .cell t ty => do loadVar ty (← asAddr (a.tmps.getD t undef))).run P w = .ok ms w) :
    (results fn a.tmps).run P w = .ok (if h : ms.toArray.size = 1 then ms.toArray[0] else .tuple ms.toArray) w := by
  unfold results
  rw [Sem.run_bind, Array.mapM_eq_mapM_toList, Sem.run_map]
  erw [h]
  rfl

theorem finK_ok {P : Program} {fn : Func} {E : TE} {rt : Rt} {x : rt.D} {γ : Nat → Nat} (h : finK P fn.ntmps fn.results.toList rt E = some x) :
    ∀ st a w, Rel st (E.env fn.ntmps γ) a w → ∃ m, (results fn a.tmps).run P w = .ok m w ∧ RepS w (okS st) (rt.v x) m := by
  intro st a w hr
  cases rt with
  | one t =>
    simp only [finK] at h
    split at h
    · rename_i v hv
      split at h
      · rename_i y bs hy
        obtain ⟨h1, h2⟩ := chks_ok h
        cases h2
        obtain ⟨ms, r1, r2, r3⟩ := tres_ok hr _ _ hv
        match ms, r2 with
        | [m], _ =>
          refine ⟨m, results_fold r1, ?_⟩
          exact toD1_L (fun m _ => rfl) hy h1 w st m hr.heap (r3 0 v m rfl rfl)
      · cases h
    · cases h
  | many ts =>
    simp only [finK] at h
    split at h
    · rename_i vs hlen hv
      split at h
      · rename_i y bs hy
        obtain ⟨h1, h2⟩ := chks_ok h
        cases h2
        obtain ⟨ms, r1, r2, r3⟩ := tres_ok hr _ _ hv
        have hw : ∀ v ∈ vs, ∀ (t : Ty) (x : t.D) (p : List Bool), toD (lf1 (oget E.h)) t v = some (x, p) → (∀ b ∈ p, b = true) → ConvL (E.heap γ) (v.v (olen E.h) γ) (t.enc x) := fun v _ t x p hx hp => toD1_L (fun m _ => rfl) hx hp
        obtain ⟨c1, c2⟩ := convs_ok (thr_L (E.heap γ)) (H := olen E.h) (γ := γ) ts vs x bs hw hy h1
        have hne : ¬ ms.toArray.size = 1 := by
          have := beq_false.1 hlen
          simp only [List.size_toArray]
          omega
        refine ⟨_, results_fold r1, ?_⟩
        rw [dif_neg hne]
        refine .tup (by simp [Rt.v, dvs_len]; omega) fun j c m hc hm => ?_
        have hm' : ms[j]? = some m := by simpa using hm
        have hj : j < vs.length := by rw [← r2]; exact (List.getElem?_eq_some_iff.1 hm').1
        have hv := List.getElem?_eq_getElem hj
        exact c2 j vs[j] c hv hc w st m hr.heap (r3 j vs[j] m hv hm')
      · cases h
    · cases h

open Classical in
/-- A function's contract from its body. -/
theorem pc_ofT {P : Program} {f : FuncId} {fn : Func} {c : Code} {vs : List V} {r : V} (hf : P.funcs[f]? = some fn) (hb : fn.body = some c) (hn : (fn.name == "runtime.NumGoroutine") = false) 
    (h : Tr false P c ⟨vs ++ List.replicate (fn.ntmps - vs.length) .dead, []⟩ (FinT P fn r)) : PC P f vs r := by
  refine ⟨⟨fn, hf, by rw [hb]; rfl, hn⟩, fun w S ms hS hms hrep => callsIn_wide.1 (callsIn_of_wp_marks (n := 0) hf hb trivial ?_)⟩
  let st : Nat → Own := fun b => if S b then .shut else .none
  have hst : ∀ b, st b = .shut ↔ S b := by
    intro b
    show (if S b then Own.shut else .none) = .shut ↔ S b
    by_cases hb : S b <;> simp [hb]
  have hno : ∀ b n g o, st b ≠ .id n g o := by
    intro b n g o
    show (if S b then Own.shut else .none) ≠ _
    split <;> simp
  have hrel : Rel st ⟨vs ++ List.replicate (fn.ntmps - vs.length) .dead, []⟩ { tmps := ms ++ Array.replicate (fn.ntmps - ms.size) undef, defers := [] } w := by
    refine ⟨by simp [hms], fun i c v h1 h2 => ?_, ⟨fun n x hx => by simp [hget] at hx, fun b n g o hb => absurd hb (hno _ _ _ _), fun b b' n g o g' o' hb => absurd hb (hno _ _ _ _), fun b hb => hS b ((hst b).1 hb)⟩⟩
    simp only at h1 h2
    rw [List.getElem?_append] at h1
    rw [Array.getElem?_append, hms] at h2
    by_cases hi : i < vs.length
    · rw [if_pos hi] at h1 h2
      exact .s ((hrep i c v h1 h2).frame fun b hb => ⟨(hst b).2 hb, rfl⟩)
    · rw [if_neg hi] at h1
      have := List.mem_replicate.1 (List.mem_of_getElem? h1)
      rw [this.2]; exact .dead
  have post : ∀ (a' : Act) (w' : World) (e' : Env) (st' : Nat → Own), (∃ e1, Le e' e1 ∧ ∀ st a w, Rel st e1 a w → ∃ m, (results fn a.tmps).run P w = .ok m w ∧ RepS w (okS st) r m) → Rel st' e' a' w' → MarksOk w.heap.size st' w' a'.defers → Hist w st w' st' →
      LeavesInM (FR none) 0 P fn a'.tmps (fun en w' => ∃ m S', en = Ending.returned m ∧ RepS w' S' r m ∧ (∀ b, b < w.heap.size → (S' b ↔ S b)) ∧ (∀ b, S' b → b < w'.heap.size) ∧
        w.heap.size ≤ w'.heap.size ∧ (∀ b, b < w.heap.size → w'.heap[b]? = w.heap[b]?) ∧ Same3 w w') a'.defers .returning w' := by
    intro a' w' e' st0' ⟨e1, hle, hres⟩ hrel0 hmk0 hfr0
    obtain ⟨st', hrel', hh1⟩ := hle _ _ _ hrel0
    have hfr := hfr0.trans hh1
    refine leaves_marks _ _ (hmk0.hist hh1) fun w2 hnon hlow => ?_
    have hrel2 := hrel'.non hnon
    obtain ⟨m, h1, h2⟩ := hres _ _ _ hrel2
    refine ⟨m, h1, m, okS st', rfl, h2, fun b hb => ?_, fun b hb => ?_, by rw [hnon.size]; exact hfr.size, fun b hb => (hlow b hb).trans (hfr.non b hb (hno b)).2, hfr.env.trans hnon.env⟩
    · unfold okS
      rw [(hfr.non b hb (hno b)).1]
      show (if S b then Own.shut else .none) ≠ .none ↔ S b
      by_cases hb : S b <;> simp [hb]
    · unfold okS at hb
      cases hs : st' b with
      | none => exact absurd hs hb
      | shut => exact hrel2.heap.shut b hs
      | id n g o => exact (hrel2.heap.dom _ _ _ _ hs).1
  refine wpIn_mono (h none w.heap.size st _ w (fun _ => rfl) (Nat.le_refl _) hrel trivial) ?_
  rintro ex a' w' ⟨e', st', hq, hrel', hmk, hfr⟩
  cases ex with
  | normal => exact post a' w' e' st' hq hrel' hmk hfr
  | ret => exact post a' w' e' st' hq hrel' hmk hfr
  | exit => exact hq.elim
  | goto => exact hq.elim
  | panic => exact hq.elim
  | outgrown => exact hq.elim

theorem argE_env (n : Nat) (γ : Nat → Nat) (l : List TV) (hl : l.length ≤ n) : Le ⟨TV.vL z0 γ l ++ List.replicate (n - (TV.vL z0 γ l).length) .dead, []⟩ ((argE l).env n γ) := by
  refine le_slots rfl (by simp [TE.env, SE, vL_map]; omega) fun i c c' h1 h2 => ?_
  have hi : i < n := by have := (List.getElem?_eq_some_iff.1 h2).1; simpa [TE.env, SE] using this
  rw [env_t hi] at h2
  cases h2
  right
  have hO : olen (argE l).h = z0 := rfl
  rw [hO]
  have key : ∀ (l : List TV) (k i : Nat), sget ((l.zipIdx k).map fun x => (x.2, 0, x.1)) (k + i) = (l[i]?).getD .dead := by
    intro l
    induction l with
    | nil => intro k i; rfl
    | cons a l ih =>
      intro k i
      simp only [List.zipIdx_cons, List.map_cons, sget]
      cases i with
      | zero => simp [Nat.beq_refl]
      | succ i =>
        rw [beq_false.2 (by omega), show k + (i + 1) = k + 1 + i by omega]
        simp only
        rw [ih]; simp
  have := key l 0 i
  rw [Nat.zero_add] at this
  show (sget (argE l).s i).v z0 γ = c
  rw [show (argE l).s = l.zipIdx.map fun x => (x.2, 0, x.1) from rfl, this]
  dsimp only at h1
  rw [List.getElem?_append] at h1
  split at h1
  · rename_i hlt
    rw [vL_get] at h1
    simp only [Option.map_eq_some_iff] at h1
    obtain ⟨v, hv, rfl⟩ := h1
    rw [hv]; rfl
  · rename_i hlt
    have := List.mem_replicate.1 (List.mem_of_getElem? h1)
    rw [this.2]
    rw [vL_map, List.length_map] at hlt
    rw [List.getElem?_eq_none (by omega)]; rfl

theorem argTV_len : ∀ (ar : List Ar) (vs : List TV), (argTV ar vs).length ≤ ar.length
  | [], _ => by simp [argTV]
  | .d _ :: r, v :: vs => by simp only [argTV, List.length_cons]; have := argTV_len r vs; omega
  | .d _ :: _, [] => by simp [argTV]
  | .f g cs :: r, vs => by simp only [argTV, List.length_cons]; have := argTV_len r (vs.drop cs.length); omega

def fnOk (fn : Func) (ar : List Ar) : Bool := !(fn.name == "runtime.NumGoroutine") && Nat.ble ar.length fn.ntmps

theorem exF_ok {P : Program} {cs : Cs P} {fu : Nat} {f : FuncId} {fn : Func} {ar : List Ar} {rt : Rt} {h : HT} {d : Ds (tys ar)} {r : rt.D} (hm : P.follows .mixedOrders = true) (hf : P.funcs[f]? = some fn)
    (hn : fnOk fn ar = true) (hx : exF cs fu fn ar rt h d = some r) : PC P f (unflat ar (dvs (tys ar) d)) (rt.v r) := by
  unfold exF at hx
  split at hx
  · cases hx
  · rename_i c hb
    unfold fnOk at hn
    simp only [Bool.and_eq_true, Bool.not_eq_true'] at hn
    refine pc_ofT hf hb hn.1 ?_
    have hvs : unflat ar (dvs (tys ar) d) = TV.vL z0 z0 (argTV ar (dtv (tys ar) d)) := by rw [argTV_v, dtv_v]
    rw [hvs]
    refine tr_le (argE_env fn.ntmps z0 _ (Nat.le_trans (argTV_len _ _) (Nat.le_of_ble_eq_true hn.2))) ?_
    refine (ex_ok hm _ c (Nat.lt_succ_self _) h _ _ z0 hx (fun m hm => by cases hm)).mono ?_
    intro x e hq
    cases x with
    | normal => obtain ⟨γ, E', h1, h2, h3, h4, _⟩ := hq; exact ⟨_, h3, finK_ok h4⟩
    | ret => obtain ⟨γ, E', h1, h2, h3, h4, _⟩ := hq; exact ⟨_, h3, finK_ok h4⟩
    | exit i => obtain ⟨γ, E', h1, h2, h3, h4, _⟩ := hq; cases h4
    | _ => exact hq

/-- A function's contract. -/
noncomputable def Ct.mk' {P : Program} (hm : P.follows .mixedOrders = true) (cs : Cs P) (fu : Nat) (f : FuncId) (fn : Func) (ar : List Ar) (rt : Rt) (h : HT) (hf : P.funcs[f]? = some fn) (hn : fnOk fn ar = true)
    (F : Ds (tys ar) → Option rt.D) (hF : F = exF cs fu fn ar rt h) : Ct P := ⟨f, ar, rt, F, fun d r hd => exF_ok hm hf hn (by rw [← hF]; exact hd)⟩

end Go.PG.PH

/- What comes in, as typed data. -/
set_option linter.unusedVariables false
namespace Go.PG.PH
open Go.PG

/-- Ints within their kinds. -/
def InR : (t : Ty) → t.D → Prop
  | .int k, x => k.min ≤ (x : Int) ∧ (x : Int) ≤ k.max
  | .list t, l => ∀ x ∈ (l : List t.D), InR t x
  | .box a, x => InR a x
  | .pair a b, x => InR a x.1 ∧ InR b x.2
  | .bool, _ => True
  | .str, _ => True
  | .unit, _ => True

def fitFs (rec : Nat → Ty → Bool) : List (Nat × Nat) → Ty → Bool
  | [], .unit => true
  | [f], u => rec f.2 u
  | f :: g :: r, .pair a b => match rec f.2 a with
    | true => fitFs rec (g :: r) b
    | false => false
  | _, _ => false

/-- A Go type is the type of such data. -/
def tyFit (P : Program) : Nat → Nat → Ty → Bool
  | 0, _, _ => false
  | m + 1, t, ty => match tab P t with
    | none => false
    | some i => match Nat.beq i.size ty.size, decide (i.isA = ty.isA) with
      | true, true => match i.kind, ty with
        | .int k, .int k' => decide (k = k')
        | .bool, .bool => true
        | .str, .str => true
        | .slice e, .list u => tyFit P m e u
        | .struct [f], .box u => tyFit P m f.2 u
        | .struct (f :: g :: r), u => fitFs (tyFit P m) (f :: g :: r) u
        | .struct [], .unit => true
        | _, _ => false
      | _, _ => false

theorem fsVT_D {P : Program} {rec : Nat → List V → Prop} {fit : Nat → Ty → Bool} (hr : ∀ t ty cs, rec t cs → fit t ty = true → ∃ d : ty.D, cs = ty.cells d ∧ InR ty d) :
    ∀ (fs : List (Nat × Nat)) (ty : Ty) (cs : List V), fsVT P rec fs cs → fitFs fit fs ty = true → ∃ d : ty.D, cs = ty.cells d ∧ InR ty d
  | [], ty, cs, h, hf => by
    cases ty <;> simp only [fitFs] at hf <;> first | cases hf | skip
    simp only [fsVT] at h
    exact ⟨(), h, trivial⟩
  | [f], ty, cs, h, hf => by
    simp only [fitFs] at hf
    simp only [fsVT] at h
    obtain ⟨i, a, b, _, rfl, _, h2, rfl⟩ := h
    obtain ⟨d, h3, h4⟩ := hr _ _ _ h2 hf
    exact ⟨d, by simpa using h3, h4⟩
  | f :: g :: r, ty, cs, h, hf => by
    cases ty with
    | pair a b =>
      simp only [fitFs] at hf
      split at hf
      · rename_i hfa
        obtain ⟨i, x, y, _, rfl, _, h2, h3⟩ := h
        obtain ⟨d1, e1, e2⟩ := hr _ _ _ h2 hfa
        obtain ⟨d2, e3, e4⟩ := fsVT_D hr (g :: r) b y h3 hf
        exact ⟨(d1, d2), by simp only [Ty.cells]; rw [e1, e3], e2, e4⟩
      · cases hf
    | _ => simp [fitFs] at hf

theorem fit_size {P : Program} {m t : Nat} {ty : Ty} {i : TI} (h : tyFit P m t ty = true) (hi : tab P t = some i) : i.size = ty.size ∧ i.isA = ty.isA := by
  cases m with
  | zero => cases h
  | succ m =>
    simp only [tyFit, hi] at h
    split at h
    · rename_i h1 h2
      exact ⟨beqs h1, of_decide_eq_true h2⟩
    · cases h

theorem VT_D {P : Program} : ∀ (m n t : Nat) (cs : List V) (ty : Ty), VT P n t cs → tyFit P m t ty = true → ∃ d : ty.D, cs = ty.cells d ∧ InR ty d
  | 0, _, _, _, _, _, h => by cases h
  | m + 1, 0, _, _, _, h, _ => by cases h
  | m + 1, n + 1, t, cs, ty, h, hf => by
    obtain ⟨i, hi, h⟩ := h
    obtain ⟨hsz, hA⟩ := fit_size hf hi
    simp only [tyFit, hi] at hf
    split at hf
    · rename_i q1 q2
      clear q1 q2
      split at hf
      · rename_i k k' hk
        rw [hk] at h
        have := of_decide_eq_true hf
        subst this
        obtain ⟨x, rfl, h1, h2⟩ := h
        exact ⟨x, rfl, h1, h2⟩
      · rename_i hk
        rw [hk] at h
        obtain ⟨b, rfl⟩ := h
        exact ⟨b, rfl, trivial⟩
      · rename_i hk
        rw [hk] at h
        obtain ⟨b, rfl⟩ := h
        exact ⟨b, rfl, trivial⟩
      · rename_i e u hk
        rw [hk] at h
        obtain ⟨ei, l, he, rfl, hl⟩ := h
        obtain ⟨es, eA⟩ := fit_size hf he
        have key : ∀ l : List V, (∀ x ∈ l, ∃ ys, VT P n e ys ∧ ys.length = ei.size ∧ (ei.isA = true → x = .agg ys) ∧ (ei.isA = false → [x] = ys)) → ∃ l' : List u.D, l = List.map (fun x => mkV u.isA (u.cells x)) l' ∧ ∀ a ∈ l', InR u a := by
          intro l
          induction l with
          | nil => intro _; exact ⟨[], rfl, by simp⟩
          | cons x l ih =>
            intro h
            obtain ⟨ys, y1, _, y3, y4⟩ := h x (by simp)
            obtain ⟨d, e1, e2⟩ := VT_D m n e ys u y1 hf
            obtain ⟨l', e3, e4⟩ := ih fun z hz => h z (by simp [hz])
            refine ⟨d :: l', ?_, fun z hz => ?_⟩
            · rw [List.map_cons, ← e3]
              congr 1
              cases hA : u.isA with
              | true => rw [y3 (by rw [eA]; exact hA), e1]; rfl
              | false =>
                have := y4 (by rw [eA]; exact hA)
                rw [← e1, ← this]; rfl
            · rcases List.mem_cons.1 hz with rfl | hz
              · exact e2
              · exact e4 z hz
        obtain ⟨l', e1, e2⟩ := key l hl
        exact ⟨l', by simp only [Ty.cells, ← e1, es], e2⟩
      · rename_i f u hk
        rw [hk] at h
        obtain ⟨i2, a, b, _, rfl, _, h2, rfl⟩ := h
        obtain ⟨d, e1, e2⟩ := VT_D m n _ _ _ h2 hf
        exact ⟨d, by simpa [Ty.cells] using e1, e2⟩
      · rename_i f g r u hk
        rw [hk] at h
        exact fsVT_D (fun t ty cs h1 h2 => VT_D m n t cs ty h1 h2) _ _ _ h hf
      · rename_i hk
        rw [hk] at h
        exact ⟨(), h, trivial⟩
      · cases hf
    · cases hf

/-- An argument of a type, as data. -/
theorem VA_D {P : Program} {m n t : Nat} {x : V} {ty : Ty} (h : VA P n t x) (hf : tyFit P m t ty = true) : ∃ d : ty.D, x = ty.enc d ∧ InR ty d := by
  obtain ⟨i, cs, hi, h1, h2, h3⟩ := h
  obtain ⟨_, hA⟩ := fit_size hf hi
  obtain ⟨d, e1, e2⟩ := VT_D m n t cs ty h1 hf
  refine ⟨d, ?_, e2⟩
  unfold Ty.enc
  cases hA' : ty.isA with
  | true => rw [h2 (by rw [hA]; exact hA'), e1]; rfl
  | false =>
    have := h3 (by rw [hA]; exact hA')
    rw [← e1, this]; rfl
end Go.PG.PH

/- What the laws of this seat share. -/
namespace Go.Proofs.Ytfhddbnacbcppaa
open Go.PG Go.ChangeShapes Go.WideShapes Go.ChangeAt Go.RowKit

theorem bk (H : Type) : Bk (Rows.uptoBulk (H := H)) Rows.uptoBulkAll := by
  have pos : ∀ d : DataW H, 1 ≤ Rows.uptoBulk d := by
    intro d
    cases d with
    | lit l => cases l <;> simp [Rows.uptoBulk]
    | _ => simp [Rows.uptoBulk]
  refine ⟨fun l => pos _, fun b => by simp [Rows.uptoBulk], pos _, fun es sp => by simp [Rows.uptoBulk], fun ps => by simp [Rows.uptoBulk], fun d ds => by simp [Rows.uptoBulkAll], pos⟩

theorem laidOut : laidOutB Try.prog = true := by kernel_rfl
theorem own : ownKnob Try.prog.godebug = none := by kernel_rfl
end Go.Proofs.Ytfhddbnacbcppaa

/- Loops that say how they end. -/
namespace Go.PG
inductive Ctl (σ ρ : Type) where
  | nx (s : σ) | bk (s : σ) | rt (r : ρ)
def forL {α σ ρ : Type} (body : Nat → α → σ → Option (Ctl σ ρ)) : Nat → List α → σ → Option (σ ⊕ ρ)
  | _, [], s => some (.inl s)
  | k, x :: xs, s => (body k x s).bind fun c => match c with
    | .nx s' => forL body (k + 1) xs s'
    | .bk s' => some (.inl s')
    | .rt r => some (.inr r)
def forN {σ ρ : Type} (body : Nat → σ → Option (Ctl σ ρ)) : Nat → Nat → σ → Option (σ ⊕ ρ)
  | _, 0, s => some (.inl s)
  | k, m + 1, s => (body k s).bind fun c => match c with
    | .nx s' => forN body (k + 1) m s'
    | .bk s' => some (.inl s')
    | .rt r => some (.inr r)
def whL {σ ρ : Type} (body : σ → Option (Ctl σ ρ)) : Nat → σ → Option (σ ⊕ ρ)
  | 0, _ => none
  | k + 1, s => (body s).bind fun c => match c with
    | .nx s' => whL body k s'
    | .bk s' => some (.inl s')
    | .rt r => some (.inr r)
end Go.PG

/- Plain facts about the loops of the printed functions; no program in sight. -/
namespace Go.PG

theorem wrap64 {x : Int} (h : -9223372036854775808 ≤ x) (h' : x ≤ 9223372036854775807) : IntKind.i64.wrap x = x := by
  simp [IntKind.wrap, IntKind.signed, IntKind.bits]
  omega

/-- What a loop comes to, with an invariant. -/
theorem forL_inv {α σ ρ : Type} {body : Nat → α → σ → Option (Ctl σ ρ)} (I : Nat → σ → Prop) (B : σ → Prop) (Q : ρ → Prop) : ∀ (l : List α) (k0 : Nat) (s : σ), I k0 s →
    (∀ k x s, l[k]? = some x → I (k0 + k) s → (∃ s', body (k0 + k) x s = some (.nx s') ∧ I (k0 + k + 1) s') ∨ (∃ s', body (k0 + k) x s = some (.bk s') ∧ B s') ∨ ∃ r, body (k0 + k) x s = some (.rt r) ∧ Q r) →
    (∃ s', forL body k0 l s = some (.inl s') ∧ (I (k0 + l.length) s' ∨ B s')) ∨ ∃ r, forL body k0 l s = some (.inr r) ∧ Q r
  | [], k0, s, h0, _ => .inl ⟨s, rfl, .inl h0⟩
  | x :: l, k0, s, h0, h => by
    unfold forL
    rcases h 0 x s rfl h0 with ⟨s', e, hs⟩ | ⟨s', e, hs⟩ | ⟨r, e, hr⟩
    · rw [Nat.add_zero] at e hs
      rw [e]
      have := forL_inv I B Q l (k0 + 1) s' hs (fun k y t hk hI => by
        have := h (k + 1) y t (by simpa using hk) (by rwa [show k0 + (k + 1) = k0 + 1 + k by omega])
        rwa [show k0 + (k + 1) = k0 + 1 + k by omega] at this)
      rw [show k0 + (x :: l).length = k0 + 1 + l.length by simp; omega]
      exact this
    · rw [Nat.add_zero] at e
      rw [e]
      exact .inl ⟨s', rfl, .inr hs⟩
    · rw [Nat.add_zero] at e
      rw [e]
      exact .inr ⟨r, rfl, hr⟩

theorem forN_inv {σ ρ : Type} {body : Nat → σ → Option (Ctl σ ρ)} (I : Nat → σ → Prop) (B : σ → Prop) (Q : ρ → Prop) : ∀ (m : Nat) (k0 : Nat) (s : σ), I k0 s →
    (∀ k s, k < m → I (k0 + k) s → (∃ s', body (k0 + k) s = some (.nx s') ∧ I (k0 + k + 1) s') ∨ (∃ s', body (k0 + k) s = some (.bk s') ∧ B s') ∨ ∃ r, body (k0 + k) s = some (.rt r) ∧ Q r) →
    (∃ s', forN body k0 m s = some (.inl s') ∧ (I (k0 + m) s' ∨ B s')) ∨ ∃ r, forN body k0 m s = some (.inr r) ∧ Q r
  | 0, k0, s, h0, _ => .inl ⟨s, rfl, .inl h0⟩
  | m + 1, k0, s, h0, h => by
    unfold forN
    rcases h 0 s (by omega) h0 with ⟨s', e, hs⟩ | ⟨s', e, hs⟩ | ⟨r, e, hr⟩
    · rw [Nat.add_zero] at e hs
      rw [e]
      have := forN_inv I B Q m (k0 + 1) s' hs (fun k t hk hI => by
        have := h (k + 1) t (by omega) (by rwa [show k0 + (k + 1) = k0 + 1 + k by omega])
        rwa [show k0 + (k + 1) = k0 + 1 + k by omega] at this)
      rw [show k0 + (m + 1) = k0 + 1 + m by omega]
      exact this
    · rw [Nat.add_zero] at e
      rw [e]
      exact .inl ⟨s', rfl, .inr hs⟩
    · rw [Nat.add_zero] at e
      rw [e]
      exact .inr ⟨r, rfl, hr⟩

/-- A loop that stops, always with the same, where something doesn't hold. -/
theorem forL_all {α σ ρ : Type} {body : Nat → α → σ → Option (Ctl σ ρ)} (I : Nat → σ → Prop) (ok : Nat → α → Prop) (r0 : ρ) (l : List α) (s : σ) (h0 : I 0 s)
    (step : ∀ k x s, l[k]? = some x → I k s → (ok k x ∧ ∃ s', body k x s = some (.nx s') ∧ I (k + 1) s') ∨ (¬ ok k x ∧ body k x s = some (.rt r0))) :
    ((∀ k x, l[k]? = some x → ok k x) ∧ ∃ s', forL body 0 l s = some (.inl s') ∧ I l.length s') ∨ ((∃ k x, l[k]? = some x ∧ ¬ ok k x) ∧ forL body 0 l s = some (.inr r0)) := by
  rcases forL_inv (body := body) (fun k s => I k s ∧ ∀ j x, j < k → l[j]? = some x → ok j x) (fun _ => False) (fun r => r = r0 ∧ ∃ k x, l[k]? = some x ∧ ¬ ok k x) l 0 s ⟨h0, fun j x h => by omega⟩
    (fun k x s hx ⟨hI, ha⟩ => by
      rw [Nat.zero_add] at hI ha ⊢
      rcases step k x s hx hI with ⟨h1, s', e, h2⟩ | ⟨h1, e⟩
      · refine .inl ⟨s', e, h2, fun j y hj hy => ?_⟩
        rcases Nat.lt_or_ge j k with hjk | hjk
        · exact ha j y hjk hy
        · have : j = k := by omega
          subst this
          rw [hx] at hy; cases hy; exact h1
      · exact .inr (.inr ⟨r0, e, rfl, k, x, hx, h1⟩)) with ⟨s', e, ⟨h1, h2⟩ | h⟩ | ⟨r, e, rfl, h⟩
  · rw [Nat.zero_add] at h1 h2
    exact .inl ⟨fun k x hx => h2 k x (List.getElem?_eq_some_iff.1 hx).1 hx, s', e, h1⟩
  · exact h.elim
  · exact .inr ⟨h, e⟩

theorem forN_all {σ ρ : Type} {body : Nat → σ → Option (Ctl σ ρ)} (I : Nat → σ → Prop) (ok : Nat → Prop) (r0 : ρ) (m : Nat) (s : σ) (h0 : I 0 s)
    (step : ∀ k s, k < m → I k s → (ok k ∧ ∃ s', body k s = some (.nx s') ∧ I (k + 1) s') ∨ (¬ ok k ∧ body k s = some (.rt r0))) :
    ((∀ k, k < m → ok k) ∧ ∃ s', forN body 0 m s = some (.inl s') ∧ I m s') ∨ ((∃ k, k < m ∧ ¬ ok k) ∧ forN body 0 m s = some (.inr r0)) := by
  rcases forN_inv (body := body) (fun k s => I k s ∧ ∀ j, j < k → ok j) (fun _ => False) (fun r => r = r0 ∧ ∃ k, k < m ∧ ¬ ok k) m 0 s ⟨h0, fun j h => by omega⟩
    (fun k s hk ⟨hI, ha⟩ => by
      rw [Nat.zero_add] at hI ha ⊢
      rcases step k s hk hI with ⟨h1, s', e, h2⟩ | ⟨h1, e⟩
      · refine .inl ⟨s', e, h2, fun j hj => ?_⟩
        rcases Nat.lt_or_ge j k with hjk | hjk
        · exact ha j hjk
        · have : j = k := by omega
          subst this; exact h1
      · exact .inr (.inr ⟨r0, e, rfl, k, hk, h1⟩)) with ⟨s', e, ⟨h1, h2⟩ | h⟩ | ⟨r, e, rfl, h⟩
  · rw [Nat.zero_add] at h1 h2
    exact .inl ⟨h2, s', e, h1⟩
  · exact h.elim
  · exact .inr ⟨h, e⟩

/-- A loop that never stops. -/
theorem forL_nx {α σ ρ : Type} {body : Nat → α → σ → Option (Ctl σ ρ)} (I : Nat → σ → Prop) (l : List α) (s : σ) (h0 : I 0 s)
    (step : ∀ k x s, l[k]? = some x → I k s → ∃ s', body k x s = some (.nx s') ∧ I (k + 1) s') : ∃ s', forL body 0 l s = some (.inl s') ∧ I l.length s' := by
  rcases forL_inv (body := body) I (fun _ => False) (fun _ => False) l 0 s h0 (fun k x s hx hI => by rw [Nat.zero_add] at hI ⊢; exact .inl (step k x s hx hI)) with ⟨s', e, h | h⟩ | ⟨r, e, h⟩
  · rw [Nat.zero_add] at h
    exact ⟨s', e, h⟩
  · exact h.elim
  · exact h.elim

theorem forN_nx {σ ρ : Type} {body : Nat → σ → Option (Ctl σ ρ)} (I : Nat → σ → Prop) (m : Nat) (s : σ) (h0 : I 0 s)
    (step : ∀ k s, k < m → I k s → ∃ s', body k s = some (.nx s') ∧ I (k + 1) s') : ∃ s', forN body 0 m s = some (.inl s') ∧ I m s' := by
  rcases forN_inv (body := body) I (fun _ => False) (fun _ => False) m 0 s h0 (fun k s hk hI => by rw [Nat.zero_add] at hI ⊢; exact .inl (step k s hk hI)) with ⟨s', e, h | h⟩ | ⟨r, e, h⟩
  · rw [Nat.zero_add] at h
    exact ⟨s', e, h⟩
  · exact h.elim
  · exact h.elim

theorem whL_nx {σ ρ : Type} {body : σ → Option (Ctl σ ρ)} {k : Nat} {s s' : σ} (h : body s = some (.nx s')) : whL body (k + 1) s = whL body k s' := by
  simp only [whL, h, Option.bind_some]

theorem whL_bk {σ ρ : Type} {body : σ → Option (Ctl σ ρ)} {k : Nat} {s s' : σ} (h : body s = some (.bk s')) : whL body (k + 1) s = some (.inl s') := by
  simp only [whL, h, Option.bind_some]

/-- A while loop with a measure. -/
theorem whL_inv {σ ρ : Type} {body : σ → Option (Ctl σ ρ)} (I : σ → Prop) (m : σ → Nat) (B : σ → Prop)
    (step : ∀ s, I s → (∃ s', body s = some (.nx s') ∧ I s' ∧ m s' < m s) ∨ ∃ s', body s = some (.bk s') ∧ B s') : ∀ (k : Nat) (s : σ), I s → m s < k → ∃ s', whL body k s = some (.inl s') ∧ B s'
  | 0, s, _, h => by omega
  | k + 1, s, hI, h => by
    rcases step s hI with ⟨s', e, h1, h2⟩ | ⟨s', e, h1⟩
    · rw [whL_nx e]
      exact whL_inv I m B step k s' h1 (by omega)
    · exact ⟨s', whL_bk e, h1⟩

/-- A sum. -/
def sm (f : Nat → Int) : Nat → Int
  | 0 => 0
  | n + 1 => sm f n + f n

theorem sm_le {f : Nat → Int} {B : Int} {n : Nat} (h : ∀ k, k < n → f k ≤ B) : sm f n ≤ n * B := by
  induction n with
  | zero => simp [sm]
  | succ n ih =>
    have h1 := ih (fun k hk => h k (by omega))
    have h2 := h n (by omega)
    simp only [sm]
    rw [show ((n + 1 : Nat) : Int) * B = n * B + B by rw [Int.natCast_add, Int.add_mul]; simp]
    omega

theorem sm_ge {f : Nat → Int} {B : Int} {n : Nat} (h : ∀ k, k < n → -B ≤ f k) : -(n * B) ≤ sm f n := by
  induction n with
  | zero => simp [sm]
  | succ n ih =>
    have h1 := ih (fun k hk => h k (by omega))
    have h2 := h n (by omega)
    simp only [sm]
    rw [show ((n + 1 : Nat) : Int) * B = n * B + B by rw [Int.natCast_add, Int.add_mul]; simp]
    omega

theorem sm_congr {f g : Nat → Int} {n : Nat} (h : ∀ k, k < n → f k = g k) : sm f n = sm g n := by
  induction n with
  | zero => rfl
  | succ n ih => simp only [sm]; rw [ih (fun k hk => h k (by omega)), h n (by omega)]

theorem mul_bnd {a b A B : Int} (h1 : -A ≤ a) (h2 : a ≤ A) (h3 : -B ≤ b) (h4 : b ≤ B) : -(A * B) ≤ a * b ∧ a * b ≤ A * B := by
  have hA : 0 ≤ A := by omega
  have hB : 0 ≤ B := by omega
  have e1 : 0 ≤ (A - a) * (B - b) := Int.mul_nonneg (by omega) (by omega)
  have e2 : 0 ≤ (A + a) * (B + b) := Int.mul_nonneg (by omega) (by omega)
  have e3 : 0 ≤ (A - a) * (B + b) := Int.mul_nonneg (by omega) (by omega)
  have e4 : 0 ≤ (A + a) * (B - b) := Int.mul_nonneg (by omega) (by omega)
  simp only [Int.sub_mul, Int.mul_sub, Int.add_mul, Int.mul_add] at e1 e2 e3 e4
  constructor <;> omega
end Go.PG

/- Loops of the interpreter's functions, out of loops that say how they end. -/
set_option linter.unusedVariables false
namespace Go.PG
open Go.PG.PH

def Ctl.out {σ ρ S R : Type} (g : σ → S) (next K : S → Option R) (F : ρ → Option R) : Ctl σ ρ → Option R
  | .nx s => next (g s)
  | .bk s => K (g s)
  | .rt r => F r
def outS {σ ρ S R : Type} (g : σ → S) (K : S → Option R) (F : ρ → Option R) : σ ⊕ ρ → Option R
  | .inl s => K (g s)
  | .inr r => F r

theorem forK_sim {α σ ρ S R : Type} {B : Nat → α → σ → Option (Ctl σ ρ)} {body : Nat → α → S → (S → Option R) → Option R} (g : σ → S) {K : S → Option R} (F : ρ → Option R) :
    ∀ (l : List α) (i : Nat) (s : σ) (e : σ ⊕ ρ), (∀ k x s c next, l[k]? = some x → B (i + k) x s = some c → body (i + k) x (g s) next = c.out g next K F) →
      forL B i l s = some e → forK body i l (g s) K = outS g K F e
  | [], i, s, e, _, he => by simp only [forL] at he; cases he; rfl
  | x :: xs, i, s, e, h, he => by
    simp only [forL, Option.bind_eq_some_iff] at he
    obtain ⟨c, hc, he⟩ := he
    have h0 := h 0 x s c (fun s' => forK body (i + 1) xs s' K) rfl hc
    simp only [forK]
    rw [Nat.add_zero] at h0
    rw [h0]
    cases c with
    | nx s' =>
      exact forK_sim g F xs (i + 1) s' e (fun k y s c next hk hb => by
        have := h (k + 1) y s c next (by simpa using hk) (by rw [show i + (k + 1) = i + 1 + k by omega]; exact hb)
        rw [show i + (k + 1) = i + 1 + k by omega] at this
        exact this) he
    | bk s' => cases he; rfl
    | rt r => cases he; rfl

theorem cntK_sim {σ ρ S R : Type} {B : Nat → σ → Option (Ctl σ ρ)} {body : Nat → S → (S → Option R) → Option R} (g : σ → S) {K : S → Option R} (F : ρ → Option R) (n : Nat) :
    ∀ (m : Nat) (i : Nat) (s : σ) (e : σ ⊕ ρ), i + m = n → (∀ k s c next, k < n → B k s = some c → body k (g s) next = c.out g next K F) →
      forN B i m s = some e → cntK body i m (g s) K = outS g K F e
  | 0, i, s, e, _, _, he => by simp only [forN] at he; cases he; rfl
  | m + 1, i, s, e, hn, h, he => by
    simp only [forN, Option.bind_eq_some_iff] at he
    obtain ⟨c, hc, he⟩ := he
    have h0 := h i s c (fun s' => cntK body (i + 1) m s' K) (by omega) hc
    simp only [cntK]
    rw [h0]
    cases c with
    | nx s' => exact cntK_sim g F n m (i + 1) s' e (by omega) h he
    | bk s' => cases he; rfl
    | rt r => cases he; rfl

/-- A loop over a list's places. -/
theorem cntL_sim {α σ ρ S R : Type} {B : Nat → α → σ → Option (Ctl σ ρ)} {body : Nat → S → (S → Option R) → Option R} (g : σ → S) {K : S → Option R} (F : ρ → Option R) (l : List α) :
    ∀ (m : Nat) (i : Nat) (s : σ) (e : σ ⊕ ρ), i + m = l.length → (∀ k x s c next, l[k]? = some x → B k x s = some c → body k (g s) next = c.out g next K F) →
      forL B i (l.drop i) s = some e → cntK body i m (g s) K = outS g K F e
  | 0, i, s, e, hm, _, he => by
    rw [List.drop_of_length_le (by omega)] at he
    simp only [forL] at he; cases he; rfl
  | m + 1, i, s, e, hm, h, he => by
    have hi : i < l.length := by omega
    rw [List.drop_eq_getElem_cons hi] at he
    simp only [forL, Option.bind_eq_some_iff] at he
    obtain ⟨c, hc, he⟩ := he
    have h0 := h i l[i] s c (fun s' => cntK body (i + 1) m s' K) (List.getElem?_eq_getElem hi) hc
    simp only [cntK]
    rw [h0]
    cases c with
    | nx s' => exact cntL_sim g F l m (i + 1) s' e (by omega) h he
    | bk s' => cases he; rfl
    | rt r => cases he; rfl

/-- A loop over a list that asks for the places alone. -/
theorem forN_sim {α σ ρ S R : Type} {B : Nat → σ → Option (Ctl σ ρ)} {body : Nat → α → S → (S → Option R) → Option R} (g : σ → S) {K : S → Option R} (F : ρ → Option R) :
    ∀ (l : List α) (i : Nat) (s : σ) (e : σ ⊕ ρ), (∀ k x s c next, l[k]? = some x → B (i + k) s = some c → body (i + k) x (g s) next = c.out g next K F) →
      forN B i l.length s = some e → forK body i l (g s) K = outS g K F e
  | [], i, s, e, _, he => by simp only [List.length_nil, forN] at he; cases he; rfl
  | x :: xs, i, s, e, h, he => by
    simp only [List.length_cons, forN, Option.bind_eq_some_iff] at he
    obtain ⟨c, hc, he⟩ := he
    have h0 := h 0 x s c (fun s' => forK body (i + 1) xs s' K) rfl hc
    simp only [forK]
    rw [Nat.add_zero] at h0
    rw [h0]
    cases c with
    | nx s' =>
      exact forN_sim g F xs (i + 1) s' e (fun k y s c next hk hb => by
        have := h (k + 1) y s c next (by simpa using hk) (by rw [show i + (k + 1) = i + 1 + k by omega]; exact hb)
        rw [show i + (k + 1) = i + 1 + k by omega] at this
        exact this) he
    | bk s' => cases he; rfl
    | rt r => cases he; rfl

theorem whK_sim {σ ρ S R : Type} {B : σ → Option (Ctl σ ρ)} {body : (S → Option R) → S → Option R} (g : σ → S) (K : S → Option R) (F : ρ → Option R) :
    ∀ (fu : Nat) (s : σ) (e : σ ⊕ ρ), (∀ s c self, B s = some c → body self (g s) = c.out g self K F) → whL B fu s = some e → whK body fu (g s) = outS g K F e
  | 0, s, e, _, he => by cases he
  | fu + 1, s, e, h, he => by
    simp only [whL, Option.bind_eq_some_iff] at he
    obtain ⟨c, hc, he⟩ := he
    simp only [whK]
    rw [h s c _ hc]
    cases c with
    | nx s' => exact whK_sim g K F fu s' e h he
    | bk s' => cases he; rfl
    | rt r => cases he; rfl

theorem idx_nat {α : Type} (l : List α) (k : Nat) : idx l (k : Int) = l[k]? := by unfold idx; simp
theorem idx_at {α : Type} {l : List α} {i : Int} {x : α} (h : idx l i = some x) : 0 ≤ i ∧ i.toNat < l.length ∧ l[i.toNat]? = some x := by
  unfold idx at h
  split at h
  · rename_i hi; exact ⟨hi, (List.getElem?_eq_some_iff.1 h).1, h⟩
  · cases h
theorem chk_eq {p : Prop} [Decidable p] (h : p) : chk p = some () := by unfold chk; rw [if_pos h]
end Go.PG

/- What line.Solve's parts come to, as loops that say how they end. -/
set_option linter.unusedVariables false
namespace Go.Proofs.Ytfhddbnacbcppaa.Old
open Go.PG
abbrev line_Row := List Int × Int
abbrev line_Point := List Int × Int
abbrev line_row := line_Row × List Int
abbrev line_frac := Int × Int
abbrev line_product := Bool × Int × Int
abbrev mk3 (a : Bool) (b c : Int) : line_product := (a, b, c)

-- moothall/line.Check
def line_Check_b2 (k2 : Nat) (x2 : Int) (s2 : Unit) : Option (Ctl Unit (Ctl Unit Int)) :=
  cond (cond (decide (x2 < (-9))) true (decide (x2 > 9)))
    (some (.rt (.rt 1)))
    (some (.nx ()))
def line_Check_b0 (p1 : Int) (k1 : Nat) (x1 : line_Row) (s1 : Unit) : Option (Ctl Unit Int) :=
  cond ((x1.1.length : Int) != p1)
    (some (.rt 3))
    ((forL line_Check_b2 0 x1.1 ()).bind (Sum.elim (fun (u1 : Unit) =>
      cond (cond (decide (x1.2 < (-99))) true (decide (x1.2 > 99)))
        (some (.rt 1))
        (some (.nx ()))) some))
def line_Check (p0 : (List line_Row)) (p1 : Int) : Option Int :=
  cond (cond (decide (p1 < 1)) true (cond (decide (p1 > 3)) true (decide ((p0.length : Int) > 8))))
    (some 2)
    ((forL (line_Check_b0 p1) 0 p0 ()).bind (Sum.elim (fun (u2 : Unit) =>
      some 0) some))
def slices_Clone_int (p0 : (List Int)) : Option (List Int) := some p0
def line_add_b0 (p0 : line_row) (p1 : Int) (p2 : line_row) (p3 : Int) (k1 : Nat) (s1 : (List Int)) : Option (Ctl (List Int) line_row) :=
  (p0.1.1[k1]?).bind fun x1 =>
  (p2.1.1[k1]?).bind fun x2 =>
  (chk (s1.length + 1 ≤ LIM)).bind fun _ =>
  some (.nx (s1 ++ [(IntKind.i64.wrap ((IntKind.i64.wrap (p1 * x1)) + (IntKind.i64.wrap (p3 * x2))))]))
def line_add_b2 (p0 : line_row) (p1 : Int) (p2 : line_row) (p3 : Int) (k2 : Nat) (s1 : (List Int)) : Option (Ctl (List Int) line_row) :=
  (p0.2[k2]?).bind fun x3 =>
  (p2.2[k2]?).bind fun x4 =>
  (chk (s1.length + 1 ≤ LIM)).bind fun _ =>
  some (.nx (s1 ++ [(IntKind.i64.wrap ((IntKind.i64.wrap (p1 * x3)) + (IntKind.i64.wrap (p3 * x4))))]))
def line_add (p0 : line_row) (p1 : Int) (p2 : line_row) (p3 : Int) : Option line_row :=
  (chk ((p0.1.1.length : Int) ≤ (LIM : Int))).bind fun _ =>
  (forN (line_add_b0 p0 p1 p2 p3) 0 p0.1.1.length ([] : (List Int))).bind (Sum.elim (fun (u1 : (List Int)) =>
    (chk ((p0.2.length : Int) ≤ (LIM : Int))).bind fun _ =>
    (forN (line_add_b2 p0 p1 p2 p3) 0 p0.2.length ([] : (List Int))).bind (Sum.elim (fun (u2 : (List Int)) =>
      some (Prod.mk (Prod.mk u1 (IntKind.i64.wrap ((IntKind.i64.wrap (p1 * p0.1.2)) + (IntKind.i64.wrap (p3 * p2.1.2))))) u2)) some)) some)
def line_without_b3 (p1 : Int) (x1 : line_row) (x2 : Int) (k2 : Nat) (x3 : line_row) (s2 : (List line_row)) : Option (Ctl (List line_row) (Ctl (List line_row) (List line_row))) :=
  (idx x3.1.1 p1).bind fun x4 =>
  cond (decide (x4 < 0))
    ((line_add x1 (IntKind.i64.wrap (0 - x4)) x3 x2).bind fun r1 =>
    (chk (s2.length + 1 ≤ LIM)).bind fun _ =>
    some (.nx (s2 ++ [r1])))
    (some (.nx s2))
def line_without_b0 (p0 : (List line_row)) (p1 : Int) (k1 : Nat) (x1 : line_row) (s1 : (List line_row)) : Option (Ctl (List line_row) (List line_row)) :=
  (idx x1.1.1 p1).bind fun x2 =>
  cond (x2 == 0)
    ((chk (s1.length + 1 ≤ LIM)).bind fun _ =>
    some (.nx (s1 ++ [x1])))
    (cond (decide (x2 > 0))
      ((forL (line_without_b3 p1 x1 x2) 0 p0 s1).bind (Sum.elim (fun (u1 : (List line_row)) =>
        some (.nx u1)) some))
      (some (.nx s1)))
def line_without (p0 : (List line_row)) (p1 : Int) : Option (List line_row) :=
  (forL (line_without_b0 p0 p1) 0 p0 ([] : (List line_row))).bind (Sum.elim (fun (u2 : (List line_row)) =>
    some u2) some)
def line_common_b0 (s1 : (Int × Int)) : Option (Ctl (Int × Int) Int) :=
  cond (s1.2 != 0)
    ((chk (¬ s1.2 = 0)).bind fun _ =>
    some (.nx (s1.2, (s1.1.tmod s1.2))))
    (some (.bk (s1.1, s1.2)))
def line_common (fu : Nat) (p0 : Int) (p1 : Int) : Option Int :=
  (whL line_common_b0 fu (p0, p1)).bind (Sum.elim (fun (u1 : (Int × Int)) =>
    some u1.1) some)
def line_lowest (fu : Nat) (p0 : Int) (p1 : Int) : Option line_frac :=
  ((
    cond (decide (p1 < 0))
      (some ((IntKind.i64.wrap (0 - p0)), (IntKind.i64.wrap (0 - p1))))
      (some (p0, p1))) : Option (Int × Int)).bind fun (u1 : (Int × Int)) =>
  (line_common fu (if (IntKind.i64.wrap (0 - u1.1)) > u1.1 then (IntKind.i64.wrap (0 - u1.1)) else u1.1) u1.2).bind fun r1 =>
  (chk (¬ r1 = 0)).bind fun _ =>
  (chk (¬ r1 = 0)).bind fun _ =>
  some (Prod.mk (IntKind.i64.wrap (u1.1.tdiv r1)) (IntKind.i64.wrap (u1.2.tdiv r1)))
def slices_MaxFunc_line_frac_b0 (p0 : (List line_frac)) (q1 : line_frac → line_frac → Option Int) (s1 : (Int × Int × Int)) : Option (Ctl (Int × Int × Int) line_frac) :=
  cond (decide (s1.1 < (p0.length : Int)))
    ((idx p0 s1.1).bind fun x2 =>
    (q1 x2 (Prod.mk s1.2.1 s1.2.2)).bind fun r1 =>
    cond (decide (r1 > 0))
      (some (.nx ((IntKind.i64.wrap (s1.1 + 1)), x2.1, x2.2)))
      (some (.nx ((IntKind.i64.wrap (s1.1 + 1)), s1.2.1, s1.2.2))))
    (some (.bk (s1.1, s1.2.1, s1.2.2)))
def slices_MaxFunc_line_frac (fu : Nat) (p0 : (List line_frac)) (q1 : line_frac → line_frac → Option Int) : Option line_frac :=
  cond (decide ((p0.length : Int) < 1))
    none
    ((idx p0 0).bind fun x1 =>
    (whL (slices_MaxFunc_line_frac_b0 p0 q1) fu (1, x1.1, x1.2)).bind (Sum.elim (fun (u1 : (Int × Int × Int)) =>
      some (Prod.mk u1.2.1 u1.2.2)) some))
def math_bits_Mul64 (p0 : Int) (p1 : Int) : Option (Int × Int) :=
  some ((IntKind.u64.wrap ((IntKind.u64.wrap ((IntKind.u64.wrap ((p0.fdiv (2 ^ (min (32 : Int).toNat IntKind.u64.bits))) * (p1.fdiv (2 ^ (min (32 : Int).toNat IntKind.u64.bits))))) + ((IntKind.u64.wrap ((IntKind.u64.wrap ((p0.fdiv (2 ^ (min (32 : Int).toNat IntKind.u64.bits))) * (IntKind.u64.wrap (((BitVec.ofInt IntKind.u64.bits p1 &&& BitVec.ofInt IntKind.u64.bits 4294967295).toNat : Int))))) + ((IntKind.u64.wrap ((IntKind.u64.wrap (((BitVec.ofInt IntKind.u64.bits p0 &&& BitVec.ofInt IntKind.u64.bits 4294967295).toNat : Int))) * (IntKind.u64.wrap (((BitVec.ofInt IntKind.u64.bits p1 &&& BitVec.ofInt IntKind.u64.bits 4294967295).toNat : Int))))).fdiv (2 ^ (min (32 : Int).toNat IntKind.u64.bits))))).fdiv (2 ^ (min (32 : Int).toNat IntKind.u64.bits))))) + ((IntKind.u64.wrap ((IntKind.u64.wrap (((BitVec.ofInt IntKind.u64.bits (IntKind.u64.wrap ((IntKind.u64.wrap ((p0.fdiv (2 ^ (min (32 : Int).toNat IntKind.u64.bits))) * (IntKind.u64.wrap (((BitVec.ofInt IntKind.u64.bits p1 &&& BitVec.ofInt IntKind.u64.bits 4294967295).toNat : Int))))) + ((IntKind.u64.wrap ((IntKind.u64.wrap (((BitVec.ofInt IntKind.u64.bits p0 &&& BitVec.ofInt IntKind.u64.bits 4294967295).toNat : Int))) * (IntKind.u64.wrap (((BitVec.ofInt IntKind.u64.bits p1 &&& BitVec.ofInt IntKind.u64.bits 4294967295).toNat : Int))))).fdiv (2 ^ (min (32 : Int).toNat IntKind.u64.bits))))) &&& BitVec.ofInt IntKind.u64.bits 4294967295).toNat : Int))) + (IntKind.u64.wrap ((IntKind.u64.wrap (((BitVec.ofInt IntKind.u64.bits p0 &&& BitVec.ofInt IntKind.u64.bits 4294967295).toNat : Int))) * (p1.fdiv (2 ^ (min (32 : Int).toNat IntKind.u64.bits))))))).fdiv (2 ^ (min (32 : Int).toNat IntKind.u64.bits))))), (IntKind.u64.wrap (p0 * p1)))
def line_cross (p0 : Int) (p1 : Int) : Option line_product :=
  (math_bits_Mul64 (IntKind.u64.wrap (if (IntKind.i64.wrap (0 - p0)) > p0 then (IntKind.i64.wrap (0 - p0)) else p0)) (IntKind.u64.wrap (if (IntKind.i64.wrap (0 - p1)) > p1 then (IntKind.i64.wrap (0 - p1)) else p1))).bind fun r1 =>
  some (mk3 (cond (!((decide (p0 < 0)) == (decide (p1 < 0)))) ((IntKind.u64.wrap (((BitVec.ofInt IntKind.u64.bits r1.1 ||| BitVec.ofInt IntKind.u64.bits r1.2).toNat : Int))) != 0) false) r1.1 r1.2)
def line_less (p0 : line_frac) (p1 : line_frac) : Option Bool :=
  (line_cross p0.1 p1.2).bind fun r1 =>
  (line_cross p1.1 p0.2).bind fun r2 =>
  cond (!(r1.1 == r2.1))
    (some r1.1)
    (some (cond r1.1 (cond (cond (decide (r1.2.1 > r2.2.1)) true (cond (r1.2.1 == r2.2.1) (decide (r1.2.2 > r2.2.2)) false)) true false) (cond (decide (r1.2.1 < r2.2.1)) true (cond (r1.2.1 == r2.2.1) (decide (r1.2.2 < r2.2.2)) false))))
def line_order (p0 : line_frac) (p1 : line_frac) : Option Int :=
  (line_less p0 p1).bind fun r1 =>
  cond r1
    (some (-1))
    ((line_less p1 p0).bind fun r2 =>
    cond r2
      (some 1)
      (some 0))
def slices_MinFunc_line_frac_b0 (p0 : (List line_frac)) (q1 : line_frac → line_frac → Option Int) (s1 : (Int × Int × Int)) : Option (Ctl (Int × Int × Int) line_frac) :=
  cond (decide (s1.1 < (p0.length : Int)))
    ((idx p0 s1.1).bind fun x2 =>
    (q1 x2 (Prod.mk s1.2.1 s1.2.2)).bind fun r1 =>
    cond (decide (r1 < 0))
      (some (.nx ((IntKind.i64.wrap (s1.1 + 1)), x2.1, x2.2)))
      (some (.nx ((IntKind.i64.wrap (s1.1 + 1)), s1.2.1, s1.2.2))))
    (some (.bk (s1.1, s1.2.1, s1.2.2)))
def slices_MinFunc_line_frac (fu : Nat) (p0 : (List line_frac)) (q1 : line_frac → line_frac → Option Int) : Option line_frac :=
  cond (decide ((p0.length : Int) < 1))
    none
    ((idx p0 0).bind fun x1 =>
    (whL (slices_MinFunc_line_frac_b0 p0 q1) fu (1, x1.1, x1.2)).bind (Sum.elim (fun (u1 : (Int × Int × Int)) =>
      some (Prod.mk u1.2.1 u1.2.2)) some))
def line_choose_b2 (x1 : line_row) (k2 : Nat) (x3 : line_frac) (s2 : (Int × Int)) : Option (Ctl (Int × Int) (Ctl ((List line_frac) × (List line_frac)) line_frac)) :=
  (x1.1.1[k2]?).bind fun x4 =>
  some (.nx ((IntKind.i64.wrap ((IntKind.i64.wrap (s2.1 * x3.2)) - (IntKind.i64.wrap ((IntKind.i64.wrap (x4 * x3.1)) * s2.2)))), (IntKind.i64.wrap (s2.2 * x3.2))))
def line_choose_b0 (fu : Nat) (p1 : Int) (p2 : (List line_frac)) (k1 : Nat) (x1 : line_row) (s1 : ((List line_frac) × (List line_frac))) : Option (Ctl ((List line_frac) × (List line_frac)) line_frac) :=
  (idx x1.1.1 p1).bind fun x2 =>
  cond (x2 == 0)
    (some (.nx (s1.1, s1.2)))
    ((forL (line_choose_b2 x1) 0 p2 (x1.1.2, 1)).bind (Sum.elim (fun (u1 : (Int × Int)) =>
      (line_lowest fu u1.1 u1.2).bind fun r1 =>
      (line_lowest fu r1.1 (IntKind.i64.wrap (r1.2 * x2))).bind fun r2 =>
      cond (decide (x2 > 0))
        ((chk (s1.1.length + 1 ≤ LIM)).bind fun _ =>
        some (.nx ((s1.1 ++ [r2]), s1.2)))
        ((chk (s1.2.length + 1 ≤ LIM)).bind fun _ =>
        some (.nx (s1.1, (s1.2 ++ [r2]))))) some))
def line_choose (fu : Nat) (p0 : (List line_row)) (p1 : Int) (p2 : (List line_frac)) : Option line_frac :=
  (forL (line_choose_b0 fu p1 p2) 0 p0 (([] : (List line_frac)), ([] : (List line_frac)))).bind (Sum.elim (fun (u2 : ((List line_frac) × (List line_frac))) =>
    cond (decide ((u2.2.length : Int) > 0))
      ((slices_MaxFunc_line_frac fu u2.2 (fun z0 z1 => line_order z0 z1)).bind fun r3 =>
      some r3)
      (cond (decide ((u2.1.length : Int) > 0))
        ((slices_MinFunc_line_frac fu u2.1 (fun z0 z1 => line_order z0 z1)).bind fun r4 =>
        some r4)
        (some (Prod.mk 0 1)))) some)
def line_Solve_b0 (p0 : (List line_Row)) (k1 : Nat) (x1 : line_Row) (s1 : (List line_row)) : Option (Ctl (List line_row) (line_Point × (List Int) × Bool × Int)) :=
  (chk (0 ≤ (p0.length : Int) ∧ (p0.length : Int) ≤ (LIM : Int))).bind fun _ =>
  ((List.replicate p0.length (0 : Int))[k1]?).bind fun x2 =>
  (slices_Clone_int x1.1).bind fun r2 =>
  (chk (s1.length + 1 ≤ LIM)).bind fun _ =>
  some (.nx (s1 ++ [(Prod.mk (Prod.mk r2 x1.2) ((List.replicate p0.length (0 : Int)).set k1 1))]))
def line_Solve_b2 (s1 : (Int × (List (List line_row)))) : Option (Ctl (Int × (List (List line_row))) (line_Point × (List Int) × Bool × Int)) :=
  cond (decide (s1.1 ≥ 0))
    ((idx s1.2 (IntKind.i64.wrap (s1.1 + 1))).bind fun x4 =>
    (line_without x4 s1.1).bind fun r3 =>
    (idx s1.2 s1.1).bind fun x5 =>
    some (.nx ((IntKind.i64.wrap (s1.1 - 1)), (s1.2.set s1.1.toNat r3))))
    (some (.bk (s1.1, s1.2)))
def line_Solve_b4 (k2 : Nat) (x7 : line_row) (s1 : Unit) : Option (Ctl Unit (line_Point × (List Int) × Bool × Int)) :=
  cond (decide (x7.1.2 < 0))
    (some (.rt ((Prod.mk ([] : (List Int)) 0), x7.2, false, 0)))
    (some (.nx ()))
def line_Solve_b6 (fu : Nat) (u2 : (Int × (List (List line_row)))) (k3 : Nat) (s1 : (List line_frac)) : Option (Ctl (List line_frac) (line_Point × (List Int) × Bool × Int)) :=
  (idx u2.2 (IntKind.i64.wrap ((k3 : Int) + 1))).bind fun x8 =>
  (line_choose fu x8 (k3 : Int) s1).bind fun r4 =>
  (chk (s1.length + 1 ≤ LIM)).bind fun _ =>
  some (.nx (s1 ++ [r4]))
def line_Solve_b8 (fu : Nat) (k4 : Nat) (x9 : line_frac) (s1 : Int) : Option (Ctl Int (line_Point × (List Int) × Bool × Int)) :=
  (line_common fu s1 x9.2).bind fun r5 =>
  (chk (¬ r5 = 0)).bind fun _ =>
  some (.nx (IntKind.i64.wrap ((IntKind.i64.wrap (s1.tdiv r5)) * x9.2)))
def line_Solve_b10 (u5 : Int) (k5 : Nat) (x10 : line_frac) (s1 : (List Int)) : Option (Ctl (List Int) (line_Point × (List Int) × Bool × Int)) :=
  (chk (¬ x10.2 = 0)).bind fun _ =>
  (chk (s1.length + 1 ≤ LIM)).bind fun _ =>
  some (.nx (s1 ++ [(IntKind.i64.wrap (x10.1 * (IntKind.i64.wrap (u5.tdiv x10.2))))]))
def line_Solve (fu : Nat) (p0 : (List line_Row)) (p1 : Int) : Option (line_Point × (List Int) × Bool × Int) :=
  (line_Check p0 p1).bind fun r1 =>
  cond (r1 != 0)
    (some ((Prod.mk ([] : (List Int)) 0), ([] : (List Int)), false, r1))
    ((forL (line_Solve_b0 p0) 0 p0 ([] : (List line_row))).bind (Sum.elim (fun (u1 : (List line_row)) =>
      (chk (0 ≤ (IntKind.i64.wrap (p1 + 1)) ∧ (IntKind.i64.wrap (p1 + 1)) ≤ (LIM : Int))).bind fun _ =>
      (idx (List.replicate ((IntKind.i64.wrap (p1 + 1)).toNat) (([] : (List line_row)) : (List line_row))) p1).bind fun x3 =>
      (whL line_Solve_b2 fu ((IntKind.i64.wrap (p1 - 1)), ((List.replicate ((IntKind.i64.wrap (p1 + 1)).toNat) (([] : (List line_row)) : (List line_row))).set p1.toNat u1))).bind (Sum.elim (fun (u2 : (Int × (List (List line_row)))) =>
        (idx u2.2 0).bind fun x6 =>
        (forL line_Solve_b4 0 x6 ()).bind (Sum.elim (fun (u3 : Unit) =>
          (chk (p1 ≤ (LIM : Int))).bind fun _ =>
          (forN (line_Solve_b6 fu u2) 0 p1.toNat ([] : (List line_frac))).bind (Sum.elim (fun (u4 : (List line_frac)) =>
            (forL (line_Solve_b8 fu) 0 u4 1).bind (Sum.elim (fun (u5 : Int) =>
              (forL (line_Solve_b10 u5) 0 u4 ([] : (List Int))).bind (Sum.elim (fun (u6 : (List Int)) =>
                some ((Prod.mk u6 u5), ([] : (List Int)), true, 0)) some)) some)) some)) some)) some)) some))
def mootlaw3_lined (fu : Nat)  : Option Bool :=
  (line_Solve fu ([(Prod.mk ([1] : (List Int)) 1), (Prod.mk ([(-1)] : (List Int)) (-2))] : List line_Row) 1).bind fun r1 =>
  some (cond (r1.2.2.2 == 0) (cond (!r1.2.2.1) ((r1.2.1.length : Int) == 2) false) false)
def mootref3_RowsFault_b2 (k2 : Nat) (x2 : Int) (s2 : Unit) : Option (Ctl Unit (Ctl Unit Int)) :=
  cond (cond (decide (x2 < (-9))) true (decide (x2 > 9)))
    (some (.rt (.rt 1)))
    (some (.nx ()))
def mootref3_RowsFault_b0 (p1 : Int) (k1 : Nat) (x1 : line_Row) (s1 : Unit) : Option (Ctl Unit Int) :=
  cond ((x1.1.length : Int) != p1)
    (some (.rt 3))
    ((forL mootref3_RowsFault_b2 0 x1.1 ()).bind (Sum.elim (fun (u1 : Unit) =>
      cond (cond (decide (x1.2 < (-99))) true (decide (x1.2 > 99)))
        (some (.rt 1))
        (some (.nx ()))) some))
def mootref3_RowsFault (p0 : (List line_Row)) (p1 : Int) : Option Int :=
  cond (cond (decide (p1 ≤ 0)) true (cond (decide (p1 ≥ 4)) true (decide ((p0.length : Int) ≥ 9))))
    (some 2)
    ((forL (mootref3_RowsFault_b0 p1) 0 p0 ()).bind (Sum.elim (fun (u2 : Unit) =>
      some 0) some))
def line_Holds_b0 (k1 : Nat) (x1 : Int) (s1 : Unit) : Option (Ctl Unit Bool) :=
  cond (cond (decide (x1 < (-36028797018963968))) true (decide (x1 > 36028797018963968)))
    (some (.rt false))
    (some (.nx ()))
def line_Holds_b4 (p2 : line_Point) (k3 : Nat) (x3 : Int) (s2 : Int) : Option (Ctl Int (Ctl Unit Bool)) :=
  (p2.1[k3]?).bind fun x4 =>
  some (.nx (IntKind.i64.wrap (s2 + (IntKind.i64.wrap (x3 * x4)))))
def line_Holds_b2 (p2 : line_Point) (k2 : Nat) (x2 : line_Row) (s1 : Unit) : Option (Ctl Unit Bool) :=
  (forL (line_Holds_b4 p2) 0 x2.1 0).bind (Sum.elim (fun (u3 : Int) =>
    cond (decide (u3 > (IntKind.i64.wrap (x2.2 * p2.2))))
      (some (.rt false))
      (some (.nx ()))) some)
def line_Holds (p0 : (List line_Row)) (p1 : Int) (p2 : line_Point) : Option Bool :=
  ((
    (line_Check p0 p1).bind fun r1 =>
    cond (r1 != 0)
      (some true)
      (cond ((p2.1.length : Int) != p1)
        (some true)
        (cond (decide (p2.2 < 1))
          (some true)
          (some (decide (p2.2 > 1125899906842624)))))) : Option Bool).bind fun (u1 : Bool) =>
  cond u1
    (some false)
    ((forL line_Holds_b0 0 p2.1 ()).bind (Sum.elim (fun (u2 : Unit) =>
      (forL (line_Holds_b2 p2) 0 p0 ()).bind (Sum.elim (fun (u4 : Unit) =>
        some true) some)) some))
def mootref3_Solves_b0 (k1 : Nat) (x1 : Int) (s1 : Unit) : Option (Ctl Unit Bool) :=
  cond (cond (decide (x1 > 36028797018963968)) true (decide (x1 < (-36028797018963968))))
    (some (.rt false))
    (some (.nx ()))
def mootref3_Solves_b4 (p2 : line_Point) (x2 : line_Row) (k3 : Nat) (s2 : Int) : Option (Ctl Int (Ctl Unit Bool)) :=
  (x2.1[k3]?).bind fun x3 =>
  (p2.1[k3]?).bind fun x4 =>
  some (.nx (IntKind.i64.wrap (s2 - (IntKind.i64.wrap (x3 * x4)))))
def mootref3_Solves_b2 (p1 : Int) (p2 : line_Point) (k2 : Nat) (x2 : line_Row) (s1 : Unit) : Option (Ctl Unit Bool) :=
  (chk (p1 ≤ (LIM : Int))).bind fun _ =>
  (forN (mootref3_Solves_b4 p2 x2) 0 p1.toNat (IntKind.i64.wrap (x2.2 * p2.2))).bind (Sum.elim (fun (u3 : Int) =>
    cond (decide (u3 < 0))
      (some (.rt false))
      (some (.nx ()))) some)
def mootref3_Solves (p0 : (List line_Row)) (p1 : Int) (p2 : line_Point) : Option Bool :=
  ((
    (mootref3_RowsFault p0 p1).bind fun r1 =>
    cond (r1 != 0)
      (some true)
      (cond ((p2.1.length : Int) != p1)
        (some true)
        (cond (decide (p2.2 ≤ 0))
          (some true)
          (some (decide (p2.2 > 1125899906842624)))))) : Option Bool).bind fun (u1 : Bool) =>
  cond u1
    (some false)
    ((forL mootref3_Solves_b0 0 p2.1 ()).bind (Sum.elim (fun (u2 : Unit) =>
      (forL (mootref3_Solves_b2 p1 p2) 0 p0 ()).bind (Sum.elim (fun (u4 : Unit) =>
        some true) some)) some))
def line_Refutes_b2 (p2 : (List Int)) (k1 : Nat) (k2 : Nat) (x3 : Int) (s2 : (List Int)) : Option (Ctl (List Int) (Ctl (List Int) Bool)) :=
  (s2[k2]?).bind fun x4 =>
  (p2[k1]?).bind fun x5 =>
  some (.nx (s2.set k2 (IntKind.i64.wrap (x4 + (IntKind.i64.wrap (x5 * x3))))))
def line_Refutes_b0 (p1 : Int) (p2 : (List Int)) (k1 : Nat) (x1 : line_Row) (s1 : (List Int)) : Option (Ctl (List Int) Bool) :=
  ((
    (p2[k1]?).bind fun x2 =>
    cond (decide (x2 < 0))
      (some true)
      (some (decide (x2 > 1125899906842624)))) : Option Bool).bind fun (u2 : Bool) =>
  cond u2
    (some (.rt false))
    ((forL (line_Refutes_b2 p2 k1) 0 x1.1 s1).bind (Sum.elim (fun (u3 : (List Int)) =>
      (idx u3 p1).bind fun x6 =>
      (p2[k1]?).bind fun x7 =>
      some (.nx (u3.set p1.toNat (IntKind.i64.wrap (x6 + (IntKind.i64.wrap (x7 * x1.2))))))) some))
def line_Refutes_b4 (k3 : Nat) (x8 : Int) (s1 : Unit) : Option (Ctl Unit Bool) :=
  cond (x8 != 0)
    (some (.rt false))
    (some (.nx ()))
def line_Refutes (p0 : (List line_Row)) (p1 : Int) (p2 : (List Int)) : Option Bool :=
  ((
    (line_Check p0 p1).bind fun r1 =>
    cond (r1 != 0)
      (some true)
      (some ((p2.length : Int) != (p0.length : Int)))) : Option Bool).bind fun (u1 : Bool) =>
  cond u1
    (some false)
    ((chk (0 ≤ (IntKind.i64.wrap (p1 + 1)) ∧ (IntKind.i64.wrap (p1 + 1)) ≤ (LIM : Int))).bind fun _ =>
    (forL (line_Refutes_b0 p1 p2) 0 p0 (List.replicate ((IntKind.i64.wrap (p1 + 1)).toNat) (0 : Int))).bind (Sum.elim (fun (u4 : (List Int)) =>
      (chk (0 ≤ p1 ∧ p1.toNat ≤ u4.length)).bind fun _ =>
      (forL line_Refutes_b4 0 (u4.take p1.toNat) ()).bind (Sum.elim (fun (u5 : Unit) =>
        (idx u4 p1).bind fun x9 =>
        some (decide (x9 < 0))) some)) some))
def mootref3_Disproves_b0 (k1 : Nat) (x1 : Int) (s1 : Unit) : Option (Ctl Unit Bool) :=
  cond (cond (decide (x1 < 0)) true (decide (x1 > 1125899906842624)))
    (some (.rt false))
    (some (.nx ()))
def mootref3_Disproves_b4 (p2 : (List Int)) (k2 : Nat) (k3 : Nat) (x2 : line_Row) (s2 : Int) : Option (Ctl Int (Ctl Unit Bool)) :=
  (x2.1[k2]?).bind fun x3 =>
  (p2[k3]?).bind fun x4 =>
  some (.nx (IntKind.i64.wrap (s2 + (IntKind.i64.wrap (x3 * x4)))))
def mootref3_Disproves_b2 (p0 : (List line_Row)) (p2 : (List Int)) (k2 : Nat) (s1 : Unit) : Option (Ctl Unit Bool) :=
  (forL (mootref3_Disproves_b4 p2 k2) 0 p0 0).bind (Sum.elim (fun (u3 : Int) =>
    cond (u3 != 0)
      (some (.rt false))
      (some (.nx ()))) some)
def mootref3_Disproves_b6 (p2 : (List Int)) (k4 : Nat) (x5 : line_Row) (s1 : Int) : Option (Ctl Int Bool) :=
  (p2[k4]?).bind fun x6 =>
  some (.nx (IntKind.i64.wrap (s1 + (IntKind.i64.wrap (x5.2 * x6)))))
def mootref3_Disproves (p0 : (List line_Row)) (p1 : Int) (p2 : (List Int)) : Option Bool :=
  ((
    (mootref3_RowsFault p0 p1).bind fun r1 =>
    cond (r1 != 0)
      (some true)
      (some ((p2.length : Int) != (p0.length : Int)))) : Option Bool).bind fun (u1 : Bool) =>
  cond u1
    (some false)
    ((forL mootref3_Disproves_b0 0 p2 ()).bind (Sum.elim (fun (u2 : Unit) =>
      (chk (p1 ≤ (LIM : Int))).bind fun _ =>
      (forN (mootref3_Disproves_b2 p0 p2) 0 p1.toNat ()).bind (Sum.elim (fun (u4 : Unit) =>
        (forL (mootref3_Disproves_b6 p2) 0 p0 0).bind (Sum.elim (fun (u5 : Int) =>
          some (decide (u5 < 0))) some)) some)) some))
def mootlaw3_LineSolves (fu : Nat) (p0 : (List line_Row)) (p1 : Int) : Option Bool :=
  (line_Solve fu p0 p1).bind fun r1 =>
  (mootref3_RowsFault p0 p1).bind fun r2 =>
  ((
    (mootlaw3_lined fu).bind fun r3 =>
    cond (!r3)
      (some true)
      (some (r1.2.2.2 != r2))) : Option Bool).bind fun (u1 : Bool) =>
  cond u1
    (some false)
    (cond (cond (r2 != 0) true (!r1.2.2.1))
      (((
        cond (r2 != 0)
          (cond (!r1.2.2.1)
            (cond ((r1.1.1.length : Int) == 0)
              (cond (r1.1.2 == 0)
                (cond ((r1.2.1.length : Int) == 0)
                  (some true)
                  (cond (r2 == 0)
                    ((mootref3_Disproves p0 p1 r1.2.1).bind fun r4 =>
                    some r4)
                    (some false)))
                (some false))
              (some false))
            (some false))
          (cond ((r1.1.1.length : Int) == 0)
            (cond (r1.1.2 == 0)
              (cond (r2 == 0)
                ((mootref3_Disproves p0 p1 r1.2.1).bind fun r5 =>
                some r5)
                (some false))
              (some false))
            (some false))) : Option Bool).bind fun (u2 : Bool) =>
      some u2)
      (((
        cond ((r1.2.1.length : Int) == 0)
          ((mootref3_Solves p0 p1 r1.1).bind fun r6 =>
          some r6)
          (some false)) : Option Bool).bind fun (u3 : Bool) =>
      some u3))
end Go.Proofs.Ytfhddbnacbcppaa.Old

/- Plain laws: what line.Check, Holds, Solves, Refutes, Disproves come to. -/
set_option linter.unusedSimpArgs false
namespace Go.Proofs.Ytfhddbnacbcppaa.Old
open Go.PG

theorem fault_eq : mootref3_RowsFault = line_Check := by
  funext l n
  have e : mootref3_RowsFault_b0 = line_Check_b0 := rfl
  unfold mootref3_RowsFault line_Check
  rw [e]
  congr 1
  rw [show decide (n ≤ 0) = decide (n < 1) by congr 1; simp; omega, show decide (n ≥ 4) = decide (n > 3) from rfl, show decide ((l.length : Int) ≥ 9) = decide ((l.length : Int) > 8) from rfl]

/-- A row within its bounds. -/
def rowOk (n : Int) (r : line_Row) : Prop := (r.1.length : Int) = n ∧ (∀ a ∈ r.1, -9 ≤ a ∧ a ≤ 9) ∧ -99 ≤ r.2 ∧ r.2 ≤ 99

theorem check_spec (l : List line_Row) (n : Int) : ∃ c, line_Check l n = some c ∧ (c = 0 → 1 ≤ n ∧ n ≤ 3 ∧ l.length ≤ 8 ∧ ∀ r ∈ l, rowOk n r) := by
  unfold line_Check
  by_cases hc : n < 1 ∨ n > 3 ∨ (l.length : Int) > 8
  · have : (cond (decide (n < 1)) true (cond (decide (n > 3)) true (decide ((l.length : Int) > 8)))) = true := by
      rcases hc with h | h | h <;> simp [h]
    rw [this]
    exact ⟨2, rfl, fun h => by cases h⟩
  · have h1 : ¬ n < 1 := fun h => hc (.inl h)
    have h2 : ¬ n > 3 := fun h => hc (.inr (.inl h))
    have h3 : ¬ (l.length : Int) > 8 := fun h => hc (.inr (.inr h))
    have : (cond (decide (n < 1)) true (cond (decide (n > 3)) true (decide ((l.length : Int) > 8)))) = false := by simp [h1, h2, h3]
    rw [this]
    simp only [cond_false]
    rcases forL_inv (body := line_Check_b0 n) (fun k _ => ∀ j r, j < k → l[j]? = some r → rowOk n r) (fun _ => False) (fun r => r ≠ 0) l 0 () (fun j r h => by omega) (fun k x s hx hI => by
      rw [Nat.zero_add] at hI ⊢
      unfold line_Check_b0
      by_cases hlen : (x.1.length : Int) = n
      · rw [show ((x.1.length : Int) != n) = false by simp [hlen]]
        simp only [cond_false]
        rcases forL_all (body := line_Check_b2) (fun _ _ => True) (fun _ a => -9 ≤ a ∧ a ≤ 9) (Ctl.rt (1 : Int)) x.1 () trivial (fun k a s ha _ => by
          unfold line_Check_b2
          by_cases h : a < -9 ∨ a > 9
          · refine .inr ⟨by omega, ?_⟩
            rw [show (cond (decide (a < -9)) true (decide (a > 9))) = true by rcases h with h | h <;> simp [h]]
            rfl
          · refine .inl ⟨by omega, (), ?_, trivial⟩
            rw [show (cond (decide (a < -9)) true (decide (a > 9))) = false by simp; omega]
            rfl) with ⟨g1, s', e, _⟩ | ⟨_, e⟩
        · rw [e]
          simp only [Option.bind_some, Sum.elim_inl]
          by_cases hm : x.2 < -99 ∨ x.2 > 99
          · rw [show (cond (decide (x.2 < -99)) true (decide (x.2 > 99))) = true by rcases hm with h | h <;> simp [h]]
            exact .inr (.inr ⟨1, rfl, by decide⟩)
          · rw [show (cond (decide (x.2 < -99)) true (decide (x.2 > 99))) = false by simp; omega]
            refine .inl ⟨(), rfl, fun j r hj hr => ?_⟩
            rcases Nat.lt_or_ge j k with hjk | hjk
            · exact hI j r hjk hr
            · have : j = k := by omega
              subst this
              rw [hx] at hr; cases hr
              refine ⟨hlen, fun a ha => ?_, by omega, by omega⟩
              obtain ⟨i, hi, rfl⟩ := List.mem_iff_getElem.1 ha
              exact g1 i _ (List.getElem?_eq_getElem hi)
        · rw [e]
          exact .inr (.inr ⟨1, rfl, by decide⟩)
      · rw [show ((x.1.length : Int) != n) = true by simp [hlen]]
        exact .inr (.inr ⟨3, rfl, by decide⟩)) with ⟨s', e, h | h⟩ | ⟨r, e, h⟩
    · rw [e]
      refine ⟨0, rfl, fun _ => ⟨by omega, by omega, by omega, fun r hr => ?_⟩⟩
      obtain ⟨i, hi, rfl⟩ := List.mem_iff_getElem.1 hr
      exact h i _ (by omega) (List.getElem?_eq_getElem hi)
    · exact h.elim
    · rw [e]
      exact ⟨r, rfl, fun h' => absurd h' h⟩

/-- The left side of a row at a point. -/
def lhs (c x : List Int) (n : Nat) : Int := sm (fun j => c.getD j 0 * x.getD j 0) n

theorem getD_of {l : List Int} {k : Nat} {x : Int} (h : l[k]? = some x) : l.getD k 0 = x := by simp [List.getD, h]
theorem get_of {l : List Int} {k : Nat} (h : k < l.length) : l[k]? = some (l.getD k 0) := by simp [List.getD, h]
theorem getD_bnd {l : List Int} {A B : Int} (hA : A ≤ 0) (hB : 0 ≤ B) (h : ∀ a ∈ l, A ≤ a ∧ a ≤ B) (k : Nat) : A ≤ l.getD k 0 ∧ l.getD k 0 ≤ B := by
  by_cases hk : k < l.length
  · have := h _ (List.getElem_mem hk)
    simpa [List.getD, hk] using this
  · simp [List.getD, hk]
    omega

/-- What Solves says. -/
def solved (l : List line_Row) (n : Int) (p : line_Point) : Prop :=
  (p.1.length : Int) = n ∧ 1 ≤ p.2 ∧ p.2 ≤ 1125899906842624 ∧ (∀ a ∈ p.1, -36028797018963968 ≤ a ∧ a ≤ 36028797018963968) ∧
    ∀ r ∈ l, lhs r.1 p.1 n.toNat ≤ r.2 * p.2

theorem lhs_bnd {r : line_Row} {x : List Int} {n : Int} {k : Nat} (hr : rowOk n r) (hx : ∀ a ∈ x, -36028797018963968 ≤ a ∧ a ≤ 36028797018963968) (hk : (k : Int) ≤ 3) :
    -1000000000000000000 ≤ lhs r.1 x k ∧ lhs r.1 x k ≤ 1000000000000000000 ∧ -1000000000000000000 ≤ r.1.getD k 0 * x.getD k 0 ∧ r.1.getD k 0 * x.getD k 0 ≤ 1000000000000000000 := by
  have each : ∀ j, -(9 * 36028797018963968) ≤ r.1.getD j 0 * x.getD j 0 ∧ r.1.getD j 0 * x.getD j 0 ≤ 9 * 36028797018963968 := by
    intro j
    have h1 := getD_bnd (by decide) (by decide) hr.2.1 j
    have h2 := getD_bnd (by decide) (by decide) hx j
    exact mul_bnd h1.1 h1.2 h2.1 h2.2
  have h1 := sm_le (f := fun j => r.1.getD j 0 * x.getD j 0) (n := k) (fun j _ => (each j).2)
  have h2 := sm_ge (f := fun j => r.1.getD j 0 * x.getD j 0) (n := k) (fun j _ => (each j).1)
  have h3 := each k
  have e : (k : Int) * (9 * 36028797018963968) ≤ 3 * (9 * 36028797018963968) := Int.mul_le_mul_of_nonneg_right hk (by decide)
  unfold lhs
  refine ⟨by omega, by omega, by omega, by omega⟩

theorem most_bnd {r : line_Row} {n d : Int} (hr : rowOk n r) (h1 : 1 ≤ d) (h2 : d ≤ 1125899906842624) : -1000000000000000000 ≤ r.2 * d ∧ r.2 * d ≤ 1000000000000000000 := by
  have := mul_bnd (A := 99) (B := 1125899906842624) hr.2.2.1 hr.2.2.2 (show -1125899906842624 ≤ d by omega) h2
  omega

theorem pre_true (l : List line_Row) (n : Int) (p : line_Point) (c : Int) (hc : line_Check l n = some c) (h : c ≠ 0 ∨ (p.1.length : Int) ≠ n ∨ p.2 < 1 ∨ p.2 > 1125899906842624) :
    ((line_Check l n).bind fun r1 => cond (r1 != 0) (some true) (cond ((p.1.length : Int) != n) (some true) (cond (decide (p.2 < 1)) (some true) (some (decide (p.2 > 1125899906842624)))))) = some true := by
  rw [hc]
  simp only [Option.bind_some]
  by_cases h1 : c = 0
  · by_cases h2 : (p.1.length : Int) = n
    · by_cases h3 : p.2 < 1
      · simp [h1, h2, h3]
      · rcases h with h | h | h | h
        · exact absurd h1 h
        · exact absurd h2 h
        · exact absurd h h3
        · simp [h1, h2, h3]; omega
    · rw [show ((p.1.length : Int) != n) = true by simp [h2]]; simp [h1]
  · rw [show (c != 0) = true by simp [h1]]; rfl

theorem pre_false (l : List line_Row) (n : Int) (p : line_Point) (hc : line_Check l n = some 0) (h1 : (p.1.length : Int) = n) (h2 : ¬ p.2 < 1) (h3 : ¬ p.2 > 1125899906842624) :
    ((line_Check l n).bind fun r1 => cond (r1 != 0) (some true) (cond ((p.1.length : Int) != n) (some true) (cond (decide (p.2 < 1)) (some true) (some (decide (p.2 > 1125899906842624)))))) = some false := by
  rw [hc]
  simp [h1, h2]
  omega

theorem holds_spec (l : List line_Row) (n : Int) (p : line_Point) : ∃ b, line_Holds l n p = some b ∧ (b = true ↔ line_Check l n = some 0 ∧ solved l n p) := by
  obtain ⟨c, hc, hc0⟩ := check_spec l n
  unfold line_Holds
  by_cases h : c ≠ 0 ∨ (p.1.length : Int) ≠ n ∨ p.2 < 1 ∨ p.2 > 1125899906842624
  · rw [pre_true l n p c hc h]
    refine ⟨false, rfl, by simp, fun ⟨h1, h2⟩ => ?_⟩
    rw [hc] at h1; cases h1
    rcases h with h | h | h | h
    · exact absurd rfl h
    · exact absurd h2.1 h
    · have := h2.2.1; omega
    · have := h2.2.2.1; omega
  · have h0 : c = 0 := Decidable.byContradiction fun e => h (.inl e)
    have h1 : (p.1.length : Int) = n := Decidable.byContradiction fun e => h (.inr (.inl e))
    have h2 : ¬ p.2 < 1 := fun e => h (.inr (.inr (.inl e)))
    have h3 : ¬ p.2 > 1125899906842624 := fun e => h (.inr (.inr (.inr e)))
    subst h0
    rw [pre_false l n p hc h1 h2 h3]
    obtain ⟨c1, c2, c3, c4⟩ := hc0 rfl
    simp only [Option.bind_some, cond_false]
    rcases forL_all (body := line_Holds_b0) (fun _ _ => True) (fun _ a => -36028797018963968 ≤ a ∧ a ≤ 36028797018963968) false p.1 () trivial (fun k a s ha _ => by
      unfold line_Holds_b0
      by_cases h : a < -36028797018963968 ∨ a > 36028797018963968
      · refine .inr ⟨by omega, ?_⟩
        rw [show (cond (decide (a < -36028797018963968)) true (decide (a > 36028797018963968))) = true by rcases h with h | h <;> simp [h]]
        rfl
      · refine .inl ⟨by omega, (), ?_, trivial⟩
        rw [show (cond (decide (a < -36028797018963968)) true (decide (a > 36028797018963968))) = false by simp; omega]
        rfl) with ⟨g1, s', e, _⟩ | ⟨⟨k, a, ha, hna⟩, e⟩
    · rw [e]
      simp only [Option.bind_some, Sum.elim_inl]
      have hx : ∀ a ∈ p.1, -36028797018963968 ≤ a ∧ a ≤ 36028797018963968 := by
        intro a ha
        obtain ⟨i, hi, rfl⟩ := List.mem_iff_getElem.1 ha
        exact g1 i _ (List.getElem?_eq_getElem hi)
      rcases forL_all (body := line_Holds_b2 p) (fun _ _ => True) (fun _ r => lhs r.1 p.1 n.toNat ≤ r.2 * p.2) false l () trivial (fun k r s hr _ => by
        have hok := c4 r (List.mem_of_getElem? hr)
        unfold line_Holds_b2
        obtain ⟨s', e', hs'⟩ := forL_nx (body := line_Holds_b4 p) (fun k s => s = lhs r.1 p.1 k) r.1 0 rfl (fun k x s hx' hs => by
          subst hs
          have hk : k < r.1.length := (List.getElem?_eq_some_iff.1 hx').1
          have hl := hok.1
          have bd := lhs_bnd (k := k) hok hx (by omega)
          unfold line_Holds_b4
          rw [get_of (l := p.1) (k := k) (by omega)]
          have := getD_of hx'
          subst this
          simp only [Option.bind_some]
          rw [wrap64 (x := r.1.getD k 0 * p.1.getD k 0) (by omega) (by omega), wrap64 (by omega) (by omega)]
          exact ⟨_, rfl, rfl⟩)
        rw [e']
        subst hs'
        have hl := hok.1
        have hle : r.1.length = n.toNat := by omega
        rw [hle]
        have mb := most_bnd hok (show 1 ≤ p.2 by omega) (by omega)
        simp only [Option.bind_some, Sum.elim_inl]
        rw [wrap64 (by omega) (by omega)]
        by_cases hgt : lhs r.1 p.1 n.toNat > r.2 * p.2
        · exact .inr ⟨by omega, by simp [hgt]⟩
        · exact .inl ⟨by omega, (), by simp [hgt], trivial⟩) with ⟨g2, s', e, _⟩ | ⟨⟨k, r, hr, hna⟩, e⟩
      · rw [e]
        refine ⟨true, rfl, fun _ => ⟨hc, h1, by omega, by omega, hx, fun r hr => ?_⟩, fun _ => rfl⟩
        obtain ⟨i, hi, rfl⟩ := List.mem_iff_getElem.1 hr
        exact g2 i _ (List.getElem?_eq_getElem hi)
      · rw [e]
        refine ⟨false, rfl, by simp, fun ⟨_, hs⟩ => absurd (hs.2.2.2.2 r (List.mem_of_getElem? hr)) hna⟩
    · rw [e]
      exact ⟨false, rfl, by simp, fun ⟨_, hs⟩ => absurd (hs.2.2.2.1 a (List.mem_of_getElem? ha)) hna⟩

theorem solves_spec (l : List line_Row) (n : Int) (p : line_Point) : ∃ b, mootref3_Solves l n p = some b ∧ (b = true ↔ line_Check l n = some 0 ∧ solved l n p) := by
  obtain ⟨c, hc, hc0⟩ := check_spec l n
  unfold mootref3_Solves
  rw [fault_eq, show decide (p.2 ≤ 0) = decide (p.2 < 1) by congr 1; simp; omega]
  by_cases h : c ≠ 0 ∨ (p.1.length : Int) ≠ n ∨ p.2 < 1 ∨ p.2 > 1125899906842624
  · rw [pre_true l n p c hc h]
    refine ⟨false, rfl, by simp, fun ⟨h1, h2⟩ => ?_⟩
    rw [hc] at h1; cases h1
    rcases h with h | h | h | h
    · exact absurd rfl h
    · exact absurd h2.1 h
    · have := h2.2.1; omega
    · have := h2.2.2.1; omega
  · have h0 : c = 0 := Decidable.byContradiction fun e => h (.inl e)
    have h1 : (p.1.length : Int) = n := Decidable.byContradiction fun e => h (.inr (.inl e))
    have h2 : ¬ p.2 < 1 := fun e => h (.inr (.inr (.inl e)))
    have h3 : ¬ p.2 > 1125899906842624 := fun e => h (.inr (.inr (.inr e)))
    subst h0
    rw [pre_false l n p hc h1 h2 h3]
    obtain ⟨c1, c2, c3, c4⟩ := hc0 rfl
    simp only [Option.bind_some, cond_false]
    rcases forL_all (body := mootref3_Solves_b0) (fun _ _ => True) (fun _ a => -36028797018963968 ≤ a ∧ a ≤ 36028797018963968) false p.1 () trivial (fun k a s ha _ => by
      unfold mootref3_Solves_b0
      by_cases h : a > 36028797018963968 ∨ a < -36028797018963968
      · refine .inr ⟨by omega, ?_⟩
        rw [show (cond (decide (a > 36028797018963968)) true (decide (a < -36028797018963968))) = true by rcases h with h | h <;> simp [h]]
        rfl
      · refine .inl ⟨by omega, (), ?_, trivial⟩
        rw [show (cond (decide (a > 36028797018963968)) true (decide (a < -36028797018963968))) = false by simp; omega]
        rfl) with ⟨g1, s', e, _⟩ | ⟨⟨k, a, ha, hna⟩, e⟩
    · rw [e]
      simp only [Option.bind_some, Sum.elim_inl]
      have hx : ∀ a ∈ p.1, -36028797018963968 ≤ a ∧ a ≤ 36028797018963968 := by
        intro a ha
        obtain ⟨i, hi, rfl⟩ := List.mem_iff_getElem.1 ha
        exact g1 i _ (List.getElem?_eq_getElem hi)
      rcases forL_all (body := mootref3_Solves_b2 n p) (fun _ _ => True) (fun _ r => lhs r.1 p.1 n.toNat ≤ r.2 * p.2) false l () trivial (fun k r s hr _ => by
        have hok := c4 r (List.mem_of_getElem? hr)
        have hl := hok.1
        unfold mootref3_Solves_b2
        rw [chk_of (show n ≤ (LIM : Int) by unfold LIM; omega)]
        have mb := most_bnd hok (show 1 ≤ p.2 by omega) (by omega)
        simp only [Option.bind_some]
        rw [wrap64 (x := r.2 * p.2) (by omega) (by omega)]
        obtain ⟨s', e', hs'⟩ := forN_nx (body := mootref3_Solves_b4 p r) (fun k s => s = r.2 * p.2 - lhs r.1 p.1 k) n.toNat (r.2 * p.2) (by simp [lhs, sm]) (fun k s hk hs => by
          subst hs
          have bd := lhs_bnd (k := k) hok hx (by omega)
          unfold mootref3_Solves_b4
          rw [get_of (l := p.1) (k := k) (by omega), get_of (l := r.1) (k := k) (by omega)]
          simp only [Option.bind_some]
          rw [wrap64 (x := r.1.getD k 0 * p.1.getD k 0) (by omega) (by omega), wrap64 (by omega) (by omega)]
          exact ⟨_, rfl, by simp only [lhs, sm]; omega⟩)
        rw [e']
        subst hs'
        simp only [Option.bind_some, Sum.elim_inl]
        by_cases hgt : lhs r.1 p.1 n.toNat > r.2 * p.2
        · exact .inr ⟨by omega, by rw [show decide (r.2 * p.2 - lhs r.1 p.1 n.toNat < 0) = true by simp; omega]; rfl⟩
        · exact .inl ⟨by omega, (), by rw [show decide (r.2 * p.2 - lhs r.1 p.1 n.toNat < 0) = false by simp; omega]; rfl, trivial⟩) with ⟨g2, s', e, _⟩ | ⟨⟨k, r, hr, hna⟩, e⟩
      · rw [e]
        refine ⟨true, rfl, fun _ => ⟨hc, h1, by omega, by omega, hx, fun r hr => ?_⟩, fun _ => rfl⟩
        obtain ⟨i, hi, rfl⟩ := List.mem_iff_getElem.1 hr
        exact g2 i _ (List.getElem?_eq_getElem hi)
      · rw [e]
        refine ⟨false, rfl, by simp, fun ⟨_, hs⟩ => absurd (hs.2.2.2.2 r (List.mem_of_getElem? hr)) hna⟩
    · rw [e]
      exact ⟨false, rfl, by simp, fun ⟨_, hs⟩ => absurd (hs.2.2.2.1 a (List.mem_of_getElem? ha)) hna⟩

/-- A column of the rows, weighed. -/
def col (l : List line_Row) (b : List Int) (v : Nat) (m : Nat) : Int := sm (fun k => (l.getD k default).1.getD v 0 * b.getD k 0) m
def mst (l : List line_Row) (b : List Int) (m : Nat) : Int := sm (fun k => (l.getD k default).2 * b.getD k 0) m

/-- What Disproves says. -/
def disproved (l : List line_Row) (n : Int) (b : List Int) : Prop :=
  b.length = l.length ∧ (∀ y ∈ b, 0 ≤ y ∧ y ≤ 1125899906842624) ∧ (∀ v, v < n.toNat → col l b v l.length = 0) ∧ mst l b l.length < 0

theorem lgetD_of {α : Type} {l : List α} {k : Nat} {x d : α} (h : l[k]? = some x) : l.getD k d = x := by simp [List.getD, h]
theorem lget_of {α : Type} {l : List α} {k : Nat} (d : α) (h : k < l.length) : l[k]? = some (l.getD k d) := by simp [List.getD, h]

theorem col_bnd {l : List line_Row} {n : Int} {b : List Int} (hl : ∀ r ∈ l, rowOk n r) (hb : ∀ y ∈ b, 0 ≤ y ∧ y ≤ 1125899906842624) (h8 : l.length ≤ 8) (v : Nat) {k : Nat} (hk : k < l.length) :
    (-1000000000000000000 ≤ col l b v k ∧ col l b v k ≤ 1000000000000000000) ∧ -1000000000000000000 ≤ (l.getD k default).1.getD v 0 * b.getD k 0 ∧ (l.getD k default).1.getD v 0 * b.getD k 0 ≤ 1000000000000000000 := by
  have each : ∀ j, j < l.length → -(9 * 1125899906842624) ≤ (l.getD j default).1.getD v 0 * b.getD j 0 ∧ (l.getD j default).1.getD v 0 * b.getD j 0 ≤ 9 * 1125899906842624 := by
    intro j hj
    have hr := hl (l.getD j default) (List.mem_of_getElem? (lget_of default hj))
    have h1 := getD_bnd (by decide) (by decide) hr.2.1 v
    have h2 := getD_bnd (by decide) (by decide) hb j
    exact mul_bnd h1.1 h1.2 (by omega) h2.2
  have h1 := sm_le (f := fun k => (l.getD k default).1.getD v 0 * b.getD k 0) (n := k) (fun j hj => (each j (by omega)).2)
  have h2 := sm_ge (f := fun k => (l.getD k default).1.getD v 0 * b.getD k 0) (n := k) (fun j hj => (each j (by omega)).1)
  have h3 := each k hk
  have e : (k : Int) * (9 * 1125899906842624) ≤ 8 * (9 * 1125899906842624) := Int.mul_le_mul_of_nonneg_right (by omega) (by decide)
  unfold col
  exact ⟨⟨by omega, by omega⟩, by omega, by omega⟩

theorem mst_bnd {l : List line_Row} {n : Int} {b : List Int} (hl : ∀ r ∈ l, rowOk n r) (hb : ∀ y ∈ b, 0 ≤ y ∧ y ≤ 1125899906842624) (h8 : l.length ≤ 8) {k : Nat} (hk : k < l.length) :
    (-2000000000000000000 ≤ mst l b k ∧ mst l b k ≤ 2000000000000000000) ∧ -1000000000000000000 ≤ (l.getD k default).2 * b.getD k 0 ∧ (l.getD k default).2 * b.getD k 0 ≤ 1000000000000000000 := by
  have each : ∀ j, j < l.length → -(99 * 1125899906842624) ≤ (l.getD j default).2 * b.getD j 0 ∧ (l.getD j default).2 * b.getD j 0 ≤ 99 * 1125899906842624 := by
    intro j hj
    have hr := hl (l.getD j default) (List.mem_of_getElem? (lget_of default hj))
    have h2 := getD_bnd (by decide) (by decide) hb j
    exact mul_bnd hr.2.2.1 hr.2.2.2 (by omega) h2.2
  have h1 := sm_le (f := fun k => (l.getD k default).2 * b.getD k 0) (n := k) (fun j hj => (each j (by omega)).2)
  have h2 := sm_ge (f := fun k => (l.getD k default).2 * b.getD k 0) (n := k) (fun j hj => (each j (by omega)).1)
  have h3 := each k hk
  have e : (k : Int) * (99 * 1125899906842624) ≤ 8 * (99 * 1125899906842624) := Int.mul_le_mul_of_nonneg_right (by omega) (by decide)
  unfold mst
  exact ⟨⟨by omega, by omega⟩, by omega, by omega⟩

theorem len_true (l : List line_Row) (n : Int) (b : List Int) (c : Int) (hc : line_Check l n = some c) (h : c ≠ 0 ∨ b.length ≠ l.length) :
    ((line_Check l n).bind fun r1 => cond (r1 != 0) (some true) (some ((b.length : Int) != (l.length : Int)))) = some true := by
  rw [hc]
  simp only [Option.bind_some]
  by_cases h1 : c = 0
  · rcases h with h | h
    · exact absurd h1 h
    · rw [show ((b.length : Int) != (l.length : Int)) = true by simp; omega]; simp [h1]
  · rw [show (c != 0) = true by simp [h1]]; rfl

theorem len_false (l : List line_Row) (n : Int) (b : List Int) (hc : line_Check l n = some 0) (h : b.length = l.length) :
    ((line_Check l n).bind fun r1 => cond (r1 != 0) (some true) (some ((b.length : Int) != (l.length : Int)))) = some false := by
  rw [hc, h]
  simp

theorem disproves_spec (l : List line_Row) (n : Int) (b : List Int) : ∃ r, mootref3_Disproves l n b = some r ∧ (r = true ↔ line_Check l n = some 0 ∧ disproved l n b) := by
  obtain ⟨c, hc, hc0⟩ := check_spec l n
  unfold mootref3_Disproves
  rw [fault_eq]
  by_cases h : c ≠ 0 ∨ b.length ≠ l.length
  · rw [len_true l n b c hc h]
    refine ⟨false, rfl, by simp, fun ⟨h1, h2⟩ => ?_⟩
    rw [hc] at h1; cases h1
    rcases h with h | h
    · exact absurd rfl h
    · exact absurd h2.1 h
  · have h0 : c = 0 := Decidable.byContradiction fun e => h (.inl e)
    have h1 : b.length = l.length := Decidable.byContradiction fun e => h (.inr e)
    subst h0
    rw [len_false l n b hc h1]
    obtain ⟨c1, c2, c3, c4⟩ := hc0 rfl
    simp only [Option.bind_some, cond_false]
    rcases forL_all (body := mootref3_Disproves_b0) (fun _ _ => True) (fun _ a => 0 ≤ a ∧ a ≤ 1125899906842624) false b () trivial (fun k a s ha _ => by
      unfold mootref3_Disproves_b0
      by_cases h : a < 0 ∨ a > 1125899906842624
      · refine .inr ⟨by omega, ?_⟩
        rw [show (cond (decide (a < 0)) true (decide (a > 1125899906842624))) = true by rcases h with h | h <;> simp [h]]
        rfl
      · refine .inl ⟨by omega, (), ?_, trivial⟩
        rw [show (cond (decide (a < 0)) true (decide (a > 1125899906842624))) = false by simp; omega]
        rfl) with ⟨g1, s', e, _⟩ | ⟨⟨k, a, ha, hna⟩, e⟩
    · rw [e]
      have hx : ∀ a ∈ b, 0 ≤ a ∧ a ≤ 1125899906842624 := by
        intro a ha
        obtain ⟨i, hi, rfl⟩ := List.mem_iff_getElem.1 ha
        exact g1 i _ (List.getElem?_eq_getElem hi)
      simp only [Option.bind_some, Sum.elim_inl]
      rw [chk_of (show n ≤ (LIM : Int) by unfold LIM; omega)]
      simp only [Option.bind_some]
      rcases forN_all (body := mootref3_Disproves_b2 l b) (fun _ _ => True) (fun v => col l b v l.length = 0) false n.toNat () trivial (fun v s hv _ => by
        unfold mootref3_Disproves_b2
        obtain ⟨s', e', hs'⟩ := forL_nx (body := mootref3_Disproves_b4 b v) (fun k s => s = col l b v k) l 0 rfl (fun k r s hr hs => by
          subst hs
          have hk : k < l.length := (List.getElem?_eq_some_iff.1 hr).1
          have hok := c4 r (List.mem_of_getElem? hr)
          have hlen := hok.1
          have bd := col_bnd c4 hx c3 v hk
          have hrd := lgetD_of (d := default) hr
          unfold mootref3_Disproves_b4
          rw [get_of (l := r.1) (k := v) (by omega), get_of (l := b) (k := k) (by omega)]
          rw [hrd] at bd
          simp only [Option.bind_some]
          rw [wrap64 (x := r.1.getD v 0 * b.getD k 0) (by omega) (by omega), wrap64 (by omega) (by omega)]
          exact ⟨_, rfl, by simp only [col, sm]; rw [hrd]⟩)
        rw [e']
        subst hs'
        simp only [Option.bind_some, Sum.elim_inl]
        by_cases hz : col l b v l.length = 0
        · exact .inl ⟨hz, (), by rw [show (col l b v l.length != 0) = false by simp [hz]]; rfl, trivial⟩
        · exact .inr ⟨hz, by rw [show (col l b v l.length != 0) = true by simp [hz]]; rfl⟩) with ⟨g2, s', e, _⟩ | ⟨⟨v, hv, hna⟩, e⟩
      · rw [e]
        simp only [Option.bind_some, Sum.elim_inl]
        obtain ⟨s', e', hs'⟩ := forL_nx (body := mootref3_Disproves_b6 b) (fun k s => s = mst l b k) l 0 rfl (fun k r s hr hs => by
          subst hs
          have hk : k < l.length := (List.getElem?_eq_some_iff.1 hr).1
          have bd := mst_bnd c4 hx c3 hk
          have hrd := lgetD_of (d := default) hr
          unfold mootref3_Disproves_b6
          rw [get_of (l := b) (k := k) (by omega)]
          rw [hrd] at bd
          simp only [Option.bind_some]
          rw [wrap64 (x := r.2 * b.getD k 0) (by omega) (by omega), wrap64 (by omega) (by omega)]
          exact ⟨_, rfl, by simp only [mst, sm]; rw [hrd]⟩)
        rw [e']
        subst hs'
        simp only [Option.bind_some, Sum.elim_inl]
        refine ⟨_, rfl, fun h => ⟨hc, h1, hx, g2, by simpa using h⟩, fun ⟨_, _, _, _, h⟩ => by simpa using h⟩
      · rw [e]
        exact ⟨false, rfl, by simp, fun ⟨_, hs⟩ => absurd (hs.2.2.1 v hv) hna⟩
    · rw [e]
      exact ⟨false, rfl, by simp, fun ⟨_, hs⟩ => absurd (hs.2.1 a (List.mem_of_getElem? ha)) hna⟩
end Go.Proofs.Ytfhddbnacbcppaa.Old

/- Plain laws: gcd, lowest terms, products, the order of fractions, the greatest and the least of a list. -/
set_option linter.unusedSimpArgs false
namespace Go.Proofs.Ytfhddbnacbcppaa.Old
open Go.PG

theorem common_nat : ∀ (fu x y : Nat), y < fu → whL line_common_b0 fu ((x : Int), (y : Int)) = some (.inl ((Nat.gcd x y : Nat), (0 : Int)) : (Int × Int) ⊕ Int)
  | 0, x, y, h => by omega
  | fu + 1, x, y, h => by
    by_cases hy : y = 0
    · subst hy
      rw [whL_bk (s' := ((x : Int), (0 : Int))) (by unfold line_common_b0; simp)]
      simp
    · have e : (x : Int).tmod (y : Int) = ((x % y : Nat) : Int) := by simp [Int.tmod]
      rw [whL_nx (s' := ((y : Int), ((x % y : Nat) : Int))) (by
        unfold line_common_b0
        rw [show (((x : Int), (y : Int)).2 != 0) = true by simp [hy], chk_of (show ¬ ((x : Int), (y : Int)).2 = 0 by simp [hy])]
        simp only [cond_true, Option.bind_some, e])]
      rw [common_nat fu y (x % y) (by have := Nat.mod_lt x (show 0 < y by omega); omega)]
      rw [show Nat.gcd y (x % y) = Nat.gcd x y by rw [Nat.gcd_comm x y, Nat.gcd_rec y x, Nat.gcd_comm]]

theorem common_spec {fu : Nat} {a b : Int} (ha : 0 ≤ a) (hb : 0 ≤ b) (hf : b < fu) : line_common fu a b = some ((Int.gcd a b : Nat) : Int) := by
  unfold line_common
  have h1 := common_nat fu a.toNat b.toNat (by omega)
  rw [show ((a.toNat : Nat) : Int) = a by omega, show ((b.toNat : Nat) : Int) = b by omega] at h1
  rw [h1]
  simp only [Option.bind_some, Sum.elim_inl]
  congr 1
  simp only [Int.gcd]
  congr 2 <;> omega

/-- A fraction in lowest terms. -/
def frOk (f : line_frac) : Prop := 0 < f.2 ∧ Int.gcd f.1 f.2 = 1

theorem tdiv_of_dvd {a b : Int} (h : b ∣ a) : a.tdiv b = a / b := by
  rw [Int.tdiv_eq_ediv_of_dvd h]

theorem abs_le_of {a b c : Int} (h : a = b * c) (hc : 0 < c) : -(if a < 0 then -a else a) ≤ b ∧ b ≤ (if a < 0 then -a else a) := by
  have h1 : ∀ b : Int, 0 ≤ b → b ≤ b * c := fun b hb => by
    have := Int.mul_le_mul_of_nonneg_left (show 1 ≤ c by omega) hb
    omega
  rcases Int.lt_or_le b 0 with hb | hb
  · have := h1 (-b) (by omega)
    rw [Int.neg_mul] at this
    have hneg : a < 0 := by
      have := Int.mul_neg_of_neg_of_pos hb hc
      omega
    rw [if_pos hneg]; omega
  · have := h1 b hb
    have : ¬ a < 0 := by omega
    rw [if_neg this]; omega

theorem lowest_pos {fu : Nat} {a b : Int} (hb : 0 < b) (h1 : -4611686018427387904 ≤ a) (h2 : a ≤ 4611686018427387904) (h3 : b ≤ 4611686018427387904) (hf : 4611686018427387904 < fu) :
    ∃ f, line_lowest fu a b = some f ∧ frOk f ∧ f.1 * b = a * f.2 ∧ -4611686018427387904 ≤ f.1 ∧ f.1 ≤ 4611686018427387904 ∧ f.2 ≤ b := by
  unfold line_lowest
  rw [show decide (b < 0) = false by simp; omega]
  simp only [cond_false, Option.bind_some]
  rw [wrap64 (x := 0 - a) (by omega) (by omega)]
  have habs : (if 0 - a > a then 0 - a else a) = ((a.natAbs : Nat) : Int) := by split <;> omega
  rw [habs, common_spec (by omega) (by omega) (by omega)]
  have hg : Int.gcd (a.natAbs : Int) b = Int.gcd a b := by simp [Int.gcd]
  rw [hg]
  have hgp : 0 < Int.gcd a b := Int.gcd_pos_of_ne_zero_right a (by omega)
  have hda : ((Int.gcd a b : Nat) : Int) ∣ a := Int.gcd_dvd_left a b
  have hdb : ((Int.gcd a b : Nat) : Int) ∣ b := Int.gcd_dvd_right a b
  simp only [Option.bind_some]
  rw [chk_of (show ¬ ((Int.gcd a b : Nat) : Int) = 0 by omega)]
  simp only [Option.bind_some]
  obtain ⟨a', ha'⟩ := hda
  obtain ⟨b', hb'⟩ := hdb
  have e1 : a.tdiv ((Int.gcd a b : Nat) : Int) = a' := by
    rw [tdiv_of_dvd ⟨a', ha'⟩]
    conv => lhs; lhs; rw [ha']
    exact Int.mul_ediv_cancel_left _ (by omega)
  have e2 : b.tdiv ((Int.gcd a b : Nat) : Int) = b' := by
    rw [tdiv_of_dvd ⟨b', hb'⟩]
    conv => lhs; lhs; rw [hb']
    exact Int.mul_ediv_cancel_left _ (by omega)
  have bb := abs_le_of (a := b) (b := b') (c := ((Int.gcd a b : Nat) : Int)) (by rw [Int.mul_comm]; exact hb') (by omega)
  have ba := abs_le_of (a := a) (b := a') (c := ((Int.gcd a b : Nat) : Int)) (by rw [Int.mul_comm]; exact ha') (by omega)
  rw [if_neg (by omega)] at bb
  have hb'pos : 0 < b' := by
    rcases Int.lt_or_le 0 b' with h | h
    · exact h
    · have := Int.mul_nonpos_of_nonneg_of_nonpos (show (0 : Int) ≤ ((Int.gcd a b : Nat) : Int) by omega) h
      omega
  have hab : -4611686018427387904 ≤ a' ∧ a' ≤ 4611686018427387904 := by
    split at ba <;> omega
  rw [e1, e2, wrap64 (x := a') (by omega) (by omega), wrap64 (x := b') (by omega) (by omega)]
  refine ⟨_, rfl, ⟨hb'pos, ?_⟩, ?_, hab.1, hab.2, ?_⟩
  · show Int.gcd a' b' = 1
    have h := Int.gcd_ediv_gcd_ediv_gcd (i := a) (j := b) hgp
    have q1 : a / ((Int.gcd a b : Nat) : Int) = a' := by rw [← tdiv_of_dvd ⟨a', ha'⟩, e1]
    have q2 : b / ((Int.gcd a b : Nat) : Int) = b' := by rw [← tdiv_of_dvd ⟨b', hb'⟩, e2]
    rw [q1, q2] at h
    exact h
  · show a' * b = a * b'
    generalize ((Int.gcd a b : Nat) : Int) = g at ha' hb'
    rw [ha', hb']
    simp only [Int.mul_comm, Int.mul_left_comm]
  · show b' ≤ b
    omega

theorem lowest_spec {fu : Nat} {a b : Int} (hb : b ≠ 0) (h1 : -4611686018427387904 ≤ a) (h2 : a ≤ 4611686018427387904) (h3 : b ≤ 4611686018427387904) (h4 : -4611686018427387904 ≤ b) (hf : 4611686018427387904 < fu) :
    ∃ f, line_lowest fu a b = some f ∧ frOk f ∧ f.1 * b = a * f.2 ∧ -4611686018427387904 ≤ f.1 ∧ f.1 ≤ 4611686018427387904 ∧ f.2 ≤ 4611686018427387904 := by
  by_cases hp : 0 < b
  · obtain ⟨f, e, g1, g2, g3, g4, g5⟩ := lowest_pos hp h1 h2 h3 hf
    exact ⟨f, e, g1, g2, g3, g4, by omega⟩
  · have hn : b < 0 := by omega
    have : line_lowest fu a b = line_lowest fu (-a) (-b) := by
      unfold line_lowest
      rw [show decide (b < 0) = true by simp [hn], show decide (-b < 0) = false by simp; omega]
      simp only [cond_true, cond_false, Option.bind_some]
      rw [wrap64 (x := 0 - a) (by omega) (by omega), wrap64 (x := 0 - b) (by omega) (by omega), Int.zero_sub a, Int.zero_sub b]
    obtain ⟨f, e, g1, g2, g3, g4, g5⟩ := lowest_pos (fu := fu) (a := -a) (b := -b) (by omega) (by omega) (by omega) (by omega) hf
    refine ⟨f, by rw [this]; exact e, g1, ?_, g3, g4, by omega⟩
    rw [Int.mul_neg, Int.neg_mul] at g2
    omega

theorem mask32 {x : Int} (h0 : 0 ≤ x) (h1 : x < 4294967296) : IntKind.u64.wrap (((BitVec.ofInt IntKind.u64.bits x &&& BitVec.ofInt IntKind.u64.bits 4294967295).toNat : Int)) = x := by
  have e1 : (BitVec.ofInt IntKind.u64.bits x).toNat = x.toNat := by
    simp only [IntKind.bits, BitVec.toNat_ofInt]
    omega
  have e2 : (BitVec.ofInt IntKind.u64.bits 4294967295).toNat = 2 ^ 32 - 1 := by decide
  rw [BitVec.toNat_and, e1, e2, Nat.and_two_pow_sub_one_eq_mod]
  have : x.toNat % 2 ^ 32 = x.toNat := Nat.mod_eq_of_lt (by omega)
  rw [this]
  simp [IntKind.wrap, IntKind.signed, IntKind.bits]
  omega

theorem wrapu {x : Int} (h : 0 ≤ x) (h' : x < 18446744073709551616) : IntKind.u64.wrap x = x := by
  simp [IntKind.wrap, IntKind.signed, IntKind.bits]
  omega

theorem shr32 {x : Int} (h0 : 0 ≤ x) (h1 : x < 4294967296) : x.fdiv (2 ^ (min (32 : Int).toNat IntKind.u64.bits)) = 0 := by
  have : (2 : Int) ^ (min (32 : Int).toNat IntKind.u64.bits) = 4294967296 := by decide
  rw [this, Int.fdiv_eq_ediv_of_nonneg _ (by decide)]
  omega

theorem mul_nonneg_lt {a b A B : Int} (ha : 0 ≤ a) (hA : a < A) (hb : 0 ≤ b) (hB : b < B) : 0 ≤ a * b ∧ a * b < A * B := by
  refine ⟨Int.mul_nonneg ha hb, ?_⟩
  have h1 : a * b ≤ a * B := Int.mul_le_mul_of_nonneg_left (by omega) ha
  have h2 : a * B < A * B := Int.mul_lt_mul_of_pos_right hA (by omega)
  omega

theorem mul64_small {a b : Int} (ha : 0 ≤ a) (ha' : a < 4294967296) (hb : 0 ≤ b) (hb' : b < 4294967296) : math_bits_Mul64 a b = some (0, a * b) := by
  have hp := mul_nonneg_lt ha ha' hb hb'
  have hshr : ∀ x : Int, x.fdiv (2 ^ (min (32 : Int).toNat IntKind.u64.bits)) = x / 4294967296 := by
    intro x
    have : (2 : Int) ^ (min (32 : Int).toNat IntKind.u64.bits) = 4294967296 := by decide
    rw [this, Int.fdiv_eq_ediv_of_nonneg _ (by decide)]
  unfold math_bits_Mul64
  simp only [mask32 ha ha', mask32 hb hb', shr32 ha ha', shr32 hb hb', Int.zero_mul, Int.mul_zero]
  simp only [show IntKind.u64.wrap 0 = 0 from by decide, Int.zero_add, Int.add_zero, hshr]
  rw [wrapu (x := a * b) hp.1 (by omega)]
  have e1 : 0 ≤ a * b / 4294967296 ∧ a * b / 4294967296 < 4294967296 := by omega
  rw [wrapu (x := a * b / 4294967296) (by omega) (by omega), mask32 e1.1 e1.2]
  have e2 : a * b / 4294967296 / 4294967296 = 0 := by omega
  rw [wrapu (x := a * b / 4294967296) (by omega) (by omega), e2]
  rfl

theorem cross_small {a b : Int} (ha : -4294967296 < a) (ha' : a < 4294967296) (hb : 0 ≤ b) (hb' : b < 4294967296) : line_cross a b = some ⟨decide (a * b < 0), 0, if a * b < 0 then -(a * b) else a * b⟩ := by
  unfold line_cross
  rw [wrap64 (x := 0 - a) (by omega) (by omega), wrap64 (x := 0 - b) (by omega) (by omega)]
  have e1 : (if 0 - a > a then 0 - a else a) = if a < 0 then -a else a := by split <;> split <;> omega
  have e2 : (if 0 - b > b then 0 - b else b) = b := by split <;> omega
  rw [e1, e2]
  have h1 : 0 ≤ (if a < 0 then -a else a) ∧ (if a < 0 then -a else a) < 4294967296 := by split <;> omega
  rw [wrapu h1.1 (by omega), wrapu hb (by omega), mul64_small h1.1 h1.2 hb hb']
  simp only [Option.bind_some]
  have e3 : decide (b < 0) = false := by simp; omega
  have e4 : (if a < 0 then -a else a) * b = if a * b < 0 then -(a * b) else a * b := by
    by_cases h : a < 0
    · have := Int.mul_nonneg (show 0 ≤ -a by omega) hb
      rw [Int.neg_mul] at this
      rw [if_pos h, Int.neg_mul]
      by_cases h2 : a * b < 0
      · rw [if_pos h2]
      · rw [if_neg h2]; omega
    · have := Int.mul_nonneg (show 0 ≤ a by omega) hb
      rw [if_neg h, if_neg (by omega)]
  have hp := mul_nonneg_lt h1.1 h1.2 hb hb'
  rw [e4] at hp ⊢
  have e5 : ∀ y : Int, 0 ≤ y → y < 18446744073709551616 → (IntKind.u64.wrap (((BitVec.ofInt IntKind.u64.bits 0 ||| BitVec.ofInt IntKind.u64.bits y).toNat : Int)) != 0) = decide (y ≠ 0) := by
    intro y h1 h2
    have : (BitVec.ofInt IntKind.u64.bits 0 ||| BitVec.ofInt IntKind.u64.bits y).toNat = y.toNat := by
      show (BitVec.ofInt 64 0 ||| BitVec.ofInt 64 y).toNat = y.toNat
      rw [show BitVec.ofInt 64 0 ||| BitVec.ofInt 64 y = BitVec.ofInt 64 y by simp]
      simp only [BitVec.toNat_ofInt]
      omega
    rw [this, show ((y.toNat : Nat) : Int) = y by omega, wrapu h1 h2]
    by_cases h : y = 0 <;> simp [h]
  rw [e5 _ hp.1 (by omega), e3]
  have f1 : a < 0 → ¬ 0 < a * b := by
    intro h h3
    have := Int.mul_nonneg (show 0 ≤ -a by omega) hb
    rw [Int.neg_mul] at this; omega
  have f2 : ¬ a < 0 → ¬ a * b < 0 := by
    intro h
    have := Int.mul_nonneg (show 0 ≤ a by omega) hb
    omega
  congr 2
  generalize a * b = c at f1 f2
  by_cases h : a < 0
  · have := f1 h
    by_cases h2 : c < 0
    · have : ¬ c = 0 := by omega
      simp [h, h2, this]
    · have : c = 0 := by omega
      simp [h, h2, this]
  · have h2 := f2 h
    simp [h, h2]

/-- Fractions that can be compared without loss. -/
def frB (f : line_frac) : Prop := -4294967296 < f.1 ∧ f.1 < 4294967296 ∧ 0 < f.2 ∧ f.2 < 4294967296

theorem less_small {a b : line_frac} (ha : frB a) (hb : frB b) : line_less a b = some (decide (a.1 * b.2 < b.1 * a.2)) := by
  obtain ⟨a1, a2, a3, a4⟩ := ha
  obtain ⟨b1, b2, b3, b4⟩ := hb
  unfold line_less
  rw [cross_small a1 a2 (by omega) b4, cross_small b1 b2 (by omega) a4]
  simp only [Option.bind_some]
  generalize a.1 * b.2 = x
  generalize b.1 * a.2 = y
  by_cases hx : x < 0 <;> by_cases hy : y < 0
  · by_cases h : x < y
    · have : -x > -y := by omega
      simp [hx, hy, h]
    · have : ¬ -x > -y := by omega
      simp [hx, hy, h]
  · have : x < y := by omega
    simp [hx, hy, this]
  · have : ¬ x < y := by omega
    simp [hx, hy, this]
  · by_cases h : x < y <;> simp [hx, hy, h]

theorem order_small {a b : line_frac} (ha : frB a) (hb : frB b) : line_order a b = some (if a.1 * b.2 < b.1 * a.2 then -1 else if b.1 * a.2 < a.1 * b.2 then 1 else 0) := by
  unfold line_order
  rw [less_small ha hb]
  simp only [Option.bind_some]
  by_cases h : a.1 * b.2 < b.1 * a.2
  · simp [h]
  · rw [less_small hb ha]
    simp only [Option.bind_some]
    by_cases h2 : b.1 * a.2 < a.1 * b.2 <;> simp [h, h2]

/-- a is at most b. -/
def frLe (a b : line_frac) : Prop := a.1 * b.2 ≤ b.1 * a.2

theorem frLe_trans {a b c : line_frac} (ha : 0 < a.2) (hb : 0 < b.2) (hc : 0 < c.2) (h1 : frLe a b) (h2 : frLe b c) : frLe a c := by
  unfold frLe at *
  have e1 := Int.mul_le_mul_of_nonneg_right h1 (show 0 ≤ c.2 by omega)
  have e2 := Int.mul_le_mul_of_nonneg_right h2 (show 0 ≤ a.2 by omega)
  have : b.2 * (a.1 * c.2) ≤ b.2 * (c.1 * a.2) := by
    have f1 : a.1 * b.2 * c.2 = b.2 * (a.1 * c.2) := by simp only [Int.mul_comm, Int.mul_left_comm]
    have f2 : c.1 * b.2 * a.2 = b.2 * (c.1 * a.2) := by simp only [Int.mul_comm, Int.mul_left_comm]
    have f3 : b.1 * a.2 * c.2 = b.1 * c.2 * a.2 := by simp only [Int.mul_comm, Int.mul_left_comm]
    omega
  exact Int.le_of_mul_le_mul_left this hb

theorem frLe_refl (a : line_frac) : frLe a a := Int.le_refl _

theorem max_spec {fu : Nat} {l : List line_frac} (hl : ∀ f ∈ l, frB f) (h0 : 0 < l.length) (h63 : l.length < 4611686018427387904) (hf : l.length < fu) :
    ∃ m, slices_MaxFunc_line_frac fu l (fun z0 z1 => line_order z0 z1) = some m ∧ m ∈ l ∧ ∀ f ∈ l, frLe f m := by
  unfold slices_MaxFunc_line_frac
  rw [show decide ((l.length : Int) < 1) = false by simp; omega]
  simp only [cond_false]
  have hget : ∀ k, k < l.length → ∃ f, l[k]? = some f ∧ f ∈ l := fun k hk => ⟨l[k], List.getElem?_eq_getElem hk, List.getElem_mem hk⟩
  obtain ⟨x, hx, hxm⟩ := hget 0 h0
  unfold idx
  rw [if_pos (by decide), show (0 : Int).toNat = 0 from rfl, hx]
  simp only [Option.bind_some]
  obtain ⟨s', e, i1, i2⟩ := whL_inv (body := slices_MaxFunc_line_frac_b0 l (fun z0 z1 => line_order z0 z1))
    (fun s => 1 ≤ s.1 ∧ s.1 ≤ l.length ∧ Prod.mk s.2.1 s.2.2 ∈ l ∧ ∀ (k : Nat) f, (k : Int) < s.1 → l[k]? = some f → frLe f (Prod.mk s.2.1 s.2.2)) (fun s => l.length - s.1.toNat)
    (fun s => Prod.mk s.2.1 s.2.2 ∈ l ∧ ∀ f ∈ l, frLe f (Prod.mk s.2.1 s.2.2)) (fun s ⟨j1, j2, j3, j4⟩ => by
      unfold slices_MaxFunc_line_frac_b0
      by_cases hk : s.1 < l.length
      · rw [show decide (s.1 < (l.length : Int)) = true by simp [hk]]
        simp only [cond_true]
        obtain ⟨f, hf1, hf2⟩ := hget s.1.toNat (by omega)
        unfold idx
        rw [if_pos (by omega), hf1]
        simp only [Option.bind_some]
        rw [order_small (hl f hf2) (hl _ j3)]
        simp only [Option.bind_some]
        rw [wrap64 (x := s.1 + 1) (by omega) (by omega)]
        have hd : ∀ f ∈ l, 0 < f.2 := fun f hf => (hl f hf).2.2.1
        refine .inl ?_
        by_cases hgt : s.2.1 * f.2 < f.1 * s.2.2
        · refine ⟨(s.1 + 1, f.1, f.2), ?_, ⟨by show 1 ≤ s.1 + 1; omega, by show s.1 + 1 ≤ l.length; omega, hf2, fun k g hk2 hg => ?_⟩, by show l.length - (s.1 + 1).toNat < l.length - s.1.toNat; omega⟩
          · have h2 : ¬ f.1 * s.2.2 < s.2.1 * f.2 := by omega
            simp [hgt, h2]
          · by_cases e : (k : Int) < s.1
            · exact frLe_trans (hd g (List.mem_of_getElem? hg)) (hd _ j3) (hd f hf2) (j4 k g e hg) (by show s.2.1 * f.2 ≤ f.1 * s.2.2; omega)
            · have : k = s.1.toNat := by have : (k : Int) < s.1 + 1 := hk2; omega
              subst this
              rw [hf1] at hg; cases hg
              exact frLe_refl _
        · refine ⟨(s.1 + 1, s.2.1, s.2.2), ?_, ⟨by show 1 ≤ s.1 + 1; omega, by show s.1 + 1 ≤ l.length; omega, j3, fun k g hk2 hg => ?_⟩, by show l.length - (s.1 + 1).toNat < l.length - s.1.toNat; omega⟩
          · by_cases h2 : f.1 * s.2.2 < s.2.1 * f.2 <;> simp [hgt, h2]
          · by_cases e : (k : Int) < s.1
            · exact j4 k g e hg
            · have : k = s.1.toNat := by have : (k : Int) < s.1 + 1 := hk2; omega
              subst this
              rw [hf1] at hg; cases hg
              show f.1 * s.2.2 ≤ s.2.1 * f.2
              omega
      · rw [show decide (s.1 < (l.length : Int)) = false by simp; omega]
        refine .inr ⟨s, rfl, j3, fun f hf => ?_⟩
        obtain ⟨i, hi, rfl⟩ := List.mem_iff_getElem.1 hf
        exact j4 i _ (by omega) (List.getElem?_eq_getElem hi)) fu (1, x.1, x.2) ⟨by show (1 : Int) ≤ 1; omega, by show (1 : Int) ≤ l.length; omega, hxm, fun k f hk hf => by
          have : k = 0 := by have : (k : Int) < 1 := hk; omega
          subst this
          rw [hx] at hf; cases hf; exact frLe_refl _⟩ (by show l.length - (1 : Int).toNat < fu; omega)
  rw [e]
  exact ⟨_, rfl, i1, i2⟩

theorem min_spec {fu : Nat} {l : List line_frac} (hl : ∀ f ∈ l, frB f) (h0 : 0 < l.length) (h63 : l.length < 4611686018427387904) (hf : l.length < fu) :
    ∃ m, slices_MinFunc_line_frac fu l (fun z0 z1 => line_order z0 z1) = some m ∧ m ∈ l ∧ ∀ f ∈ l, frLe m f := by
  unfold slices_MinFunc_line_frac
  rw [show decide ((l.length : Int) < 1) = false by simp; omega]
  simp only [cond_false]
  have hget : ∀ k, k < l.length → ∃ f, l[k]? = some f ∧ f ∈ l := fun k hk => ⟨l[k], List.getElem?_eq_getElem hk, List.getElem_mem hk⟩
  obtain ⟨x, hx, hxm⟩ := hget 0 h0
  unfold idx
  rw [if_pos (by decide), show (0 : Int).toNat = 0 from rfl, hx]
  simp only [Option.bind_some]
  obtain ⟨s', e, i1, i2⟩ := whL_inv (body := slices_MinFunc_line_frac_b0 l (fun z0 z1 => line_order z0 z1))
    (fun s => 1 ≤ s.1 ∧ s.1 ≤ l.length ∧ Prod.mk s.2.1 s.2.2 ∈ l ∧ ∀ (k : Nat) f, (k : Int) < s.1 → l[k]? = some f → frLe (Prod.mk s.2.1 s.2.2) f) (fun s => l.length - s.1.toNat)
    (fun s => Prod.mk s.2.1 s.2.2 ∈ l ∧ ∀ f ∈ l, frLe (Prod.mk s.2.1 s.2.2) f) (fun s ⟨j1, j2, j3, j4⟩ => by
      unfold slices_MinFunc_line_frac_b0
      by_cases hk : s.1 < l.length
      · rw [show decide (s.1 < (l.length : Int)) = true by simp [hk]]
        simp only [cond_true]
        obtain ⟨f, hf1, hf2⟩ := hget s.1.toNat (by omega)
        unfold idx
        rw [if_pos (by omega), hf1]
        simp only [Option.bind_some]
        rw [order_small (hl f hf2) (hl _ j3)]
        simp only [Option.bind_some]
        rw [wrap64 (x := s.1 + 1) (by omega) (by omega)]
        have hd : ∀ f ∈ l, 0 < f.2 := fun f hf => (hl f hf).2.2.1
        refine .inl ?_
        by_cases hgt : f.1 * s.2.2 < s.2.1 * f.2
        · refine ⟨(s.1 + 1, f.1, f.2), ?_, ⟨by show 1 ≤ s.1 + 1; omega, by show s.1 + 1 ≤ l.length; omega, hf2, fun k g hk2 hg => ?_⟩, by show l.length - (s.1 + 1).toNat < l.length - s.1.toNat; omega⟩
          · simp [hgt]
          · by_cases e : (k : Int) < s.1
            · exact frLe_trans (hd f hf2) (hd _ j3) (hd g (List.mem_of_getElem? hg)) (by show f.1 * s.2.2 ≤ s.2.1 * f.2; omega) (j4 k g e hg)
            · have : k = s.1.toNat := by have : (k : Int) < s.1 + 1 := hk2; omega
              subst this
              rw [hf1] at hg; cases hg
              exact frLe_refl _
        · refine ⟨(s.1 + 1, s.2.1, s.2.2), ?_, ⟨by show 1 ≤ s.1 + 1; omega, by show s.1 + 1 ≤ l.length; omega, j3, fun k g hk2 hg => ?_⟩, by show l.length - (s.1 + 1).toNat < l.length - s.1.toNat; omega⟩
          · by_cases h2 : s.2.1 * f.2 < f.1 * s.2.2 <;> simp [hgt, h2]
          · by_cases e : (k : Int) < s.1
            · exact j4 k g e hg
            · have : k = s.1.toNat := by have : (k : Int) < s.1 + 1 := hk2; omega
              subst this
              rw [hf1] at hg; cases hg
              show s.2.1 * f.2 ≤ f.1 * s.2.2
              omega
      · rw [show decide (s.1 < (l.length : Int)) = false by simp; omega]
        refine .inr ⟨s, rfl, j3, fun f hf => ?_⟩
        obtain ⟨i, hi, rfl⟩ := List.mem_iff_getElem.1 hf
        exact j4 i _ (by omega) (List.getElem?_eq_getElem hi)) fu (1, x.1, x.2) ⟨by show (1 : Int) ≤ 1; omega, by show (1 : Int) ≤ l.length; omega, hxm, fun k f hk hf => by
          have : k = 0 := by have : (k : Int) < 1 := hk; omega
          subst this
          rw [hx] at hf; cases hf; exact frLe_refl _⟩ (by show l.length - (1 : Int).toNat < fu; omega)
  rw [e]
  exact ⟨_, rfl, i1, i2⟩
end Go.Proofs.Ytfhddbnacbcppaa.Old

/- Plain laws: adding rows, and leaving out a variable. -/
set_option linter.unusedSimpArgs false
namespace Go.Proofs.Ytfhddbnacbcppaa.Old
open Go.PG

theorem sm_lin {f g h : Nat → Int} {p q : Int} {n : Nat} (e : ∀ k, k < n → f k = p * g k + q * h k) : sm f n = p * sm g n + q * sm h n := by
  induction n with
  | zero => simp [sm]
  | succ n ih =>
    simp only [sm]
    rw [ih (fun k hk => e k (by omega)), e n (by omega), Int.mul_add, Int.mul_add]
    omega

theorem getD_snoc (s : List Int) (x : Int) (v : Nat) : (s ++ [x]).getD v 0 = if v < s.length then s.getD v 0 else if v = s.length then x else 0 := by
  simp only [List.getD, List.getElem?_append]
  by_cases h : v < s.length
  · simp [h]
  · by_cases h2 : v = s.length
    · subst h2; simp
    · have : v - s.length ≠ 0 := by omega
      simp [h, h2]
      cases hv : v - s.length with
      | zero => omega
      | succ m => simp

def cf (x : line_row) (v : Nat) : Int := x.1.1.getD v 0

/-- A row that follows from the given ones: their sum, weighed by what it bears. -/
structure rowG (l : List line_Row) (N : Nat) (C M Y : Int) (x : line_row) : Prop where
  len : x.1.1.length = N
  blen : x.2.length = l.length
  lin : ∀ v, v < N → cf x v = col l x.2 v l.length
  most : x.1.2 = mst l x.2 l.length
  cb : ∀ v, -C ≤ cf x v ∧ cf x v ≤ C
  mb : -M ≤ x.1.2 ∧ x.1.2 ≤ M
  yb : ∀ k, 0 ≤ x.2.getD k 0 ∧ x.2.getD k 0 ≤ Y

theorem two_bnd {p q a b C B : Int} (hp : 0 ≤ p ∧ p ≤ C) (hq : 0 ≤ q ∧ q ≤ C) (ha : -B ≤ a ∧ a ≤ B) (hb : -B ≤ b ∧ b ≤ B) (hBig : 2 * C * B ≤ 4611686018427387904) :
    (-(2 * C * B) ≤ p * a + q * b ∧ p * a + q * b ≤ 2 * C * B) ∧ IntKind.i64.wrap (IntKind.i64.wrap (p * a) + IntKind.i64.wrap (q * b)) = p * a + q * b := by
  have h1 := mul_bnd (show -C ≤ p by omega) hp.2 ha.1 ha.2
  have h2 := mul_bnd (show -C ≤ q by omega) hq.2 hb.1 hb.2
  have e : 2 * C * B = 2 * (C * B) := Int.mul_assoc ..
  refine ⟨⟨by omega, by omega⟩, ?_⟩
  rw [wrap64 (x := p * a) (by omega) (by omega), wrap64 (x := q * b) (by omega) (by omega), wrap64 (by omega) (by omega)]

theorem add_spec {l : List line_Row} {N : Nat} {C M Y : Int} {x y : line_row} {p q : Int} (hx : rowG l N C M Y x) (hy : rowG l N C M Y y) (hp : 0 ≤ p ∧ p ≤ C) (hq : 0 ≤ q ∧ q ≤ C)
    (hN : N ≤ 3) (hl : l.length ≤ 8) (hC : 2 * C * C ≤ 4611686018427387904) (hM : 2 * C * M ≤ 4611686018427387904) (hY : 2 * C * Y ≤ 4611686018427387904) (hY0 : 0 ≤ Y) :
    ∃ r, line_add x p y q = some r ∧ rowG l N (2 * C * C) (2 * C * M) (2 * C * Y) r ∧ (∀ v, cf r v = p * cf x v + q * cf y v) ∧ r.1.2 = p * x.1.2 + q * y.1.2 := by
  unfold line_add
  rw [hx.len, hx.blen, chk_of (show ((N : Nat) : Int) ≤ (LIM : Int) by unfold LIM; omega)]
  simp only [Option.bind_some]
  obtain ⟨s1, e1, i1, i2⟩ := forN_nx (body := line_add_b0 x p y q) (fun k s => s.length = k ∧ ∀ v, v < k → s.getD v 0 = p * cf x v + q * cf y v) N [] ⟨rfl, fun v h => by omega⟩ (fun k s hk ⟨i1, i2⟩ => by
    unfold line_add_b0
    rw [get_of (l := x.1.1) (k := k) (by rw [hx.len]; omega), get_of (l := y.1.1) (k := k) (by rw [hy.len]; omega)]
    simp only [Option.bind_some]
    rw [chk_of (show s.length + 1 ≤ LIM by unfold LIM; omega)]
    simp only [Option.bind_some]
    refine ⟨_, rfl, by simp [i1], fun v hv => ?_⟩
    rw [getD_snoc, i1]
    by_cases h : v < k
    · rw [if_pos h, i2 v h]
    · have : v = k := by omega
      subst this
      rw [if_neg h, if_pos rfl]
      exact (two_bnd hp hq (hx.cb v) (hy.cb v) hC).2)
  rw [e1]
  simp only [Option.bind_some, Sum.elim_inl]
  rw [chk_of (show ((l.length : Nat) : Int) ≤ (LIM : Int) by unfold LIM; omega)]
  simp only [Option.bind_some]
  have yb : ∀ {z : line_row}, rowG l N C M Y z → ∀ k, -Y ≤ z.2.getD k 0 ∧ z.2.getD k 0 ≤ Y := fun h k => by have := h.yb k; omega
  obtain ⟨s2, e2, j1, j2⟩ := forN_nx (body := line_add_b2 x p y q) (fun k s => s.length = k ∧ ∀ v, v < k → s.getD v 0 = p * x.2.getD v 0 + q * y.2.getD v 0) l.length [] ⟨rfl, fun v h => by omega⟩ (fun k s hk ⟨i1, i2⟩ => by
    unfold line_add_b2
    rw [get_of (l := x.2) (k := k) (by rw [hx.blen]; omega), get_of (l := y.2) (k := k) (by rw [hy.blen]; omega)]
    simp only [Option.bind_some]
    rw [chk_of (show s.length + 1 ≤ LIM by unfold LIM; omega)]
    simp only [Option.bind_some]
    refine ⟨_, rfl, by simp [i1], fun v hv => ?_⟩
    rw [getD_snoc, i1]
    by_cases h : v < k
    · rw [if_pos h, i2 v h]
    · have : v = k := by omega
      subst this
      rw [if_neg h, if_pos rfl]
      exact (two_bnd hp hq (yb hx v) (yb hy v) hY).2)
  rw [e2]
  simp only [Option.bind_some, Sum.elim_inl]
  have ovr : ∀ {s : List Int} {k : Nat}, s.length ≤ k → s.getD k 0 = 0 := fun h => by simp [List.getD, List.getElem?_eq_none h]
  have hcf : ∀ v, s1.getD v 0 = p * cf x v + q * cf y v := by
    intro v
    by_cases h : v < N
    · exact i2 v h
    · rw [ovr (by omega)]
      unfold cf
      rw [ovr (by rw [hx.len]; omega), ovr (by rw [hy.len]; omega)]
      simp
  have hby : ∀ v, s2.getD v 0 = p * x.2.getD v 0 + q * y.2.getD v 0 := by
    intro v
    by_cases h : v < l.length
    · exact j2 v h
    · rw [ovr (by omega), ovr (by rw [hx.blen]; omega), ovr (by rw [hy.blen]; omega)]
      simp
  have hm := two_bnd hp hq hx.mb hy.mb hM
  rw [hm.2]
  refine ⟨_, rfl, ⟨i1, j1, fun v hv => ?_, ?_, fun v => ?_, hm.1, fun k => ?_⟩, hcf, rfl⟩
  · show s1.getD v 0 = col l s2 v l.length
    rw [hcf, hx.lin v hv, hy.lin v hv]
    unfold col
    rw [← sm_lin (fun k _ => ?_)]
    rw [hby k, Int.mul_add]
    simp only [Int.mul_left_comm]
  · show p * x.1.2 + q * y.1.2 = mst l s2 l.length
    rw [hx.most, hy.most]
    unfold mst
    rw [← sm_lin (fun k _ => ?_)]
    rw [hby k, Int.mul_add]
    simp only [Int.mul_left_comm]
  · show _ ≤ s1.getD v 0 ∧ s1.getD v 0 ≤ _
    rw [hcf]
    exact (two_bnd hp hq (hx.cb v) (hy.cb v) hC).1
  · show 0 ≤ s2.getD k 0 ∧ s2.getD k 0 ≤ _
    rw [hby]
    have a1 := Int.mul_nonneg hp.1 (hx.yb k).1
    have a2 := Int.mul_nonneg hq.1 (hy.yb k).1
    have := (two_bnd hp hq (yb hx k) (yb hy k) hY).1
    omega

/-- r is u and w with the j-th variable cancelled. -/
def comb (j : Nat) (u w r : line_row) : Prop :=
  (∀ v, cf r v = -(cf w j) * cf u v + cf u j * cf w v) ∧ r.1.2 = -(cf w j) * u.1.2 + cf u j * w.1.2

theorem rowG.up {l : List line_Row} {N : Nat} {C M Y C' M' Y' : Int} {x : line_row} (h : rowG l N C M Y x) (hC : C ≤ C') (hM : M ≤ M') (hY : Y ≤ Y') : rowG l N C' M' Y' x :=
  ⟨h.len, h.blen, h.lin, h.most, fun v => by have := h.cb v; omega, by have := h.mb; omega, fun k => by have := h.yb k; omega⟩

theorem dbl {C B : Int} (hC : 1 ≤ C) (hB : 0 ≤ B) : B ≤ 2 * C * B := by
  have := Int.mul_le_mul_of_nonneg_right (show 1 ≤ 2 * C by omega) hB
  omega

theorem without_spec {l : List line_Row} {N : Nat} {C M Y : Int} {R : List line_row} {j : Nat} (hR : ∀ r ∈ R, rowG l N C M Y r) (hz : ∀ r ∈ R, ∀ v, j < v → v < N → cf r v = 0) (hj : j < N)
    (hlen : R.length ≤ 4096) (hN : N ≤ 3) (hl : l.length ≤ 8) (hC1 : 1 ≤ C) (hM0 : 0 ≤ M) (hC : 2 * C * C ≤ 4611686018427387904) (hM : 2 * C * M ≤ 4611686018427387904) (hY : 2 * C * Y ≤ 4611686018427387904) (hY0 : 0 ≤ Y) :
    ∃ R', line_without R j = some R' ∧ (∀ r ∈ R', rowG l N (2 * C * C) (2 * C * M) (2 * C * Y) r) ∧ (∀ r ∈ R', ∀ v, j ≤ v → v < N → cf r v = 0) ∧
      (∀ r ∈ R, cf r j = 0 → r ∈ R') ∧ (∀ u ∈ R, 0 < cf u j → ∀ w ∈ R, cf w j < 0 → ∃ r ∈ R', comb j u w r) ∧ R'.length ≤ R.length * R.length := by
  have hidx : ∀ r ∈ R, idx r.1.1 (j : Int) = some (cf r j) := fun r hr => by
    unfold idx
    rw [if_pos (by omega), show ((j : Int)).toNat = j by omega]
    exact get_of (by rw [(hR r hr).len]; omega)
  let good (r : line_row) : Prop := rowG l N (2 * C * C) (2 * C * M) (2 * C * Y) r ∧ ∀ v, j ≤ v → v < N → cf r v = 0
  have hmul : ∀ k : Nat, k ≤ R.length → k * R.length ≤ 4096 * 4096 := fun k hk => Nat.mul_le_mul (by omega) hlen
  unfold line_without
  obtain ⟨R', e, i1, i2, i3, i4⟩ := forL_nx (body := line_without_b0 R (j : Int)) (fun k s => (∀ r ∈ s, good r) ∧ (∀ i r, i < k → R[i]? = some r → cf r j = 0 → r ∈ s) ∧
      (∀ i u, i < k → R[i]? = some u → 0 < cf u j → ∀ w ∈ R, cf w j < 0 → ∃ r ∈ s, comb j u w r) ∧ s.length ≤ k * R.length) R [] ⟨by simp, fun i r h => by omega, fun i u h => by omega, by simp⟩ (fun k x s hx ⟨i1, i2, i3, i4⟩ => by
    have hk : k < R.length := (List.getElem?_eq_some_iff.1 hx).1
    have hxm := List.mem_of_getElem? hx
    have hgx := hR x hxm
    have hkm := hmul k (by omega)
    have hk1 : (k + 1) * R.length = k * R.length + R.length := Nat.succ_mul _ _
    unfold line_without_b0
    rw [hidx x hxm]
    simp only [Option.bind_some]
    by_cases h0 : cf x j = 0
    · rw [show (cf x j == 0) = true by simp [h0]]
      simp only [cond_true]
      rw [chk_of (show s.length + 1 ≤ LIM by unfold LIM; omega)]
      simp only [Option.bind_some]
      refine ⟨_, rfl, fun r hr => ?_, fun i r hi hr hz0 => ?_, fun i u hi hu hpos w hw hneg => ?_, by simp; omega⟩
      · rcases List.mem_append.1 hr with hr | hr
        · exact i1 r hr
        · simp at hr; subst hr
          refine ⟨hgx.up (dbl hC1 (by omega)) (dbl hC1 hM0) (dbl hC1 hY0), fun v h1 h2 => ?_⟩
          by_cases e : v = j
          · subst e; exact h0
          · exact hz r hxm v (by omega) h2
      · by_cases e : i < k
        · exact List.mem_append.2 (.inl (i2 i r e hr hz0))
        · have : i = k := by omega
          subst this
          rw [hx] at hr; cases hr
          simp
      · by_cases e : i < k
        · obtain ⟨r, hr, hc⟩ := i3 i u e hu hpos w hw hneg
          exact ⟨r, List.mem_append.2 (.inl hr), hc⟩
        · have : i = k := by omega
          subst this
          rw [hx] at hu; cases hu
          omega
    · rw [show (cf x j == 0) = false by simp [h0]]
      simp only [cond_false]
      by_cases hp : cf x j > 0
      · rw [show decide (cf x j > 0) = true by simp [hp]]
        simp only [cond_true]
        obtain ⟨s', e, j1, j2, j3, j4⟩ := forL_nx (ρ := Ctl (List line_row) (List line_row)) (body := line_without_b3 (j : Int) x (cf x j)) (fun k2 s2 => (∀ r ∈ s2, good r) ∧ (∀ r ∈ s, r ∈ s2) ∧
          (∀ i w, i < k2 → R[i]? = some w → cf w j < 0 → ∃ r ∈ s2, comb j x w r) ∧ s2.length ≤ s.length + k2) R s ⟨i1, fun r h => h, fun i w h => by omega, by omega⟩ (fun k2 y s2 hy ⟨j1, j2, j3, j4⟩ => by
          have hk2 : k2 < R.length := (List.getElem?_eq_some_iff.1 hy).1
          have hym := List.mem_of_getElem? hy
          have hgy := hR y hym
          unfold line_without_b3
          rw [hidx y hym]
          simp only [Option.bind_some]
          by_cases hn : cf y j < 0
          · rw [show decide (cf y j < 0) = true by simp [hn]]
            simp only [cond_true]
            have by' := hgy.cb j
            have bx' := hgx.cb j
            have hCC : C ≤ 2 * C * C := dbl hC1 (by omega)
            rw [wrap64 (x := 0 - cf y j) (by omega) (by omega)]
            obtain ⟨r, er, g1, g2, g3⟩ := add_spec hgx hgy (p := 0 - cf y j) (q := cf x j) (by omega) (by omega) hN hl hC hM hY hY0
            rw [er]
            simp only [Option.bind_some]
            rw [chk_of (show s2.length + 1 ≤ LIM by unfold LIM; omega)]
            simp only [Option.bind_some]
            have hcomb : comb j x y r := ⟨fun v => by rw [g2 v, Int.zero_sub], by rw [g3, Int.zero_sub]⟩
            refine ⟨_, rfl, fun z hz' => ?_, fun z hz' => List.mem_append.2 (.inl (j2 z hz')), fun i w hi hw hneg => ?_, by simp; omega⟩
            · rcases List.mem_append.1 hz' with hz' | hz'
              · exact j1 z hz'
              · simp at hz'; subst hz'
                refine ⟨g1, fun v h1 h2 => ?_⟩
                rw [hcomb.1 v]
                by_cases e : v = j
                · subst e
                  rw [Int.neg_mul, Int.mul_comm (cf y v)]; omega
                · rw [hz x hxm v (by omega) h2, hz y hym v (by omega) h2]; simp
            · by_cases e : i < k2
              · obtain ⟨r', hr', hc⟩ := j3 i w e hw hneg
                exact ⟨r', List.mem_append.2 (.inl hr'), hc⟩
              · have : i = k2 := by omega
                subst this
                rw [hy] at hw; cases hw
                exact ⟨r, by simp, hcomb⟩
          · rw [show decide (cf y j < 0) = false by simp [hn]]
            simp only [cond_false]
            refine ⟨_, rfl, j1, j2, fun i w hi hw hneg => ?_, by omega⟩
            by_cases e : i < k2
            · exact j3 i w e hw hneg
            · have : i = k2 := by omega
              subst this
              rw [hy] at hw; cases hw
              exact absurd hneg hn)
        rw [e]
        refine ⟨s', rfl, j1, fun i r hi hr hz0 => ?_, fun i u hi hu hpos w hw hneg => ?_, by omega⟩
        · by_cases e : i < k
          · exact j2 r (i2 i r e hr hz0)
          · have : i = k := by omega
            subst this
            rw [hx] at hr; cases hr
            exact absurd hz0 h0
        · by_cases e : i < k
          · obtain ⟨r, hr, hc⟩ := i3 i u e hu hpos w hw hneg
            exact ⟨r, j2 r hr, hc⟩
          · have : i = k := by omega
            subst this
            rw [hx] at hu; cases hu
            obtain ⟨i', hi', rfl⟩ := List.mem_iff_getElem.1 hw
            exact j3 i' _ hi' (List.getElem?_eq_getElem hi') hneg
      · rw [show decide (cf x j > 0) = false by simp; omega]
        simp only [cond_false]
        refine ⟨s, rfl, i1, fun i r hi hr hz0 => ?_, fun i u hi hu hpos w hw hneg => ?_, by omega⟩
        · by_cases e : i < k
          · exact i2 i r e hr hz0
          · have : i = k := by omega
            subst this
            rw [hx] at hr; cases hr
            exact absurd hz0 h0
        · by_cases e : i < k
          · exact i3 i u e hu hpos w hw hneg
          · have : i = k := by omega
            subst this
            rw [hx] at hu; cases hu
            exact absurd hpos hp)
  rw [e]
  refine ⟨R', rfl, fun r hr => (i1 r hr).1, fun r hr => (i1 r hr).2, fun r hr h0 => ?_, fun u hu hpos => ?_, i4⟩
  · obtain ⟨i, hi, rfl⟩ := List.mem_iff_getElem.1 hr
    exact i2 i _ hi (List.getElem?_eq_getElem hi) h0
  · obtain ⟨i, hi, rfl⟩ := List.mem_iff_getElem.1 hu
    exact i3 i _ hi (List.getElem?_eq_getElem hi) hpos
end Go.Proofs.Ytfhddbnacbcppaa.Old

/- Plain laws: a value for one variable. -/
set_option linter.unusedSimpArgs false
namespace Go.Proofs.Ytfhddbnacbcppaa.Old
open Go.PG

/-- What is left of a row's bound at a point of k variables with the denominator D. -/
def rest (D : Int) (X : Nat → Int) (k : Nat) (r : line_row) : Int := r.1.2 * D - sm (fun v => cf r v * X v) k

/-- f is the value of the k-th variable at which row r holds just so. -/
structure cand (D : Int) (X : Nat → Int) (k : Nat) (r : line_row) (f : line_frac) : Prop where
  ok : frOk f
  b : frB f
  eq : f.1 * (cf r k * D) = f.2 * rest D X k r

theorem cand_cmp {D : Int} {X : Nat → Int} {k : Nat} {r w : line_row} {f m : line_frac} (hD : 0 < D) (h1 : cand D X k r f) (h2 : cand D X k w m) (hs : 0 < cf r k * cf w k) (h : frLe f m) :
    rest D X k r * cf w k ≤ rest D X k w * cf r k := by
  have hf := h1.ok.1
  have hm := h2.ok.1
  have e1 := h1.eq
  have e2 := h2.eq
  unfold frLe at h
  generalize rest D X k r = A at *
  generalize rest D X k w = B at *
  generalize cf r k = a at *
  generalize cf w k = b at *
  generalize f.1 = n at *
  generalize f.2 = d at *
  generalize m.1 = n' at *
  generalize m.2 = d' at *
  have hp : 0 < D * D * (a * b) := Int.mul_pos (Int.mul_pos hD hD) hs
  have h3 := Int.mul_le_mul_of_nonneg_right h (show 0 ≤ D * D * (a * b) by omega)
  have f1 : n * d' * (D * D * (a * b)) = (d * d' * D) * (A * b) := by
    have : n * d' * (D * D * (a * b)) = (n * (a * D)) * (d' * D * b) := by grind
    rw [this, e1]; grind
  have f2 : n' * d * (D * D * (a * b)) = (d * d' * D) * (B * a) := by
    have : n' * d * (D * D * (a * b)) = (n' * (b * D)) * (d * D * a) := by grind
    rw [this, e2]; grind
  rw [f1, f2] at h3
  exact Int.le_of_mul_le_mul_left h3 (Int.mul_pos (Int.mul_pos hf hm) hD)

def Eb (C M DB XB : Int) : Nat → Int
  | 0 => M
  | v + 1 => Eb C M DB XB v * DB + C * XB * DB ^ v

/-- The point so far. -/
structure ptG (DB XB : Int) (D : Int) (X : Nat → Int) (p : List line_frac) : Prop where
  d0 : 0 < D
  dB : D ≤ DB
  xB : ∀ v, v < p.length → -XB ≤ X v ∧ X v ≤ XB
  fr : ∀ v f, p[v]? = some f → frOk f ∧ f.1 * D = X v * f.2

theorem dvd_cop {k n m : Int} (h : k ∣ n * m) (hg : Int.gcd n k = 1) : k ∣ m := by
  have := (Int.dvd_gcd_mul_iff_dvd_mul).2 h
  rw [Int.gcd_comm k n, hg] at this
  simpa using this

theorem fr_bnd {D x : Int} {f : line_frac} (hD : 0 < D) (hf : frOk f) (h : f.1 * D = x * f.2) : ∃ e, 0 < e ∧ D = f.2 * e ∧ x = f.1 * e := by
  have hd : f.2 ∣ D := by
    have : f.2 ∣ f.1 * D := ⟨x, by rw [h, Int.mul_comm]⟩
    exact dvd_cop this hf.2
  obtain ⟨e, he⟩ := hd
  have hd0 := hf.1
  have he0 : 0 < e := by
    rcases Int.lt_or_le 0 e with h | h
    · exact h
    · have := Int.mul_nonpos_of_nonneg_of_nonpos (show 0 ≤ f.2 by omega) h
      omega
  refine ⟨e, he0, he, ?_⟩
  rw [he] at h
  have : f.2 * (f.1 * e) = f.2 * x := by
    rw [Int.mul_comm _ x, ← h]; simp only [Int.mul_comm, Int.mul_left_comm]
  exact (Int.eq_of_mul_eq_mul_left (by omega) this).symm

theorem le_mul_pos {a e B : Int} (he : 0 < e) (h : -B ≤ a * e ∧ a * e ≤ B) : -B ≤ a ∧ a ≤ B := by
  rcases Int.lt_or_le a 0 with ha | ha
  · have := Int.mul_le_mul_of_nonneg_left (show 1 ≤ e by omega) (show 0 ≤ -a by omega)
    rw [Int.mul_one, Int.neg_mul] at this
    omega
  · have := Int.mul_le_mul_of_nonneg_left (show 1 ≤ e by omega) ha
    omega

theorem ptG.small {DB XB D : Int} {X : Nat → Int} {p : List line_frac} (h : ptG DB XB D X p) {v : Nat} {f : line_frac} (hf : p[v]? = some f) : (0 < f.2 ∧ f.2 ≤ DB) ∧ -XB ≤ f.1 ∧ f.1 ≤ XB := by
  obtain ⟨h1, h2⟩ := h.fr v f hf
  obtain ⟨e, e0, e1, e2⟩ := fr_bnd h.d0 h1 h2
  have hx := h.xB v (List.getElem?_eq_some_iff.1 hf).1
  have hd := h.dB
  have hd0 := h1.1
  refine ⟨⟨hd0, ?_⟩, le_mul_pos e0 (by rw [← e2]; exact hx)⟩
  have := (le_mul_pos (B := DB) e0 (a := f.2) (by rw [← e1]; have := h.d0; omega)).2
  exact this

theorem pow_ge_one {d : Int} (h : 1 ≤ d) (n : Nat) : 1 ≤ d ^ n := by
  induction n with
  | zero => simp
  | succ n ih =>
    rw [Int.pow_succ]
    have := Int.mul_le_mul ih h (by omega) (by omega)
    omega

/-- What is left of a row, as a fraction. -/
theorem left_spec {l : List line_Row} {N : Nat} {C M Y DB XB D : Int} {X : Nat → Int} {p : List line_frac} {r : line_row} (hp : ptG DB XB D X p) (hr : rowG l N C M Y r) (hk : p.length ≤ N)
    (hC : 0 ≤ C) (hX : 0 ≤ XB) (hE : ∀ v, v ≤ p.length → Eb C M DB XB v ≤ 4611686018427387904) (hQ : ∀ v, v ≤ p.length → DB ^ v ≤ 4611686018427387904) :
    ∃ s1 s2, forL (ρ := Ctl (List line_frac × List line_frac) line_frac) (line_choose_b2 r) 0 p (r.1.2, 1) = some (.inl (s1, s2)) ∧ 0 < s2 ∧ s2 ≤ DB ^ p.length ∧
      (-4611686018427387904 ≤ s1 ∧ s1 ≤ 4611686018427387904) ∧ s1 * D = s2 * rest D X p.length r := by
  have hDB : 1 ≤ DB := by have := hp.d0; have := hp.dB; omega
  obtain ⟨⟨s1, s2⟩, e, i1, i2, i3, i4⟩ := forL_nx (ρ := Ctl (List line_frac × List line_frac) line_frac) (body := line_choose_b2 r)
    (fun v s => 0 < s.2 ∧ s.2 ≤ DB ^ v ∧ (-(Eb C M DB XB v) ≤ s.1 ∧ s.1 ≤ Eb C M DB XB v) ∧ s.1 * D = s.2 * rest D X v r) p (r.1.2, 1)
    ⟨by show (0 : Int) < 1; omega, by show (1 : Int) ≤ DB ^ 0; simp, hr.mb, by simp [rest, sm]⟩ (fun v f s hf ⟨i1, i2, i3, i4⟩ => by
      have hv : v < p.length := (List.getElem?_eq_some_iff.1 hf).1
      obtain ⟨⟨d0, d1⟩, n1⟩ := hp.small hf
      have hfr := (hp.fr v f hf).2
      have hEv := hE (v + 1) hv
      have hQv := hQ (v + 1) hv
      simp only [Eb] at hEv
      rw [Int.pow_succ] at hQv
      have hq1 := pow_ge_one hDB v
      have hE0 : 0 ≤ Eb C M DB XB v := by omega
      have hCX : 0 ≤ C * XB := Int.mul_nonneg hC hX
      have b1 := mul_bnd i3.1 i3.2 (show -DB ≤ f.2 by omega) d1
      have b2 := mul_bnd (hr.cb v).1 (hr.cb v).2 n1.1 n1.2
      have b3 := mul_bnd b2.1 b2.2 (show -(DB ^ v) ≤ s.2 by omega) i2
      have b4 := mul_bnd (show -(DB ^ v) ≤ s.2 by omega) i2 (show -DB ≤ f.2 by omega) d1
      have b5 : 0 ≤ Eb C M DB XB v * DB := Int.mul_nonneg hE0 (by omega)
      have b6 : C * XB ≤ C * XB * DB ^ v := by
        have := Int.mul_le_mul_of_nonneg_left hq1 hCX
        omega
      unfold line_choose_b2
      rw [get_of (l := r.1.1) (k := v) (by rw [hr.len]; omega)]
      simp only [Option.bind_some]
      rw [show r.1.1.getD v 0 = cf r v from rfl]
      rw [wrap64 (x := s.1 * f.2) (by omega) (by omega), wrap64 (x := cf r v * f.1) (by omega) (by omega), wrap64 (x := cf r v * f.1 * s.2) (by omega) (by omega), wrap64 (x := s.2 * f.2) (by omega) (by omega)]
      rw [wrap64 (x := s.1 * f.2 - cf r v * f.1 * s.2) (by omega) (by omega)]
      refine ⟨_, rfl, Int.mul_pos i1 d0, ?_, ?_, ?_⟩
      · show s.2 * f.2 ≤ DB ^ (v + 1)
        rw [Int.pow_succ]; exact b4.2
      · show -(Eb C M DB XB v * DB + C * XB * DB ^ v) ≤ s.1 * f.2 - cf r v * f.1 * s.2 ∧ s.1 * f.2 - cf r v * f.1 * s.2 ≤ Eb C M DB XB v * DB + C * XB * DB ^ v
        omega
      · show (s.1 * f.2 - cf r v * f.1 * s.2) * D = s.2 * f.2 * rest D X (v + 1) r
        have e1 : rest D X (v + 1) r = rest D X v r - cf r v * X v := by simp only [rest, sm]; omega
        rw [e1]
        generalize rest D X v r = A at *
        generalize cf r v = c at *
        generalize X v = x at *
        grind)
  refine ⟨s1, s2, e, i1, i2, ?_, i4⟩
  have := hE p.length (Nat.le_refl _)
  have h1 : -(Eb C M DB XB p.length) ≤ s1 ∧ s1 ≤ Eb C M DB XB p.length := i3
  omega

theorem rest_bnd {l : List line_Row} {N : Nat} {C M Y DB XB D : Int} {X : Nat → Int} {p : List line_frac} {r : line_row} (hp : ptG DB XB D X p) (hr : rowG l N C M Y r) :
    -(M * DB + p.length * (C * XB)) ≤ rest D X p.length r ∧ rest D X p.length r ≤ M * DB + p.length * (C * XB) := by
  have each : ∀ v, v < p.length → -(C * XB) ≤ cf r v * X v ∧ cf r v * X v ≤ C * XB := fun v hv => mul_bnd (hr.cb v).1 (hr.cb v).2 (hp.xB v hv).1 (hp.xB v hv).2
  have h1 := sm_le (f := fun v => cf r v * X v) (n := p.length) (fun v hv => (each v hv).2)
  have h2 := sm_ge (f := fun v => cf r v * X v) (n := p.length) (fun v hv => (each v hv).1)
  have h3 := mul_bnd hr.mb.1 hr.mb.2 (show -DB ≤ D by have := hp.d0; have := hp.dB; omega) hp.dB
  unfold rest
  omega

theorem dvd_bnd {a b e B : Int} (h : a = b * e) (ha : a ≠ 0) (hb : 0 < b) (hB : -B ≤ a ∧ a ≤ B) : b ≤ B := by
  rcases Int.lt_or_le e 0 with he | he
  · have := Int.mul_le_mul_of_nonneg_left (show 1 ≤ -e by omega) (show 0 ≤ b by omega)
    rw [Int.mul_neg] at this
    omega
  · have he0 : e ≠ 0 := fun h0 => by subst h0; simp at h; exact ha h
    have := Int.mul_le_mul_of_nonneg_left (show 1 ≤ e by omega) (show 0 ≤ b by omega)
    omega

theorem one_spec {l : List line_Row} {N fu : Nat} {C M Y DB XB D : Int} {X : Nat → Int} {p : List line_frac} {r : line_row} (hp : ptG DB XB D X p) (hr : rowG l N C M Y r) (hk : p.length ≤ N)
    (hC : 1 ≤ C) (hX : 0 ≤ XB) (hE : ∀ v, v ≤ p.length → Eb C M DB XB v ≤ 4611686018427387904) (hQ : ∀ v, v ≤ p.length → DB ^ v * C ≤ 4611686018427387904)
    (hB1 : M * DB + p.length * (C * XB) < 4294967296) (hB2 : C * DB < 4294967296) (hf : 4611686018427387904 < fu) (hc : cf r p.length ≠ 0) :
    ∃ s1 s2 f1 f2, forL (ρ := Ctl (List line_frac × List line_frac) line_frac) (line_choose_b2 r) 0 p (r.1.2, 1) = some (.inl (s1, s2)) ∧ line_lowest fu s1 s2 = some f1 ∧
      line_lowest fu f1.1 (IntKind.i64.wrap (f1.2 * cf r p.length)) = some f2 ∧ cand D X p.length r f2 := by
  have hDB : 1 ≤ DB := by have := hp.d0; have := hp.dB; omega
  have hQ' : ∀ v, v ≤ p.length → DB ^ v ≤ 4611686018427387904 := fun v hv => by
    have h1 := hQ v hv
    have h2 := pow_ge_one hDB v
    have := Int.mul_le_mul_of_nonneg_left hC (show 0 ≤ DB ^ v by omega)
    omega
  obtain ⟨s1, s2, e, p1, p2, p3, p4⟩ := left_spec hp hr hk (by omega) hX hE hQ'
  have hQp := hQ' p.length (Nat.le_refl _)
  obtain ⟨f1, e1, g1, g2, g3, g4, g5⟩ := lowest_pos (fu := fu) (a := s1) (b := s2) p1 p3.1 p3.2 (by omega) hf
  have hcb := hr.cb p.length
  have hg1 := g1.1
  have b1 := mul_bnd (show -(DB ^ p.length) ≤ f1.2 by omega) (show f1.2 ≤ DB ^ p.length by omega) hcb.1 hcb.2
  have hQ2 := hQ p.length (Nat.le_refl _)
  have hne : f1.2 * cf r p.length ≠ 0 := Int.mul_ne_zero (by omega) hc
  obtain ⟨f2, e2, k1, k2, k3, k4, k5⟩ := lowest_spec (fu := fu) (a := f1.1) (b := f1.2 * cf r p.length) hne g3 g4 (by omega) (by omega) hf
  refine ⟨s1, s2, f1, f2, e, e1, by rw [wrap64 (by omega) (by omega)]; exact e2, ?_⟩
  have hA := rest_bnd hp hr
  have heq : f2.1 * (cf r p.length * D) = f2.2 * rest D X p.length r := by
    generalize rest D X p.length r = A at *
    generalize cf r p.length = c at *
    have : (f1.2 * s2) * (f2.1 * (c * D)) = (f1.2 * s2) * (f2.2 * A) := by
      have q1 : (f1.2 * s2) * (f2.1 * (c * D)) = (f2.1 * (f1.2 * c)) * (s2 * D) := by grind
      have q2 : (f1.2 * s2) * (f2.2 * A) = (s2 * A) * (f1.2 * f2.2) := by grind
      rw [q1, q2, k2, ← p4]
      have q3 : f1.1 * f2.2 * (s2 * D) = (f1.1 * s2) * (f2.2 * D) := by grind
      rw [q3, g2]; grind
    exact Int.eq_of_mul_eq_mul_left (by have := Int.mul_pos hg1 p1; omega) this
  have hk1 := k1.1
  have hcD : cf r p.length * D ≠ 0 := Int.mul_ne_zero hc (by have := hp.d0; omega)
  have hdvd : f2.2 ∣ cf r p.length * D := dvd_cop ⟨_, heq⟩ k1.2
  obtain ⟨e', he'⟩ := hdvd
  have hb := mul_bnd hcb.1 hcb.2 (show -DB ≤ D by have := hp.d0; have := hp.dB; omega) hp.dB
  have hd2 := dvd_bnd he' hcD hk1 hb
  have hn : f2.1 * e' = rest D X p.length r := by
    rw [he'] at heq
    have : f2.2 * (f2.1 * e') = f2.2 * rest D X p.length r := by rw [← heq]; simp only [Int.mul_left_comm]
    exact Int.eq_of_mul_eq_mul_left (by omega) this
  have he0 : e' ≠ 0 := fun h0 => by rw [h0, Int.mul_zero] at he'; exact hcD he'
  have hn2 : -(M * DB + p.length * (C * XB)) ≤ f2.1 ∧ f2.1 ≤ M * DB + p.length * (C * XB) := by
    rcases Int.lt_or_le e' 0 with he | he
    · have h3 := le_mul_pos (a := -f2.1) (e := -e') (B := M * DB + p.length * (C * XB)) (by omega) (by rw [Int.neg_mul_neg, hn]; exact hA)
      omega
    · exact le_mul_pos (show 0 < e' by omega) (by rw [hn]; exact hA)
  exact ⟨k1, ⟨by omega, by omega, hk1, by omega⟩, heq⟩

/-- A value for the next variable at which all rows hold. -/
theorem choose_spec {l : List line_Row} {N fu : Nat} {C M Y DB XB D : Int} {X : Nat → Int} {p : List line_frac} {R : List line_row} (hp : ptG DB XB D X p) (hR : ∀ r ∈ R, rowG l N C M Y r) (hk : p.length < N)
    (hC : 1 ≤ C) (hM : 0 ≤ M) (hX : 0 ≤ XB) (hE : ∀ v, v ≤ p.length → Eb C M DB XB v ≤ 4611686018427387904) (hQ : ∀ v, v ≤ p.length → DB ^ v * C ≤ 4611686018427387904)
    (hB1 : M * DB + p.length * (C * XB) < 4294967296) (hB2 : C * DB < 4294967296) (hf : 4611686018427387904 < fu) (hlen : R.length ≤ 16777216)
    (h0 : ∀ r ∈ R, cf r p.length = 0 → 0 ≤ rest D X p.length r)
    (h1 : ∀ u ∈ R, 0 < cf u p.length → ∀ w ∈ R, cf w p.length < 0 → 0 ≤ -(cf w p.length) * rest D X p.length u + cf u p.length * rest D X p.length w) :
    ∃ f c z, line_choose fu R (p.length : Int) p = some f ∧ frOk f ∧ 0 < c ∧ c ≤ C ∧ (-(M * DB + p.length * (C * XB)) ≤ z ∧ z ≤ M * DB + p.length * (C * XB)) ∧ f.1 * (D * c) = z * f.2 ∧
      ∀ r ∈ R, cf r p.length * z ≤ c * rest D X p.length r := by
  have hidx : ∀ r ∈ R, idx r.1.1 (p.length : Int) = some (cf r p.length) := fun r hr => by
    unfold idx
    rw [if_pos (by omega), show ((p.length : Int)).toNat = p.length by omega]
    exact get_of (by rw [(hR r hr).len]; omega)
  unfold line_choose
  obtain ⟨⟨ups, lows⟩, e, i1, i2, i3, i4, i5, i6⟩ := forL_nx (ρ := line_frac) (body := line_choose_b0 fu (p.length : Int) p) (fun i s =>
      (∀ f ∈ s.1, ∃ r ∈ R, 0 < cf r p.length ∧ cand D X p.length r f) ∧ (∀ f ∈ s.2, ∃ r ∈ R, cf r p.length < 0 ∧ cand D X p.length r f) ∧
      (∀ j r, j < i → R[j]? = some r → 0 < cf r p.length → ∃ f ∈ s.1, cand D X p.length r f) ∧ (∀ j r, j < i → R[j]? = some r → cf r p.length < 0 → ∃ f ∈ s.2, cand D X p.length r f) ∧
      s.1.length ≤ i ∧ s.2.length ≤ i) R ([], []) ⟨by simp, by simp, fun j r h => by omega, fun j r h => by omega, by simp, by simp⟩ (fun i x s hx ⟨i1, i2, i3, i4, i5, i6⟩ => by
    have hi : i < R.length := (List.getElem?_eq_some_iff.1 hx).1
    have hxm := List.mem_of_getElem? hx
    have hgx := hR x hxm
    unfold line_choose_b0
    rw [hidx x hxm]
    simp only [Option.bind_some]
    by_cases hz : cf x p.length = 0
    · rw [show (cf x p.length == 0) = true by simp [hz]]
      simp only [cond_true]
      refine ⟨_, rfl, i1, i2, fun j r hj hr hpos => ?_, fun j r hj hr hneg => ?_, by show s.1.length ≤ i + 1; omega, by show s.2.length ≤ i + 1; omega⟩
      · by_cases e : j < i
        · exact i3 j r e hr hpos
        · have : j = i := by omega
          subst this
          rw [hx] at hr; cases hr; omega
      · by_cases e : j < i
        · exact i4 j r e hr hneg
        · have : j = i := by omega
          subst this
          rw [hx] at hr; cases hr; omega
    · rw [show (cf x p.length == 0) = false by simp [hz]]
      simp only [cond_false]
      obtain ⟨s1, s2, f1, f2, e, e1, e2, hc⟩ := one_spec hp hgx (by omega) hC hX hE hQ hB1 hB2 hf hz
      rw [e]
      simp only [Option.bind_some, Sum.elim_inl]
      rw [e1]
      simp only [Option.bind_some]
      rw [e2]
      simp only [Option.bind_some]
      by_cases hpos : cf x p.length > 0
      · rw [show decide (cf x p.length > 0) = true by simp [hpos]]
        simp only [cond_true]
        rw [chk_of (show s.1.length + 1 ≤ LIM by unfold LIM; omega)]
        simp only [Option.bind_some]
        refine ⟨_, rfl, fun f hf => ?_, i2, fun j r hj hr hpos' => ?_, fun j r hj hr hneg => ?_, by simp; omega, by show s.2.length ≤ i + 1; omega⟩
        · rcases List.mem_append.1 hf with hf | hf
          · exact i1 f hf
          · simp at hf; subst hf; exact ⟨x, hxm, hpos, hc⟩
        · by_cases e : j < i
          · obtain ⟨f, hf, hc'⟩ := i3 j r e hr hpos'
            exact ⟨f, List.mem_append.2 (.inl hf), hc'⟩
          · have : j = i := by omega
            subst this
            rw [hx] at hr; cases hr; exact ⟨f2, by simp, hc⟩
        · by_cases e : j < i
          · exact i4 j r e hr hneg
          · have : j = i := by omega
            subst this
            rw [hx] at hr; cases hr; omega
      · rw [show decide (cf x p.length > 0) = false by simp; omega]
        simp only [cond_false]
        rw [chk_of (show s.2.length + 1 ≤ LIM by unfold LIM; omega)]
        simp only [Option.bind_some]
        refine ⟨_, rfl, i1, fun f hf => ?_, fun j r hj hr hpos' => ?_, fun j r hj hr hneg => ?_, by show s.1.length ≤ i + 1; omega, by simp; omega⟩
        · rcases List.mem_append.1 hf with hf | hf
          · exact i2 f hf
          · simp at hf; subst hf; exact ⟨x, hxm, by omega, hc⟩
        · by_cases e : j < i
          · exact i3 j r e hr hpos'
          · have : j = i := by omega
            subst this
            rw [hx] at hr; cases hr; omega
        · by_cases e : j < i
          · obtain ⟨f, hf, hc'⟩ := i4 j r e hr hneg
            exact ⟨f, List.mem_append.2 (.inl hf), hc'⟩
          · have : j = i := by omega
            subst this
            rw [hx] at hr; cases hr; exact ⟨f2, by simp, hc⟩)
  rw [e]
  simp only [Option.bind_some, Sum.elim_inl]
  have i3' : ∀ r ∈ R, 0 < cf r p.length → ∃ f ∈ ups, cand D X p.length r f := fun r hr => by
    obtain ⟨j, hj, rfl⟩ := List.mem_iff_getElem.1 hr
    exact i3 j _ hj (List.getElem?_eq_getElem hj)
  have i4' : ∀ r ∈ R, cf r p.length < 0 → ∃ f ∈ lows, cand D X p.length r f := fun r hr => by
    obtain ⟨j, hj, rfl⟩ := List.mem_iff_getElem.1 hr
    exact i4 j _ hj (List.getElem?_eq_getElem hj)
  have hi5 : ups.length ≤ R.length := i5
  have hi6 : lows.length ≤ R.length := i6
  by_cases hlo : 0 < lows.length
  · rw [show decide ((lows.length : Int) > 0) = true from decide_eq_true (by omega)]
    simp only [cond_true]
    obtain ⟨m, em, hm, hmax⟩ := max_spec (fu := fu) (l := lows) (fun f hf => by obtain ⟨r, _, _, hc⟩ := i2 f hf; exact hc.b) hlo (by omega) (by omega)
    rw [em]
    obtain ⟨w, hw, hwn, hwc⟩ := i2 m hm
    have hA := rest_bnd hp (hR w hw)
    have hcw := (hR w hw).cb p.length
    refine ⟨m, -(cf w p.length), -(rest D X p.length w), rfl, hwc.ok, by omega, by omega, by omega, ?_, fun r hr => ?_⟩
    · have := hwc.eq
      rw [Int.mul_neg, Int.mul_neg, Int.neg_mul, Int.mul_comm D, this, Int.mul_comm]
    · by_cases hz : cf r p.length = 0
      · rw [hz, Int.zero_mul]
        exact Int.mul_nonneg (by omega) (h0 r hr hz)
      · by_cases hpos : 0 < cf r p.length
        · have := h1 r hr hpos w hw hwn
          rw [Int.mul_neg]; omega
        · have hn : cf r p.length < 0 := by omega
          obtain ⟨f, hf, hc⟩ := i4' r hr hn
          have := cand_cmp hp.d0 hc hwc (Int.mul_pos_of_neg_of_neg hn hwn) (hmax f hf)
          rw [Int.mul_neg, Int.neg_mul, Int.mul_comm (cf r p.length), Int.mul_comm (cf w p.length)]
          omega
  · rw [show decide ((lows.length : Int) > 0) = false from decide_eq_false (by omega)]
    simp only [cond_false]
    have hnolow : ∀ r ∈ R, ¬ cf r p.length < 0 := fun r hr hn => by
      obtain ⟨f, hf, _⟩ := i4' r hr hn
      have := List.length_pos_of_mem hf
      omega
    by_cases hup : 0 < ups.length
    · rw [show decide ((ups.length : Int) > 0) = true from decide_eq_true (by omega)]
      simp only [cond_true]
      obtain ⟨m, em, hm, hmin⟩ := min_spec (fu := fu) (l := ups) (fun f hf => by obtain ⟨r, _, _, hc⟩ := i1 f hf; exact hc.b) hup (by omega) (by omega)
      rw [em]
      obtain ⟨w, hw, hwn, hwc⟩ := i1 m hm
      have hA := rest_bnd hp (hR w hw)
      have hcw := (hR w hw).cb p.length
      refine ⟨m, cf w p.length, rest D X p.length w, rfl, hwc.ok, by omega, by omega, hA, ?_, fun r hr => ?_⟩
      · have := hwc.eq
        rw [Int.mul_comm D, this, Int.mul_comm]
      · by_cases hz : cf r p.length = 0
        · rw [hz, Int.zero_mul]
          exact Int.mul_nonneg (by omega) (h0 r hr hz)
        · have hpos : 0 < cf r p.length := by have := hnolow r hr; omega
          obtain ⟨f, hf, hc⟩ := i3' r hr hpos
          have := cand_cmp hp.d0 hwc hc (Int.mul_pos hwn hpos) (hmin f hf)
          rw [Int.mul_comm (cf r p.length), Int.mul_comm (cf w p.length)]
          omega
    · rw [show decide ((ups.length : Int) > 0) = false from decide_eq_false (by omega)]
      simp only [cond_false]
      have hA : 0 ≤ M * DB + p.length * (C * XB) := by
        have a1 := Int.mul_nonneg hM (show 0 ≤ DB by have := hp.d0; have := hp.dB; omega)
        have a2 := Int.mul_nonneg (show (0 : Int) ≤ C by omega) hX
        have a3 := Int.mul_nonneg (show (0 : Int) ≤ (p.length : Int) by omega) a2
        omega
      refine ⟨⟨0, 1⟩, 1, 0, rfl, ⟨by decide, by decide⟩, by omega, hC, by omega, by simp, fun r hr => ?_⟩
      have hz : cf r p.length = 0 := by
        have a1 := hnolow r hr
        have a2 : ¬ 0 < cf r p.length := fun hpos => by
          obtain ⟨f, hf, _⟩ := i3' r hr hpos
          have := List.length_pos_of_mem hf
          omega
        omega
      have := h0 r hr hz
      rw [hz]; omega
end Go.Proofs.Ytfhddbnacbcppaa.Old
