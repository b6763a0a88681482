import Derived.Test.YtgpioploehgpdaaGreatKPartc
set_option linter.unusedSimpArgs false
set_option linter.unusedVariables false
set_option linter.unnecessarySimpa false
set_option linter.unusedSectionVars false

set_option linter.unusedSimpArgs false
set_option linter.unusedVariables false
namespace Go.PG.PH
variable {G : List Nat}
mutual
def TV.ref (d : Nat) : TV -> Bool
 | .so n _ _ _ _ => Nat.beq n d
 | .sof n _ _ => Nat.beq n d
 | .ep n _ _ _ _ => Nat.beq n d
 | .mo n _ => Nat.beq n d
 | .agg cs => refL d cs
 | .tup cs => refL d cs
 | .pr cs => refL d cs
 | .fn _ cs => refL d cs
 | _ => false
def TV.refL (d : Nat) : List TV -> Bool
 | [] => false
 | c :: cs => match c.ref d with
  | true => true
  | false => refL d cs
end
mutual
theorem ref_v {H H' γ γ' : Nat -> Nat} {d : Nat} (hH : ∀ m, m ≠ d -> H' m = H m) (hγ : ∀ m, m ≠ d -> γ' m = γ m) : ∀ v : TV, v.ref d = false -> v.v H' γ' = v.v H γ
 | .leaf t x, _ => rfl
 | .agg cs, h => by simp only [TV.ref] at h; simp only [TV.v, refL_v hH hγ cs h]
 | .tup cs, h => by simp only [TV.ref] at h; simp only [TV.v, refL_v hH hγ cs h]
 | .pr cs, h => by simp only [TV.ref] at h; simp only [TV.v, refL_v hH hγ cs h]
 | .fn _ cs, h => by simp only [TV.ref] at h; simp only [TV.v, refL_v hH hγ cs h]
 | .nil, _ => rfl | .emp _, _ => rfl | .nilp, _ => rfl | .nilfn, _ => rfl | .nilm, _ => rfl | .dead, _ => rfl
 | .so m _ _ _ _, h => by simp only [TV.ref] at h; simp only [TV.v, hγ m (beq_false.1 h)]
 | .sof m _ _, h => by simp only [TV.ref] at h; simp only [TV.v, hγ m (beq_false.1 h), hH m (beq_false.1 h)]
 | .ep m _ _ _ _, h => by simp only [TV.ref] at h; simp only [TV.v, hγ m (beq_false.1 h)]
 | .mo m _, h => by simp only [TV.ref] at h; simp only [TV.v, hγ m (beq_false.1 h)]
 | .it _, _ => rfl
theorem refL_v {H H' γ γ' : Nat -> Nat} {d : Nat} (hH : ∀ m, m ≠ d -> H' m = H m) (hγ : ∀ m, m ≠ d -> γ' m = γ m) : ∀ cs : List TV, TV.refL d cs = false -> TV.vL H' γ' cs = TV.vL H γ cs
 | [], _ => rfl
 | c :: cs, h => by
  simp only [TV.refL] at h;split at h
  ·cases h
  ·rename_i hc; simp only [TV.vL, ref_v hH hγ c hc, refL_v hH hγ cs h]
end
def TOb.ref (d : Nat) : TOb -> Bool
 | .lst _ _ _ => false
 | .els _ _ _ l => TV.refL d l
 | .mp _ _ _ _ => false
 | .nm _ _ _ _ b => match b.val with
  | some v => v.ref d
  | none => false
 | .nl _ _ _ b => match nlVal b with
  | some v => v.ref d
  | none => false
def srefs (d : Nat) : List (Nat × Nat × TV) -> Bool
 | [] => false
 | (_, _, v) :: r => match v.ref d with
  | true => true
  | false => srefs d r
def orefs (d : Nat) : List (Nat × Nat × TOb) -> Bool
 | [] => false
 | (_, _, v) :: r => match v.ref d with
  | true => true
  | false => orefs d r
theorem srefs_mem {d : Nat} : ∀ {s : List (Nat × Nat × TV)}, srefs d s = false -> ∀ x ∈ s, x.2.2.ref d = false
 | [], _, x, hx => by cases hx
 | (i, c, v) :: r, h, x, hx => by
  simp only [srefs] at h;split at h
  ·cases h
  ·rename_i hv;rcases List.mem_cons.1 hx with rfl | hx
   ·exact hv
   ·exact srefs_mem h x hx
theorem orefs_mem {d : Nat} : ∀ {s : List (Nat × Nat × TOb)}, orefs d s = false -> ∀ x ∈ s, x.2.2.ref d = false
 | [], _, x, hx => by cases hx
 | (i, c, v) :: r, h, x, hx => by
  simp only [orefs] at h;split at h
  ·cases h
  ·rename_i hv;rcases List.mem_cons.1 hx with rfl | hx
   ·exact hv
   ·exact orefs_mem h x hx
def TE.fresh (E : TE) (d : Nat) : Bool := match oget E.h d with
 | some _ => false
 | none => match srefs d E.s with
  | true => false
  | false => match orefs d E.h with
   | true => false
   | false => Nat.blt d 1000
def γ0 (γ : Nat -> Nat) (d : Nat) : Nat -> Nat := fun m => if m = d then 0 else γ m
theorem fresh_lt {E : TE} {d : Nat} (h : E.fresh d = true) : d < 1000 := by
 unfold TE.fresh at h;split at h
 ·cases h
 ·split at h
  ·cases h
  ·split at h
   ·cases h
   ·simpa [Nat.blt_eq] using h
theorem fx_fresh {E : TE} {d : Nat} {γ : Nat -> Nat} (h : E.fresh d = true) : Fx γ (γ0 γ d) := fun n hn => by
 have := fresh_lt h;unfold γ0;rw [if_neg (by omega)]
theorem oget_none_mem {d : Nat} : ∀ {s : List (Nat × Nat × TOb)}, oget s d = none -> ∀ x ∈ s, x.1 ≠ d
 | [], _, x, hx => by cases hx
 | (i, c, v) :: r, h, x, hx => by
  simp only [oget] at h;split at h
  ·cases h
  ·rename_i hi;rcases List.mem_cons.1 hx with rfl | hx
   ·exact fun e => beq_false.1 hi e.symm
   ·exact oget_none_mem h x hx
theorem env_fresh {E : TE} {n d : Nat} {γ : Nat -> Nat} {x : TOb} (hf : E.fresh d = true) :
  (E.oput d x).env n (γ0 γ d) = SE n (E.slots γ) (hset (E.heap γ) d (x.ob (olen (E.oput d x).h) (γ0 γ d) d)) := by
 unfold TE.fresh at hf
 split at hf
 ·cases hf
 ·rename_i hn;split at hf
  ·cases hf
  ·rename_i hs;have ho : orefs d E.h = false := by
    cases e : orefs d E.h with
    | false => rfl
    | true => rw [e] at hf; cases hf
   have hH : ∀ m, m ≠ d -> olen (E.oput d x).h m = olen E.h m := fun m hm => by
    unfold TE.oput; rw [olen_oset, if_neg hm]
   have hγ : ∀ m, m ≠ d -> γ0 γ d m = γ m := fun m hm => by unfold γ0; rw [if_neg hm]
   unfold TE.env;congr 1
   ·unfold TE.slots;apply List.map_congr_left;intro y hy;simp only [Prod.mk.injEq, true_and];exact ref_v hH hγ _ (srefs_mem hs y hy)
   ·unfold TE.heap;rw [show (E.oput d x).h.map (fun y => (y.1, y.2.2.ob (olen (E.oput d x).h) (γ0 γ d) y.1)) = (oset E.h d E.c x).map (fun y => (y.1, y.2.2.ob (olen (E.oput d x).h) (γ0 γ d) y.1)) from rfl, hset_obs];congr 1;apply List.map_congr_left;intro y hy;simp only [Prod.mk.injEq, true_and];have h1 := orefs_mem ho y hy;have h2 := oget_none_mem hn y hy;obtain ⟨a, b, z⟩ := y;cases z with
    | lst g t l => simp only [TOb.ob]; rw [hγ _ h2]
    | els g p sz l => simp only [TOb.ob]; rw [hγ _ h2, refL_v hH hγ l h1]
    | mp g k v l => simp only [TOb.ob]; rw [hγ _ h2]
    | nm g k u l b =>
     simp only [TOb.ref] at h1;simp only [TOb.ob];exact nmOb_congr (by rw [hγ _ h2]) fun v hv => ref_v hH hγ v (by rw [hv] at h1; exact h1)
    | nl g u l b =>
     simp only [TOb.ref] at h1;simp only [TOb.ob];exact nlOb_congr (by rw [hγ _ h2]) fun v hv => ref_v hH hγ v (by rw [hv] at h1; exact h1)
theorem stp_new {P : Program} {ops : Array Oper} {n d : Nat} {o : Oper} {E : TE} {x : TOb} {tv : TV} (hd : o.dst = some d) (hf : E.fresh d = true) (hc : isCall o = false)
  (h : ∀ γ, ∃ v0 ob0, eff P o (dstD o) (E.env n γ) = some (v0, [(d, ob0)]) /\ VUp v0 (tv.v (olen (E.oput d x).h) (γ0 γ d)) /\ ObUp ob0 (x.ob (olen (E.oput d x).h) (γ0 γ d) d)) :
  Stp P G ops n o E ((E.oput d x).put (some d) tv) [d] [] := by
 rw [<- hd]
 refine stp_of (ext_oput _ _ _) (fun h => h) (fun γ => ?_) hc
 obtain ⟨v0, ob0, h1, h2, h3⟩ := h γ
 exact ⟨γ0 γ d, v0, _, [(d, x.ob (olen (E.oput d x).h) (γ0 γ d) d)], h1, h2, ⟨rfl, h3, trivial⟩, rfl, env_fresh hf, fx_fresh hf⟩
theorem fresh_none {E : TE} {d : Nat} {γ : Nat -> Nat} (hf : E.fresh d = true) : hget (E.heap γ) d = none := by
 unfold TE.fresh at hf;split at hf
 ·cases hf
 ·rename_i hn; rw [hget_heap, hn]; rfl
def CellsC (x x' : V) : Prop := x'.cells.length = x.cells.length /\ ∀ (j : Nat) (c c' : V), x.cells[j]? = some c -> x'.cells[j]? = some c' -> ConvP c c'
theorem cellsC_enc (t : Ty) (x : t.D) : CellsC (t.enc x) (t.enc x) := by
 refine ⟨rfl, fun j c c' h1 h2 => ?_⟩;rw [h1] at h2; cases h2;rw [enc_cells] at h1;intro w st m hr;have hcell := cells_cell t x c (List.mem_of_getElem? h1);exact hr.shut (by cases c <;> simp [cellV] at hcell <;> rfl)
theorem ob_up {g sz : Nat} {p : Bool} {l l' : List V} (h1 : l'.length = l.length) (hf : ∀ x ∈ l', x.idfree = true /\ x.cells.length = sz) (hx : ∀ (i : Nat) (x x' : V), l[i]? = some x -> l'[i]? = some x' -> CellsC x x') :
  ObUp (.arr g p sz l) (.arr g true sz l') := by
 refine ⟨rfl, fun w st n ho => ?_⟩
 obtain ⟨a1, a2, a3, a4⟩ := ho
 refine ⟨by omega, fun x hx => (hf x hx).2, fun _ x hx => (hf x hx).1, ?_⟩
 rcases a4 with ⟨e0, hno⟩ | ⟨b, o, cells, ty, hb, hc, hR⟩
 ·left;subst e0;exact ⟨List.eq_nil_of_length_eq_zero (by simpa using h1), hno⟩
 ·refine .inr ⟨b, o, cells, ty, hb, hc, fun i j x' c' hi hj => ?_⟩;have hi' : i < l.length := by rw [<- h1]; exact (List.getElem?_eq_some_iff.1 hi).1
  have hv := List.getElem?_eq_getElem hi';obtain ⟨e1, e2⟩ := hx i l[i] x' hv hi;have hj' : j < l[i].cells.length := by rw [<- e1]; exact (List.getElem?_eq_some_iff.1 hj).1
  have hcj := List.getElem?_eq_getElem hj';obtain ⟨r1, r2, r3⟩ := hR i j _ _ hv hcj;exact ⟨r1, r2, .s (e2 j _ c' hcj hj w st _ r3)⟩
theorem encs_ok {t : Ty} (l : List t.D) : ∀ x ∈ l.map t.enc, x.idfree = true /\ x.cells.length = t.size := fun x hx => by
 obtain ⟨z, _, rfl⟩ := List.mem_map.1 hx;exact ⟨enc_free t z, by rw [enc_cells, cells_len]⟩
def tallocK {R : Type} (P : Program) (o : Oper) (E : TE) (t : Nat) (k : K R) : Option R :=
 match tab P t, o.dst with
 | some i, some d => match E.fresh d, ofV i.zero with
  | true, some z => match z.ref d with
   | true => none
   | false => k [d] [] ((E.oput d (.els 0 true i.size [z])).put (some d) (.ep d 0 i.size 0 0))
  | _, _ => none
 | _, _ => none
theorem tallocK_ok {R : Type} {P : Program} {ops : Array Oper} {n : Nat} {o : Oper} {E : TE} {t : Nat} {k : K R} {r : R} (ho : o.op = .alloc t)
  (h : tallocK P o E t k = some r) : ∃ E' wk rd, k wk rd E' = some r /\ Stp P G ops n o E E' wk rd := by
 unfold tallocK at h
 split at h
 ·rename_i i d hi hd;split at h
  ·rename_i z hf hz;split at h
   ·cases h
   ·rename_i hzr;refine ⟨_, _, _, h, stp_new hd hf (nocall ho rfl) fun γ => ⟨.ep d 0 i.size 0 0, .arr 0 true i.size [i.zero], ?_, ?_, ?_⟩⟩
    ·unfold eff;simp only [ho, hd, dstD, env_h];unfold effAlloc;simp only [hi, fresh_none hf]
    ·simp only [TV.v, γ0, if_true]; exact VUp.refl _
    ·simp only [TOb.ob, γ0, if_true, TV.vL, ofV_v hz]; exact ObUp.refl _
  ·cases h
 ·cases h
def tboxK {R : Type} (P : Program) (o : Oper) (E : TE) (t : Nat) (x : TV) (k : K R) : Option R :=
 match tab P t, o.dst with
 | some i, some d => match E.fresh d, x.ref d, Nat.beq x.cells.length i.size, x.okv with
  | true, false, true, true => k [d] [] ((E.oput d (.els 0 x.free i.size [x])).put (some d) (.ep d 0 i.size 0 0))
  | _, _, _, _ => none
 | _, _ => none
theorem new_refs {E : TE} {d : Nat} {γ : Nat -> Nat} {x : TOb} : (∀ m, m ≠ d -> olen (E.oput d x).h m = olen E.h m) /\ ∀ m, m ≠ d -> γ0 γ d m = γ m :=
 ⟨fun m hm => by unfold TE.oput; rw [olen_oset, if_neg hm], fun m hm => by unfold γ0; rw [if_neg hm]⟩
theorem tboxK_ok {R : Type} {P : Program} {ops : Array Oper} {n : Nat} {o : Oper} {E : TE} {t : Nat} {x : Operand} {k : K R} {r : R} (ho : o.op = .box t x)
  (h : tboxK P o E t (tev E n x) k = some r) : ∃ E' wk rd, k wk rd E' = some r /\ Stp P G ops n o E E' wk rd := by
 unfold tboxK at h
 split at h
 ·rename_i i d hi hd;split at h
  ·rename_i hf hr hl hk;refine ⟨_, _, _, h, stp_new hd hf (nocall ho rfl) fun γ => ⟨.ep d 0 i.size 0 0, .arr 0 (tev E n x).free i.size [(tev E n x).v (olen E.h) γ], ?_, ?_, ?_⟩⟩
   ·unfold eff;simp only [ho, hd, dstD, env_h, tev_v];unfold effBox;simp only [hi, fresh_none hf];rw [if_pos ⟨by rw [tv_cells_len]; exact beqs hl, by rw [okv_v]; exact hk⟩, free_v]
   ·simp only [TV.v, γ0, if_true]; exact VUp.refl _
   ·obtain ⟨h1, h2⟩ := new_refs (E := E) (d := d) (γ := γ) (x := .els 0 (tev E n x).free i.size [tev E n x]);simp only [TOb.ob, TV.vL];rw [ref_v h1 h2 _ hr];simp only [γ0, if_true];exact ObUp.refl _
  ·cases h
 ·cases h
def tlistFill (r : Operand -> TV) (sz : Nat) : List (Nat × Operand) -> List TV -> Option (List TV)
 | [], l => some l
 | (k, x) :: rest, l => match Nat.blt k l.length, Nat.beq (r x).cells.length sz, (r x).okv with
  | true, true, true => tlistFill r sz rest (l.set k (r x))
  | _, _, _ => none
theorem tlistFill_v {H γ : Nat -> Nat} {r : Operand -> TV} {sz : Nat} : ∀ (ps : List (Nat × Operand)) (l l' : List TV), tlistFill r sz ps l = some l' ->
  listFill (fun x => (r x).v H γ) sz ps (l.map (TV.v H γ)) = some (l'.map (TV.v H γ)) /\ l'.length = l.length
 | [], l, l', h => by simp only [tlistFill] at h; cases h; exact ⟨rfl, rfl⟩
 | (k, x) :: rest, l, l', h => by
  simp only [tlistFill] at h;split at h
  ·rename_i h1 h2 h3;obtain ⟨g1, g2⟩ := tlistFill_v (H := H) (γ := γ) rest _ l' h;simp only [listFill];have hb : k < l.length := by simpa [Nat.blt_eq] using h1
   rw [if_pos ⟨by simpa using hb, by rw [tv_cells_len]; exact beqs h2, by rw [okv_v]; exact h3⟩, <- List.map_set];exact ⟨g1, by rw [g2]; simp⟩
  ·cases h
def tbsK {R : Type} (P : Program) (n : Nat) (o : Oper) (E : TE) (t len : Nat) (ps : Array (Nat × Operand)) (k : K R) : Option R :=
 match tab P t, o.dst with
 | some i, some d => match i.kind with
  | .slice e => match tab P e with
   | none => none
   | some ei => match Nat.ble (len * ei.size) 16777216, Nat.ble len LIM, E.fresh d, ofV ei.zero with
    | true, true, true, some z => match tlistFill (tev E n) ei.size ps.toList (List.replicate len z) with
     | some l => match TV.refL d l with
      | true => none
      | false => k [d] [] ((E.oput d (.els 0 (TV.freeL l) ei.size l)).put (some d) (.sof d 0 ei.size))
     | none => none
    | _, _, _, _ => none
  | _ => none
 | _, _ => none
theorem tbsK_ok {R : Type} {P : Program} {ops : Array Oper} {n : Nat} {o : Oper} {E : TE} {t len : Nat} {ps : Array (Nat × Operand)} {k : K R} {r : R} (ho : o.op = .buildSlice t len ps)
  (h : tbsK P n o E t len ps k = some r) : ∃ E' wk rd, k wk rd E' = some r /\ Stp P G ops n o E E' wk rd := by
 unfold tbsK at h
 split at h
 ·rename_i i d hi hd;split at h
  ·rename_i e hk;split at h
   ·cases h
   ·rename_i ei hei;split at h
    ·rename_i z h1 h2 hf hz;split at h
     ·rename_i l hl;split at h
      ·cases h
      ·rename_i hr;refine ⟨_, _, _, h, stp_new hd hf (nocall ho rfl) fun γ => ⟨.so d 0 ei.size 0 len, .arr 0 (TV.freeL l) ei.size (TV.vL (olen E.h) γ l), ?_, ?_, ?_⟩⟩
       ·obtain ⟨g1, g2⟩ := tlistFill_v (H := olen E.h) (γ := γ) _ _ _ hl;unfold eff;simp only [ho, hd, dstD, env_h];have hev : (E.env n γ).ev = fun x => (tev E n x).v (olen E.h) γ := by funext x; exact tev_v E n γ x
        rw [hev];unfold effBuildSlice;simp only [hi, hk, hei, fresh_none hf];rw [if_pos ⟨Nat.le_of_ble_eq_true h1, Nat.le_of_ble_eq_true h2⟩];rw [List.map_replicate, ofV_v hz] at g1;simp only [g1];rw [<- vL_map, freeL_v]
       ·have : l.length = len := by rw [(tlistFill_v (H := olen E.h) (γ := γ) _ _ _ hl).2]; simp
        simp only [TV.v, γ0, if_true, TE.oput, olen_oset, TOb.len, this];exact VUp.refl _
       ·obtain ⟨q1, q2⟩ := new_refs (E := E) (d := d) (γ := γ) (x := .els 0 (TV.freeL l) ei.size l);simp only [TOb.ob];rw [refL_v q1 q2 _ hr];simp only [γ0, if_true];exact ObUp.refl _
     ·cases h
    ·cases h
  ·cases h
 ·cases h
def tyFs (rec : Nat -> Option Ty) : List (Nat × Nat) -> Option Ty
 | [] => some .unit
 | [f] => rec f.2
 | f :: g :: r => match rec f.2 with
  | none => none
  | some a => match tyFs rec (g :: r) with
   | none => none
   | some b => some (.pair a b)
def tyRep (a : Ty) : Nat -> Ty
 | 0 => a
 | n + 1 => .pair a (tyRep a n)
def tyArr (a : Ty) : Nat -> Ty
 | 0 => .unit
 | 1 => .box a
 | n + 2 => .pair a (tyRep a n)
def tyOf (P : Program) : Nat -> Nat -> Option Ty
 | 0, _ => none
 | m + 1, t => match tab P t with
  | none => none
  | some i => match i.kind with
   | .int k => some (.int k)
   | .bool => some .bool
   | .str => some .str
   | .slice e => match tyOf P m e with
    | some a => some (.list a)
    | none => none
   | .struct [f] => match tyOf P m f.2 with
    | some a => some (.box a)
    | none => none
   | .struct fs => tyFs (tyOf P m) fs
   | .map k e => match tyOf P m k, tyOf P m e with
    | some a, some b => some (.map a b)
    | _, _ => none
   | .array n e => match tyOf P m e with
    | some a => some (tyArr a n)
    | none => none
   | _ => none
def tmakeK {R : Type} (P : Program) (o : Oper) (E : TE) (t : Nat) (a b : TV) (k : K R) : Option R :=
 match tab P t, o.dst with
 | some i, some d => match i.kind, a, b with
  | .slice e, .leaf (.int _) x, .leaf (.int _) y => match tab P e, tyOf P 8 e with
   | some ei, some et => match E.fresh d, ofV ei.zero with
    | true, some z => match toD lf0 et z, Nat.beq et.size ei.size with
     | some (z', []), true => (chk (0 <= (x : Int) /\ (x : Int) <= (y : Int) /\ (y : Int) <= (LIM : Nat))).bind fun _ =>
      k [d] [] ((E.oput d (.lst 0 et (List.replicate (Int.toNat x) z'))).put (some d) (.sof d 0 ei.size))
     | _, _ => none
    | _, _ => none
   | _, _ => none
  | _, _, _ => none
 | _, _ => none
theorem tmakeK_ok {R : Type} {P : Program} {ops : Array Oper} {n : Nat} {o : Oper} {E : TE} {t : Nat} {x y : Operand} {k : K R} {r : R} (ho : o.op = .makeSlice t x y)
  (h : tmakeK P o E t (tev E n x) (tev E n y) k = some r) : ∃ E' wk rd, k wk rd E' = some r /\ Stp P G ops n o E E' wk rd := by
 unfold tmakeK at h
 split at h
 ·rename_i i d hi hd;split at h
  ·rename_i e ki a kj b hk ha hb;split at h
   ·rename_i ei et hei het;split at h
    ·rename_i z hf hz;split at h
     ·rename_i z' hz' hsz;obtain ⟨_, h1, h2⟩ := bind_some' h;obtain ⟨c1, c2, c3⟩ := chk_some h1;refine ⟨_, _, _, h2, stp_new hd hf (nocall ho rfl) fun γ => ⟨.so d 0 ei.size 0 (Int.toNat a), .arr 0 true ei.size (List.replicate (Int.toNat a) ei.zero), ?_, ?_, ?_⟩⟩
      ·unfold eff;simp only [ho, hd, dstD, env_h, tev_v, ha, hb];unfold effMake;simp only [hi, hk, hei, fresh_none hf, leaf_int_v];rw [if_pos ⟨c1, c2, c3⟩]
      ·simp only [TV.v, γ0, if_true, TE.oput, olen_oset, TOb.len, List.length_replicate];exact VUp.refl _
      ·simp only [TOb.ob, γ0, if_true, beqs hsz];refine ob_up (by simp) (fun x hx => by rw [<- beqs hsz]; exact encs_ok _ x hx) fun i x x' hx hx' => ?_
       have e1 := (List.mem_replicate.1 (List.mem_of_getElem? hx)).2;have e2 := List.mem_of_getElem? hx';rw [List.map_replicate] at e2;have e3 := (List.mem_replicate.1 e2).2;rw [e1, e3, <- ofV_v hz z0 z0];exact toD0_cells hz' (by simp) z0 z0
     ·cases h
    ·cases h
   ·cases h
  ·cases h
 ·cases h
end Go.PG.PH
set_option linter.unusedSimpArgs false
set_option linter.unusedVariables false
namespace Go.PG.PH
variable {G : List Nat}
def ksOf : Ty -> Option (List TK)
 | .int k => some [.int k]
 | .bool => some [.bool]
 | .str => some [.str]
 | .unit => some []
 | .box a => ksOf a
 | .pair a b => match ksOf a, ksOf b with
  | some x, some y => some (x ++ y)
  | _, _ => none
 | .list _ => none
 | .map _ _ => none
def sameTK : List TK -> List TK -> Bool
 | [], [] => true
 | .int j :: r, .int k :: s => match decide (j = k) with
  | true => sameTK r s
  | false => false
 | .bool :: r, .bool :: s => sameTK r s
 | .str :: r, .str :: s => sameTK r s
 | _, _ => false
theorem sameTK_eq : ∀ {a b : List TK}, sameTK a b = true -> a = b
 | [], [], _ => rfl
 | a :: r, b :: s, h => by
  unfold sameTK at h;split at h
  ·rename_i e1 e2; cases e1
  ·rename_i e1 e2;cases e1; cases e2;split at h
   ·rename_i hd;rw [of_decide_eq_true hd, sameTK_eq h]
   ·cases h
  ·rename_i e1 e2; cases e1; cases e2; rw [sameTK_eq h]
  ·rename_i e1 e2; cases e1; cases e2; rw [sameTK_eq h]
  ·cases h
 | [], _ :: _, h => by simp [sameTK] at h
 | _ :: _, [], h => by simp [sameTK] at h
theorem eqKs_app : ∀ (l1 : List TK) {l2 : List TK} {a1 a2 b1 b2 : List V} {p q : Bool}, eqKs l1 a1 b1 = some p -> eqKs l2 a2 b2 = some q -> eqKs (l1 ++ l2) (a1 ++ a2) (b1 ++ b2) = some (p && q)
 | [], l2, a1, a2, b1, b2, p, q, h1, h2 => by
  have : a1 = [] /\ b1 = [] /\ p = true := by cases a1 <;> cases b1 <;> simp [eqKs] at h1 ⊢; exact h1
  obtain ⟨rfl, rfl, rfl⟩ := this;simpa using h2
 | k :: l1, l2, a1, a2, b1, b2, p, q, h1, h2 => by
  unfold eqKs at h1;split at h1
  ·rename_i e; cases e
  ·rename_i k' ks a x cs b y ds e;cases e;split at h1
   ·rename_i hc;simp only [Option.map_eq_some_iff] at h1;obtain ⟨r, hr, rfl⟩ := h1;have := eqKs_app l1 hr h2;simp only [List.cons_append, eqKs, if_pos hc, this, Option.map_some, Bool.and_assoc]
   ·cases h1
  ·rename_i ks x cs y ds e;cases e;simp only [Option.map_eq_some_iff] at h1;obtain ⟨r, hr, rfl⟩ := h1;have := eqKs_app l1 hr h2;simp only [List.cons_append, eqKs, this, Option.map_some, Bool.and_assoc]
  ·rename_i ks x cs y ds e;cases e;simp only [Option.map_eq_some_iff] at h1;obtain ⟨r, hr, rfl⟩ := h1;have := eqKs_app l1 hr h2;simp only [List.cons_append, eqKs, this, Option.map_some, Bool.and_assoc]
  ·cases h1
theorem beq_ks : ∀ (t : Ty) (l : List TK), ksOf t = some l -> ∀ x y : t.D, eqKs l (t.cells x) (t.cells y) = some (t.beq x y)
 | .int k, l, h, x, y => by cases h; simp [Ty.cells, eqKs, Ty.beq]
 | .bool, l, h, x, y => by cases h; simp [Ty.cells, eqKs, Ty.beq]
 | .str, l, h, x, y => by cases h; simp [Ty.cells, eqKs, Ty.beq]
 | .unit, l, h, x, y => by cases h; rfl
 | .box a, l, h, x, y => by simp only [ksOf] at h; exact beq_ks a l h x y
 | .pair a b, l, h, x, y => by
  simp only [ksOf] at h;split at h
  ·rename_i p q hp hq;cases h;exact eqKs_app p (beq_ks a p hp x.1 y.1) (beq_ks b q hq x.2 y.2)
  ·cases h
 | .list _, l, h, _, _ => by cases h
 | .map _ _, l, h, _, _ => by cases h
theorem ks_len : ∀ (t : Ty) (l : List TK), ksOf t = some l -> l.length = t.size
 | .int _, l, h => by cases h; rfl
 | .bool, l, h => by cases h; rfl
 | .str, l, h => by cases h; rfl
 | .unit, l, h => by cases h; rfl
 | .box a, l, h => ks_len a l h
 | .pair a b, l, h => by
  simp only [ksOf] at h;split at h
  ·rename_i p q hp hq;cases h;simp only [List.length_append, ks_len a p hp, ks_len b q hq, Ty.size]
  ·cases h
 | .list _, l, h => by cases h
 | .map _ _, l, h => by cases h
theorem asA_enc {t : Ty} {l : List TK} (h : ksOf t = some l) (x : t.D) : asA t.isA (t.enc x) = true := by
 cases t <;> first | rfl | cases h
theorem mfind_enc {kt : Ty} {l : List TK} (h : ksOf kt = some l) {A : Type} (x : kt.D) : ∀ m : List (kt.D × A), mfind kt.isA l (kt.cells x) (m.map fun p => kt.enc p.1) = some (mix kt.beq x m)
 | [] => rfl
 | (a, b) :: r => by
  simp only [List.map_cons, mfind, asA_enc h, enc_cells, beq_ks kt l h, mix];cases kt.beq x a with
  | true => rfl
  | false =>
   simp only [mfind_enc h x r];cases mix kt.beq x r <;> rfl
theorem lf0_leaf {t : Ty} (hl : ∀ u, t ≠ .list u) (hm : ∀ k v, t ≠ .map k v) {c : TV} {x : t.D} {p : List Bool} (h : lf0 t c = some (x, p)) : ∃ (t' : Ty) (y : t'.D), c = .leaf t' y /\ castD t' t y = some x := by
 unfold lf0 at h;split at h
 ·split at h
  ·cases h
  ·rename_i z hz; cases h; exact ⟨_, _, rfl, hz⟩
 ·exact absurd rfl (hl _)
 ·exact absurd rfl (hl _)
 ·exact absurd rfl (hm _ _)
 ·cases h
theorem fill_key {H γ : Nat -> Nat} : ∀ (t : Ty) (l : List TK), ksOf t = some l -> ∀ (cs r : List TV) (x : t.D) (p : List Bool), fill lf0 t cs = some (x, p, r) -> cs.map (TV.v H γ) = t.cells x ++ r.map (TV.v H γ)
 | .unit, l, _, cs, r, x, p, h => by simp only [fill] at h; cases h; rfl
 | .box a, l, hk, cs, r, x, p, h => by simp only [fill] at h; exact fill_key a l hk cs r x p h
 | .pair a b, l, hk, cs, r, x, p, h => by
  simp only [ksOf] at hk;split at hk
  ·rename_i u v hu hv;simp only [fill] at h;split at h
   ·cases h
   ·rename_i x1 p1 l1 h1;split at h
    ·cases h
    ·rename_i y q l2 h2;cases h;rw [fill_key a u hu cs l1 x1 p1 h1, fill_key b v hv l1 r y q h2];simp only [Ty.cells, List.append_assoc]
  ·cases hk
 | .int k, l, _, cs, r, x, p, h => by
  cases cs with
  | nil => simp [fill] at h
  | cons c cs =>
   simp only [fill] at h;split at h
   ·cases h
   ·rename_i y q hy;cases h;obtain ⟨t', z, rfl, hz⟩ := lf0_leaf (by intro u e; cases e) (by intro u v e; cases e) hy;simp only [List.map_cons, TV.v, <- castD_enc hz]; rfl
 | .bool, l, _, cs, r, x, p, h => by
  cases cs with
  | nil => simp [fill] at h
  | cons c cs =>
   simp only [fill] at h;split at h
   ·cases h
   ·rename_i y q hy;cases h;obtain ⟨t', z, rfl, hz⟩ := lf0_leaf (by intro u e; cases e) (by intro u v e; cases e) hy;simp only [List.map_cons, TV.v, <- castD_enc hz]; rfl
 | .str, l, _, cs, r, x, p, h => by
  cases cs with
  | nil => simp [fill] at h
  | cons c cs =>
   simp only [fill] at h;split at h
   ·cases h
   ·rename_i y q hy;cases h;obtain ⟨t', z, rfl, hz⟩ := lf0_leaf (by intro u e; cases e) (by intro u v e; cases e) hy;simp only [List.map_cons, TV.v, <- castD_enc hz]; rfl
 | .list _, l, hk, _, _, _, _, _ => by cases hk
 | .map _ _, l, hk, _, _, _, _, _ => by cases hk
theorem key_v {H γ : Nat -> Nat} {t : Ty} {l : List TK} (hk : ksOf t = some l) {v : TV} {x : t.D} {p : List Bool} (h : toD lf0 t v = some (x, p)) : v.v H γ = t.enc x := by
 cases v with
 | leaf t' y =>
  simp only [toD] at h;split at h
  ·cases h
  ·rename_i z hz; cases h; simp only [TV.v]; exact (castD_enc hz).symm
 | agg cs =>
  simp only [toD] at h;split at h
  ·rename_i hA;split at h
   ·rename_i y q hf;cases h;have := fill_key (H := H) (γ := γ) t l hk cs [] x p hf;rw [enc_agg hA];simp only [TV.v, vL_map, this, List.map_nil, List.append_nil]
   ·cases h
  ·cases h
 | _ =>
  simp only [toD] at h;cases t <;> simp [Ty.isA, ksOf] at hk h <;> simp [lf0] at h
structure MT where
 kt : Ty
 vt : Ty
 z : vt.D
def mapTy (P : Program) (t : Nat) : Option MT :=
 match mapT P t, tab P t with
 | some (_, ki, l, ei), some i => match i.kind with
  | .map kk ee => match tyOf P 8 kk, tyOf P 8 ee, ofV ei.zero with
   | some kt, some vt, some z => match ksOf kt, toD lf0 vt z with
    | some l', some (z', []) => match sameTK l' l, ki.isA, kt.isA with
     | true, true, true => some ⟨kt, vt, z'⟩
     | true, false, false => some ⟨kt, vt, z'⟩
     | _, _, _ => none
    | _, _ => none
   | _, _, _ => none
  | _ => none
 | _, _ => none
theorem mapTy_ok {P : Program} {t : Nat} {m : MT} (h : mapTy P t = some m) : ∃ kk ki l ei, mapT P t = some (kk, ki, l, ei) /\ ksOf m.kt = some l /\ ki.isA = m.kt.isA /\ VUp ei.zero (m.vt.enc m.z) := by
 unfold mapTy at h;split at h
 ·rename_i kk ki l ei i hm hi;split at h
  ·split at h
   ·rename_i kt vt z _ _ hz;split at h
    ·rename_i l' z' hl hz';have hs : ∀ m', m' = (⟨kt, vt, z'⟩ : MT) -> sameTK l' l = true -> ki.isA = kt.isA -> ∃ kk' ki' l'' ei', mapT P t = some (kk', ki', l'', ei') /\ ksOf m'.kt = some l'' /\ ki'.isA = m'.kt.isA /\ VUp ei'.zero (m'.vt.enc m'.z) := by
      rintro m' rfl h1 h2;refine ⟨kk, ki, l, ei, hm, by rw [<- sameTK_eq h1]; exact hl, h2, ?_⟩;rw [<- ofV_v hz z0 z0];exact toD0_up hz' (by simp) z0 z0
     split at h
     ·rename_i h1 h2 h3; cases h; exact hs _ rfl h1 (by rw [h2, h3])
     ·rename_i h1 h2 h3; cases h; exact hs _ rfl h1 (by rw [h2, h3])
     ·cases h
    ·cases h
   ·cases h
  ·cases h
 ·cases h
def mcont (E : TE) (kt vt : Ty) : TV -> Option (List (kt.D × vt.D))
 | .mo n g => match oget E.h n with
  | some (.mp g' k' v' l) => match Nat.beq g' g with
   | true => castD (.map k' v') (.map kt vt) l
   | false => none
  | _ => none
 | .leaf t x => castD t (.map kt vt) x
 | .nilm => some []
 | _ => none
theorem mcont_v {E : TE} {γ : Nat -> Nat} {kt vt : Ty} {a : TV} {l : List (kt.D × vt.D)} (h : mcont E kt vt a = some l) : mpOf (E.heap γ) (a.v (olen E.h) γ) = some (l.map fun p => kt.enc p.1, l.map fun p => vt.enc p.2) := by
 unfold mcont at h;split at h
 ·rename_i n g;split at h
  ·rename_i g' k' v' l' ho;split at h
   ·rename_i hg;obtain ⟨e, rfl⟩ := castD_some h;injection e with e1 e2; subst e1 e2
    simp only [TV.v, mpOf, hget_heap, ho, Option.map_some, TOb.ob];rw [if_pos (by rw [beqs hg])]
   ·cases h
  ·cases h
 ·rename_i t x;have := castD_enc h;simp only [TV.v];rw [<- this];rfl
 ·cases h; rfl
 ·cases h
theorem vup_tup {a b c d : V} (h1 : VUp a c) (h2 : VUp b d) : VUp (.tup [a, b]) (.tup [c, d]) := by
 intro w st m hr;obtain ⟨vs, rfl, hl, hv⟩ := rep_tup hr;refine .tup (by simpa using hl) fun j e v h3 h4 => ?_
 match j with
 | 0 => simp at h3; subst h3; exact h1 _ _ _ (hv 0 a v rfl h4)
 | 1 => simp at h3; subst h3; exact h2 _ _ _ (hv 1 b v rfl h4)
 | j + 2 => simp at h3
def tlookupK {R : Type} (P : Program) (n : Nat) (o : Oper) (E : TE) (t : Nat) (a ix : TV) (ok : Bool) (k : K R) : Option R :=
 match mapTy P t with
 | none => none
 | some m => match mcont E m.kt m.vt a, toD lf0 m.kt ix with
  | some l, some (x, _) => match ok with
   | true => k [] [] (E.put o.dst (.tup [.leaf m.vt ((mget m.kt.beq x l).getD m.z), .leaf .bool (mget m.kt.beq x l).isSome]))
   | false => k [] [] (E.put o.dst (.leaf m.vt ((mget m.kt.beq x l).getD m.z)))
  | _, _ => none
theorem tlookupK_ok {R : Type} {P : Program} {ops : Array Oper} {n : Nat} {o : Oper} {E : TE} {t : Nat} {a x : Operand} {ok : Bool} {k : K R} {r : R} (ho : o.op = .lookup t a x ok)
  (h : tlookupK P n o E t (tev E n a) (tev E n x) ok k = some r) : ∃ E' wk rd, k wk rd E' = some r /\ Stp P G ops n o E E' wk rd := by
 unfold tlookupK at h
 split at h
 ·cases h
 ·rename_i m hm;obtain ⟨kk, ki, l, ei, hmt, hks, hA, hz⟩ := mapTy_ok hm;split at h
  ·rename_i ml y p hc hy;have main : ∀ γ, ∃ v0, effLookup P t ((tev E n a).v (olen E.h) γ) ((tev E n x).v (olen E.h) γ) ok (E.heap γ) = some v0 /\
     VUp v0 (if ok then .tup [m.vt.enc ((mget m.kt.beq y ml).getD m.z), .bool (mget m.kt.beq y ml).isSome] else m.vt.enc ((mget m.kt.beq y ml).getD m.z)) := by
    intro γ
    have hkv := key_v (H := olen E.h) (γ := γ) hks hy
    have hf := mfind_enc hks y ml
    have hv : VUp (((mix m.kt.beq y ml).bind fun j => (ml.map fun p => m.vt.enc p.2)[j]?).getD ei.zero) (m.vt.enc ((mget m.kt.beq y ml).getD m.z)) := by
     rw [mget_mix];cases hj : mix m.kt.beq y ml with
     | none => exact hz
     | some j =>
      simp only [Option.bind_some, List.getElem?_map];cases ml[j]? with
      | none => exact hz
      | some q => exact VUp.refl _
    refine ⟨if ok then .tup [((mix m.kt.beq y ml).bind fun j => (ml.map fun p => m.vt.enc p.2)[j]?).getD ei.zero, .bool (mix m.kt.beq y ml).isSome] else ((mix m.kt.beq y ml).bind fun j => (ml.map fun p => m.vt.enc p.2)[j]?).getD ei.zero, ?_, ?_⟩
    ·unfold effLookup;simp only [hmt, mcont_v hc, hkv, hA, asA_enc hks, enc_cells, cells_len, ks_len _ _ hks, if_true, hf]
    ·rw [mget_some];cases ok with
     | false => exact hv
     | true => exact vup_tup hv (VUp.refl _)
   split at h
   ·refine ⟨_, _, _, h, stp_of (E1 := E) (Ext.refl E) id (fun γ => ?_) (nocall ho rfl)⟩;obtain ⟨v0, h1, h2⟩ := main γ;refine ⟨γ, v0, [], [], ?_, h2, trivial, rfl, rfl, Fx.refl _⟩;unfold eff;simp only [ho, env_h, tev_v, h1]; rfl
   ·refine ⟨_, _, _, h, stp_of (E1 := E) (Ext.refl E) id (fun γ => ?_) (nocall ho rfl)⟩;obtain ⟨v0, h1, h2⟩ := main γ;refine ⟨γ, v0, [], [], ?_, h2, trivial, rfl, rfl, Fx.refl _⟩;unfold eff;simp only [ho, env_h, tev_v, h1]; rfl
  ·cases h
def tmakeMapK {R : Type} (P : Program) (o : Oper) (E : TE) (t : Nat) (k : K R) : Option R :=
 match mapTy P t, o.dst with
 | some m, some d => match E.fresh d with
  | true => k [d] [] ((E.oput d (.mp 0 m.kt m.vt [])).put (some d) (.mo d 0))
  | false => none
 | _, _ => none
theorem tmakeMapK_ok {R : Type} {P : Program} {ops : Array Oper} {n : Nat} {o : Oper} {E : TE} {t : Nat} {k : K R} {r : R} (ho : o.op = .makeMap t none)
  (h : tmakeMapK P o E t k = some r) : ∃ E' wk rd, k wk rd E' = some r /\ Stp P G ops n o E E' wk rd := by
 unfold tmakeMapK at h
 split at h
 ·rename_i m d hm hd;obtain ⟨kk, ki, l, ei, hmt, hks, hA, hz⟩ := mapTy_ok hm;split at h
  ·rename_i hf;refine ⟨_, _, _, h, stp_new hd hf (nocall ho rfl) fun γ => ⟨.mo d 0, .map 0 [] [], ?_, ?_, ?_⟩⟩
   ·unfold eff;simp only [ho, hd, dstD, env_h];unfold effMakeMap;simp only [hmt, fresh_none hf]
   ·simp only [TV.v, γ0, if_true]; exact VUp.refl _
   ·simp only [TOb.ob, γ0, if_true, List.map_nil]; exact ObUp.refl _
  ·cases h
 ·cases h
theorem ob_up_map {g : Nat} {ks vs ks' vs' : List V} (h1 : ks'.length = ks.length) (h2 : vs'.length = vs.length) (hk : ∀ (i : Nat) (x x' : V), ks[i]? = some x -> ks'[i]? = some x' -> VUp x x') (hv : ∀ (i : Nat) (x x' : V), vs[i]? = some x -> vs'[i]? = some x' -> VUp x x') :
  ObUp (.map g ks vs) (.map g ks' vs') := by
 refine ⟨rfl, fun w st n ho => ?_⟩
 obtain ⟨b, es, clock, hb, hc, e1, e2, e3, r1, r2⟩ := ho
 refine ⟨b, es, clock, hb, hc, by omega, by omega, e3, fun j e x' he hx' => ?_, fun j e x' he hx' => ?_⟩
 ·have hj : j < ks.length := by rw [<- h1]; exact (List.getElem?_eq_some_iff.1 hx').1
  exact hk j _ _ (List.getElem?_eq_getElem hj) hx' _ _ _ (r1 j e _ he (List.getElem?_eq_getElem hj))
 ·have hj : j < vs.length := by rw [<- h2]; exact (List.getElem?_eq_some_iff.1 hx').1
  exact hv j _ _ (List.getElem?_eq_getElem hj) hx' _ _ _ (r2 j e _ he (List.getElem?_eq_getElem hj))
def tmapUpdK {R : Type} (P : Program) (o : Oper) (E : TE) (t : Nat) (a ix x : TV) (k : K R) : Option R :=
 match mapTy P t, a with
 | some m, .mo n g => match oget E.h n with
  | some (.mp g' k' v' l') => match Nat.beq g' g, castD (.map k' v') (.map m.kt m.vt) l', toD lf0 m.kt ix, toD lf0 m.vt x with
   | true, some l, some (y, _), some (z, []) => (chk (List.length l + 1 <= LIM)).bind fun _ => k [n] [] ((E.oput n (.mp g m.kt m.vt (mset m.kt.beq y z l))).put o.dst .dead)
   | _, _, _, _ => none
  | _ => none
 | _, _ => none
theorem tmapUpdK_ok {R : Type} {P : Program} {ops : Array Oper} {n : Nat} {o : Oper} {E : TE} {t : Nat} {a ix x : Operand} {k : K R} {r : R} (ho : o.op = .mapUpdate t a ix x)
  (h : tmapUpdK P o E t (tev E n a) (tev E n ix) (tev E n x) k = some r) : ∃ E' wk rd, k wk rd E' = some r /\ Stp P G ops n o E E' wk rd := by
 unfold tmapUpdK at h
 split at h
 ·rename_i m q g hm ha;obtain ⟨kk, ki, l, ei, hmt, hks, hA, hz⟩ := mapTy_ok hm;split at h
  ·rename_i g' k' v' l' hob;split at h
   ·rename_i ml y p z hg hc hy hzz;obtain ⟨_, c1, h2⟩ := bind_some' h;have hlt := chk_some c1;obtain ⟨e, he⟩ := castD_some hc;injection e with e1 e2
    have eg := beqs hg;subst e1 e2 eg;simp only at he;subst he;refine ⟨_, _, _, h2, stp_of (ext_oput _ _ _) (fun h => h) (fun γ => ?_) (nocall ho rfl)⟩;have hkv := key_v (H := olen E.h) (γ := γ) hks hy;have hzv := toD0_up hzz (by simp) (olen E.h) γ;have hf := mfind_enc hks y ml;have henv : (E.oput q (.mp g' m.kt m.vt (mset m.kt.beq y z ml))).env n γ = SE n (E.slots γ) (hset (E.heap γ) q ((TOb.mp g' m.kt m.vt (mset m.kt.beq y z ml)).ob (olen E.h) γ q)) :=
     env_oput _ _ _ _ _ (by simp only [TOb.len, olen, hob])
    cases hj : mix m.kt.beq y ml with
    | none =>
     refine ⟨γ, .dead, [(q, .map (γ q + g') ((ml.map fun p => m.kt.enc p.1) ++ [m.kt.enc y]) ((ml.map fun p => m.vt.enc p.2) ++ [(tev E n x).v (olen E.h) γ]))],
      [(q, (TOb.mp g' m.kt m.vt (mset m.kt.beq y z ml)).ob (olen E.h) γ q)], ?_, VUp.refl _, ⟨rfl, ?_, trivial⟩, rfl, henv, Fx.refl _⟩
     ·unfold eff;simp only [ho, env_h, tev_v, ha];unfold effMapUpdate;simp only [hmt, TV.v, hget_heap, hob, Option.map_some, TOb.ob, hkv, hA, asA_enc hks];rw [if_pos ⟨trivial, by rw [enc_cells, cells_len, ks_len _ _ hks]⟩];simp only [enc_cells, hf, hj];rw [if_pos (by simpa using hlt)];rfl
     ·rw [mset_mix, hj];simp only [TOb.ob, List.map_append, List.map_cons, List.map_nil];refine ob_up_map (by simp) (by simp) (fun i x x' h1 h2 => by rw [h1] at h2; cases h2; exact VUp.refl _) fun i x1 x1' h1 h2 => ?_
      rw [List.getElem?_append] at h1 h2;simp only [List.length_map] at h1 h2;split at h1
      ·rename_i hi; rw [if_pos hi] at h2; rw [h1] at h2; cases h2; exact VUp.refl _
      ·rename_i hi;rw [if_neg hi] at h2;cases hq : i - ml.length with
       | zero => rw [hq] at h1 h2; simp at h1 h2; subst h1 h2; exact hzv
       | succ j => rw [hq] at h1; simp at h1
    | some j =>
     refine ⟨γ, .dead, [(q, .map (γ q + g') ((ml.map fun p => m.kt.enc p.1).set j (m.kt.enc y)) ((ml.map fun p => m.vt.enc p.2).set j ((tev E n x).v (olen E.h) γ)))],
      [(q, (TOb.mp g' m.kt m.vt (mset m.kt.beq y z ml)).ob (olen E.h) γ q)], ?_, VUp.refl _, ⟨rfl, ?_, trivial⟩, rfl, henv, Fx.refl _⟩
     ·unfold eff;simp only [ho, env_h, tev_v, ha];unfold effMapUpdate;simp only [hmt, TV.v, hget_heap, hob, Option.map_some, TOb.ob, hkv, hA, asA_enc hks];rw [if_pos ⟨trivial, by rw [enc_cells, cells_len, ks_len _ _ hks]⟩];simp only [enc_cells, hf, hj];rfl
     ·rw [mset_mix, hj];simp only [TOb.ob, List.map_set];refine ob_up_map (by simp) (by simp) (fun i x x' h1 h2 => by rw [h1] at h2; cases h2; exact VUp.refl _) fun i x1 x1' h1 h2 => ?_
      rw [List.getElem?_set] at h1 h2;by_cases hij : j = i
      ·subst hij;simp only [if_true, List.length_map] at h1 h2;split at h1
       ·rename_i hl; rw [if_pos hl] at h2; cases h1; cases h2; exact hzv
       ·cases h1
      ·rw [if_neg hij] at h1 h2;rw [h1] at h2; cases h2; exact VUp.refl _
   ·cases h
  ·cases h
 ·cases h
def tdelK {R : Type} (P : Program) (o : Oper) (E : TE) (t : Nat) (a ix : TV) (k : K R) : Option R :=
 match mapTy P t, a with
 | some m, .mo n g => match oget E.h n with
  | some (.mp g' k' v' l') => match Nat.beq g' g, castD (.map k' v') (.map m.kt m.vt) l', toD lf0 m.kt ix with
   | true, some l, some (y, _) => k [n] [] ((E.oput n (.mp g m.kt m.vt (mdel m.kt.beq y l))).put o.dst .dead)
   | _, _, _ => none
  | _ => none
 | _, _ => none
theorem tdelK_ok {R : Type} {P : Program} {ops : Array Oper} {n : Nat} {o : Oper} {E : TE} {c : Call} {t t' : Nat} {a ix : Operand} {k : K R} {r : R} (ho : o.op = .call c) (hb : c.callee = .builtin .delete) (hx : c.args.toList = [a, ix]) (ht : c.argTypes.toList = [t, t'])
  (h : tdelK P o E t (tev E n a) (tev E n ix) k = some r) : ∃ E' wk rd, k wk rd E' = some r /\ Stp P G ops n o E E' wk rd := by
 have hnc : isCall o = false := by unfold isCall; simp only [ho, hb]
 unfold tdelK at h
 split at h
 ·rename_i m q g hm ha;obtain ⟨kk, ki, l, ei, hmt, hks, hA, hz⟩ := mapTy_ok hm;split at h
  ·rename_i g' k' v' l' hob;split at h
   ·rename_i ml y p hg hc hy;obtain ⟨e, he⟩ := castD_some hc;injection e with e1 e2
    have eg := beqs hg;subst e1 e2 eg;simp only at he;subst he;refine ⟨_, _, _, h, stp_of (ext_oput _ _ _) (fun h => h) (fun γ => ?_) hnc⟩;have hkv := key_v (H := olen E.h) (γ := γ) hks hy;have hf := mfind_enc hks y ml;refine ⟨γ, .dead, [(q, (TOb.mp g' m.kt m.vt (mdel m.kt.beq y ml)).ob (olen E.h) γ q)],
      [(q, (TOb.mp g' m.kt m.vt (mdel m.kt.beq y ml)).ob (olen E.h) γ q)], ?_, VUp.refl _, UpsUp.refl _, rfl, env_oput _ _ _ _ _ (by simp only [TOb.len, olen, hob]), Fx.refl _⟩
    unfold eff;simp only [ho, hb, hx, ht, env_h, tev_v, ha];unfold effDelete;simp only [hmt, TV.v, hget_heap, hob, Option.map_some, TOb.ob, hkv, hA, asA_enc hks];rw [if_pos ⟨trivial, by rw [enc_cells, cells_len, ks_len _ _ hks]⟩];simp only [enc_cells, hf];rw [mdel_mix];cases hj : mix m.kt.beq y ml with
    | none => rfl
    | some j =>
     have er : ∀ {A B : Type} (f : A -> B) (l : List A) (j : Nat), (l.map f).eraseIdx j = (l.eraseIdx j).map f := by
      intro A B f l;induction l with
      | nil => intro j; rfl
      | cons a l ih => intro j; cases j with
       | zero => rfl
       | succ j => simp [List.eraseIdx_cons_succ, ih]
     simp only [Option.map_some, er]
   ·cases h
  ·cases h
 ·cases h
end Go.PG.PH
set_option linter.unusedSimpArgs false
set_option linter.unusedVariables false
namespace Go.PG.PH
variable {G : List Nat}
theorem Ty.beq_eq : ∀ (t : Ty) (x y : t.D), t.beq x y = true -> x = y
 | .int _, x, y, h => by simpa [Ty.beq] using h
 | .bool, x, y, h => by simpa [Ty.beq] using h
 | .str, x, y, h => by
  have h' : ByteArray.toList x = ByteArray.toList y := by simpa [Ty.beq] using h
  have e : ∀ b : ByteArray, b = ⟨b.toList.toArray⟩ := fun b => by
   rw [ByteArray.toList_eq]
  rw [e x, e y, h']
 | .unit, x, y, _ => rfl
 | .box a, x, y, h => a.beq_eq x y h
 | .pair a b, x, y, h => by
  simp only [Ty.beq, Bool.and_eq_true] at h;exact Prod.ext (a.beq_eq _ _ h.1) (b.beq_eq _ _ h.2)
 | .list _, x, y, h => by simp [Ty.beq] at h
 | .map _ _, x, y, h => by simp [Ty.beq] at h
theorem mix_lt {K V : Type} {eq : K -> K -> Bool} {x : K} : ∀ {l : List (K × V)} {j : Nat}, mix eq x l = some j -> j < l.length
 | [], j, h => by simp [mix] at h
 | (a, b) :: r, j, h => by
  simp only [mix] at h;split at h
  ·cases h; simp
  ·split at h
   ·rename_i i hi; cases h; have := mix_lt hi; simp; omega
   ·cases h
def nilZ (v : V) : Bool := match v with
 | .nil => true
 | _ => false
theorem nilZ_eq {v : V} (h : nilZ v = true) : v = .nil := by cases v <;> first | rfl | cases h
def tlookupN {R : Type} (P : Program) (o : Oper) (E : TE) (t : Nat) (a ix : TV) (ok : Bool) (k : K R) (els : Option R) : Option R :=
 match a with
 | .mo q g => match oget E.h q with
  | some (.nm g' k' u l (.bor x (.sof d gd s))) => match mapTy P t, mapT P t, Nat.beq g' g, ok with
   | some m, some (_, _, _, ei), true, false => match nilZ ei.zero, castD k' m.kt x, toD lf0 m.kt ix with
    | true, some x', some (y, _) => (chk (m.kt.beq y x' = true /\ ((mget k'.beq x l).isSome = true \/ olen E.h d = 0))).bind fun _ => k [] [] (E.put o.dst (.sof d gd s))
    | _, _, _ => none
   | _, _, _, _ => none
  | _ => els
 | _ => els
theorem nm_bor_ks {H γ : Nat -> Nat} {n g : Nat} {k u : Ty} {l : List (k.D × u.D)} {x : k.D} {v : TV} : nmOb H γ n g k u l (.bor x v) = .map g (l.map fun p => k.enc p.1) (match mix k.beq x l with
  | some j => (ncells n u (l.map fun p => p.2)).set j (v.v H γ)
  | none => ncells n u (l.map fun p => p.2)) := by
 cases h : mix k.beq x l <;> simp only [nmOb, h]
theorem tlookupN_ok {R : Type} {P : Program} {ops : Array Oper} {n : Nat} {o : Oper} {E : TE} {t : Nat} {a x : Operand} {ok : Bool} {k : K R} {els : Option R} {r : R} (ho : o.op = .lookup t a x ok)
  (hels : els = some r -> ∃ E' wk rd, k wk rd E' = some r /\ Stp P G ops n o E E' wk rd)
  (h : tlookupN P o E t (tev E n a) (tev E n x) ok k els = some r) : ∃ E' wk rd, k wk rd E' = some r /\ Stp P G ops n o E E' wk rd := by
 unfold tlookupN at h
 split at h
 ·rename_i q g ha;split at h
  ·rename_i g' k' u l x0 d gd s hob;split at h
   ·rename_i m kk0 ki0 l0 ei0 hm hmt0 hg;split at h
    ·rename_i x' y p hz0 hc hy;obtain ⟨_, c1, h2⟩ := bind_some' h;obtain ⟨hyx, hlen⟩ := chk_some c1;obtain ⟨kk, ki, lk, ei, hmt, hks, hA, hz⟩ := mapTy_ok hm;rw [hmt0] at hmt; cases hmt;obtain ⟨e, rfl⟩ := castD_some hc;subst e;simp only at hyx;have := Ty.beq_eq _ _ _ hyx;subst this;have eg := beqs hg; subst eg;refine ⟨_, _, _, h2, stp_of (E1 := E) (Ext.refl E) id (fun γ => ?_) (nocall ho rfl)⟩;have hkv := key_v (H := olen E.h) (γ := γ) hks hy;have hf := mfind_enc hks y l;refine ⟨γ, (((mix m.kt.beq y l).bind fun j => (match mix m.kt.beq y l with
       | some j => (ncells q u (List.map (fun p => (p : m.kt.D × u.D).2) l)).set j ((TV.sof d gd s).v (olen E.h) γ)
       | none => ncells q u (List.map (fun p => (p : m.kt.D × u.D).2) l))[j]?).getD ei0.zero), [], [], ?_, ?_, trivial, rfl, rfl, Fx.refl _⟩
     ·unfold eff;simp only [ho, env_h, tev_v];unfold effLookup;simp only [hmt0, ha, TV.v, mpOf, hget_heap, hob, Option.map_some, TOb.ob, nm_bor_ks, if_true, hkv, hA, asA_enc hks, enc_cells, cells_len, ks_len _ _ hks, hf];rfl
     ·cases hj : mix m.kt.beq y l with
      | none =>
       simp only [Option.bind_none, Option.getD_none];have h0 : olen E.h d = 0 := by
        rcases hlen with h | h
        ·rw [mget_some, hj] at h; cases h
        ·exact h
       intro w st v hr;rw [nilZ_eq hz0] at hr;rw [rep_nil hr];simp only [TV.v, h0];exact .so0
      | some j =>
       have hjl := mix_lt hj;simp only [Option.bind_some];rw [List.getElem?_set, if_pos rfl, if_pos (by rw [ncells_len, List.length_map]; exact hjl)];exact VUp.refl _
    ·cases h
   ·cases h
  ·exact hels h
 ·exact hels h
def tmapUpdN {R : Type} (P : Program) (o : Oper) (E : TE) (t : Nat) (a ix x : TV) (k : K R) (els : Option R) : Option R :=
 match a with
 | .mo q g => match oget E.h q with
  | some (.nm g' k' u l (.bor x0 v0)) => match mapTy P t, Nat.beq g' g with
   | some m, true => match castD k' m.kt x0, toD lf0 m.kt ix with
    | some x', some (y, _) => (chk (m.kt.beq y x' = true /\ List.length l + 1 <= LIM)).bind fun _ => k [q] [] ((E.oput q (.nm g k' u l (.fil x0 x))).put o.dst .dead)
    | _, _ => none
   | _, _ => none
  | _ => els
 | _ => els
theorem tmapUpdN_ok {R : Type} {P : Program} {ops : Array Oper} {n : Nat} {o : Oper} {E : TE} {t : Nat} {a ix x : Operand} {k : K R} {els : Option R} {r : R} (ho : o.op = .mapUpdate t a ix x)
  (hels : els = some r -> ∃ E' wk rd, k wk rd E' = some r /\ Stp P G ops n o E E' wk rd)
  (h : tmapUpdN P o E t (tev E n a) (tev E n ix) (tev E n x) k els = some r) : ∃ E' wk rd, k wk rd E' = some r /\ Stp P G ops n o E E' wk rd := by
 unfold tmapUpdN at h
 split at h
 ·rename_i q g ha;split at h
  ·rename_i g' k' u l x0 v0 hob;split at h
   ·rename_i m hm hg;split at h
    ·rename_i x' y p hc hy;obtain ⟨_, c1, h2⟩ := bind_some' h;obtain ⟨hyx, hlt⟩ := chk_some c1;obtain ⟨kk, ki, lk, ei, hmt, hks, hA, hz⟩ := mapTy_ok hm;obtain ⟨e, rfl⟩ := castD_some hc;subst e;simp only at hyx;have := Ty.beq_eq _ _ _ hyx;subst this;have eg := beqs hg; subst eg;refine ⟨_, _, _, h2, stp_of (ext_oput _ _ _) (fun h => h) (fun γ => ?_) (nocall ho rfl)⟩;have hkv := key_v (H := olen E.h) (γ := γ) hks hy;have hf := mfind_enc hks y l;have henv : (E.oput q (.nm g' m.kt u l (.fil y (tev E n x)))).env n γ = SE n (E.slots γ) (hset (E.heap γ) q ((TOb.nm g' m.kt u l (.fil y (tev E n x))).ob (olen E.h) γ q)) :=
      env_oput _ _ _ _ _ (by simp only [TOb.len, olen, hob])
     refine ⟨γ, .dead, [(q, (TOb.nm g' m.kt u l (.fil y (tev E n x))).ob (olen E.h) γ q)], [(q, (TOb.nm g' m.kt u l (.fil y (tev E n x))).ob (olen E.h) γ q)], ?_, VUp.refl _, UpsUp.refl _, rfl, henv, Fx.refl _⟩;unfold eff;simp only [ho, env_h, tev_v, ha];unfold effMapUpdate;simp only [hmt, TV.v, hget_heap, hob, Option.map_some, TOb.ob, nm_bor_ks, hkv, hA, asA_enc hks];rw [if_pos ⟨trivial, by rw [enc_cells, cells_len, ks_len _ _ hks]⟩];simp only [enc_cells, hf];cases hj : mix m.kt.beq y l with
     | none =>
      simp only [nmOb, hj];rw [if_pos (by simpa using hlt)];rfl
     | some j =>
      simp only [nmOb, hj, List.set_set];rfl
    ·cases h
   ·cases h
  ·exact hels h
 ·exact hels h
end Go.PG.PH
set_option linter.unusedSimpArgs false
set_option linter.unusedVariables false
namespace Go.PG.PH
variable {G : List Nat}
def tsetV (x : TV) (off : Nat) (new : List TV) : TV := match x with
 | .agg cs => .agg (tsplice cs off new)
 | .leaf t y => match t.isA with
  | true => .agg (tsplice (tcells t y) off new)
  | false => new.headD (.leaf t y)
 | y => new.headD y
theorem headD_v (H γ : Nat -> Nat) (l : List TV) (d : TV) : (l.headD d).v H γ = (l.map (TV.v H γ)).headD (d.v H γ) := by cases l <;> rfl
theorem tsetV_v (H γ : Nat -> Nat) (x : TV) (off : Nat) (new : List TV) : (tsetV x off new).v H γ = setV (x.v H γ) off (new.map (TV.v H γ)) := by
 cases x with
 | agg cs => simp only [tsetV, TV.v, setV, vL_map, tsplice_v]
 | leaf t y =>
  simp only [tsetV];cases ht : t.isA with
  | true => simp only [TV.v, enc_agg ht, setV, vL_map, tsplice_v, tcells_v]
  | false =>
   simp only [headD_v];simp only [TV.v];cases t <;> first | rfl | (simp [Ty.isA] at ht)
 | _ => simp only [tsetV, headD_v]; rfl
def andB : Bool -> Bool -> Bool
 | true, b => b
 | false, _ => false
theorem andB_eq (a b : Bool) : andB a b = (a && b) := by cases a <;> rfl
def tstoreK {R : Type} (P : Program) (o : Oper) (E : TE) (t : Nat) (a x : TV) (k : K R) : Option R :=
 match tab P t, a with
 | some i, .ep m g sz kk off => match Nat.beq x.cells.length i.size, x.okv, Nat.blt 0 i.size with
  | true, true, true => match oget E.h m with
   | some (.els g' p s l) => match Nat.beq g' g, Nat.beq s sz, l[kk]? with
    | true, true, some y => match Nat.ble (off + x.cells.length) y.cells.length with
     | true => k [m] [] ((E.oput m (.els g (andB p x.free) sz (l.set kk (tsetV y off x.cells)))).put o.dst .dead)
     | false => none
    | _, _, _ => none
   | some (.lst g' t' l) => match Nat.beq g' g, Nat.beq t'.size sz with
    | true, true => match Nat.beq off 0, Nat.beq i.size t'.size with
     | true, true => match toD lf0 t' x with
      | some (y, []) => (chk (kk < l.length)).bind fun _ => k [m] [] ((E.oput m (.lst g t' (l.set kk y))).put o.dst .dead)
      | _ => none
     | _, _ => match Nat.ble (off + x.cells.length) t'.size with
      | true => (l[kk]?).bind fun y0 => match toD lf0 t' (tsetV (.leaf t' y0) off x.cells) with
       | some (y, []) => k [m] [] ((E.oput m (.lst g t' (l.set kk y))).put o.dst .dead)
       | _ => none
      | false => none
    | _, _ => none
   | _ => none
  | _, _, _ => none
 | _, _ => none
theorem setV_whole {t : Ty} {y : t.D} {new : List V} (h : new.length = t.size) (h1 : t.isA = false -> ∃ c, new = [c] /\ c.cells = [c]) : (setV (t.enc y) 0 new).cells = new := by
 cases ht : t.isA with
 | true =>
  rw [enc_agg ht];simp only [setV, splice, List.take_zero, List.nil_append, Nat.zero_add, V.cells];rw [List.drop_of_length_le (by rw [cells_len, h]; exact Nat.le_refl _), List.append_nil]
 | false =>
  obtain ⟨c, rfl, hc⟩ := h1 ht;have : ∀ v : V, (∀ cs, v ≠ .agg cs) -> setV v 0 [c] = c := by
   intro v hv;cases v <;> first | rfl | exact absurd rfl (hv _)
  rw [this (t.enc y) (by intro cs e; cases t <;> first | (simp [Ty.isA] at ht; done) | cases e)];exact hc
theorem tstoreK_ok {R : Type} {P : Program} {ops : Array Oper} {n : Nat} {o : Oper} {E : TE} {t : Nat} {a x : Operand} {k : K R} {r : R} (ho : o.op = .store t a x)
  (h : tstoreK P o E t (tev E n a) (tev E n x) k = some r) : ∃ E' wk rd, k wk rd E' = some r /\ Stp P G ops n o E E' wk rd := by
 unfold tstoreK at h
 split at h
 ·rename_i i m g sz kk off hi ha;split at h
  ·rename_i hl hk hz;have hl' := beqs hl;have hz' : 0 < i.size := by simpa [Nat.blt_eq] using hz
   have main : ∀ (g' : Nat) (p : Bool) (s : Nat) (ob : TOb) (l : Nat -> List V) (y : Nat -> List V -> V) , True := fun _ _ _ _ _ _ => trivial
   split at h
   ·rename_i g' p s l hob;split at h
    ·rename_i y hg hs hy;split at h
     ·rename_i hb;refine ⟨_, _, _, h, stp_of (ext_oput _ _ _) (fun h => h) (fun γ => ⟨γ, .dead, [(m, .arr (γ m + g) (p && (tev E n x).free) sz ((TV.vL (olen E.h) γ l).set kk (setV (y.v (olen E.h) γ) off ((tev E n x).v (olen E.h) γ).cells)))], _, ?_, VUp.refl _, UpsUp.refl _, rfl, ?_, Fx.refl _⟩) (nocall ho rfl)⟩
      ·unfold eff;simp only [ho, env_h, tev_v, ha];unfold effStore;simp only [hi, TV.v, hget_heap, hob, Option.map_some, TOb.ob];rw [if_pos ⟨by rw [beqs hg], beqs hs, by rw [tv_cells_len]; exact hl', by rw [okv_v]; exact hk, hz'⟩];simp only [vL_get, hy, Option.map_some];rw [if_pos (by rw [tv_cells_len, tv_cells_len]; exact Nat.le_of_ble_eq_true hb)];simp only [Option.map_some, free_v]
      ·rw [env_oput _ _ _ _ _ (by simp only [TOb.len, List.length_set, olen, hob])];simp only [hsets, TOb.ob, andB_eq, vL_map, List.map_set, tsetV_v, tv_cells]
     ·cases h
    ·cases h
   ·rename_i g' t' l hob;split at h
    ·rename_i hg hs;have store : ∀ (γ : Nat -> Nat) (y0 y : t'.D), l[kk]? = some y0 -> off + (tev E n x).cells.length <= t'.size -> CellsC (setV (t'.enc y0) off ((tev E n x).v (olen E.h) γ).cells) (t'.enc y) ->
       ∃ γ' v0 ups0 ups, eff P o (dstD o) (E.env n γ) = some (v0, ups0) /\ VUp v0 (TV.dead.v (olen (E.oput m (.lst g t' (l.set kk y))).h) γ') /\ UpsUp ups0 ups /\ ups.map (·.1) = [m] /\
        (E.oput m (.lst g t' (l.set kk y))).env n γ' = SE n (E.slots γ) (hsets (E.heap γ) ups) /\ Fx γ γ' := by
      intro γ y0 y hy0 hb hcc
      refine ⟨γ, .dead, [(m, .arr (γ m + g) (true && (tev E n x).free) sz ((l.map t'.enc).set kk (setV (t'.enc y0) off ((tev E n x).v (olen E.h) γ).cells)))], [(m, (TOb.lst g t' (l.set kk y)).ob (olen E.h) γ m)], ?_, VUp.refl _, ⟨rfl, ?_, trivial⟩, rfl, ?_, Fx.refl _⟩
      ·unfold eff;simp only [ho, env_h, tev_v, ha];unfold effStore;simp only [hi, TV.v, hget_heap, hob, Option.map_some, TOb.ob];rw [if_pos ⟨by rw [beqs hg], beqs hs, by rw [tv_cells_len]; exact hl', by rw [okv_v]; exact hk, hz'⟩];simp only [List.getElem?_map, hy0, Option.map_some];rw [if_pos (by rw [tv_cells_len, enc_cells, cells_len]; exact hb)];simp only [Option.map_some, free_v]
      ·simp only [TOb.ob, beqs hs];refine ob_up (by simp) (fun z hz => by rw [<- beqs hs]; exact encs_ok _ z hz) fun i z z' hz hz' => ?_
       rw [List.map_set] at hz';rw [List.getElem?_set] at hz hz';by_cases hik : kk = i
       ·subst hik;simp only [if_true, List.length_map] at hz hz';split at hz
        ·rename_i hlt;rw [if_pos hlt] at hz';cases hz; cases hz';exact hcc
        ·cases hz
       ·rw [if_neg hik] at hz hz';rw [hz] at hz'; cases hz';simp only [List.getElem?_map, Option.map_eq_some_iff] at hz;obtain ⟨w, _, rfl⟩ := hz;exact cellsC_enc t' w
      ·rw [env_oput _ _ _ _ _ (by simp only [TOb.len, List.length_set, olen, hob])];rfl
     split at h
     ·rename_i h0 h1;have e0 := beqs h0;have e1 := beqs h1;split at h
      ·rename_i y hy;obtain ⟨_, c1, h2⟩ := bind_some' h;have hlt := chk_some c1;refine ⟨_, _, _, h2, stp_of (ext_oput _ _ _) (fun h => h) (fun γ => ?_) (nocall ho rfl)⟩;refine store γ l[kk] y (List.getElem?_eq_getElem hlt) (by omega) ?_;obtain ⟨q1, q2⟩ := toD0_cells hy (by simp) (olen E.h) γ;have hw : (setV (t'.enc l[kk]) off ((tev E n x).v (olen E.h) γ).cells).cells = ((tev E n x).v (olen E.h) γ).cells := by
        rw [e0];refine setV_whole (by rw [tv_cells_len]; omega) fun hA => ?_
        cases hx : tev E n x with
        | leaf t0 z =>
         rw [hx] at hy;simp only [toD] at hy;split at hy
         ·cases hy
         ·rename_i z' hz';obtain ⟨e, _⟩ := castD_some hz';subst e;refine ⟨t0.enc z, ?_, ?_⟩
          ·simp only [TV.v, enc_cells, enc_one hA]
          ·rw [enc_cells, enc_one hA]
        | agg cs =>
         rw [hx] at hy;simp only [toD, hA] at hy;cases hy
        | _ => exact ⟨_, rfl, rfl⟩
       refine ⟨?_, fun j c c' hc hc' => ?_⟩
       ·rw [hw]; exact q1
       ·rw [hw] at hc; exact q2 j c c' hc hc'
      ·cases h
     ·split at h
      ·rename_i hb;obtain ⟨y0, hy0, h2⟩ := bind_some' h;split at h2
       ·rename_i y hy;refine ⟨_, _, _, h2, stp_of (ext_oput _ _ _) (fun h => h) (fun γ => ?_) (nocall ho rfl)⟩;refine store γ y0 y hy0 (Nat.le_of_ble_eq_true hb) ?_;have := toD0_cells hy (by simp) (olen E.h) γ;rw [tsetV_v, tv_cells] at this;exact this
       ·cases h2
      ·cases h
    ·cases h
   ·cases h
  ·cases h
 ·cases h
theorem elems_ok {E : TE} {et : Ty} {b : TV} {ys : List et.D} {cs : List Bool} (h : toD (lf1 (oget E.h)) (.list et) b = some (ys, cs)) (hc : ∀ c ∈ cs, c = true) (γ : Nat -> Nat) :
  ∃ ysV q, elems (E.heap γ) et.size (b.v (olen E.h) γ) = some (ysV, q) /\ ysV.length = ys.length /\ ∀ (i : Nat) (x x' : V), ysV[i]? = some x -> (ys.map et.enc)[i]? = some x' -> CellsC x x' := by
 have same : ∀ l : List et.D, ∀ (i : Nat) (x x' : V), (l.map et.enc)[i]? = some x -> (l.map et.enc)[i]? = some x' -> CellsC x x' := by
  intro l i x x' h1 h2;rw [h1] at h2; cases h2;simp only [List.getElem?_map, Option.map_eq_some_iff] at h1;obtain ⟨z, _, rfl⟩ := h1;exact cellsC_enc et z
 have els : ∀ (l : List TV) (y : List et.D), toDs0 et l = some y -> ∀ (i : Nat) (x x' : V), (TV.vL (olen E.h) γ l)[i]? = some x -> (y.map et.enc)[i]? = some x' -> CellsC x x' := by
  intro l y hy i x x' h1 h2;obtain ⟨g1, g2⟩ := toDs0_ok (H := olen E.h) (γ := γ) hy;rw [vL_get] at h1;simp only [List.getElem?_map, Option.map_eq_some_iff] at h1 h2;obtain ⟨v, hv, rfl⟩ := h1;obtain ⟨z, hz, rfl⟩ := h2;exact toD0_cells (g2 i v z hv hz) (by simp) _ _
 have sub : ∀ (off len : Nat) (l l' : List V), (∀ (i : Nat) (x x' : V), l[i]? = some x -> l'[i]? = some x' -> CellsC x x') -> ∀ (i : Nat) (x x' : V), ((l.drop off).take len)[i]? = some x -> ((l'.drop off).take len)[i]? = some x' -> CellsC x x' := by
  intro off len l l' hl i x x' h1 h2;rw [List.getElem?_take, List.getElem?_drop] at h1 h2;split at h1
  ·rename_i hi; rw [if_pos hi] at h2; exact hl _ _ _ h1 h2
  ·cases h1
 have l0 : ∀ c : TV, (match lf0 (.list et) c with | some p => some p | none => none) = some (ys, cs) -> lf0 (.list et) c = some (ys, cs) := by
  intro c h;split at h
  ·rename_i p hp; rw [hp]; exact h
  ·cases h
 cases b with
 | leaf t' y =>
  simp only [toD] at h;split at h
  ·cases h
  ·rename_i z hz;cases h;obtain ⟨e, rfl⟩ := castD_some hz;subst e;exact ⟨_, true, by simp only [leaf_list_v, elems, if_true], by simp, same y⟩
 | agg l => simp [toD, Ty.isA] at h
 | nil =>
  simp only [toD, Ty.isA, lf1, lf0] at h;cases h;exact ⟨[], true, rfl, rfl, by simp⟩
 | emp sz =>
  simp only [toD, Ty.isA, lf1, lf0] at h;cases h;exact ⟨[], true, rfl, rfl, by simp⟩
 | sof m g sz =>
  simp only [toD, Ty.isA, lf1] at h;split at h
  ·rename_i g' t' l hsz hob;split at h
   ·rename_i y hg hy;cases h;obtain ⟨e, rfl⟩ := castD_some hy;injection e with e; subst e
    have hlen : olen E.h m = List.length l := by unfold olen; rw [hob]; rfl
    refine ⟨l.map t'.enc, true, ?_, by simp, same l⟩;simp only [TV.v, elems, hget_heap, hob, Option.map_some, TOb.ob, hlen];rw [if_pos ⟨by rw [beqs hg], (beqs hsz).symm, beqs hsz, by simp⟩];simp [List.take_of_length_le]
   ·cases h
  ·rename_i g' sz' l hsz hob;split at h
   ·rename_i y hg hs2 hy;cases h;have hlen : olen E.h m = l.length := by unfold olen; rw [hob]; rfl
    refine ⟨TV.vL (olen E.h) γ l, true, ?_, by rw [vL_map, List.length_map, (toDs0_ok (H := olen E.h) (γ := γ) hy).1], els l _ hy⟩;simp only [TV.v, elems, hget_heap, hob, Option.map_some, TOb.ob, hlen];rw [if_pos ⟨by rw [beqs hg], beqs hs2, beqs hsz, by simp [vL_map]⟩];simp [vL_map, List.take_of_length_le]
   ·cases h
  ·cases h
 | so m g sz off len =>
  simp only [toD, Ty.isA, lf1] at h;split at h
  ·rename_i g' t' l hsz hob;split at h
   ·rename_i y hg hy;cases h;obtain ⟨e, rfl⟩ := castD_some hy;injection e with e; subst e
    have hle := of_decide_eq_true (hc _ (List.mem_singleton.2 rfl));refine ⟨((l.map t'.enc).drop off).take len, true, ?_, by show _ = (List.take len (List.drop off l)).length; simp, ?_⟩
    ·simp only [TV.v, elems, hget_heap, hob, Option.map_some, TOb.ob];rw [if_pos ⟨by rw [beqs hg], (beqs hsz).symm, beqs hsz, by simpa using hle⟩]
    ·rw [List.map_take, List.map_drop];exact sub off len _ _ (same l)
   ·cases h
  ·rename_i g' sz' l hsz hob;split at h
   ·rename_i y hg hs2 hy;cases h;have hle := of_decide_eq_true (hc _ (List.mem_singleton.2 rfl));have hl := (toDs0_ok (H := olen E.h) (γ := γ) hy).1;refine ⟨((TV.vL (olen E.h) γ l).drop off).take len, true, ?_, by simp [vL_map, hl], ?_⟩
    ·simp only [TV.v, elems, hget_heap, hob, Option.map_some, TOb.ob];rw [if_pos ⟨by rw [beqs hg], beqs hs2, beqs hsz, by rw [vL_map, List.length_map]; omega⟩]
    ·rw [List.map_take, List.map_drop];exact sub off len _ _ (els l y hy)
   ·cases h
  ·cases h
 | _ => simp [toD, Ty.isA, lf1, lf0] at h
def chks {R : Type} : List Bool -> Option R -> Option R
 | [], k => k
 | b :: r, k => (chk (b = true)).bind fun _ => chks r k
theorem chks_ok {R : Type} {k : Option R} {r : R} : ∀ {cs : List Bool}, chks cs k = some r -> (∀ c ∈ cs, c = true) /\ k = some r
 | [], h => ⟨by simp, h⟩
 | b :: cs, h => by
  simp only [chks] at h;obtain ⟨_, h1, h2⟩ := bind_some' h;obtain ⟨g1, g2⟩ := chks_ok h2;exact ⟨fun c hc => by rcases List.mem_cons.1 hc with rfl | hc; exact chk_some h1; exact g1 c hc, g2⟩
def objD (P : Program) (E : TE) (e m g s : Nat) : Option ((t : Ty) × List t.D) := match oget E.h m with
 | some (.lst g' et l) => match Nat.beq g' g, Nat.beq et.size s with
  | true, true => some ⟨et, l⟩
  | _, _ => none
 | some (.els g' _ s' l0) => match tyOf P 8 e with
  | some et => match Nat.beq g' g, Nat.beq et.size s, Nat.beq s' s, toDs0 et l0 with
   | true, true, true, some l => some ⟨et, l⟩
   | _, _, _, _ => none
  | none => none
 | _ => none
theorem objD_ok {P : Program} {E : TE} {e m g s : Nat} {et : Ty} {l : List et.D} (h : objD P E e m g s = some ⟨et, l⟩) :
  et.size = s /\ olen E.h m = l.length /\ ∃ (p : Bool) (lV : (Nat -> Nat) -> List V), (∀ γ, hget (E.heap γ) m = some (.arr (γ m + g) p s (lV γ))) /\ (∀ γ, (lV γ).length = l.length) /\
   (∀ γ, ∀ (i : Nat) (x x' : V), (lV γ)[i]? = some x -> (l.map et.enc)[i]? = some x' -> CellsC x x') := by
 unfold objD at h
 split at h
 ·rename_i g' et' l' hob;split at h
  ·rename_i hg hs;cases h;refine ⟨beqs hs, by unfold olen; rw [hob]; rfl, true, fun _ => l.map et.enc, fun γ => ?_, fun γ => by simp, fun γ i x x' h1 h2 => ?_⟩
   ·rw [hget_heap, hob, Option.map_some];simp only [TOb.ob, beqs hg, beqs hs]
   ·rw [h1] at h2; cases h2;simp only [List.getElem?_map, Option.map_eq_some_iff] at h1;obtain ⟨z, _, rfl⟩ := h1;exact cellsC_enc et z
  ·cases h
 ·rename_i g' p s' l0 hob;split at h
  ·rename_i et' het;split at h
   ·rename_i l' hg hs hs' hl;cases h;refine ⟨beqs hs, by unfold olen; rw [hob]; exact (toDs0_ok (H := z0) (γ := z0) hl).1.symm, p, fun γ => TV.vL (olen E.h) γ l0, fun γ => ?_, fun γ => ?_, fun γ i x x' h1 h2 => ?_⟩
    ·rw [hget_heap, hob, Option.map_some];simp only [TOb.ob, beqs hg, beqs hs']
    ·simp only [vL_map, List.length_map]; exact (toDs0_ok (H := z0) (γ := z0) hl).1.symm
    ·obtain ⟨q1, q2⟩ := toDs0_ok (H := olen E.h) (γ := γ) hl;simp only [vL_get] at h1;simp only [List.getElem?_map, Option.map_eq_some_iff] at h1 h2;obtain ⟨v, hv, rfl⟩ := h1;obtain ⟨z, hz, rfl⟩ := h2;exact toD0_cells (q2 i v z hv hz) (by simp) _ _
   ·cases h
  ·cases h
 ·cases h
def tappK {R : Type} (P : Program) (o : Oper) (E : TE) (t t' : Nat) (a b : TV) (k : K R) : Option R :=
 match tab P t, tab P t' with
 | some i, some i' => match i.kind, i'.kind with
  | .slice e, .slice _ => match tab P e with
   | none => none
   | some ei => match a with
    | .nil => match tyOf P 8 e, o.dst with
     | some et, some d => match Nat.beq et.size ei.size, E.fresh d, toD (lf1 (oget E.h)) (.list et) b with
      | true, true, some (ys, cs) => chks cs ((chk (List.length ys <= LIM)).bind fun _ => k [d] [] ((E.oput d (.lst 0 et ys)).put (some d) (.sof d 0 et.size)))
      | _, _, _ => none
     | _, _ => none
    | .sof m g s => match Nat.beq s ei.size, objD P E e m g s with
     | true, some ⟨et, l⟩ => match toD (lf1 (oget E.h)) (.list et) b with
      | some (ys, cs) => chks cs ((chk (List.length l + List.length ys <= LIM)).bind fun _ => k [m] [] ((E.onew m (.lst (g + 1) et (List.append l ys))).put o.dst (.sof m (g + 1) s)))
      | none => none
     | _, _ => none
    | .so m g s off len => match Nat.beq s ei.size, objD P E e m g s with
     | true, some ⟨et, l⟩ => match toD (lf1 (oget E.h)) (.list et) b with
      | some (ys, cs) => chks cs ((chk (off + len <= List.length l /\ len + List.length ys <= LIM)).bind fun _ => k [m] [] ((E.onew m (.lst (g + 1) et (List.append (List.take len (List.drop off l)) ys))).put o.dst (.sof m (g + 1) s)))
      | none => none
     | _, _ => none
    | _ => none
  | _, _ => none
 | _, _ => none
theorem cellsC_app {l l' ys ys' : List V} (hl : l.length = l'.length) (h1 : ∀ (i : Nat) (x x' : V), l[i]? = some x -> l'[i]? = some x' -> CellsC x x') (h2 : ∀ (i : Nat) (x x' : V), ys[i]? = some x -> ys'[i]? = some x' -> CellsC x x') :
  ∀ (i : Nat) (x x' : V), (l ++ ys)[i]? = some x -> (l' ++ ys')[i]? = some x' -> CellsC x x' := by
 intro i x x' ha hb
 rw [List.getElem?_append] at ha hb
 rw [<- hl] at hb
 split at ha
 ·rename_i hi; rw [if_pos hi] at hb; exact h1 i x x' ha hb
 ·rename_i hi; rw [if_neg hi] at hb; exact h2 _ x x' ha hb
theorem tappK_ok {R : Type} {P : Program} {ops : Array Oper} {n : Nat} {o : Oper} {E : TE} {t t' : Nat} {c : Call} {x y : Operand} {k : K R} {r : R} (ho : o.op = .call c) (hb : c.callee = .builtin .append) (hx : c.args.toList = [x, y]) (ht : c.argTypes.toList = [t, t'])
  (h : tappK P o E t t' (tev E n x) (tev E n y) k = some r) : ∃ E' wk rd, k wk rd E' = some r /\ Stp P G ops n o E E' wk rd := by
 have hc : isCall o = false := by unfold isCall; simp only [ho, hb]
 have he : ∀ γ, eff P o (dstD o) (E.env n γ) = effAppend P t t' ((tev E n x).v (olen E.h) γ) ((tev E n y).v (olen E.h) γ) (dstD o) (E.heap γ) := fun γ => by
  unfold eff;simp only [ho, hb, hx, ht, tev_v, env_h]
 unfold tappK at h
 split at h
 ·rename_i i i' hi hi';split at h
  ·rename_i e e' hk hk';split at h
   ·cases h
   ·rename_i ei hei;have main : ∀ (m g s off len : Nat) (et : Ty) (l L ys : List et.D) (cs : List Bool), (∀ γ, (tev E n x).v (olen E.h) γ = .so m (γ m + g) s off len) -> s = ei.size -> objD P E e m g s = some ⟨et, l⟩ -> off + len <= l.length ->
      L = (l.drop off).take len -> L.length = len -> toD (lf1 (oget E.h)) (.list et) (tev E n y) = some (ys, cs) -> (∀ c ∈ cs, c = true) -> len + ys.length <= LIM ->
      Stp P G ops n o E ((E.onew m (.lst (g + 1) et (List.append L ys))).put o.dst (.sof m (g + 1) s)) [m] [] := by
     intro m g s off len et l L ys cs ha hs hob hle hL hLl hys hcs hlim
     obtain ⟨e1, e2, p, lV, e3, e4, e5⟩ := objD_ok hob
     refine stp_of (ext_onew _ _ _) ok_onew (fun γ => ?_) hc
     obtain ⟨ysV, q, g1, g2, g3⟩ := elems_ok hys hcs γ
     have hwl : (((lV γ).drop off).take len).length = len := by simp only [List.length_take, List.length_drop, e4 γ]; omega
     refine ⟨γ, .so m (γ m + g + 1) s 0 (len + ysV.length), [(m, .arr (γ m + g + 1) (p && q) s (((lV γ).drop off).take len ++ ysV))], [(m, (TOb.lst (g + 1) et (List.append L ys)).ob (olen (E.onew m (.lst (g + 1) et (List.append L ys))).h) γ m)], ?_, ?_, ⟨rfl, ?_, trivial⟩, rfl, ?_, Fx.refl _⟩
     ·rw [he γ, ha γ];unfold effAppend;rw [e1, hs] at g1;simp only [hi, hi', hk, hk', hei, g1, e3 γ];rw [if_pos ⟨trivial, trivial, hs, by rw [e4 γ]; exact hle, by rw [g2]; exact hlim⟩]
     ·have : olen (E.onew m (.lst (g + 1) et (List.append L ys))).h m = len + ysV.length := by
       unfold TE.onew TE.oput;simp only [olen_oset, if_true, TOb.len]
       show (L ++ ys).length = _
       rw [List.length_append, g2, hLl]
      simp only [TV.v, this];exact VUp.refl _
     ·simp only [TOb.ob, e1]
      show ObUp (.arr (γ m + g + 1) (p && q) s (((lV γ).drop off).take len ++ ysV)) (.arr (γ m + g + 1) true s ((L ++ ys).map et.enc))
      rw [List.map_append];refine ob_up (by rw [List.length_append, List.length_append, List.length_map, List.length_map, hwl, hLl, g2]) (fun z hz => ?_) (cellsC_app (by rw [hwl, List.length_map, hLl]) (fun i x x' h1 h2 => ?_) g3)
      ·rw [<- List.map_append] at hz;rw [<- e1]; exact encs_ok _ z hz
      ·rw [hL, List.map_take, List.map_drop] at h2;rw [List.getElem?_take, List.getElem?_drop] at h1 h2;split at h1
       ·rename_i hi; rw [if_pos hi] at h2; exact e5 γ _ _ _ h1 h2
       ·cases h1
     ·exact env_onew E n γ m _
    split at h
    ·rename_i ha;split at h
     ·rename_i et d het hd;split at h
      ·rename_i ys cs hsz hf hys;obtain ⟨h1, h2⟩ := chks_ok h;obtain ⟨_, h3, h4⟩ := bind_some' h2;have hlim := chk_some h3;refine ⟨_, _, _, h4, stp_new hd hf hc fun γ => ?_⟩;obtain ⟨ysV, q, g1, g2, g3⟩ := elems_ok hys h1 γ;refine ⟨.so d 0 ei.size 0 ysV.length, .arr 0 q ei.size ysV, ?_, ?_, ?_⟩
       ·rw [he γ, ha];unfold effAppend;rw [beqs hsz] at g1;simp only [hi, hi', hk, hk', hei, g1, TV.v, dstD, hd, fresh_none hf];rw [if_pos (by rw [g2]; exact hlim)]
       ·simp only [TV.v, γ0, if_true, TE.oput, olen_oset, TOb.len, beqs hsz, g2];exact VUp.refl _
       ·simp only [TOb.ob, γ0, if_true, beqs hsz];exact ob_up (by rw [List.length_map, g2]) (fun z hz => by rw [<- beqs hsz]; exact encs_ok _ z hz) g3
      ·cases h
     ·cases h
    ·rename_i m g s ha;split at h
     ·rename_i et l hs hob;split at h
      ·rename_i ys cs hys;obtain ⟨h1, h2⟩ := chks_ok h;obtain ⟨_, h3, h4⟩ := bind_some' h2;refine ⟨_, _, _, h4, main m g s 0 (List.length l) et l l ys cs (fun γ => ?_) (beqs hs) hob (by simp) (by simp) rfl hys h1 (chk_some h3)⟩;rw [ha];simp only [TV.v, (objD_ok hob).2.1]
      ·cases h
     ·cases h
    ·rename_i m g s off len ha;split at h
     ·rename_i et l hs hob;split at h
      ·rename_i ys cs hys;obtain ⟨h1, h2⟩ := chks_ok h;obtain ⟨_, h3, h4⟩ := bind_some' h2;obtain ⟨c1, c2⟩ := chk_some h3;refine ⟨_, _, _, h4, main m g s off len et l (List.take len (List.drop off l)) ys cs (fun γ => ?_) (beqs hs) hob c1 rfl (by simp; omega) hys h1 c2⟩;rw [ha];simp only [TV.v]
      ·cases h
     ·cases h
    ·cases h
  ·cases h
 ·cases h
def overD {α : Type} (l : List α) (off : Nat) (ys : List α) : List α := List.append (List.take off l) (List.append ys (List.drop (off + List.length ys) l))
theorem overD_map {α : Type} (f : α -> V) (l : List α) (off : Nat) (ys : List α) : (overD l off ys).map f = overw (l.map f) off (ys.map f) := by
 show (l.take off ++ (ys ++ l.drop (off + ys.length))).map f = _
 simp [overw]
theorem over_C {l l' ys ys' : List V} {off : Nat} (hl : l.length = l'.length) (hy : ys.length = ys'.length) (hle : off + ys.length <= l.length) (h1 : ∀ (i : Nat) (x x' : V), l[i]? = some x -> l'[i]? = some x' -> CellsC x x')
  (h2 : ∀ (i : Nat) (x x' : V), ys[i]? = some x -> ys'[i]? = some x' -> CellsC x x') : ∀ (i : Nat) (x x' : V), (overw l off ys)[i]? = some x -> (overw l' off ys')[i]? = some x' -> CellsC x x' := by
 intro i x x' ha hb
 rw [overw_get _ _ _ _ hle] at ha
 rw [overw_get _ _ _ _ (by omega), <- hy] at hb
 split at ha
 ·rename_i hi; rw [if_pos hi] at hb; exact h2 _ _ _ ha hb
 ·rename_i hi; rw [if_neg hi] at hb; exact h1 _ _ _ ha hb
def tclearK {R : Type} (P : Program) (o : Oper) (E : TE) (t : Nat) (a : TV) (k : K R) : Option R :=
 match tab P t with
 | some i => match i.kind with
  | .slice e => match tab P e with
   | none => none
   | some ei => match a with
    | .nil => k [] [] (E.put o.dst .dead)
    | .emp _ => k [] [] (E.put o.dst .dead)
    | .sof m g s => match Nat.beq s ei.size, objD P E e m g s, ofV ei.zero with
     | true, some ⟨et, l⟩, some z => match toD lf0 et z with
      | some (z', []) => k [m] [] ((E.oput m (.lst g et (overD l 0 (List.replicate (List.length l) z')))).put o.dst .dead)
      | _ => none
     | _, _, _ => none
    | .so m g s off len => match Nat.beq s ei.size, objD P E e m g s, ofV ei.zero with
     | true, some ⟨et, l⟩, some z => match toD lf0 et z with
      | some (z', []) => (chk (off + len <= List.length l)).bind fun _ => k [m] [] ((E.oput m (.lst g et (overD l off (List.replicate len z')))).put o.dst .dead)
      | _ => none
     | _, _, _ => none
    | _ => none
  | _ => none
 | none => none
theorem tclearK_ok {R : Type} {P : Program} {ops : Array Oper} {n : Nat} {o : Oper} {E : TE} {t : Nat} {c : Call} {x : Operand} {k : K R} {r : R} (ho : o.op = .call c) (hb : c.callee = .builtin .clear) (hx : c.args.toList = [x]) (ht : c.argTypes.toList = [t])
  (h : tclearK P o E t (tev E n x) k = some r) : ∃ E' wk rd, k wk rd E' = some r /\ Stp P G ops n o E E' wk rd := by
 have hc : isCall o = false := by unfold isCall; simp only [ho, hb]
 have he : ∀ γ, eff P o (dstD o) (E.env n γ) = (effClear P t ((tev E n x).v (olen E.h) γ) (E.heap γ)).map (V.dead, ·) := fun γ => by
  unfold eff;simp only [ho, hb, hx, ht, tev_v, env_h]
 unfold tclearK at h
 split at h
 ·rename_i i hi;split at h
  ·rename_i e hk;split at h
   ·cases h
   ·rename_i ei hei;have main : ∀ (m g s off len : Nat) (et : Ty) (l : List et.D) (z' : et.D) (z : TV), (∀ γ, (tev E n x).v (olen E.h) γ = .so m (γ m + g) s off len) -> s = ei.size -> objD P E e m g s = some ⟨et, l⟩ -> ofV ei.zero = some z -> toD lf0 et z = some (z', []) ->
      off + len <= l.length -> Stp P G ops n o E ((E.oput m (.lst g et (overD l off (List.replicate len z')))).put o.dst .dead) [m] [] := by
     intro m g s off len et l z' z ha hs hob hz hz' hle
     obtain ⟨e1, e2, p, lV, e3, e4, e5⟩ := objD_ok hob
     have hlen : (overD l off (List.replicate len z')).length = l.length := by
      show (l.take off ++ (List.replicate len z' ++ l.drop (off + (List.replicate len z').length))).length = _
      simp; omega
     refine stp_of (ext_oput _ _ _) (fun h => h) (fun γ => ⟨γ, .dead, [(m, .arr (γ m + g) p s (overw (lV γ) off (List.replicate len ei.zero)))], [(m, (TOb.lst g et (overD l off (List.replicate len z'))).ob (olen E.h) γ m)], ?_, VUp.refl _, ⟨rfl, ?_, trivial⟩, rfl, ?_, Fx.refl _⟩) hc
     ·rw [he γ, ha γ];unfold effClear;simp only [hi, hk, hei, e3 γ];rw [if_pos ⟨trivial, trivial, hs, by rw [e4 γ]; exact hle⟩];rfl
     ·simp only [TOb.ob, e1];have hp : ObUp (.arr (γ m + g) p s (overw (lV γ) off (List.replicate len ei.zero))) (.arr (γ m + g) true s ((overD l off (List.replicate len z')).map et.enc)) := by
       refine ob_up ?_ (fun y hy => by rw [<- e1]; exact encs_ok _ y hy) ?_
       ·rw [List.length_map, hlen];have : (overw (lV γ) off (List.replicate len ei.zero)).length = (lV γ).length := splice_len _ _ _ (by simp [e4 γ]; exact hle);rw [this, e4 γ]
       ·rw [overD_map];refine over_C (by rw [e4 γ, List.length_map]) (by simp) (by simp [e4 γ]; exact hle) (e5 γ) (fun i y y' hy hy' => ?_);have q1 := (List.mem_replicate.1 (List.mem_of_getElem? hy)).2;rw [List.map_replicate] at hy';have q2 := (List.mem_replicate.1 (List.mem_of_getElem? hy')).2;rw [q1, q2, <- ofV_v hz z0 z0];exact toD0_cells hz' (by simp) z0 z0
      exact hp
     ·rw [env_oput _ _ _ _ _ (by simp only [TOb.len]; rw [e2]; exact hlen)];rfl
    have none' : (∀ γ, effClear P t ((tev E n x).v (olen E.h) γ) (E.heap γ) = some []) -> Stp P G ops n o E (E.put o.dst .dead) [] [] := fun hn =>
     stp_of (E1 := E) (Ext.refl E) id (fun γ => ⟨γ, .dead, [], [], by rw [he γ, hn γ]; rfl, VUp.refl _, trivial, rfl, rfl, Fx.refl _⟩) hc
    split at h
    ·rename_i ha;exact ⟨_, _, _, h, none' fun γ => by rw [ha]; unfold effClear; simp only [hi, hk, hei, TV.v]⟩
    ·rename_i s ha;exact ⟨_, _, _, h, none' fun γ => by rw [ha]; unfold effClear; simp only [hi, hk, hei, TV.v]⟩
    ·rename_i m g s ha;split at h
     ·rename_i et l z hs hob hz;split at h
      ·rename_i z' hz';refine ⟨_, _, _, h, main m g s 0 (List.length l) et l z' z (fun γ => ?_) (beqs hs) hob hz hz' (by simp)⟩;rw [ha];simp only [TV.v, (objD_ok hob).2.1]
      ·cases h
     ·cases h
    ·rename_i m g s off len ha;split at h
     ·rename_i et l z hs hob hz;split at h
      ·rename_i z' hz';obtain ⟨_, c1, h2⟩ := bind_some' h;refine ⟨_, _, _, h2, main m g s off len et l z' z (fun γ => ?_) (beqs hs) hob hz hz' (chk_some c1)⟩;rw [ha];simp only [TV.v]
      ·cases h
     ·cases h
    ·cases h
  ·cases h
 ·cases h
def tcopyK {R : Type} (P : Program) (o : Oper) (E : TE) (t : Nat) (a b : TV) (k : K R) : Option R :=
 match tab P t with
 | some i => match i.kind with
  | .slice e => match tab P e with
   | none => none
   | some ei => match a with
    | .sof m g s => match Nat.beq s ei.size, objD P E e m g s with
     | true, some ⟨et, l⟩ => match toD (lf1 (oget E.h)) (.list et) b with
      | some (ys, cs) => chks cs (k [m] [] ((E.oput m (.lst g et (overD l 0 (List.take (List.length l) ys)))).put o.dst (.leaf (.int .i64) ((Nat.min (List.length ys) (List.length l) : Nat) : Int))))
      | _ => none
     | _, _ => none
    | .so m g s off len => match Nat.beq s ei.size, objD P E e m g s with
     | true, some ⟨et, l⟩ => match toD (lf1 (oget E.h)) (.list et) b with
      | some (ys, cs) => chks cs ((chk (off + len <= List.length l)).bind fun _ => k [m] [] ((E.oput m (.lst g et (overD l off (List.take len ys)))).put o.dst (.leaf (.int .i64) ((Nat.min (List.length ys) len : Nat) : Int))))
      | _ => none
     | _, _ => none
    | _ => none
  | _ => none
 | none => none
theorem tcopyK_ok {R : Type} {P : Program} {ops : Array Oper} {n : Nat} {o : Oper} {E : TE} {t t' : Nat} {c : Call} {x y : Operand} {k : K R} {r : R} (ho : o.op = .call c) (hb : c.callee = .builtin .copy) (hx : c.args.toList = [x, y]) (ht : c.argTypes.toList = [t, t'])
  (h : tcopyK P o E t (tev E n x) (tev E n y) k = some r) : ∃ E' wk rd, k wk rd E' = some r /\ Stp P G ops n o E E' wk rd := by
 have hc : isCall o = false := by unfold isCall; simp only [ho, hb]
 have he : ∀ γ, eff P o (dstD o) (E.env n γ) = effCopy P t ((tev E n x).v (olen E.h) γ) ((tev E n y).v (olen E.h) γ) (E.heap γ) := fun γ => by
  unfold eff;simp only [ho, hb, hx, ht, tev_v, env_h]
 unfold tcopyK at h
 split at h
 ·rename_i i hi;split at h
  ·rename_i e hk;split at h
   ·cases h
   ·rename_i ei hei;have main : ∀ (m g s off len : Nat) (et : Ty) (l ys : List et.D) (cs : List Bool), (∀ γ, (tev E n x).v (olen E.h) γ = .so m (γ m + g) s off len) -> s = ei.size -> objD P E e m g s = some ⟨et, l⟩ ->
      toD (lf1 (oget E.h)) (.list et) (tev E n y) = some (ys, cs) -> (∀ c ∈ cs, c = true) ->
      off + len <= l.length -> Stp P G ops n o E ((E.oput m (.lst g et (overD l off (List.take len ys)))).put o.dst (.leaf (.int .i64) ((Nat.min (List.length ys) len : Nat) : Int))) [m] [] := by
     intro m g s off len et l ys cs ha hs hob hys hcs hle
     obtain ⟨e1, e2, p, lV, e3, e4, e5⟩ := objD_ok hob
     have hlen : (overD l off (List.take len ys)).length = l.length := by
      show (l.take off ++ (ys.take len ++ l.drop (off + (ys.take len).length))).length = _
      simp only [List.length_append, List.length_take, List.length_drop]; omega
     refine stp_of (ext_oput _ _ _) (fun h => h) (fun γ => ?_) hc
     obtain ⟨ysV, q, g1, g2, g3⟩ := elems_ok hys hcs γ
     have htk : (ysV.take len).length = (ys.take len).length := by simp [g2]
     refine ⟨γ, .int .i64 ((Nat.min ysV.length len : Nat) : Int), [(m, .arr (γ m + g) (p && q) s (overw (lV γ) off (ysV.take len)))], [(m, (TOb.lst g et (overD l off (List.take len ys))).ob (olen E.h) γ m)], ?_, ?_, ⟨rfl, ?_, trivial⟩, rfl, ?_, Fx.refl _⟩
     ·rw [he γ, ha γ];unfold effCopy;rw [e1, hs] at g1;simp only [hi, hk, hei, g1, e3 γ];rw [if_pos ⟨trivial, trivial, hs, by rw [e4 γ]; exact hle⟩]
     ·rw [g2, leaf_int_v]; exact VUp.refl _
     ·simp only [TOb.ob, e1];have hp : ObUp (.arr (γ m + g) (p && q) s (overw (lV γ) off (ysV.take len))) (.arr (γ m + g) true s ((overD l off (List.take len ys)).map et.enc)) := by
       refine ob_up ?_ (fun y hy => by rw [<- e1]; exact encs_ok _ y hy) ?_
       ·rw [List.length_map, hlen];have : (overw (lV γ) off (ysV.take len)).length = (lV γ).length := splice_len _ _ _ (by simp only [e4 γ, List.length_take]; omega);rw [this, e4 γ]
       ·rw [overD_map];refine over_C (by rw [e4 γ, List.length_map]) (by simpa using htk) (by simp only [e4 γ, List.length_take]; omega) (e5 γ) (fun i y y' hy hy' => ?_);rw [List.map_take] at hy';rw [List.getElem?_take] at hy hy';split at hy
        ·rename_i hi; rw [if_pos hi] at hy'; exact g3 _ _ _ hy hy'
        ·cases hy
      exact hp
     ·rw [env_oput _ _ _ _ _ (by simp only [TOb.len]; rw [e2]; exact hlen)];rfl
    split at h
    ·rename_i m g s ha;split at h
     ·rename_i et l hs hob;split at h
      ·rename_i ys cs hys;obtain ⟨h1, h2⟩ := chks_ok h;refine ⟨_, _, _, h2, main m g s 0 (List.length l) et l ys cs (fun γ => ?_) (beqs hs) hob hys h1 (by simp)⟩;rw [ha];simp only [TV.v, (objD_ok hob).2.1]
      ·cases h
     ·cases h
    ·rename_i m g s off len ha;split at h
     ·rename_i et l hs hob;split at h
      ·rename_i ys cs hys;obtain ⟨h1, h2⟩ := chks_ok h;obtain ⟨_, c1, h3⟩ := bind_some' h2;refine ⟨_, _, _, h3, main m g s off len et l ys cs (fun γ => ?_) (beqs hs) hob hys h1 (chk_some c1)⟩;rw [ha];simp only [TV.v]
      ·cases h
     ·cases h
    ·cases h
  ·cases h
 ·cases h
def tcallK {R : Type} {P : Program} (cs : List (Ct P)) (n : Nat) (o : Oper) (E : TE) (x : TV) (args : List TV) (k : K R) : Option R :=
 match x with
 | .fn f caps => match Ct.find cs f (args ++ caps) with
  | some (ct, ws) => match convs lf0 (tys ct.ar) ws with
   | some (d, []) => (ct.F d).bind fun r => k [] [] (E.put o.dst (ct.rt.tv r))
   | _ => match ct.rt.flat, convs (lf1 (oget E.h)) (tys ct.ar) ws with
    | true, some (d, bs) => chks bs ((ct.F d).bind fun r => k [] (TV.idsL (args ++ caps)) (E.put o.dst (ct.rt.tv r)))
    | _, _ => none
  | none => none
 | _ => none
theorem idsL_mem {v : TV} : ∀ {l : List TV}, v ∈ l -> ∀ n ∈ v.ids, n ∈ TV.idsL l
 | c :: cs, hv, n, hn => by
  simp only [TV.idsL, List.mem_append];rcases List.mem_cons.1 hv with rfl | hv
  ·exact .inl hn
  ·exact .inr (idsL_mem hv n hn)
theorem flat_ids : ∀ (ar : List Ar) (vs ws : List TV), flat ar vs = some ws -> ∀ v ∈ ws, ∀ n ∈ v.ids, n ∈ TV.idsL vs
 | [], [], ws, h, v, hv, n, hn => by simp [flat] at h; subst h; cases hv
 | [], _ :: _, ws, h, _, _, _, _ => by simp [flat] at h
 | .d t :: r, [], ws, h, _, _, _, _ => by simp [flat] at h
 | .d t :: r, u :: vs, ws, h, v, hv, n, hn => by
  simp only [flat] at h;split at h
  ·rename_i l hl;cases h;simp only [TV.idsL, List.mem_append];rcases List.mem_cons.1 hv with rfl | hv
   ·exact .inl hn
   ·exact .inr (flat_ids r vs l hl v hv n hn)
  ·cases h
 | .f g cs :: r, [], ws, h, _, _, _, _ => by simp [flat] at h
 | .f g cs :: r, u :: vs, ws, h, v, hv, n, hn => by
  simp only [flat] at h;split at h
  ·rename_i g' cv;split at h
   ·split at h
    ·rename_i l hl;cases h;simp only [TV.idsL, List.mem_append];rcases List.mem_append.1 hv with hv | hv
     ·exact .inl (idsL_mem hv n hn)
     ·exact .inr (flat_ids r vs l hl v hv n hn)
    ·cases h
   ·cases h
  ·cases h
theorem tcallK_ok {R : Type} {P : Program} {cs : List (Ct P)} {ops : Array Oper} {n : Nat} {o : Oper} {E : TE} {c : Call} {x : Operand} {k : K R} {r : R} (ho : o.op = .call c) (hb : c.callee = .value x)
    (h : tcallK cs n o E (tev E n x) (c.args.toList.map (tev E n)) k = some r) : ∃ E' wk rd, k wk rd E' = some r /\ Stp P G ops n o E E' wk rd := by
  unfold tcallK at h
  split at h
  · rename_i f caps hx
    split at h
    · rename_i ct ws hf
      obtain ⟨hcf, hfl⟩ := Ct.find_ok hf
      have stp : ∀ (rv : ct.rt.D) (d : Ds (tys ct.ar)) (rd : List Nat), ct.F d = some rv -> (unflat ct.ar (dvs (tys ct.ar) d)).length = (c.args.toList.map (tev E n) ++ caps).length ->
          (∀ γ (e2 : Env), (∀ m ∈ rd, hget e2.h m = hget (E.heap γ) m) ->
            ((∀ (j : Nat) (v : TV) (c' : V), (c.args.toList.map (tev E n) ++ caps)[j]? = some v -> (unflat ct.ar (dvs (tys ct.ar) d))[j]? = some c' -> ConvP (v.v (olen E.h) γ) c') \/
             (ct.rt.flat = true /\ ∀ (j : Nat) (v : TV) (c' : V), (c.args.toList.map (tev E n) ++ caps)[j]? = some v -> (unflat ct.ar (dvs (tys ct.ar) d))[j]? = some c' -> ConvL e2.h (v.v (olen E.h) γ) c'))) ->
          Stp P G ops n o E (E.put o.dst (ct.rt.tv rv)) [] rd := by
        intro rv d rd hF hlen hconv
        refine ⟨ext_put _ _ _, ok_put, fun γ => ⟨γ, ct.rt.v rv, [], fun e2 hl _ hk => ?_, rfl, ?_, Fx.refl _, fun hs => by simp [isSt, ho, hb] at hs⟩⟩
        · have hev : ∀ y ∈ #[x].toList ++ c.args.toList, e2.ev y = (tev E n y).v (olen E.h) γ := by
            intro y hy
            rw [<- tev_v]
            cases y with
            | tmp t =>
              have := look_slot (hk (.s t) (by
                unfold trd
                simp only [List.mem_append, List.mem_flatMap]
                refine .inl (.inl (.inl ⟨.tmp t, ?_, by simp [slotOf]⟩))
                simp only [ho, Op.operands, Call.operands, hb, Array.toList_append]
                exact List.mem_append.1 hy |> fun h => List.mem_append.2 h |> fun h => by simpa using h))
              simp only [Env.ev, List.getD_eq_getElem?_getD, this]
            | _ => rfl
          have hargs : c.args.toList.map e2.ev = (c.args.toList.map (tev E n)).map (TV.v (olen E.h) γ) := by
            rw [List.map_map]
            exact List.map_congr_left fun y hy => hev y (by simp; exact .inr (by simpa using hy))
          have hid : ∀ m ∈ rd, hget e2.h m = hget (E.heap γ) m := fun m hm => by
            have := look_id (hk (.h m) (by simp; exact .inr hm))
            rw [env_h] at this
            exact this
          unfold ExU
          simp only [ho, hb]
          refine ⟨f, TV.vL (olen E.h) γ caps, by rw [hev x (by simp), hx]; rfl, .inl ⟨rfl, unflat ct.ar (dvs (tys ct.ar) d), by rw [<- hcf]; exact ct.ok d rv hF, by rw [hlen, hargs]; simp [vL_map], ?_⟩⟩
          have hvs : c.args.toList.map e2.ev ++ TV.vL (olen E.h) γ caps = (c.args.toList.map (tev E n) ++ caps).map (TV.v (olen E.h) γ) := by rw [hargs, vL_map, List.map_append]
          rw [hvs]
          rcases hconv γ e2 hid with hP | ⟨h1, hL⟩
          · refine .inl fun j c0 c' h1 h2 => ?_
            simp only [List.getElem?_map, Option.map_eq_some_iff] at h1
            obtain ⟨v, hv, rfl⟩ := h1
            exact hP j v c' hv h2
          · refine .inr ⟨rt_flat _ _ h1, fun j c0 c' h1 h2 => ?_⟩
            simp only [List.getElem?_map, Option.map_eq_some_iff] at h1
            obtain ⟨v, hv, rfl⟩ := h1
            exact hL j v c' hv h2
        · rw [env_put, rt_v]
      split at h
      · rename_i d hcv
        obtain ⟨rv, hF, hk⟩ := bind_some' h
        have conv : ∀ γ : Nat -> Nat, (unflat ct.ar (dvs (tys ct.ar) d)).length = (c.args.toList.map (tev E n) ++ caps).length /\ ∀ (j : Nat) (v : TV) (c' : V), (c.args.toList.map (tev E n) ++ caps)[j]? = some v -> (unflat ct.ar (dvs (tys ct.ar) d))[j]? = some c' -> ConvP (v.v (olen E.h) γ) c' := by
          intro γ
          obtain ⟨a1, a2⟩ := convs_ok thr_P (H := olen E.h) (γ := γ) (tys ct.ar) ws d [] (fun v _ t x p h hp => toD0_P h hp _ _) hcv (by simp)
          exact flat_ok thrF_P ct.ar _ ws _ hfl (by rw [dvs_len]; exact a1.symm) a2
        exact ⟨_, _, _, hk, stp rv d [] hF (conv z0).1 fun γ e2 _ => .inl (conv γ).2⟩
      · split at h
        · rename_i d bs hfl2 hcv
          obtain ⟨h1, h2⟩ := chks_ok h
          obtain ⟨rv, hF, hk⟩ := bind_some' h2
          have conv : ∀ (γ : Nat -> Nat) (h : Heap), (∀ m ∈ TV.idsL (c.args.toList.map (tev E n) ++ caps), hget h m = hget (E.heap γ) m) ->
              (unflat ct.ar (dvs (tys ct.ar) d)).length = (c.args.toList.map (tev E n) ++ caps).length /\ ∀ (j : Nat) (v : TV) (c' : V), (c.args.toList.map (tev E n) ++ caps)[j]? = some v -> (unflat ct.ar (dvs (tys ct.ar) d))[j]? = some c' -> ConvL h (v.v (olen E.h) γ) c' := by
            intro γ h hid
            have hw : ∀ v ∈ ws, ∀ (t : Ty) (x : t.D) (p : List Bool), toD (lf1 (oget E.h)) t v = some (x, p) -> (∀ b ∈ p, b = true) -> ConvL h (v.v (olen E.h) γ) (t.enc x) := by
              intro v hv t x p hx hp
              have hids := flat_ids ct.ar _ ws hfl v hv
              exact toD1_L (fun m hm => hid m (hids m hm)) hx hp
            obtain ⟨a1, a2⟩ := convs_ok (thr_L h) (H := olen E.h) (γ := γ) (tys ct.ar) ws d bs hw hcv h1
            exact flat_ok (thrF_L h) ct.ar _ ws _ hfl (by rw [dvs_len]; exact a1.symm) a2
          exact ⟨_, _, _, hk, stp rv d _ hF (conv z0 (E.heap z0) (fun _ _ => rfl)).1 fun γ e2 hid => .inr ⟨hfl2, (conv γ e2.h hid).2⟩⟩
        · cases h
    · cases h
  · cases h
def tvalK {R : Type} (P : Program) (n : Nat) (o : Oper) (E : TE) (k : K R) : Option R := match tval P n o E with
 | some v => k [] [] (E.put o.dst v)
 | none => none
def TE.memo (E : TE) (m : Memo) : TE := ⟨E.s, E.h, m :: E.m, E.c⟩
def tlenK {R : Type} (P : Program) (n : Nat) (o : Oper) (E : TE) (x : Operand) (k : K R) : Option R :=
 match x, o.dst with
 | .tmp a, some d => match tval P n o E, Nat.beq a d, E.get n a with
  | some (.leaf (.int .i64) z), false, .leaf (.list t) l => match tab P (match o.op with | .call c => c.argTypes.toList.headD 0 | _ => 0) with
   | some i => match i.kind with
    | .slice _ => k [] [] ((E.put (some d) (.leaf (.int .i64) (List.length l : Int))).memo ⟨a, d, t, l, List.length l, none⟩)
    | _ => none
   | none => none
  | some v, _, _ => k [] [] (E.put (some d) v)
  | none, _, _ => none
 | _, _ => tvalK P n o E k
def tstep {R : Type} (P : Program) (cs : List (Ct P)) (n : Nat) (o : Oper) (E : TE) (k : K R) : Option R :=
 match o.op with
 | .binOp op t x y _ => tbinK P n o E op (tev E n x) (tev E n y) k (tvalK P n o E k)
 | .load t x => tloadK P n o E t (tev E n x) k (tvalK P n o E k)
 | .indexAddr t x i => tindexK P n o E t x i k
 | .index t x i => tbyteK P n o E t (tev E n x) (tev E n i) k
 | .slice t x lo hi none => tsliceK P n o E t (tev E n x) lo hi k
 | .makeMap t none => tmakeMapK P o E t k
 | .lookup t x y ok => tlookupN P o E t (tev E n x) (tev E n y) ok k (tlookupK P n o E t (tev E n x) (tev E n y) ok k)
 | .mapUpdate t m x y => tmapUpdN P o E t (tev E n m) (tev E n x) (tev E n y) k (tmapUpdK P o E t (tev E n m) (tev E n x) (tev E n y) k)
 | .alloc t => tallocK P o E t k
 | .box t x => tboxK P o E t (tev E n x) k
 | .buildSlice t len ps => tbsK P n o E t len ps k
 | .makeSlice t x y => tmakeK P o E t (tev E n x) (tev E n y) k
 | .store t a x => tstoreK P o E t (tev E n a) (tev E n x) k
 | .call c => match c.callee with
  | .value x => tcallK cs n o E (tev E n x) (c.args.toList.map (tev E n)) k
  | .builtin .append => match c.args.toList, c.argTypes.toList with
   | [x, y], [t, t'] => tappK P o E t t' (tev E n x) (tev E n y) k
   | _, _ => none
  | .builtin .len => match c.args.toList, c.argTypes.toList with
   | [x], [_] => tlenK P n o E x k
   | _, _ => none
  | .builtin .clear => match c.args.toList, c.argTypes.toList with
   | [x], [t] => tclearK P o E t (tev E n x) k
   | _, _ => none
  | .builtin .copy => match c.args.toList, c.argTypes.toList with
   | [x, y], [t, _] => tcopyK P o E t (tev E n x) (tev E n y) k
   | _, _ => none
  | .builtin .delete => match c.args.toList, c.argTypes.toList with
   | [x, y], [t, _] => tdelK P o E t (tev E n x) (tev E n y) k
   | _, _ => none
  | _ => tvalK P n o E k
 | _ => tvalK P n o E k
theorem tvalK_ok {R : Type} {P : Program} {ops : Array Oper} {n : Nat} {o : Oper} {E : TE} {k : K R} {r : R} (h : tvalK P n o E k = some r) : ∃ E' wk rd, k wk rd E' = some r /\ Stp P G ops n o E E' wk rd := by
 unfold tvalK at h;split at h
 ·rename_i v hv; exact ⟨_, _, _, h, tval_stp hv⟩
 ·cases h
theorem memo_env (E : TE) (m : Memo) (n : Nat) (γ : Nat -> Nat) : (E.memo m).env n γ = E.env n γ := rfl
theorem ext_memo (E : TE) (m : Memo) : Ext E (E.memo m) := ⟨Nat.le_refl _, fun _ _ h _ => ⟨h, rfl⟩, fun _ _ h _ => ⟨h, rfl⟩⟩
theorem tlenK_ok {R : Type} {P : Program} {ops : Array Oper} {n : Nat} {o : Oper} {E : TE} {c : Call} {x : Operand} {t0 : Nat} {k : K R} {r : R} (ho : o.op = .call c) (hb : c.callee = .builtin .len) (hx : c.args.toList = [x]) (ht : c.argTypes.toList = [t0])
  (h : tlenK P n o E x k = some r) : ∃ E' wk rd, k wk rd E' = some r /\ Stp P G ops n o E E' wk rd := by
 unfold tlenK at h
 split at h
 ·rename_i a d hd;split at h
  ·rename_i z t l hv had hg;split at h
   ·rename_i i hi;split at h
    ·rename_i e hk;have hv' : tval P n o E = some (.leaf (.int .i64) (List.length l : Int)) := by
      have := hv;unfold tval at this ⊢;simp only [ho, hb, hx, ht] at this ⊢ hi;simp only [List.headD_cons] at hi;have hmn : mapT P t0 = none := by simp only [mapT, hi, hk]
      simp only [tev, hg, tlen, hmn, tlen0, hi, hk] at this ⊢
     have := tval_stp (G := G) (ops := ops) hv';rw [hd] at this;obtain ⟨s1, s2, s3⟩ := this;refine ⟨_, _, _, h, s1.trans (ext_memo _ _), fun hE m hm => ?_, fun γ => ?_⟩
     ·rcases List.mem_cons.1 hm with rfl | hm
      ·have hb' : Nat.beq a d = false := had;simp only [TE.get] at hg;split at hg
       ·refine ⟨?_, ?_, rfl⟩
        ·simp only [TE.memo, TE.put, sget, hb']; exact hg
        ·simp only [TE.memo, TE.put, sget, Nat.beq_refl]
       ·cases hg
      ·exact s2 hE m hm
     ·obtain ⟨γ', v, ups, q1, q2, q3⟩ := s3 γ;exact ⟨γ', v, ups, q1, q2, q3⟩
    ·cases h
   ·cases h
  ·rename_i v hv hne;have := tval_stp (G := G) (ops := ops) hv;rw [hd] at this;exact ⟨_, _, _, h, this⟩
  ·cases h
 ·exact tvalK_ok h
theorem tstep_ok {R : Type} {P : Program} {cs : List (Ct P)} {ops : Array Oper} {n : Nat} {o : Oper} {E : TE} {k : K R} {r : R} (hE : E.ok) (h : tstep P cs n o E k = some r) : ∃ E' wk rd, k wk rd E' = some r /\ Stp P G ops n o E E' wk rd := by
 unfold tstep at h;split at h
 ·rename_i ho; exact tbinK_ok ho h tvalK_ok
 ·rename_i ho; exact tloadK_ok ho h tvalK_ok
 ·rename_i ho; exact tindexK_ok ho hE h
 ·rename_i ho; exact tbyteK_ok ho h
 ·rename_i ho; exact tsliceK_ok ho h
 ·rename_i ho; exact tmakeMapK_ok ho h
 ·rename_i ho; exact tlookupN_ok ho (tlookupK_ok ho) h
 ·rename_i ho; exact tmapUpdN_ok ho (tmapUpdK_ok ho) h
 ·rename_i ho; exact tallocK_ok ho h
 ·rename_i ho; exact tboxK_ok ho h
 ·rename_i ho; exact tbsK_ok ho h
 ·rename_i ho; exact tmakeK_ok ho h
 ·rename_i ho; exact tstoreK_ok ho h
 ·rename_i c ho;split at h
  ·rename_i x hb; exact tcallK_ok ho hb h
  ·rename_i hb;split at h
   ·rename_i x y t t' hx ht; exact tappK_ok ho hb hx ht h
   ·cases h
  ·rename_i hb;split at h
   ·rename_i x t hx ht; exact tlenK_ok ho hb hx ht h
   ·cases h
  ·rename_i hb;split at h
   ·rename_i x t hx ht; exact tclearK_ok ho hb hx ht h
   ·cases h
  ·rename_i hb;split at h
   ·rename_i x y t t' hx ht; exact tcopyK_ok ho hb hx ht h
   ·cases h
  ·rename_i hb;split at h
   ·rename_i x y t t' hx ht; exact tdelK_ok ho hb hx ht h
   ·cases h
  ·exact tvalK_ok h
 ·exact tvalK_ok h
end Go.PG.PH
set_option linter.unusedSimpArgs false
set_option linter.unusedVariables false
namespace Go.PG.PH
def CellsU (x x' : V) : Prop := x'.cells.length = x.cells.length /\ ∀ (j : Nat) (c c' : V), x.cells[j]? = some c -> x'.cells[j]? = some c' -> VUp c c'
theorem CellsU.refl (x : V) : CellsU x x := ⟨rfl, fun j c c' h1 h2 => by rw [h1] at h2; cases h2; exact VUp.refl _⟩
theorem CellsC.up {x x' : V} (h : CellsC x x') : CellsU x x' := ⟨h.1, fun j c c' h1 h2 w st m hr => .s (h.2 j c c' h1 h2 w st m hr)⟩
theorem ob_any {g g' sz : Nat} {p p' : Bool} {l l' : List V} (hg : g = g') (h1 : l'.length = l.length) (hf : p' = true -> V.idfreeL l' = true) (hx : ∀ (i : Nat) (x x' : V), l[i]? = some x -> l'[i]? = some x' -> CellsU x x') :
  ObUp (.arr g p sz l) (.arr g' p' sz l') := by
 subst hg
 refine ⟨rfl, fun w st n ho => ?_⟩
 obtain ⟨a1, a2, a3, a4⟩ := ho
 refine ⟨by omega, fun x hx' => ?_, fun hp x hx' => (V.idfreeL_iff l').1 (hf hp) x hx', ?_⟩
 ·obtain ⟨i, hi, rfl⟩ := List.mem_iff_getElem.1 hx';have hi' : i < l.length := by omega
  rw [(hx i _ _ (List.getElem?_eq_getElem hi') (List.getElem?_eq_getElem hi)).1];exact a2 _ (List.getElem_mem hi')
 ·rcases a4 with ⟨e0, hno⟩ | ⟨b, o, cells, ty, hb, hc, hR⟩
  ·left;subst e0;exact ⟨List.eq_nil_of_length_eq_zero (by simpa using h1), hno⟩
  ·refine .inr ⟨b, o, cells, ty, hb, hc, fun i j x' c' hi hj => ?_⟩;have hi' : i < l.length := by rw [<- h1]; exact (List.getElem?_eq_some_iff.1 hi).1
   have hv := List.getElem?_eq_getElem hi';obtain ⟨e1, e2⟩ := hx i l[i] x' hv hi;have hj' : j < l[i].cells.length := by rw [<- e1]; exact (List.getElem?_eq_some_iff.1 hj).1
   have hcj := List.getElem?_eq_getElem hj';obtain ⟨r1, r2, r3⟩ := hR i j _ _ hv hcj;exact ⟨r1, r2, e2 j _ c' hcj hj w st _ r3⟩
def ObN (h : Heap) (m : Nat) (o' : Ob) : Prop := (∃ o, hget h m = some o /\ ObUp o o') \/ (hget h m = none /\ ∃ g p sz, o' = .arr g p sz [])
theorem le_up {n : Nat} {S S' : List (Nat × V)} {h h' : Heap} (hs : ∀ i, i < n -> aget S' i = .dead \/ VUp (aget S i) (aget S' i)) (hh : ∀ m o', hget h' m = some o' -> ObN h m o') (hk : ∀ m o, hget h m = some o -> hget h' m ≠ none) :
  Le (SE n S h) (SE n S' h') := by
 intro st a w hr
 refine ⟨st, ⟨by rw [hr.size, se_len, se_len], fun i c v h1 h2 => ?_, ⟨fun m x hx => ?_, fun b m g o hb => ?_, hr.heap.inj, hr.heap.shut, hr.heap.hid⟩⟩, Hist.refl w st⟩
 ·have hi : i < n := by have := (List.getElem?_eq_some_iff.1 h1).1; simpa [SE] using this
  rw [se_get _ _ _ _ hi] at h1;cases h1;rcases hs i hi with e | e
  ·rw [e]; exact .dead
  ·exact e _ _ _ (hr.tmps i _ v (se_get _ _ _ _ hi) h2)
 ·rw [se_h] at hx;rcases hh m x hx with ⟨o, h1, h2⟩ | ⟨h1, g, p, sz, rfl⟩
  ·exact h2.2 w st m (hr.heap.ob m o h1)
  ·refine ⟨by simp [LIM], by simp, by simp, .inl ⟨rfl, fun b g o hb => ?_⟩⟩;obtain ⟨_, x, hx, _⟩ := hr.heap.dom b m g o hb;rw [se_h, h1] at hx; cases hx
 ·obtain ⟨r1, x, hx, hg⟩ := hr.heap.dom b m g o hb;refine ⟨r1, ?_⟩;rw [se_h] at hx ⊢;cases e : hget h' m with
  | none => exact absurd e (hk m x hx)
  | some y =>
   refine ⟨y, rfl, ?_⟩;rcases hh m y e with ⟨o, h1, h2⟩ | ⟨h1, _⟩
   ·rw [hx] at h1; cases h1; rw [<- h2.1]; exact hg
   ·rw [hx] at h1; cases h1
theorem le_drop {n : Nat} {S S' : List (Nat × V)} {h h' : Heap} (hs : ∀ i, i < n -> aget S' i = .dead \/ (VUp (aget S i) (aget S' i) /\ (aget S' i).kin h' = true)) (hh : ∀ m o', hget h' m = some o' -> ObN h m o' /\ (match o' with
   | .arr _ p _ l => p = true \/ ∀ y ∈ l, y.kin h' = true
   | .map _ ks vs => (∀ y ∈ ks, y.kin h' = true) /\ ∀ y ∈ vs, y.kin h' = true)) (hk : ∀ m o, hget h m = some o -> 1000 <= m -> hget h' m ≠ none) : Le (SE n S h) (SE n S' h') := by
 have hg : ∀ (a b : Heap) m, hget (a ++ b) m = match hget a m with | some x => some x | none => hget b m := by
  intro a b m;induction a with
  | nil => rfl
  | cons x a ih =>
   obtain ⟨k, o⟩ := x;simp only [List.cons_append, hget];split
   ·rfl
   ·exact ih
 have h1 : Le (SE n S h) (SE n S' (h' ++ h)) := by
  refine le_up (fun i hi => (hs i hi).imp id fun h => h.1) (fun m o' ho' => ?_) (fun m o ho => ?_)
  ·rw [hg] at ho';cases e : hget h' m with
   | some x => rw [e] at ho'; cases ho'; exact (hh m _ e).1
   | none => rw [e] at ho'; exact .inl ⟨o', ho', ObUp.refl _⟩
  ·rw [hg];cases hget h' m <;> simp [ho]
 refine h1.trans (le_env (by simp [SE]) (fun i c c' e1 e2 => ?_) (fun m x hx => ?_) ?_)
 ·have hi : i < n := by have := (List.getElem?_eq_some_iff.1 e1).1; simpa [SE] using this
  rw [se_get _ _ _ _ hi] at e1 e2;cases e1; cases e2;rcases hs i hi with e | ⟨_, e⟩
  ·exact .inl e
  ·exact .inr (.inl ⟨rfl, e⟩)
 ·rw [se_h] at hx ⊢;refine ⟨by rw [hg, hx], ?_⟩;have := (hh m x hx).2;cases x <;> exact this
 ·have key : ∀ r : Heap, (∀ m o, (m, o) ∈ r -> 1000 <= m -> hget h' m ≠ none) -> hiKeep r h' := by
   intro r;induction r with
   | nil => intro _; trivial
   | cons a r ih =>
    obtain ⟨m, o⟩ := a;intro hr;refine ⟨?_, ih fun m' o' hm' => hr m' o' (by simp [hm'])⟩;by_cases hm : m < 1000
    ·exact .inl hm
    ·right;have := hr m o (by simp) (by omega);cases e : hget h' m with
     | none => exact absurd e this
     | some _ => rfl
  have mem : ∀ (r : Heap) m o, (m, o) ∈ r -> ∃ o', hget r m = some o' := by
   intro r;induction r with
   | nil => intro m o h; cases h
   | cons a r ih =>
    obtain ⟨k, x⟩ := a;intro m o hm;simp only [hget];by_cases e : m = k
    ·exact ⟨x, by rw [if_pos e]⟩
    ·rw [if_neg e];rcases List.mem_cons.1 hm with hm | hm
     ·injection hm with h1 _; exact absurd h1 e
     ·exact ih m o hm
  refine key _ fun m o hm h1000 => ?_
  obtain ⟨o', ho'⟩ := mem _ m o hm;rw [se_h, hg] at ho';cases e : hget h' m with
  | some x => simp
  | none => rw [e] at ho'; exact absurd e (hk m o' ho' h1000)
inductive Sh where
 | dt (t : Ty)
 | wn (n sz : Nat)
 | pt (n sz off : Nat)
 | nl
 | ag (cs : List Sh)
 | fn (f : FuncId) (cs : List Sh)
 | np
 | nf
 | ws (n sz : Nat)
 | mp (n : Nat)
structure Dv where
 t : Ty
 x : t.D
mutual
def Sh.tys : Sh -> List Ty
 | .dt t => [t]
 | .wn _ _ => []
 | .pt _ _ _ => []
 | .nl => []
 | .ag cs => tysL cs
 | .fn _ cs => tysL cs
 | .np => []
 | .nf => []
 | .ws _ _ => [.int .i64, .int .i64]
 | .mp _ => []
def Sh.tysL : List Sh -> List Ty
 | [] => []
 | c :: cs => c.tys ++ tysL cs
end
def tgen (h : List (Nat × Nat × TOb)) (n : Nat) : Nat := match oget h n with
 | some x => x.gen
 | none => 0
mutual
def Sh.pk (h : List (Nat × Nat × TOb)) : Sh -> TV -> Option (List Dv)
 | .dt t, v => match toD lf0 t v with
  | some (x, []) => some [⟨t, x⟩]
  | _ => none
 | .wn n sz, v => match v with
  | .sof m g s => match Nat.beq m n, Nat.beq s sz, Nat.beq g (tgen h n) with
   | true, true, true => some []
   | _, _, _ => none
  | .nil => match oget h n with
   | none => some []
   | some _ => none
  | _ => none
 | .pt n sz off, v => match v with
  | .ep m g s 0 o => match Nat.beq m n, Nat.beq s sz, Nat.beq o off, Nat.beq g (tgen h n) with
   | true, true, true, true => some []
   | _, _, _, _ => none
  | _ => none
 | .nl, v => match v with
  | .nil => some []
  | _ => none
 | .ag cs, v => match v with
  | .agg vs => Sh.pkL h cs vs
  | .leaf t x => match t.isA with
   | true => Sh.pkL h cs (tcells t x)
   | false => none
  | _ => none
 | .fn f cs, v => match v with
  | .fn f' vs => match Nat.beq f' f with
   | true => Sh.pkL h cs vs
   | false => none
  | _ => none
 | .np, v => match v with
  | .nilp => some []
  | _ => none
 | .nf, v => match v with
  | .nilfn => some []
  | _ => none
 | .ws n sz, v => match v with
  | .so m g s off len => match Nat.beq m n, Nat.beq s sz, Nat.beq g (tgen h n) with
   | true, true, true => some [⟨.int .i64, (off : Int)⟩, ⟨.int .i64, (len : Int)⟩]
   | _, _, _ => none
  | .sof m g s => match Nat.beq m n, Nat.beq s sz, Nat.beq g (tgen h n) with
   | true, true, true => some [⟨.int .i64, (0 : Int)⟩, ⟨.int .i64, (olen h n : Int)⟩]
   | _, _, _ => none
  | .nil => match oget h n with
   | none => some [⟨.int .i64, (0 : Int)⟩, ⟨.int .i64, (0 : Int)⟩]
   | some _ => none
  | _ => none
 | .mp n, v => match v with
  | .mo m g => match Nat.beq m n, Nat.beq g (tgen h n) with
   | true, true => some []
   | _, _ => none
  | _ => none
def Sh.pkL (h : List (Nat × Nat × TOb)) : List Sh -> List TV -> Option (List Dv)
 | [], [] => some []
 | c :: cs, v :: vs => match c.pk h v with
  | none => none
  | some a => match pkL h cs vs with
   | none => none
   | some b => some (a ++ b)
 | _, _ => none
end
def takeD (t : Ty) : List Dv -> t.D × List Dv
 | [] => (t.zero, [])
 | v :: r => match castD v.t t v.x with
  | some x => (x, r)
  | none => (t.zero, r)
mutual
def Sh.un (G : Nat -> Nat) : Sh -> List Dv -> TV × List Dv
 | .dt t, l => match takeD t l with
  | (x, r) => (.leaf t x, r)
 | .wn n sz, l => (.sof n (G n) sz, l)
 | .pt n sz off, l => (.ep n (G n) sz 0 off, l)
 | .nl, l => (.nil, l)
 | .ag cs, l => match Sh.unL G cs l with
  | (vs, r) => (.agg vs, r)
 | .fn f cs, l => match Sh.unL G cs l with
  | (vs, r) => (.fn f vs, r)
 | .np, l => (.nilp, l)
 | .nf, l => (.nilfn, l)
 | .ws n sz, l => match takeD (.int .i64) l with
  | (a, l1) => match takeD (.int .i64) l1 with
   | (b, l2) => (.so n (G n) sz (Int.toNat a) (Int.toNat b), l2)
 | .mp n, l => (.mo n (G n), l)
def Sh.unL (G : Nat -> Nat) : List Sh -> List Dv -> List TV × List Dv
 | [], l => ([], l)
 | c :: cs, l => match c.un G l with
  | (v, l1) => match unL G cs l1 with
   | (vs, l2) => (v :: vs, l2)
end
inductive OSh where
 | ls (t : Ty)
 | el (p : Bool) (sz : Nat) (cs : List Sh)
 | mp (k v : Ty)
 | nm (k u : Ty)
 | nl (u : Ty)
def OSh.tys : OSh -> List Ty
 | .ls t => [.list t]
 | .el _ _ cs => Sh.tysL cs
 | .mp k v => [.map k v]
 | .nm k u => [.map k u]
 | .nl u => [.list u]
def OSh.pk (h : List (Nat × Nat × TOb)) (n : Nat) : OSh -> Option (List Dv)
 | .ls t => match oget h n with
  | none => some [⟨.list t, []⟩]
  | some (.lst g t' l) => match castD (.list t') (.list t) l with
   | some l' => some [⟨.list t, l'⟩]
   | none => none
  | some (.els g _ s l) => match Nat.beq s t.size, toDs0 t l with
   | true, some l' => some [⟨.list t, l'⟩]
   | _, _ => none
  | _ => none
 | .el p sz cs => match oget h n with
  | some (.els g q s l) => match Nat.beq s sz with
   | true => Sh.pkL h cs l
   | false => none
  | _ => none
 | .mp k v => match oget h n with
  | some (.mp _ k' v' l) => match castD (.map k' v') (.map k v) l with
   | some l' => some [⟨.map k v, l'⟩]
   | none => none
  | _ => none
 | .nm k u => match oget h n with
  | some (.nm _ k' u' l .no) => match castD (.map k' u') (.map k u) l with
   | some l' => some [⟨.map k u, l'⟩]
   | none => none
  | some (.mp _ _ _ []) => some [⟨.map k u, []⟩]
  | _ => none
 | .nl u => match oget h n with
  | none => some [⟨.list u, []⟩]
  | some (.nl _ u' l none) => match castD (.list u') (.list u) l with
   | some l' => some [⟨.list u, l'⟩]
   | none => none
  | some (.lst _ t' []) => match Nat.beq t'.size 1 with
   | true => some [⟨.list u, []⟩]
   | false => none
  | _ => none
mutual
def Sh.plain : Sh -> Bool
 | .dt _ => true
 | .wn _ _ => false
 | .pt _ _ _ => false
 | .nl => true
 | .ag cs => plainL cs
 | .fn _ cs => plainL cs
 | .np => true
 | .nf => true
 | .ws _ _ => false
 | .mp _ => false
def Sh.plainL : List Sh -> Bool
 | [] => true
 | c :: cs => match c.plain with
  | true => plainL cs
  | false => false
end
def OSh.un (G : Nat -> Nat) (n : Nat) : OSh -> List Dv -> TOb × List Dv
 | .ls t, l => match takeD (.list t) l with
  | (x, r) => (.lst (G n) t x, r)
 | .el p sz cs, l => match Sh.unL G cs l with
  | (vs, r) => (.els (G n) (andB p (Sh.plainL cs)) sz vs, r)
 | .mp k v, l => match takeD (.map k v) l with
  | (x, r) => (.mp (G n) k v x, r)
 | .nm k u, l => match takeD (.map k u) l with
  | (x, r) => (.nm (G n) k u x .no, r)
 | .nl u, l => match takeD (.list u) l with
  | (x, r) => (.nl (G n) u x none, r)
structure J where
 ks : List Nat
 kh : List Nat
 js : List (Nat × Sh)
 jh : List (Nat × OSh)
def tysS : List (Nat × Sh) -> List Ty
 | [] => []
 | x :: r => x.2.tys ++ tysS r
def tysO : List (Nat × OSh) -> List Ty
 | [] => []
 | x :: r => x.2.tys ++ tysO r
def J.tys (j : J) : List Ty := tysS j.js ++ tysO j.jh
def asm : (ts : List Ty) -> List Dv -> Option (Ds ts)
 | [], [] => some ()
 | [t], [v] => castD v.t t v.x
 | t :: u :: r, v :: vs => match castD v.t t v.x with
  | none => none
  | some x => match asm (u :: r) vs with
   | none => none
   | some y => some (x, y)
 | _, _ => none
def dis : (ts : List Ty) -> Ds ts -> List Dv
 | [], _ => []
 | [t], x => [⟨t, x⟩]
 | t :: u :: r, x => ⟨t, x.1⟩ :: dis (u :: r) x.2
theorem dis_asm : ∀ (ts : List Ty) (l : List Dv) (d : Ds ts), asm ts l = some d -> dis ts d = l
 | [], [], d, h => rfl
 | [t], [v], d, h => by
  simp only [asm] at h;obtain ⟨e, rfl⟩ := castD_some h;cases v;simp only at e;subst e;rfl
 | t :: u :: r, v :: vs, d, h => by
  simp only [asm] at h;split at h
  ·cases h
  ·rename_i x hx;split at h
   ·cases h
   ·rename_i y hy;cases h;obtain ⟨e, rfl⟩ := castD_some hx;cases v;simp only at e;subst e;simp only [dis, dis_asm (u :: r) vs y hy]
 | [], _ :: _, d, h => by simp [asm] at h
 | [t], [], d, h => by simp [asm] at h
 | [t], _ :: _ :: _, d, h => by simp [asm] at h
 | t :: u :: r, [], d, h => by simp [asm] at h
def packS (h : List (Nat × Nat × TOb)) (E : TE) : List (Nat × Sh) -> Option (List Dv)
 | [] => some []
 | x :: r => match x.2.pk h (sget E.s x.1) with
  | none => none
  | some a => match packS h E r with
   | none => none
   | some b => some (a ++ b)
def packO (h : List (Nat × Nat × TOb)) : List (Nat × OSh) -> Option (List Dv)
 | [] => some []
 | x :: r => match x.2.pk h x.1 with
  | none => none
  | some a => match packO h r with
   | none => none
   | some b => some (a ++ b)
def unS (G : Nat -> Nat) (c : Nat) : List (Nat × Sh) -> List Dv -> List (Nat × Nat × TV) × List Dv
 | [], l => ([], l)
 | x :: r, l => match x.2.un G l with
  | (v, l1) => match unS G c r l1 with
   | (vs, l2) => ((x.1, c, v) :: vs, l2)
def unO (G : Nat -> Nat) (c : Nat) : List (Nat × OSh) -> List Dv -> List (Nat × Nat × TOb)
 | [], _ => []
 | x :: r, l => match x.2.un G x.1 l with
  | (v, l1) => (x.1, c, v) :: unO G c r l1
def keepS (s : List (Nat × Nat × TV)) : List Nat -> List (Nat × Nat × TV)
 | [] => []
 | i :: r => match stime s i with
  | some c => (i, c, sget s i) :: keepS s r
  | none => keepS s r
def keepO (h : List (Nat × Nat × TOb)) : List Nat -> List (Nat × Nat × TOb)
 | [] => []
 | i :: r => match oget h i, otime h i with
  | some x, some c => (i, c, x) :: keepO h r
  | _, _ => keepO h r
def mem (n : Nat) : List Nat -> Bool
 | [] => false
 | m :: r => match Nat.beq n m with
  | true => true
  | false => mem n r
def J.un (j : J) (E : TE) (d : Ds j.tys) : TE :=
 match unS (tgen E.h) E.c j.js (dis j.tys d) with
 | (sl, r) => ⟨sl ++ keepS E.s j.ks, unO (tgen E.h) E.c j.jh r ++ keepO E.h j.kh,
  E.m.filter fun m => match mem m.tl j.ks, mem m.ti j.ks, mem m.tl (j.js.map (·.1)), mem m.ti (j.js.map (·.1)) with
   | true, true, false, false => true
   | _, _, _, _ => false, E.c + 1⟩
def keptS (E E' : TE) : List Nat -> Bool
 | [] => true
 | i :: r => match stime E'.s i with
  | some c => match Nat.blt c E.c with
   | true => keptS E E' r
   | false => false
  | none => match stime E.s i with
   | none => keptS E E' r
   | some _ => false
def keptO (E E' : TE) : List Nat -> Bool
 | [] => true
 | i :: r => match otime E'.h i with
  | some c => match Nat.blt c E.c with
   | true => keptO E E' r
   | false => false
  | none => match otime E.h i with
   | none => keptO E E' r
   | some _ => false
def gensOk (j : J) (E E' : TE) : List (Nat × OSh) -> Bool
 | [] => true
 | x :: r => match Nat.ble (tgen E.h x.1) (tgen E'.h x.1) with
  | false => false
  | true => match Nat.beq (tgen E'.h x.1) (tgen E.h x.1) with
   | true => gensOk j E E' r
   | false => match srefs x.1 (keepS E.s j.ks), orefs x.1 (keepO E.h j.kh) with
    | false, false => gensOk j E E' r
    | _, _ => false
def hiIn (h : List (Nat × Nat × TOb)) (ids : List Nat) : Bool := match h with
 | [] => true
 | x :: r => match Nat.blt x.1 1000 with
  | true => hiIn r ids
  | false => match mem x.1 ids with
   | true => hiIn r ids
   | false => false
def fixG (h h' : List (Nat × Nat × TOb)) : List (Nat × Nat × TOb) -> Bool
 | [] => true
 | x :: r => match Nat.blt x.1 2000 with
  | true => fixG h h' r
  | false => match Nat.ble (tgen h' x.1) (tgen h x.1) with
   | true => fixG h h' r
   | false => false
def J.pk (j : J) (E E' : TE) : Option (Ds j.tys) :=
 match keptS E E' j.ks, keptO E E' j.kh, gensOk j E E' j.jh, hiIn E'.h (j.jh.map (·.1) ++ j.kh), fixG E.h E'.h E'.h with
 | true, true, true, true, true => match packS E'.h E' j.js, packO E'.h j.jh with
  | some a, some b => asm j.tys (a ++ b)
  | _, _ => none
 | _, _, _, _, _ => none
mutual
def TV.inH (h : List (Nat × Nat × TOb)) : TV -> Bool
 | .so n _ _ _ _ => (oget h n).isSome
 | .sof n _ _ => (oget h n).isSome
 | .ep n _ _ _ _ => (oget h n).isSome
 | .mo n _ => (oget h n).isSome
 | .agg cs => inHL h cs
 | .tup cs => inHL h cs
 | .fn _ cs => inHL h cs
 | .pr cs => inHL h cs
 | _ => true
def TV.inHL (h : List (Nat × Nat × TOb)) : List TV -> Bool
 | [] => true
 | c :: cs => match c.inH h with
  | true => inHL h cs
  | false => false
end
def inS (h : List (Nat × Nat × TOb)) : List (Nat × Nat × TV) -> Bool
 | [] => true
 | x :: r => match x.2.2.inH h with
  | true => inS h r
  | false => false
def inO (h : List (Nat × Nat × TOb)) : List (Nat × Nat × TOb) -> Bool
 | [] => true
 | (_, _, .lst _ _ _) :: r => inO h r
 | (_, _, .mp _ _ _ _) :: r => inO h r
 | (_, _, .nm _ _ _ _ b) :: r => match b with
  | .no => inO h r
  | _ => false
 | (_, _, .nl _ _ _ b) :: r => match b with
  | none => inO h r
  | some _ => false
 | (_, _, .els _ _ _ l) :: r => match TV.inHL h l with
  | true => inO h r
  | false => false
def TE.closed (E : TE) : Bool := match inS E.h E.s with
 | true => inO E.h E.h
 | false => false
end Go.PG.PH
set_option linter.unusedSimpArgs false
set_option linter.unusedVariables false
set_option linter.unusedSectionVars false
namespace Go.PG.PH
theorem castD_self (t : Ty) (x : t.D) : castD t t x = some x := by unfold castD; rw [dif_pos rfl]
theorem vup_agg {cs ds : List V} (hl : cs.length = ds.length) (h : ∀ (j : Nat) (c d : V), cs[j]? = some c -> ds[j]? = some d -> VUp c d) : VUp (.agg cs) (.agg ds) := by
 intro w st m hr;obtain ⟨vs, rfl, h1, h2, h3⟩ := rep_agg hr;refine .agg (by omega) h2 fun j d v hd hv => ?_
 have hj : j < cs.length := by rw [hl]; exact (List.getElem?_eq_some_iff.1 hd).1
 exact h j cs[j] d (List.getElem?_eq_getElem hj) hd w st v (h3 j _ v (List.getElem?_eq_getElem hj) hv)
theorem vup_fn {cs ds : List V} (f : Fn) (hl : cs.length = ds.length) (h : ∀ (j : Nat) (c d : V), cs[j]? = some c -> ds[j]? = some d -> VUp c d) : VUp (.fn f cs) (.fn f ds) := by
 intro w st m hr;obtain ⟨vs, rfl, h1, h2⟩ := fn_rep' hr;refine .fn (by rw [h1, hl]) fun j d v hd hv => ?_
 have hj : j < cs.length := by rw [hl]; exact (List.getElem?_eq_some_iff.1 hd).1
 have hc := List.getElem?_eq_getElem hj;exact h j _ d hc hd w st v (h2 j _ v hc hv)
theorem vup_one {c d : V} (hc : c.cells = [c]) (hd : d.cells = [d]) (h : VUp c d) : CellsU c d := by
 refine ⟨by rw [hc, hd]; rfl, fun j a b h1 h2 => ?_⟩;rw [hc] at h1;rw [hd] at h2;cases j with
 | zero => simp at h1 h2; subst h1 h2; exact h
 | succ j => simp at h1
section
variable {h hn : List (Nat × Nat × TOb)} {G γ γ' : Nat -> Nat}
def TOk (h hn : List (Nat × Nat × TOb)) (γ γ' : Nat -> Nat) (v v' : TV) : Prop :=
 v'.inH hn = true -> VUp (v.v (olen h) γ) (v'.v (olen hn) γ') /\ CellsU (v.v (olen h) γ) (v'.v (olen hn) γ')
theorem tv_leaf_cells (t : Ty) (x : t.D) (ht : t.isA = true) (H γ : Nat -> Nat) : (TV.leaf t x).v H γ = (TV.agg (tcells t x)).v H γ := by
 simp only [TV.v, enc_agg ht, vL_map, tcells_v]
theorem inHL_get : ∀ {l : List TV}, TV.inHL hn l = true -> ∀ (i : Nat) (v : TV), l[i]? = some v -> v.inH hn = true
 | [], _, i, v, hv => by simp at hv
 | c :: cs, hl, i, v, hv => by
  simp only [TV.inHL] at hl;split at hl
  ·rename_i hc;cases i with
   | zero => simp at hv; subst hv; exact hc
   | succ i => simp at hv; exact inHL_get hl i v hv
  ·cases hl
variable (hG : ∀ n, (oget hn n).isSome = true -> γ' n + G n = γ n + tgen h n /\ olen hn n = olen h n)
mutual
theorem sh_ok (hG : ∀ n, (oget hn n).isSome = true -> γ' n + G n = γ n + tgen h n /\ olen hn n = olen h n) : ∀ (s : Sh) (v : TV) (a r : List Dv), s.pk h v = some a -> ∃ v', s.un G (a ++ r) = (v', r) /\ TOk h hn γ γ' v v'
 | .dt t, v, a, r, hp => by
  simp only [Sh.pk] at hp;split at hp
  ·rename_i x hx;cases hp;refine ⟨.leaf t x, by simp only [Sh.un, List.cons_append, List.nil_append, takeD, castD_self], fun _ => ⟨toD0_up hx (by simp) _ _, ?_⟩⟩;exact CellsC.up (toD0_cells hx (by simp) _ _)
  ·cases hp
 | .wn n sz, v, a, r, hp => by
  simp only [Sh.pk] at hp;split at hp
  ·rename_i m g s;split at hp
   ·rename_i h1 h2 h3;cases hp;refine ⟨.sof n (G n) sz, rfl, fun hi => ?_⟩;obtain ⟨e1, e2⟩ := hG n hi;have : (TV.sof m g s).v (olen h) γ = (TV.sof n (G n) sz).v (olen hn) γ' := by
     simp only [TV.v, beqs h1, beqs h2, beqs h3, e1, e2]
    rw [this];exact ⟨VUp.refl _, CellsU.refl _⟩
   ·cases hp
  ·split at hp
   ·rename_i ho;cases hp;refine ⟨.sof n (G n) sz, rfl, fun hi => ?_⟩;obtain ⟨e1, e2⟩ := hG n hi;have e3 : olen h n = 0 := by unfold olen; rw [ho]
    have hv : VUp (TV.nil.v (olen h) γ) ((TV.sof n (G n) sz).v (olen hn) γ') := fun w st m hr => by
     simp only [TV.v, e2, e3] at hr ⊢;rw [rep_nil hr]; exact .so0
    exact ⟨hv, vup_one rfl rfl hv⟩
   ·cases hp
  ·cases hp
 | .pt n sz off, v, a, r, hp => by
  simp only [Sh.pk] at hp;split at hp
  ·rename_i m g s o;split at hp
   ·rename_i h1 h2 h3 h4;cases hp;refine ⟨.ep n (G n) sz 0 off, rfl, fun hi => ?_⟩;obtain ⟨e1, e2⟩ := hG n hi;have : (TV.ep m g s 0 o).v (olen h) γ = (TV.ep n (G n) sz 0 off).v (olen hn) γ' := by
     simp only [TV.v, beqs h1, beqs h2, beqs h3, beqs h4, e1]
    rw [this];exact ⟨VUp.refl _, CellsU.refl _⟩
   ·cases hp
  ·cases hp
 | .nl, v, a, r, hp => by
  simp only [Sh.pk] at hp;split at hp
  ·cases hp;exact ⟨.nil, rfl, fun _ => ⟨VUp.refl _, CellsU.refl _⟩⟩
  ·cases hp
 | .ag cs, v, a, r, hp => by
  have agg : ∀ vs : List TV, Sh.pkL h cs vs = some a -> ∃ v', (Sh.ag cs).un G (a ++ r) = (v', r) /\ TOk h hn γ γ' (.agg vs) v' := by
   intro vs hp;obtain ⟨vs', h1, h2, h3⟩ := shL_ok hG cs vs a r hp;refine ⟨.agg vs', by simp only [Sh.un, h1], fun hi => ?_⟩;simp only [TV.inH] at hi;have el : ∀ (j : Nat) (c d : V), (TV.vL (olen h) γ vs)[j]? = some c -> (TV.vL (olen hn) γ' vs')[j]? = some d -> VUp c d := by
    intro j c d hc hd;rw [vL_get, Option.map_eq_some_iff] at hc hd;obtain ⟨c0, hc0, rfl⟩ := hc;obtain ⟨d0, hd0, rfl⟩ := hd;exact (h3 j c0 d0 hc0 hd0 (inHL_get hi j d0 hd0)).1
   simp only [TV.v];refine ⟨vup_agg (by rw [vL_map, vL_map, List.length_map, List.length_map, h2]) el, by simp only [V.cells, vL_map, List.length_map, h2], fun j c d hc hd => ?_⟩;simp only [V.cells] at hc hd;exact el j c d hc hd
  simp only [Sh.pk] at hp;split at hp
  ·exact agg _ hp
  ·rename_i t x;split at hp
   ·rename_i ht;obtain ⟨v', h1, h2⟩ := agg _ hp;refine ⟨v', h1, ?_⟩;unfold TOk at h2 ⊢;rw [tv_leaf_cells t x ht];exact h2
   ·cases hp
  ·cases hp
 | .fn f cs, v, a, r, hp => by
  simp only [Sh.pk] at hp;split at hp
  ·rename_i f' vs;split at hp
   ·rename_i hf;obtain ⟨vs', h1, h2, h3⟩ := shL_ok hG cs vs a r hp;refine ⟨.fn f vs', by simp only [Sh.un, h1], fun hi => ?_⟩;simp only [TV.inH] at hi;have el : ∀ (j : Nat) (c d : V), (TV.vL (olen h) γ vs)[j]? = some c -> (TV.vL (olen hn) γ' vs')[j]? = some d -> VUp c d := by
     intro j c d hc hd;rw [vL_get, Option.map_eq_some_iff] at hc hd;obtain ⟨c0, hc0, rfl⟩ := hc;obtain ⟨d0, hd0, rfl⟩ := hd;exact (h3 j c0 d0 hc0 hd0 (inHL_get hi j d0 hd0)).1
    have hv : VUp ((TV.fn f' vs).v (olen h) γ) ((TV.fn f vs').v (olen hn) γ') := by
     simp only [TV.v];rw [beqs hf];exact vup_fn _ (by rw [vL_map, vL_map, List.length_map, List.length_map, h2]) el
    exact ⟨hv, vup_one rfl rfl hv⟩
   ·cases hp
  ·cases hp
 | .np, v, a, r, hp => by
  simp only [Sh.pk] at hp;split at hp
  ·cases hp;exact ⟨.nilp, rfl, fun _ => ⟨VUp.refl _, CellsU.refl _⟩⟩
  ·cases hp
 | .nf, v, a, r, hp => by
  simp only [Sh.pk] at hp;split at hp
  ·cases hp;exact ⟨.nilfn, rfl, fun _ => ⟨VUp.refl _, CellsU.refl _⟩⟩
  ·cases hp
 | .ws n sz, v, a, r, hp => by
  simp only [Sh.pk] at hp;split at hp
  ·rename_i m g s off len;split at hp
   ·rename_i h1 h2 h3;cases hp;refine ⟨.so n (G n) sz off len, by simp only [Sh.un, List.cons_append, List.nil_append, takeD, castD_self, Int.toNat_natCast], fun hi => ?_⟩;obtain ⟨e1, e2⟩ := hG n hi;have : (TV.so m g s off len).v (olen h) γ = (TV.so n (G n) sz off len).v (olen hn) γ' := by
     simp only [TV.v, beqs h1, beqs h2, beqs h3, e1]
    rw [this];exact ⟨VUp.refl _, CellsU.refl _⟩
   ·cases hp
  ·rename_i m g s;split at hp
   ·rename_i h1 h2 h3;cases hp;refine ⟨.so n (G n) sz 0 (olen h n), by simp only [Sh.un, List.cons_append, List.nil_append, takeD, castD_self, Int.toNat_natCast]; rfl, fun hi => ?_⟩;obtain ⟨e1, e2⟩ := hG n hi;have : (TV.sof m g s).v (olen h) γ = (TV.so n (G n) sz 0 (olen h n)).v (olen hn) γ' := by
     simp only [TV.v, beqs h1, beqs h2, beqs h3, e1]
    rw [this];exact ⟨VUp.refl _, CellsU.refl _⟩
   ·cases hp
  ·split at hp
   ·rename_i ho;cases hp;refine ⟨.so n (G n) sz 0 0, by simp only [Sh.un, List.cons_append, List.nil_append, takeD, castD_self]; rfl, fun hi => ?_⟩;have hv : VUp (TV.nil.v (olen h) γ) ((TV.so n (G n) sz 0 0).v (olen hn) γ') := fun w st m hr => by
     simp only [TV.v] at hr ⊢;rw [rep_nil hr]; exact .so0
    exact ⟨hv, vup_one rfl rfl hv⟩
   ·cases hp
  ·cases hp
 | .mp n, v, a, r, hp => by
  simp only [Sh.pk] at hp;split at hp
  ·rename_i m g;split at hp
   ·rename_i h1 h3;cases hp;refine ⟨.mo n (G n), rfl, fun hi => ?_⟩;obtain ⟨e1, e2⟩ := hG n hi;have : (TV.mo m g).v (olen h) γ = (TV.mo n (G n)).v (olen hn) γ' := by
     simp only [TV.v, beqs h1, beqs h3, e1]
    rw [this];exact ⟨VUp.refl _, CellsU.refl _⟩
   ·cases hp
  ·cases hp
theorem shL_ok (hG : ∀ n, (oget hn n).isSome = true -> γ' n + G n = γ n + tgen h n /\ olen hn n = olen h n) : ∀ (cs : List Sh) (vs : List TV) (a r : List Dv), Sh.pkL h cs vs = some a ->
  ∃ vs', Sh.unL G cs (a ++ r) = (vs', r) /\ vs'.length = vs.length /\ ∀ (j : Nat) (v v' : TV), vs[j]? = some v -> vs'[j]? = some v' -> TOk h hn γ γ' v v'
 | [], [], a, r, hp => by simp only [Sh.pkL] at hp; cases hp; exact ⟨[], rfl, rfl, by simp⟩
 | c :: cs, v :: vs, a, r, hp => by
  simp only [Sh.pkL] at hp;split at hp
  ·cases hp
  ·rename_i a1 h1;split at hp
   ·cases hp
   ·rename_i b hb;cases hp;obtain ⟨v', g1, g2⟩ := sh_ok hG c v a1 (b ++ r) h1;obtain ⟨vs', k1, k2, k3⟩ := shL_ok hG cs vs b r hb;refine ⟨v' :: vs', by simp only [Sh.unL, List.append_assoc, g1, k1], by simp [k2], fun j w w' hw hw' => ?_⟩;cases j with
    | zero => simp at hw hw'; subst hw hw'; exact g2
    | succ j => simp at hw hw'; exact k3 j w w' hw hw'
 | [], _ :: _, a, r, hp => by simp [Sh.pkL] at hp
 | _ :: _, [], a, r, hp => by simp [Sh.pkL] at hp
end
theorem packS_ok (hG : ∀ n, (oget hn n).isSome = true -> γ' n + G n = γ n + tgen h n /\ olen hn n = olen h n) {E : TE} {c : Nat} : ∀ (js : List (Nat × Sh)) (a r : List Dv), packS h E js = some a ->
  ∃ sl, unS G c js (a ++ r) = (sl, r) /\ sl.map (·.1) = js.map (·.1) /\ ∀ x ∈ sl, TOk h hn γ γ' (sget E.s x.1) x.2.2
 | [], a, r, hp => by simp only [packS] at hp; cases hp; exact ⟨[], rfl, rfl, by simp⟩
 | x :: js, a, r, hp => by
  simp only [packS] at hp;split at hp
  ·cases hp
  ·rename_i a1 h1;split at hp
   ·cases hp
   ·rename_i b hb;cases hp;obtain ⟨v', g1, g2⟩ := sh_ok hG x.2 _ a1 (b ++ r) h1;obtain ⟨sl, k1, k2, k3⟩ := packS_ok hG (c := c) js b r hb;refine ⟨(x.1, c, v') :: sl, by simp only [unS, List.append_assoc, g1, k1], by simp [k2], fun y hy => ?_⟩;rcases List.mem_cons.1 hy with rfl | hy
    ·exact g2
    ·exact k3 y hy
end
mutual
theorem plain_un (G : Nat -> Nat) : ∀ (s : Sh) (l : List Dv), s.plain = true -> (s.un G l).1.free = true
 | .dt t, l, _ => rfl
 | .wn _ _, _, h => by simp [Sh.plain] at h
 | .pt _ _ _, _, h => by simp [Sh.plain] at h
 | .nl, l, _ => rfl
 | .ag cs, l, h => by
  simp only [Sh.plain] at h;have := plain_unL G cs l h;simp only [Sh.un, TV.free];exact this
 | .fn f cs, l, h => by
  simp only [Sh.plain] at h;have := plain_unL G cs l h;simp only [Sh.un, TV.free];exact this
 | .np, l, _ => rfl
 | .nf, l, _ => rfl
 | .ws _ _, _, h => by simp [Sh.plain] at h
 | .mp _, _, h => by simp [Sh.plain] at h
theorem plain_unL (G : Nat -> Nat) : ∀ (cs : List Sh) (l : List Dv), Sh.plainL cs = true -> TV.freeL (Sh.unL G cs l).1 = true
 | [], _, _ => rfl
 | c :: cs, l, h => by
  simp only [Sh.plainL] at h;split at h
  ·rename_i hc;have h1 := plain_un G c l hc;have h2 := plain_unL G cs (c.un G l).2 h;simp only [Sh.unL, TV.freeL, h1, h2]
  ·cases h
end
section
variable {h hn : List (Nat × Nat × TOb)} {G γ γ' : Nat -> Nat}
variable (hG : ∀ n, (oget hn n).isSome = true -> γ' n + G n = γ n + tgen h n /\ olen hn n = olen h n)
theorem osh_un : ∀ (s : OSh) (n : Nat) (a r : List Dv), s.pk h n = some a -> (s.un G n (a ++ r)).2 = r /\ (s.un G n (a ++ r)).1.gen = G n /\ (s.un G n (a ++ r)).1.len = olen h n
 | .ls t, n, a, r, hp => by
  simp only [OSh.pk] at hp;split at hp
  ·rename_i ho;cases hp;simp only [OSh.un, List.cons_append, List.nil_append, takeD, castD_self];exact ⟨trivial, rfl, by unfold olen; rw [ho]; rfl⟩
  ·rename_i g t' l ho;split at hp
   ·rename_i l' hl;cases hp;obtain ⟨e, rfl⟩ := castD_some hl;injection e with e; subst e
    simp only [OSh.un, List.cons_append, List.nil_append, takeD, castD_self];exact ⟨trivial, rfl, by unfold olen; rw [ho]; rfl⟩
   ·cases hp
  ·rename_i g p s l ho;split at hp
   ·rename_i l' h1 hl;cases hp;simp only [OSh.un, List.cons_append, List.nil_append, takeD, castD_self];refine ⟨trivial, rfl, ?_⟩;unfold olen; rw [ho]; exact (toDs0_ok (H := z0) (γ := z0) hl).1
   ·cases hp
  ·cases hp
 | .mp k v, n, a, r, hp => by
  simp only [OSh.pk] at hp;split at hp
  ·rename_i g k' v' l ho;split at hp
   ·rename_i l' hl;cases hp;obtain ⟨e, rfl⟩ := castD_some hl;injection e with e1 e2; subst e1 e2
    simp only [OSh.un, List.cons_append, List.nil_append, takeD, castD_self];exact ⟨trivial, rfl, by unfold olen; rw [ho]; rfl⟩
   ·cases hp
  ·cases hp
 | .nm k v, n, a, r, hp => by
  simp only [OSh.pk] at hp;split at hp
  ·rename_i g k' v' l ho;split at hp
   ·rename_i l' hl;cases hp;obtain ⟨e, rfl⟩ := castD_some hl;injection e with e1 e2; subst e1 e2
    simp only [OSh.un, List.cons_append, List.nil_append, takeD, castD_self];exact ⟨trivial, rfl, by unfold olen; rw [ho]; rfl⟩
   ·cases hp
  ·rename_i g k' v' ho;cases hp;simp only [OSh.un, List.cons_append, List.nil_append, takeD, castD_self];exact ⟨trivial, rfl, by unfold olen; rw [ho]; rfl⟩
  ·cases hp
 | .nl t, n, a, r, hp => by
  simp only [OSh.pk] at hp;split at hp
  ·rename_i ho;cases hp;simp only [OSh.un, List.cons_append, List.nil_append, takeD, castD_self];exact ⟨trivial, rfl, by unfold olen; rw [ho]; rfl⟩
  ·rename_i g t' l ho;split at hp
   ·rename_i l' hl;cases hp;obtain ⟨e, rfl⟩ := castD_some hl;injection e with e; subst e
    simp only [OSh.un, List.cons_append, List.nil_append, takeD, castD_self];exact ⟨trivial, rfl, by unfold olen; rw [ho]; rfl⟩
   ·cases hp
  ·rename_i g t' ho;split at hp
   ·cases hp;simp only [OSh.un, List.cons_append, List.nil_append, takeD, castD_self];exact ⟨trivial, rfl, by unfold olen; rw [ho]; rfl⟩
   ·cases hp
  ·cases hp
 | .el p sz cs, n, a, r, hp => by
  simp only [OSh.pk] at hp;split at hp
  ·rename_i g q s l ho;split at hp
   ·have key : ∀ (cs : List Sh) (vs : List TV) (a r : List Dv), Sh.pkL h cs vs = some a -> (Sh.unL G cs (a ++ r)).2 = r /\ (Sh.unL G cs (a ++ r)).1.length = vs.length := by
     intro cs vs a r hp;obtain ⟨vs', e1, e2, _⟩ := shL_ok (h := h) (hn := []) (G := G) (γ := z0) (γ' := z0) (fun n hn => by simp [oget] at hn) cs vs a r hp;rw [e1]; exact ⟨rfl, e2⟩
    obtain ⟨k1, k2⟩ := key cs l a r hp;simp only [OSh.un];refine ⟨k1, rfl, ?_⟩;simp only [TOb.len, olen, ho, k2]
   ·cases hp
  ·cases hp
theorem osh_ok (hG : ∀ n, (oget hn n).isSome = true -> γ' n + G n = γ n + tgen h n /\ olen hn n = olen h n) : ∀ (s : OSh) (n : Nat) (a r : List Dv), s.pk h n = some a -> (oget hn n).isSome = true -> (match (s.un G n (a ++ r)).1 with | .els _ _ _ l => TV.inHL hn l = true | _ => True) ->
  ObN (h.map fun y => (y.1, y.2.2.ob (olen h) γ y.1)) n ((s.un G n (a ++ r)).1.ob (olen hn) γ' n)
 | .ls t, n, a, r, hp, hi, _ => by
  obtain ⟨e1, e2⟩ := hG n hi;simp only [OSh.pk] at hp;unfold ObN;rw [hget_obs];split at hp
  ·rename_i ho;cases hp;simp only [OSh.un, List.cons_append, List.nil_append, takeD, castD_self];exact .inr ⟨by rw [ho]; rfl, _, _, _, rfl⟩
  ·rename_i g t' l ho;split at hp
   ·rename_i l' hl;cases hp;obtain ⟨e, rfl⟩ := castD_some hl;injection e with e; subst e
    simp only [OSh.un, List.cons_append, List.nil_append, takeD, castD_self];refine .inl ⟨_, by rw [ho]; rfl, ?_⟩;simp only [TOb.ob, e1];have : tgen h n = g := by unfold tgen; rw [ho]; rfl
    rw [this];exact ObUp.refl _
   ·cases hp
  ·rename_i g p s l ho;split at hp
   ·rename_i l' h1 hl;cases hp;simp only [OSh.un, List.cons_append, List.nil_append, takeD, castD_self];refine .inl ⟨_, by rw [ho]; rfl, ?_⟩;simp only [TOb.ob, e1];have : tgen h n = g := by unfold tgen; rw [ho]; rfl
    rw [this];exact ob_up_els (n := n) (beqs h1) hl
   ·cases hp
  ·cases hp
 | .el p sz cs, n, a, r, hp, hi, hin => by
  obtain ⟨e1, e2⟩ := hG n hi;simp only [OSh.pk] at hp;unfold ObN;rw [hget_obs];split at hp
  ·rename_i g q s l ho;split at hp
   ·rename_i hs;obtain ⟨vs', k1, k2, k3⟩ := shL_ok hG cs l a r hp;have hun : (OSh.el p sz cs).un G n (a ++ r) = (.els (G n) (andB p (Sh.plainL cs)) sz vs', r) := by simp only [OSh.un, k1]
    rw [hun] at hin ⊢;simp only at hin ⊢;refine .inl ⟨_, by rw [ho]; rfl, ?_⟩;simp only [TOb.ob];have : tgen h n = g := by unfold tgen; rw [ho]; rfl
    rw [beqs hs];refine ob_any (by rw [e1, this]) (by rw [vL_map, vL_map, List.length_map, List.length_map, k2]) (fun hp' => ?_) fun i x x' hx hx' => ?_
    ·rw [freeL_v];rw [andB_eq, Bool.and_eq_true] at hp';have := plain_unL G cs (a ++ r) hp'.2;rw [k1] at this;exact this
    ·rw [vL_get, Option.map_eq_some_iff] at hx hx';obtain ⟨v, hv, rfl⟩ := hx;obtain ⟨v', hv', rfl⟩ := hx';exact (k3 i v v' hv hv' (inHL_get hin i v' hv')).2
   ·cases hp
  ·cases hp
 | .mp k v, n, a, r, hp, hi, _ => by
  obtain ⟨e1, e2⟩ := hG n hi;simp only [OSh.pk] at hp;unfold ObN;rw [hget_obs];split at hp
  ·rename_i g k' v' l ho;split at hp
   ·rename_i l' hl;cases hp;obtain ⟨e, rfl⟩ := castD_some hl;injection e with e3 e4; subst e3 e4
    simp only [OSh.un, List.cons_append, List.nil_append, takeD, castD_self];refine .inl ⟨_, by rw [ho]; rfl, ?_⟩;have : tgen h n = g := by unfold tgen; rw [ho]; rfl
    simp only [TOb.ob, e1, this];exact ObUp.refl _
   ·cases hp
  ·cases hp
 | .nm k v, n, a, r, hp, hi, _ => by
  obtain ⟨e1, e2⟩ := hG n hi;simp only [OSh.pk] at hp;unfold ObN;rw [hget_obs];split at hp
  ·rename_i g k' v' l ho;split at hp
   ·rename_i l' hl;cases hp;obtain ⟨e, rfl⟩ := castD_some hl;injection e with e3 e4; subst e3 e4
    simp only [OSh.un, List.cons_append, List.nil_append, takeD, castD_self];refine .inl ⟨_, by rw [ho]; rfl, ?_⟩;have : tgen h n = g := by unfold tgen; rw [ho]; rfl
    simp only [TOb.ob, nmOb, e1, this];exact ObUp.refl _
   ·cases hp
  ·rename_i g k' v' ho;cases hp;simp only [OSh.un, List.cons_append, List.nil_append, takeD, castD_self];refine .inl ⟨_, by rw [ho]; rfl, ?_⟩;have : tgen h n = g := by unfold tgen; rw [ho]; rfl
   simp only [TOb.ob, nmOb, e1, this];exact ObUp.refl _
  ·cases hp
 | .nl t, n, a, r, hp, hi, _ => by
  obtain ⟨e1, e2⟩ := hG n hi;simp only [OSh.pk] at hp;unfold ObN;rw [hget_obs];split at hp
  ·rename_i ho;cases hp;simp only [OSh.un, List.cons_append, List.nil_append, takeD, castD_self];exact .inr ⟨by rw [ho]; rfl, _, _, _, rfl⟩
  ·rename_i g t' l ho;split at hp
   ·rename_i l' hl;cases hp;obtain ⟨e, rfl⟩ := castD_some hl;injection e with e; subst e
    simp only [OSh.un, List.cons_append, List.nil_append, takeD, castD_self];refine .inl ⟨_, by rw [ho]; rfl, ?_⟩;simp only [TOb.ob, nlOb, e1];have : tgen h n = g := by unfold tgen; rw [ho]; rfl
    rw [this];exact ObUp.refl _
   ·cases hp
  ·rename_i g t' ho;split at hp
   ·rename_i hs;cases hp;simp only [OSh.un, List.cons_append, List.nil_append, takeD, castD_self];refine .inl ⟨_, by rw [ho]; rfl, ?_⟩;have : tgen h n = g := by unfold tgen; rw [ho]; rfl
    simp only [TOb.ob, nlOb, e1, this, beqs hs];exact ob_any rfl rfl (fun h => nomatch h) fun i x x' hx hx' => by simp at hx
   ·cases hp
  ·cases hp
end
theorem mem_iff {n : Nat} : ∀ {l : List Nat}, mem n l = true ↔ n ∈ l
 | [] => by simp [mem]
 | m :: r => by
  simp only [mem, List.mem_cons];cases e : Nat.beq n m with
  | true => simp [beqs e]
  | false => simp [beq_false.1 e, mem_iff (l := r)]
theorem sget_app (a b : List (Nat × Nat × TV)) (i : Nat) : sget (a ++ b) i = if i ∈ a.map (·.1) then sget a i else sget b i := by
 induction a with
 | nil => rfl
 | cons x a ih =>
  obtain ⟨j, c, v⟩ := x;simp only [List.cons_append, sget, List.map_cons, List.mem_cons];cases e : Nat.beq i j with
  | true => simp [beqs e]
  | false => simp only [beq_false.1 e, false_or]; exact ih
theorem sget_mem {s : List (Nat × Nat × TV)} {i : Nat} (h : i ∈ s.map (·.1)) : ∃ x ∈ s, x.1 = i /\ x.2.2 = sget s i := by
 induction s with
 | nil => cases h
 | cons x s ih =>
  obtain ⟨j, c, v⟩ := x;simp only [sget];cases e : Nat.beq i j with
  | true => exact ⟨(j, c, v), by simp, (beqs e).symm, rfl⟩
  | false =>
   rcases List.mem_cons.1 h with h | h
   ·exact absurd h (beq_false.1 e)
   ·obtain ⟨y, h1, h2⟩ := ih h;exact ⟨y, by simp [h1], h2⟩
theorem sget_notime {s : List (Nat × Nat × TV)} {i : Nat} (h : stime s i = none) : sget s i = .dead := by
 induction s with
 | nil => rfl
 | cons x s ih =>
  obtain ⟨j, c, v⟩ := x;simp only [stime, sget] at h ⊢;split at h
  ·cases h
  ·exact ih h
theorem sget_keep (s : List (Nat × Nat × TV)) (i : Nat) : ∀ ks : List Nat, sget (keepS s ks) i = if i ∈ ks then sget s i else .dead
 | [] => rfl
 | k :: ks => by
  simp only [keepS];cases hk : stime s k with
  | none =>
   simp only [sget_keep s i ks, List.mem_cons];by_cases e : i = k
   ·subst e; simp [sget_notime hk]
   ·simp [e]
  | some c =>
   simp only [sget, List.mem_cons];cases e : Nat.beq i k with
   | true => simp [beqs e]
   | false => simp only [beq_false.1 e, false_or]; exact sget_keep s i ks
theorem keepS_mem {s : List (Nat × Nat × TV)} : ∀ {ks : List Nat} {x : Nat × Nat × TV}, x ∈ keepS s ks -> x.1 ∈ ks /\ x.2.2 = sget s x.1 /\ stime s x.1 = some x.2.1
 | k :: ks, x, h => by
  simp only [keepS] at h;split at h
  ·rename_i c hc;rcases List.mem_cons.1 h with rfl | h
   ·exact ⟨by simp, rfl, hc⟩
   ·obtain ⟨a, b⟩ := keepS_mem h; exact ⟨by simp [a], b⟩
  ·obtain ⟨a, b⟩ := keepS_mem h; exact ⟨by simp [a], b⟩
theorem oget_app (a b : List (Nat × Nat × TOb)) (i : Nat) : oget (a ++ b) i = match oget a i with | some x => some x | none => oget b i := by
 induction a with
 | nil => rfl
 | cons x a ih =>
  obtain ⟨j, c, v⟩ := x;simp only [List.cons_append, oget];cases e : Nat.beq i j with
  | true => rfl
  | false => exact ih
theorem oget_keep {h : List (Nat × Nat × TOb)} {i : Nat} {x : TOb} : ∀ {ks : List Nat}, oget (keepO h ks) i = some x -> i ∈ ks /\ oget h i = some x
 | [], e => by simp [keepO, oget] at e
 | k :: ks, e => by
  simp only [keepO] at e;split at e
  ·rename_i y c hy hc;simp only [oget] at e;split at e
   ·rename_i hb;cases e;have := beqs hb; subst this;exact ⟨by simp, hy⟩
   ·obtain ⟨a, b⟩ := oget_keep e; exact ⟨by simp [a], b⟩
  ·obtain ⟨a, b⟩ := oget_keep e; exact ⟨by simp [a], b⟩
theorem keepO_some {h : List (Nat × Nat × TOb)} {i : Nat} : ∀ {ks : List Nat}, i ∈ ks -> oget h i ≠ none -> oget (keepO h ks) i ≠ none
 | k :: ks, hi, hne => by
  simp only [keepO];by_cases e : i = k
  ·subst e;have ht : otime h i ≠ none := by
    have : ∀ h : List (Nat × Nat × TOb), oget h i ≠ none -> otime h i ≠ none := by
     intro h;induction h with
     | nil => intro h; exact absurd rfl h
     | cons x s ih =>
      obtain ⟨j, c, v⟩ := x;simp only [oget, otime];cases Nat.beq i j with
      | true => simp
      | false => exact ih
    exact this h hne
   cases ho : oget h i with
   | none => exact absurd ho hne
   | some x =>
    cases hc : otime h i with
    | none => exact absurd hc ht
    | some c => simp [oget, Nat.beq_refl]
  ·have hi' : i ∈ ks := by rcases List.mem_cons.1 hi with h | h; exact absurd h e; exact h
   have := keepO_some hi' hne;split
   ·simp only [oget];rw [beq_false.2 e];exact this
   ·exact this
theorem keptS_ok {E E' : TE} (hx : Ext E E') : ∀ {ks : List Nat}, keptS E E' ks = true -> ∀ i ∈ ks, sget E'.s i = sget E.s i
 | k :: ks, h, i, hi => by
  simp only [keptS] at h;split at h
  ·rename_i c hc;split at h
   ·rename_i hlt;rcases List.mem_cons.1 hi with rfl | hi
    ·exact (hx.s i c hc (by simpa [Nat.blt_eq] using hlt)).2
    ·exact keptS_ok hx h i hi
   ·cases h
  ·rename_i hc;split at h
   ·rename_i hc2;rcases List.mem_cons.1 hi with rfl | hi
    ·rw [sget_notime hc, sget_notime hc2]
    ·exact keptS_ok hx h i hi
   ·cases h
theorem oget_notime {s : List (Nat × Nat × TOb)} {i : Nat} (h : otime s i = none) : oget s i = none := by
 induction s with
 | nil => rfl
 | cons x s ih =>
  obtain ⟨j, c, v⟩ := x;simp only [otime, oget] at h ⊢;split at h
  ·cases h
  ·exact ih h
theorem keptO_ok {E E' : TE} (hx : Ext E E') : ∀ {ks : List Nat}, keptO E E' ks = true -> ∀ i ∈ ks, oget E'.h i = oget E.h i
 | k :: ks, h, i, hi => by
  simp only [keptO] at h;split at h
  ·rename_i c hc;split at h
   ·rename_i hlt;rcases List.mem_cons.1 hi with rfl | hi
    ·exact (hx.o i c hc (by simpa [Nat.blt_eq] using hlt)).2
    ·exact keptO_ok hx h i hi
   ·cases h
  ·rename_i hc;split at h
   ·rename_i hc2;rcases List.mem_cons.1 hi with rfl | hi
    ·rw [oget_notime hc, oget_notime hc2]
    ·exact keptO_ok hx h i hi
   ·cases h
mutual
theorem congr_v {H H' γ γ' : Nat -> Nat} : ∀ v : TV, (∀ m, v.ref m = true -> H' m = H m /\ γ' m = γ m) -> v.v H' γ' = v.v H γ
 | .leaf t x, _ => rfl
 | .agg cs, h => by simp only [TV.v]; rw [congr_vL cs h]
 | .tup cs, h => by simp only [TV.v]; rw [congr_vL cs h]
 | .pr cs, h => by simp only [TV.v]; rw [congr_vL cs h]
 | .fn _ cs, h => by simp only [TV.v]; rw [congr_vL cs h]
 | .nil, _ => rfl | .emp _, _ => rfl | .nilp, _ => rfl | .nilfn, _ => rfl | .nilm, _ => rfl | .dead, _ => rfl
 | .so m _ _ _ _, h => by simp only [TV.v]; rw [(h m (Nat.beq_refl m)).2]
 | .sof m _ _, h => by simp only [TV.v]; rw [(h m (Nat.beq_refl m)).2, (h m (Nat.beq_refl m)).1]
 | .ep m _ _ _ _, h => by simp only [TV.v]; rw [(h m (Nat.beq_refl m)).2]
 | .mo m _, h => by simp only [TV.v]; rw [(h m (Nat.beq_refl m)).2]
 | .it _, _ => rfl
theorem congr_vL {H H' γ γ' : Nat -> Nat} : ∀ cs : List TV, (∀ m, TV.refL m cs = true -> H' m = H m /\ γ' m = γ m) -> TV.vL H' γ' cs = TV.vL H γ cs
 | [], _ => rfl
 | c :: cs, h => by
  simp only [TV.vL];rw [congr_v c (fun m hm => h m (by simp only [TV.refL, hm])), congr_vL cs (fun m hm => h m (by simp only [TV.refL, hm]; cases c.ref m <;> rfl))]
end
mutual
theorem ref_inH {h : List (Nat × Nat × TOb)} {m : Nat} : ∀ v : TV, v.inH h = true -> v.ref m = true -> (oget h m).isSome = true
 | .leaf t x, _, hr => by simp [TV.ref] at hr
 | .agg cs, hi, hr => ref_inHL cs hi hr
 | .tup cs, hi, hr => ref_inHL cs hi hr
 | .pr cs, hi, hr => ref_inHL cs hi hr
 | .fn _ cs, hi, hr => ref_inHL cs hi hr
 | .nil, _, hr => by simp [TV.ref] at hr
 | .emp _, _, hr => by simp [TV.ref] at hr
 | .nilp, _, hr => by simp [TV.ref] at hr
 | .nilfn, _, hr => by simp [TV.ref] at hr
 | .nilm, _, hr => by simp [TV.ref] at hr
 | .dead, _, hr => by simp [TV.ref] at hr
 | .so n _ _ _ _, hi, hr => by simp only [TV.ref] at hr; rw [<- beqs hr]; exact hi
 | .sof n _ _, hi, hr => by simp only [TV.ref] at hr; rw [<- beqs hr]; exact hi
 | .ep n _ _ _ _, hi, hr => by simp only [TV.ref] at hr; rw [<- beqs hr]; exact hi
 | .mo n _, hi, hr => by simp only [TV.ref] at hr; rw [<- beqs hr]; exact hi
 | .it _, _, hr => by simp [TV.ref] at hr
theorem ref_inHL {h : List (Nat × Nat × TOb)} {m : Nat} : ∀ cs : List TV, TV.inHL h cs = true -> TV.refL m cs = true -> (oget h m).isSome = true
 | [], _, hr => by simp [TV.refL] at hr
 | c :: cs, hi, hr => by
  simp only [TV.inHL] at hi;split at hi
  ·rename_i hc;simp only [TV.refL] at hr;split at hr
   ·rename_i hm; exact ref_inH c hc hm
   ·exact ref_inHL cs hi hr
  ·cases hi
end
mutual
theorem inH_within {h : List (Nat × Nat × TOb)} {H γ γ' : Nat -> Nat} {H2 : Nat -> Nat} : ∀ v : TV, v.inH h = true -> (v.v H γ).within (h.map fun y => (y.1, y.2.2.ob H2 γ' y.1)) = true
 | .leaf t x, _ => idfree_within (enc_free t x)
 | .agg cs, hi => by simp only [TV.v, V.within]; exact inHL_within cs hi
 | .tup cs, hi => by simp only [TV.v, V.within]; exact inHL_within cs hi
 | .pr cs, hi => rfl
 | .fn _ cs, hi => by simp only [TV.v, V.within]; exact inHL_within cs hi
 | .nil, _ => rfl | .emp _, _ => rfl | .nilp, _ => rfl | .nilfn, _ => rfl | .nilm, _ => rfl | .dead, _ => rfl
 | .so n _ _ _ _, hi => by simp only [TV.v, V.within, hget_obs, Option.isSome_map]; exact hi
 | .sof n _ _, hi => by simp only [TV.v, V.within, hget_obs, Option.isSome_map]; exact hi
 | .ep n _ _ _ _, hi => by simp only [TV.v, V.within, hget_obs, Option.isSome_map]; exact hi
 | .mo n _, hi => by simp only [TV.v, V.within, hget_obs, Option.isSome_map]; exact hi
 | .it n, hi => rfl
theorem inHL_within {h : List (Nat × Nat × TOb)} {H γ γ' : Nat -> Nat} {H2 : Nat -> Nat} : ∀ cs : List TV, TV.inHL h cs = true -> V.withinL (h.map fun y => (y.1, y.2.2.ob H2 γ' y.1)) (TV.vL H γ cs) = true
 | [], _ => rfl
 | c :: cs, hi => by
  simp only [TV.inHL] at hi;split at hi
  ·rename_i hc; simp only [TV.vL, V.withinL, inH_within c hc, inHL_within cs hi, Bool.and_self]
  ·cases hi
end
theorem inS_get {h : List (Nat × Nat × TOb)} : ∀ {s : List (Nat × Nat × TV)}, inS h s = true -> ∀ i, (sget s i).inH h = true
 | [], _, i => rfl
 | (j, c, v) :: r, hs, i => by
  simp only [inS] at hs;split at hs
  ·rename_i hv;simp only [sget];split
   ·exact hv
   ·exact inS_get hs i
  ·cases hs
theorem inO_get {h : List (Nat × Nat × TOb)} : ∀ {s : List (Nat × Nat × TOb)}, inO h s = true -> ∀ i g p sz l, oget s i = some (.els g p sz l) -> TV.inHL h l = true
 | [], _, i, g, p, sz, l, ho => by simp [oget] at ho
 | (j, c, .lst _ _ _) :: r, hs, i, g, p, sz, l, ho => by
  simp only [inO] at hs;simp only [oget] at ho;split at ho
  ·cases ho
  ·exact inO_get hs i g p sz l ho
 | (j, c, .mp _ _ _ _) :: r, hs, i, g, p, sz, l, ho => by
  simp only [inO] at hs;simp only [oget] at ho;split at ho
  ·cases ho
  ·exact inO_get hs i g p sz l ho
 | (j, c, .nm _ _ _ _ b) :: r, hs, i, g, p, sz, l, ho => by
  cases b <;> simp only [inO, Bool.false_eq_true] at hs;simp only [oget] at ho;split at ho
  ·cases ho
  ·exact inO_get hs i g p sz l ho
 | (j, c, .nl _ _ _ b) :: r, hs, i, g, p, sz, l, ho => by
  cases b <;> simp only [inO, Bool.false_eq_true] at hs;simp only [oget] at ho;split at ho
  ·cases ho
  ·exact inO_get hs i g p sz l ho
 | (j, c, .els _ _ _ l') :: r, hs, i, g, p, sz, l, ho => by
  simp only [inO] at hs;split at hs
  ·rename_i hl;simp only [oget] at ho;split at ho
   ·cases ho; exact hl
   ·exact inO_get hs i g p sz l ho
  ·cases hs
theorem inO_whole {h : List (Nat × Nat × TOb)} : ∀ {s : List (Nat × Nat × TOb)}, inO h s = true -> ∀ i x, oget s i = some x -> (match x with | .nm _ _ _ _ b => b = .no | .nl _ _ _ b => b = none | _ => True)
 | [], _, i, x, ho => by simp [oget] at ho
 | (j, c, y) :: r, hs, i, x, ho => by
  have next : inO h r = true := by
   cases y with
   | lst => exact hs
   | mp => exact hs
   | els g p sz l => simp only [inO] at hs; split at hs; exact hs; cases hs
   | nm g k u l b => cases b <;> simp only [inO, Bool.false_eq_true] at hs; exact hs
   | nl g u l b => cases b <;> simp only [inO, Bool.false_eq_true] at hs; exact hs
  simp only [oget] at ho;split at ho
  ·cases ho;cases y with
   | nm g k u l b => cases b <;> simp only [inO, Bool.false_eq_true] at hs; rfl
   | nl g u l b => cases b <;> simp only [inO, Bool.false_eq_true] at hs; rfl
   | _ => trivial
  ·exact inO_whole next i x ho
theorem hcell_kin (h : Heap) (u : Ty) (s : Nat) (x : u.D) : (u.hcell s x).kin h = true := by
 cases u <;> first | rfl | exact idfree_kin (enc_free _ _)
theorem ncells_kin (h : Heap) (n : Nat) (u : Ty) (l : List u.D) : ∀ y ∈ ncells n u l, y.kin h = true := by
 intro y hy;obtain ⟨j, x, _, rfl⟩ := ncells_mem hy;exact hcell_kin _ _ _ _
theorem hiIn_ok : ∀ {h : List (Nat × Nat × TOb)} {ids : List Nat}, hiIn h ids = true -> ∀ m, oget h m ≠ none -> 1000 <= m -> m ∈ ids
 | [], ids, _, m, hm, _ => absurd rfl hm
 | (k, c, x) :: r, ids, h, m, hm, h1 => by
  simp only [oget] at hm;unfold hiIn at h;simp only at h;split at hm
  ·rename_i hb;have := beqs hb; subst this;split at h
   ·rename_i hlt;have : m < 1000 := by simpa [Nat.blt_eq] using hlt
    omega
   ·split at h
    ·rename_i hmem; exact mem_iff.1 hmem
    ·cases h
  ·split at h
   ·exact hiIn_ok h m hm h1
   ·split at h
    ·exact hiIn_ok h m hm h1
    ·cases h
theorem gensOk_ok {j : J} {E E' : TE} : ∀ {l : List (Nat × OSh)}, gensOk j E E' l = true -> ∀ x ∈ l, tgen E.h x.1 <= tgen E'.h x.1 /\
  (tgen E'.h x.1 = tgen E.h x.1 \/ (srefs x.1 (keepS E.s j.ks) = false /\ orefs x.1 (keepO E.h j.kh) = false))
 | y :: r, h, x, hx => by
  simp only [gensOk] at h;split at h
  ·cases h
  ·rename_i hle;have hle := Nat.le_of_ble_eq_true hle;split at h
   ·rename_i he;rcases List.mem_cons.1 hx with rfl | hx
    ·exact ⟨hle, .inl (beqs he)⟩
    ·exact gensOk_ok h x hx
   ·split at h
    ·rename_i h1 h2;rcases List.mem_cons.1 hx with rfl | hx
     ·exact ⟨hle, .inr ⟨h1, h2⟩⟩
     ·exact gensOk_ok h x hx
    ·cases h
theorem unO_get {h : List (Nat × Nat × TOb)} {G : Nat -> Nat} {c : Nat} : ∀ (l : List (Nat × OSh)) (b r : List Dv), packO h l = some b -> ∀ m x, oget (unO G c l (b ++ r)) m = some x ->
  ∃ s a r', (m, s) ∈ l /\ OSh.pk h m s = some a /\ x = (s.un G m (a ++ r')).1
 | [], b, r, hp, m, x, ho => by simp [unO, oget] at ho
 | y :: l, b, r, hp, m, x, ho => by
  simp only [packO] at hp;split at hp
  ·cases hp
  ·rename_i a h1;split at hp
   ·cases hp
   ·rename_i b' hb;cases hp;simp only [unO] at ho;rw [List.append_assoc] at ho;obtain ⟨u1, _, _⟩ := osh_un (G := G) y.2 y.1 a (b' ++ r) h1;have e : y.2.un G y.1 (a ++ (b' ++ r)) = ((y.2.un G y.1 (a ++ (b' ++ r))).1, b' ++ r) := Prod.ext rfl u1;rw [e] at ho;simp only [oget] at ho;split at ho
    ·rename_i hm;cases ho;have := beqs hm; subst this;exact ⟨y.2, a, b' ++ r, by simp, h1, rfl⟩
    ·obtain ⟨s, a', r', q1, q2, q3⟩ := unO_get l b' r hb m x ho;exact ⟨s, a', r', by simp [q1], q2, q3⟩
theorem unO_some {h : List (Nat × Nat × TOb)} {G : Nat -> Nat} {c : Nat} : ∀ (l : List (Nat × OSh)) (b r : List Dv), packO h l = some b -> ∀ x ∈ l, oget (unO G c l (b ++ r)) x.1 ≠ none
 | y :: l, b, r, hp, x, hx => by
  simp only [packO] at hp;split at hp
  ·cases hp
  ·rename_i a h1;split at hp
   ·cases hp
   ·rename_i b' hb;cases hp;simp only [unO];rw [List.append_assoc];obtain ⟨u1, _, _⟩ := osh_un (G := G) y.2 y.1 a (b' ++ r) h1;have e : y.2.un G y.1 (a ++ (b' ++ r)) = ((y.2.un G y.1 (a ++ (b' ++ r))).1, b' ++ r) := Prod.ext rfl u1;rw [e];simp only [oget];split
    ·simp
    ·rename_i hm;rcases List.mem_cons.1 hx with rfl | hx
     ·exact absurd rfl (beq_false.1 hm)
     ·exact unO_some l b' r hb x hx
end Go.PG.PH
set_option linter.unusedSimpArgs false
set_option linter.unusedVariables false
namespace Go.PG.PH
theorem srefs_get {d : Nat} : ∀ {s : List (Nat × Nat × TV)}, srefs d s = false -> ∀ i, (sget s i).ref d = false
 | [], _, i => rfl
 | (j, c, v) :: r, h, i => by
  simp only [srefs] at h;split at h
  ·cases h
  ·rename_i hv;simp only [sget];split
   ·exact hv
   ·exact srefs_get h i
theorem orefs_get {d : Nat} : ∀ {s : List (Nat × Nat × TOb)}, orefs d s = false -> ∀ i x, oget s i = some x -> x.ref d = false
 | [], _, i, x, h => by simp [oget] at h
 | (j, c, v) :: r, h, i, x, hx => by
  simp only [orefs] at h;split at h
  ·cases h
  ·rename_i hv;simp only [oget] at hx;split at hx
   ·cases hx; exact hv
   ·exact orefs_get h i x hx
theorem fixG_ok {h h' : List (Nat × Nat × TOb)} (hf : fixG h h' h' = true) : ∀ m, 2000 <= m -> tgen h' m <= tgen h m := by
 have key : ∀ l : List (Nat × Nat × TOb), fixG h h' l = true -> ∀ m, 2000 <= m -> oget l m ≠ none -> tgen h' m <= tgen h m := by
  intro l;induction l with
  | nil => intro _ m _ hm; simp [oget] at hm
  | cons x l ih =>
   obtain ⟨i, c, o⟩ := x;intro hl m h2 hm;simp only [fixG] at hl;simp only [oget] at hm;split at hm
   ·rename_i e;have := beqs e; subst this;split at hl
    ·rename_i hlt;have : m < 2000 := by simpa [Nat.blt_eq] using hlt
     omega
    ·split at hl
     ·rename_i hle; exact Nat.le_of_ble_eq_true hle
     ·cases hl
   ·split at hl
    ·exact ih hl m h2 hm
    ·split at hl
     ·exact ih hl m h2 hm
     ·cases hl
 intro m hm;cases e : oget h' m with
 | none => unfold tgen; rw [e]; exact Nat.zero_le _
 | some x => exact key h' hf m hm (by rw [e]; simp)
theorem pk_le {j : J} {E E' : TE} {d : Ds j.tys} {n : Nat} (hp : j.pk E E' = some d) (hx : Ext E E') (hc : (j.un E d).closed = true) (γ : Nat -> Nat) : ∃ γ' : Nat -> Nat, Fx γ γ' /\ Le (E'.env n γ) ((j.un E d).env n γ') := by
 unfold J.pk at hp;split at hp
 ·rename_i q1 q2 q3 q4 q5;split at hp
  ·rename_i a b ha hb;have hd := dis_asm _ _ _ hp;let G := tgen E.h;let γ' : Nat -> Nat := fun m => γ m + (tgen E'.h m - G m)
   obtain ⟨oh, hoh⟩ : ∃ oh, unO G E.c j.jh b = oh := ⟨_, rfl⟩;obtain ⟨sl, hun⟩ : ∃ sl, unS G E.c j.js (a ++ b) = (sl, b) := by
    have := packS_ok (h := E'.h) (hn := []) (G := G) (γ := z0) (γ' := z0) (fun n hn => by simp [oget] at hn) (c := E.c) j.js a b ha;obtain ⟨sl, h1, _⟩ := this;exact ⟨sl, h1⟩
   have hXs : (j.un E d).s = sl ++ keepS E.s j.ks := by unfold J.un; rw [hd, hun]
   have hXh : (j.un E d).h = oh ++ keepO E.h j.kh := by unfold J.un; rw [hd, hun, <- hoh]
   have hb0 : b = b ++ [] := by simp
   have joined : ∀ m x, oget oh m = some x -> ∃ s a r', (m, s) ∈ j.jh /\ OSh.pk E'.h m s = some a /\ x = (s.un G m (a ++ r')).1 := fun m x hm => by
    rw [<- hoh, hb0] at hm;exact unO_get j.jh b [] hb m x hm
   have hcase : ∀ m x, oget (j.un E d).h m = some x -> (oget oh m = some x) \/ (oget oh m = none /\ m ∈ j.kh /\ oget E.h m = some x /\ oget E'.h m = some x) := fun m x hm => by
    rw [hXh, oget_app] at hm;cases e : oget oh m with
    | some y => rw [e] at hm; cases hm; exact .inl rfl
    | none =>
     rw [e] at hm;obtain ⟨k1, k2⟩ := oget_keep hm;exact .inr ⟨rfl, k1, k2, by rw [keptO_ok hx q2 m k1]; exact k2⟩
   have hG : ∀ m, (oget (j.un E d).h m).isSome = true -> γ' m + G m = γ m + tgen E'.h m /\ olen (j.un E d).h m = olen E'.h m := by
    intro m hm;cases e : oget (j.un E d).h m with
    | none => rw [e] at hm; cases hm
    | some x =>
     rcases hcase m x e with h1 | ⟨_, _, h2, h3⟩
     ·obtain ⟨s, a', r', m1, m2, rfl⟩ := joined m x h1;obtain ⟨_, u2, u3⟩ := osh_un (G := G) s m a' r' m2;obtain ⟨g1, _⟩ := gensOk_ok q3 _ m1;refine ⟨?_, by simp only [olen, e]; exact u3⟩
      show γ m + (tgen E'.h m - G m) + G m = _
      have : G m <= tgen E'.h m := g1;omega
     ·refine ⟨?_, by simp only [olen, e, h3]⟩;have : tgen E'.h m = G m := by show _ = tgen E.h m; unfold tgen; rw [h2, h3]
      show γ m + (tgen E'.h m - G m) + G m = _
      omega
   have hsame : ∀ m, (oget (j.un E d).h m).isSome = true -> (srefs m (keepS E.s j.ks) = true \/ orefs m (keepO E.h j.kh) = true) -> γ' m = γ m := by
    intro m hm href;have : tgen E'.h m = G m := by
     cases e : oget (j.un E d).h m with
     | none => rw [e] at hm; cases hm
     | some x =>
      rcases hcase m x e with h1 | ⟨_, _, h2, h3⟩
      ·obtain ⟨s, a', r', m1, m2, rfl⟩ := joined m x h1;obtain ⟨_, g2⟩ := gensOk_ok q3 _ m1;rcases g2 with g2 | ⟨g2, g3⟩
       ·exact g2
       ·rcases href with h | h
        ·rw [show srefs m (keepS E.s j.ks) = false from g2] at h; cases h
        ·rw [show orefs m (keepO E.h j.kh) = false from g3] at h; cases h
      ·show _ = tgen E.h m; unfold tgen; rw [h2, h3]
    show γ m + (tgen E'.h m - G m) = γ m
    omega
   have hclS : ∀ i, (sget (j.un E d).s i).inH (j.un E d).h = true := by
    unfold TE.closed at hc;split at hc
    ·rename_i h1; exact inS_get h1
    ·cases hc
   have hclW : ∀ i x, oget (j.un E d).h i = some x -> (match x with | .nm _ _ _ _ b => b = .no | .nl _ _ _ b => b = none | _ => True) := by
    unfold TE.closed at hc;split at hc
    ·exact fun i x hx => inO_whole hc i x hx
    ·cases hc
   have hclO : ∀ i g p sz l, oget (j.un E d).h i = some (.els g p sz l) -> TV.inHL (j.un E d).h l = true := by
    unfold TE.closed at hc;split at hc
    ·exact inO_get hc
    ·cases hc
   refine ⟨γ', fun m hm => (by have := fixG_ok q5 m hm; show γ m + (tgen E'.h m - tgen E.h m) = γ m; omega), le_drop (fun i hi => ?_) (fun m o' ho' => ?_) (fun m o ho h1000 => ?_)⟩
   ·have e1 : aget ((j.un E d).slots γ') i = (sget (j.un E d).s i).v (olen (j.un E d).h) γ' := aget_slots _ _ _ _;have e2 : aget (E'.slots γ) i = (sget E'.s i).v (olen E'.h) γ := aget_slots _ _ _ _;rw [e1, e2];have hw : ((sget (j.un E d).s i).v (olen (j.un E d).h) γ').kin ((j.un E d).heap γ') = true := within_kin (inH_within _ (hclS i));have hi' := hclS i;rw [hXs, sget_app] at hi' hw ⊢;split at hi'
    ·rename_i hmem;rw [if_pos hmem] at hw ⊢;obtain ⟨x, x1, x2, x3⟩ := sget_mem hmem;obtain ⟨sl', h1, h2, h3⟩ := packS_ok (h := E'.h) (hn := (j.un E d).h) (G := G) (γ := γ) (γ' := γ') hG (c := E.c) j.js a b ha;rw [hun] at h1;cases h1;have := h3 x x1;rw [x2, x3] at this;exact .inr ⟨(this hi').1, hw⟩
    ·rename_i hmem;rw [if_neg hmem] at hw ⊢;rw [sget_keep] at hi' hw ⊢;split at hi'
     ·rename_i hk;rw [if_pos hk] at hw ⊢;have hs := keptS_ok hx q1 i hk;rw [hs];have hcv : (sget E.s i).v (olen (j.un E d).h) γ' = (sget E.s i).v (olen E'.h) γ := by
       refine congr_v _ fun m hm => ?_
       have hin := ref_inH _ hi' hm;refine ⟨(hG m hin).2, hsame m hin (.inl ?_)⟩;cases hsr : srefs m (keepS E.s j.ks) with
       | true => rfl
       | false =>
        have := srefs_get hsr i;rw [sget_keep, if_pos hk, hm] at this;cases this
      rw [hcv] at hw ⊢;exact .inr ⟨VUp.refl _, hw⟩
     ·rename_i hk;rw [if_neg hk];exact .inl rfl
   ·have e1 : hget ((j.un E d).heap γ') m = (oget (j.un E d).h m).map fun x => x.ob (olen (j.un E d).h) γ' m := hget_obs _ _ _ _
    rw [show hget (TE.heap (j.un E d) γ') m = _ from e1, Option.map_eq_some_iff] at ho';obtain ⟨x, hxm, rfl⟩ := ho';have hin : (oget (j.un E d).h m).isSome = true := by rw [hxm]; rfl
    have hwit : (match x.ob (olen (j.un E d).h) γ' m with
      | .arr _ p _ l => p = true \/ ∀ y ∈ l, y.kin ((j.un E d).heap γ') = true
      | .map _ ks vs => (∀ y ∈ ks, y.kin ((j.un E d).heap γ') = true) /\ ∀ y ∈ vs, y.kin ((j.un E d).heap γ') = true) := by
     cases x with
     | lst g t l => exact .inl rfl
     | mp g k v l => exact ⟨fun y hy => by obtain ⟨z, _, rfl⟩ := List.mem_map.1 hy; exact idfree_kin (enc_free k _), fun y hy => by obtain ⟨z, _, rfl⟩ := List.mem_map.1 hy; exact idfree_kin (enc_free v _)⟩
     | nm g k u l b =>
      have : b = .no := hclW m _ hxm;subst this;exact ⟨fun y hy => by obtain ⟨z, _, rfl⟩ := List.mem_map.1 hy; exact idfree_kin (enc_free k _), ncells_kin _ _ _ _⟩
     | nl g u l b =>
      have : b = none := hclW m _ hxm;subst this;exact .inr (ncells_kin _ _ _ _)
     | els g p sz l =>
      right;intro y hy;have := inHL_within (H := olen (j.un E d).h) (γ := γ') (γ' := γ') (H2 := olen (j.un E d).h) l (hclO m g p sz l hxm);rw [V.withinL_iff] at this;exact within_kin (this y hy)
    refine ⟨?_, hwit⟩;rcases hcase m x hxm with h1 | ⟨h0, h1, h2, h3⟩
    ·obtain ⟨s, a', r', m1, m2, rfl⟩ := joined m x h1;refine osh_ok hG s m a' r' m2 hin ?_;split
     ·rename_i e; rw [e] at hxm; exact hclO _ _ _ _ _ hxm
     ·trivial
    ·refine .inl ⟨x.ob (olen E'.h) γ m, by rw [hget_heap, h3]; rfl, ?_⟩;have hg1 := (hG m hin).1;have ht : tgen E'.h m = x.gen := by unfold tgen; rw [h3]
     have ht2 : G m = x.gen := by show tgen E.h m = _; unfold tgen; rw [h2]
     have hγ : γ' m = γ m := by omega
     have : x.ob (olen (j.un E d).h) γ' m = x.ob (olen E'.h) γ m := by
      cases x with
      | lst g t l => simp only [TOb.ob, hγ]
      | mp g k v l => simp only [TOb.ob, hγ]
      | nm g k u l b =>
       have : b = .no := hclW m _ hxm;subst this;simp only [TOb.ob, nmOb, hγ]
      | nl g u l b =>
       have : b = none := hclW m _ hxm;subst this;simp only [TOb.ob, nlOb, hγ]
      | els g p sz l =>
       simp only [TOb.ob, hγ];rw [congr_vL l fun m' hm' => ?_];have hin' := ref_inHL l (hclO m g p sz l hxm) hm';refine ⟨(hG m' hin').2, hsame m' hin' (.inr ?_)⟩;cases hor : orefs m' (keepO E.h j.kh) with
       | true => rfl
       | false =>
        have hk : oget (keepO E.h j.kh) m = some (.els g p sz l) := by
         rw [hXh, oget_app, h0] at hxm; exact hxm
        have := orefs_get hor m _ hk;simp only [TOb.ref, hm'] at this;cases this
     rw [this];exact ObUp.refl _
   ·have e0 : hget (E'.heap γ) m = (oget E'.h m).map fun x => x.ob (olen E'.h) γ m := hget_obs _ _ _ _
    rw [show hget (TE.heap E' γ) m = _ from e0, Option.map_eq_some_iff] at ho;obtain ⟨x, hxm, _⟩ := ho;have e1 : hget ((j.un E d).heap γ') m = (oget (j.un E d).h m).map fun x => x.ob (olen (j.un E d).h) γ' m := hget_obs _ _ _ _
    rw [show hget (TE.heap (j.un E d) γ') m = _ from e1];have hin := hiIn_ok q4 m (by rw [hxm]; simp) h1000;have : oget (j.un E d).h m ≠ none := by
     rw [hXh, oget_app];cases e : oget oh m with
     | some y => simp
     | none =>
      simp only;rcases List.mem_append.1 hin with hin | hin
      ·obtain ⟨y, hy, rfl⟩ := List.mem_map.1 hin;have := unO_some (G := G) (c := E.c) j.jh b [] hb y hy;rw [<- hb0, hoh] at this;exact absurd e this
      ·exact keepO_some hin (by rw [<- keptO_ok hx q2 m hin, hxm]; simp)
    cases e : oget (j.un E d).h m with
    | none => exact absurd e this
    | some y => simp
  ·cases hp
 ·cases hp
theorem un_ok {j : J} {E : TE} {d : Ds j.tys} (hE : E.ok) : (j.un E d).ok := by
 obtain ⟨sl, r, hun⟩ : ∃ sl r, unS (tgen E.h) E.c j.js (dis j.tys d) = (sl, r) := ⟨_, _, rfl⟩;have hsl : ∀ (js : List (Nat × Sh)) (l : List Dv), (unS (tgen E.h) E.c js l).1.map (·.1) = js.map (·.1) := by
  intro js;induction js with
  | nil => intro l; rfl
  | cons x js ih => intro l; simp only [unS, List.map_cons, ih]
 have h1 := hsl j.js (dis j.tys d);rw [hun] at h1;simp only at h1;unfold J.un;rw [hun];intro m hm;simp only [List.mem_filter] at hm;obtain ⟨hm, hcond⟩ := hm;obtain ⟨g1, g2, g3⟩ := hE m hm;split at hcond
 ·rename_i k1 k2 k3 k4;have n3 : m.tl ∉ j.js.map (·.1) := fun h => by rw [mem_iff.2 h] at k3; cases k3
  have n4 : m.ti ∉ j.js.map (·.1) := fun h => by rw [mem_iff.2 h] at k4; cases k4
  simp only;rw [sget_app, sget_app, h1, if_neg n3, if_neg n4, sget_keep, sget_keep, if_pos (mem_iff.1 k1), if_pos (mem_iff.1 k2)];exact ⟨g1, g2, g3⟩
 ·cases hcond
theorem unS_get (G : Nat -> Nat) (c c' : Nat) : ∀ (js : List (Nat × Sh)) (l : List Dv), (unS G c js l).2 = (unS G c' js l).2 /\ (∀ i, sget (unS G c js l).1 i = sget (unS G c' js l).1 i) /\ (unS G c js l).1.map (·.1) = js.map (·.1) /\ ∀ i t, stime (unS G c js l).1 i = some t -> t = c
 | [], l => ⟨rfl, fun _ => rfl, rfl, fun i t h => by simp [unS, stime] at h⟩
 | x :: js, l => by
  obtain ⟨h1, h2, h3, h4⟩ := unS_get G c c' js (x.2.un G l).2;refine ⟨by simp only [unS, h1], fun i => ?_, by simp only [unS, List.map_cons, h3], fun i t h => ?_⟩
  ·simp only [unS, sget, h2 i]
  ·simp only [unS, stime] at h;split at h
   ·cases h; rfl
   ·exact h4 i t h
theorem unO_get' (G : Nat -> Nat) (c c' : Nat) : ∀ (jh : List (Nat × OSh)) (l : List Dv), (∀ i, oget (unO G c jh l) i = oget (unO G c' jh l) i) /\ ∀ i t, otime (unO G c jh l) i = some t -> t = c
 | [], l => ⟨fun _ => rfl, fun i t h => by simp [unO, otime] at h⟩
 | x :: jh, l => by
  obtain ⟨h1, h2⟩ := unO_get' G c c' jh (x.2.un G x.1 l).2;refine ⟨fun i => ?_, fun i t h => ?_⟩
  ·simp only [unO, oget, h1 i]
  ·simp only [unO, otime] at h;split at h
   ·cases h; rfl
   ·exact h2 i t h
theorem un_s (j : J) (E : TE) (d : Ds j.tys) : (j.un E d).s = (unS (tgen E.h) E.c j.js (dis j.tys d)).1 ++ keepS E.s j.ks := rfl
theorem un_h (j : J) (E : TE) (d : Ds j.tys) : (j.un E d).h = unO (tgen E.h) E.c j.jh (unS (tgen E.h) E.c j.js (dis j.tys d)).2 ++ keepO E.h j.kh := rfl
theorem stime_app (a b : List (Nat × Nat × TV)) (i : Nat) : stime (a ++ b) i = match stime a i with | some c => some c | none => stime b i := by
 induction a with
 | nil => rfl
 | cons x a ih =>
  obtain ⟨j, c, v⟩ := x;simp only [List.cons_append, stime];cases Nat.beq i j with
  | true => rfl
  | false => exact ih
theorem otime_app (a b : List (Nat × Nat × TOb)) (i : Nat) : otime (a ++ b) i = match otime a i with | some c => some c | none => otime b i := by
 induction a with
 | nil => rfl
 | cons x a ih =>
  obtain ⟨j, c, v⟩ := x;simp only [List.cons_append, otime];cases Nat.beq i j with
  | true => rfl
  | false => exact ih
theorem sget_app' (a b : List (Nat × Nat × TV)) (i : Nat) : sget (a ++ b) i = match stime a i with | some _ => sget a i | none => sget b i := by
 induction a with
 | nil => rfl
 | cons x a ih =>
  obtain ⟨j, c, v⟩ := x;simp only [List.cons_append, stime, sget];cases Nat.beq i j with
  | true => rfl
  | false => exact ih
theorem oget_app' (a b : List (Nat × Nat × TOb)) (i : Nat) : oget (a ++ b) i = match otime a i with | some _ => oget a i | none => oget b i := by
 induction a with
 | nil => rfl
 | cons x a ih =>
  obtain ⟨j, c, v⟩ := x;simp only [List.cons_append, otime, oget];cases Nat.beq i j with
  | true => rfl
  | false => exact ih
theorem keepS_time {s : List (Nat × Nat × TV)} {i c : Nat} : ∀ {ks : List Nat}, stime (keepS s ks) i = some c -> stime s i = some c /\ sget (keepS s ks) i = sget s i
 | [], h => by simp [keepS, stime] at h
 | k :: ks, h => by
  simp only [keepS] at h ⊢;split at h
  ·rename_i c' hc;simp only [stime, sget] at h ⊢;split at h
   ·rename_i hb;have := beqs hb; subst this;cases h;exact ⟨hc, rfl⟩
   ·exact keepS_time h
  ·exact keepS_time h
theorem keepO_time {s : List (Nat × Nat × TOb)} {i c : Nat} : ∀ {ks : List Nat}, otime (keepO s ks) i = some c -> otime s i = some c /\ oget (keepO s ks) i = oget s i
 | [], h => by simp [keepO, otime] at h
 | k :: ks, h => by
  simp only [keepO] at h ⊢;split at h
  ·rename_i x c' hx hc;simp only [otime, oget] at h ⊢;split at h
   ·rename_i hb;have := beqs hb; subst this;cases h;exact ⟨hc, hx.symm⟩
   ·exact keepO_time h
  ·exact keepO_time h
theorem ext_un (j : J) (E : TE) (d : Ds j.tys) : Ext E (j.un E d) := by
 refine ⟨Nat.le_succ _, fun i c h1 h2 => ?_, fun i c h1 h2 => ?_⟩
 ·rw [un_s] at h1 ⊢;rw [stime_app] at h1;rw [sget_app'];split at h1
  ·rename_i c' hc;have := (unS_get (tgen E.h) E.c 0 j.js (dis j.tys d)).2.2.2 i c' hc;cases h1; omega
  ·rename_i hc;obtain ⟨g1, g2⟩ := keepS_time h1;exact ⟨g1, g2⟩
 ·rw [un_h] at h1 ⊢;rw [otime_app] at h1;rw [oget_app'];split at h1
  ·rename_i c' hc;have := (unO_get' (tgen E.h) E.c 0 j.jh _).2 i c' hc;cases h1; omega
  ·rename_i hc;obtain ⟨g1, g2⟩ := keepO_time h1;exact ⟨g1, g2⟩
end Go.PG.PH
set_option linter.unusedSimpArgs false
set_option linter.unusedVariables false
set_option linter.unusedSectionVars false
namespace Go.PG.PH
inductive TX where
 | a (sz : Nat) (t : Ty) (l : List t.D)
 | m (k v : Ty) (l : List (k.D × v.D))
@[reducible] def TX.x : TX -> SX
 | .a sz t l => .a sz (l.map t.enc)
 | .m k v l => .m (l.map fun p => k.enc p.1) (l.map fun p => v.enc p.2)
@[reducible] def TX.good : TX -> Nat -> Prop
 | .a sz t l, h => h = l.length /\ sz = t.size
 | .m _ _ _, _ => True
theorem TX.free (X : TX) : X.x.free := by
 cases X with
 | a => trivial
 | m k v l => exact ⟨fun x hx => by obtain ⟨z, _, rfl⟩ := List.mem_map.1 hx; exact enc_free k _, fun x hx => by obtain ⟨z, _, rfl⟩ := List.mem_map.1 hx; exact enc_free v _⟩
def TX.win (g : Nat) : TX -> Nat -> Nat -> Option TV
 | .a sz t l, g', s => match Nat.beq g' g, Nat.beq s sz with
  | true, true => some (.leaf (.list t) l)
  | _, _ => none
 | .m _ _ _, _, _ => none
def TX.map (g : Nat) : TX -> Nat -> Option TV
 | .a _ _ _, _ => none
 | .m k v l, g' => match Nat.beq g' g with
  | true => some (.leaf (.map k v) l)
  | false => none
mutual
def TV.sealW (n g : Nat) (X : TX) : TV -> Option TV
 | .sof m g' s => match Nat.beq m n with
  | false => some (.sof m g' s)
  | true => X.win g g' s
 | .mo m g' => match Nat.beq m n with
  | false => some (.mo m g')
  | true => X.map g g'
 | .it m => some (.it m)
 | .so m g' s o k => match Nat.beq m n with
  | false => some (.so m g' s o k)
  | true => none
 | .ep m g' s i o => match Nat.beq m n with
  | false => some (.ep m g' s i o)
  | true => none
 | .pr cs => match TV.refL n cs with
  | false => some (.pr cs)
  | true => none
 | .agg cs => match sealL n g X cs with
  | some l => some (.agg l)
  | none => none
 | .tup cs => match sealL n g X cs with
  | some l => some (.tup l)
  | none => none
 | .fn f cs => match sealL n g X cs with
  | some l => some (.fn f l)
  | none => none
 | .leaf u y => some (.leaf u y)
 | .nil => some .nil | .emp s => some (.emp s) | .nilp => some .nilp | .nilfn => some .nilfn | .nilm => some .nilm | .dead => some .dead
def TV.sealL (n g : Nat) (X : TX) : List TV -> Option (List TV)
 | [] => some []
 | c :: cs => match TV.sealW n g X c with
  | none => none
  | some y => match sealL n g X cs with
   | none => none
   | some r => some (y :: r)
end
theorem fix_free {n g : Nat} {X : SX} {c : V} (h : c.idfree = true) : V.fix n g X c = c := by
 have key : ∀ (k : Nat) (c : V), SizeOf.sizeOf c < k -> c.idfree = true -> V.fix n g X c = c := by
  intro k;induction k with
  | zero => intro c hc; omega
  | succ k ih =>
   intro c hc hi;have kids : ∀ cs : List V, SizeOf.sizeOf cs <= k -> V.idfreeL cs = true -> V.fixL n g X cs = cs := by
    intro cs;induction cs with
    | nil => intros; rfl
    | cons a cs ihc =>
     intro hs hcs;simp only [V.idfreeL, Bool.and_eq_true] at hcs;simp only [List.cons.sizeOf_spec] at hs;simp only [V.fixL, ih a (by omega) hcs.1, ihc (by omega) hcs.2]
   cases c <;> simp only [V.idfree] at hi <;> first
    | (simp only [V.fix]; rw [kids _ (by simp at hc; omega) hi])
    | rfl
    | (simp at hi)
 exact key _ c (Nat.lt_succ_self _) h
section
variable {H H' γ : Nat -> Nat} {n g : Nat} {X : TX} (hH : ∀ m, m ≠ n -> H' m = H m) (hX : X.good (H n))
mutual
theorem seal_v (hH : ∀ m, m ≠ n -> H' m = H m) (hX : X.good (H n)) : ∀ (v v' : TV), TV.sealW n g X v = some v' -> v'.v H' γ = V.fix n (γ n + g) X.x (v.v H γ)
 | .sof m g' s, v', h => by
  simp only [TV.sealW] at h;split at h
  ·rename_i hm;cases h;simp only [TV.v, V.fix, if_neg (beq_false.1 hm), hH m (beq_false.1 hm)]
  ·rename_i hm;cases X with
   | m k v l => cases h
   | a sz t l =>
   obtain ⟨hn, hs⟩ := hX;simp only [TX.win] at h;split at h
   ·rename_i hg hz;cases h;have := beqs hm; subst this;have := beqs hg; subst this;have := beqs hz; subst this;simp only [TV.v, V.fix, TX.x, SX.win, if_true, hn, List.length_map, Nat.zero_add, Nat.le_refl, and_self, List.drop_zero];rw [List.take_of_length_le (by simp), hs];rfl
   ·cases h
 | .mo m g', v', h => by
  simp only [TV.sealW] at h;split at h
  ·rename_i hm;cases h;simp only [TV.v, V.fix, if_neg (beq_false.1 hm)]
  ·rename_i hm;cases X with
   | a sz t l => cases h
   | m k v l =>
   simp only [TX.map] at h;split at h
   ·rename_i hg;cases h;have := beqs hm; subst this;have := beqs hg; subst this;simp only [TV.v, V.fix, TX.x, SX.map, if_true];rfl
   ·cases h
 | .so m g' s o k, v', h => by
  simp only [TV.sealW] at h;split at h
  ·rename_i hm; cases h; simp only [TV.v, V.fix, if_neg (beq_false.1 hm)]
  ·cases h
 | .ep m g' s i o, v', h => by
  simp only [TV.sealW] at h;split at h
  ·rename_i hm; cases h; simp only [TV.v, V.fix, if_neg (beq_false.1 hm)]
  ·cases h
 | .pr cs, v', h => by
  simp only [TV.sealW] at h;split at h
  ·rename_i hm;cases h;simp only [TV.v, V.fix];rw [congr_vL cs fun m hr => ⟨hH m (fun e => by subst e; rw [hm] at hr; cases hr), rfl⟩]
  ·cases h
 | .agg cs, v', h => by
  simp only [TV.sealW] at h;split at h
  ·rename_i l' hl; cases h; simp only [TV.v, V.fix, sealL_v hH hX cs l' hl]
  ·cases h
 | .tup cs, v', h => by
  simp only [TV.sealW] at h;split at h
  ·rename_i l' hl; cases h; simp only [TV.v, V.fix, sealL_v hH hX cs l' hl]
  ·cases h
 | .fn f cs, v', h => by
  simp only [TV.sealW] at h;split at h
  ·rename_i l' hl; cases h; simp only [TV.v, V.fix, sealL_v hH hX cs l' hl]
  ·cases h
 | .leaf u y, v', h => by simp only [TV.sealW] at h; cases h; simp only [TV.v]; rw [fix_free (enc_free u y)]
 | .it m, v', h => by simp only [TV.sealW] at h; cases h; rfl
 | .nil, v', h => by simp only [TV.sealW] at h; cases h; rfl
 | .emp s, v', h => by simp only [TV.sealW] at h; cases h; rfl
 | .nilp, v', h => by simp only [TV.sealW] at h; cases h; rfl
 | .nilfn, v', h => by simp only [TV.sealW] at h; cases h; rfl
 | .nilm, v', h => by simp only [TV.sealW] at h; cases h; rfl
 | .dead, v', h => by simp only [TV.sealW] at h; cases h; rfl
theorem sealL_v (hH : ∀ m, m ≠ n -> H' m = H m) (hX : X.good (H n)) : ∀ (cs l' : List TV), TV.sealL n g X cs = some l' -> TV.vL H' γ l' = V.fixL n (γ n + g) X.x (TV.vL H γ cs)
 | [], l', h => by simp only [TV.sealL] at h; cases h; rfl
 | c :: cs, l', h => by
  simp only [TV.sealL] at h;split at h
  ·cases h
  ·rename_i y hy;split at h
   ·cases h
   ·rename_i r hr;cases h;simp only [TV.vL, V.fixL, seal_v hH hX c y hy, sealL_v hH hX cs r hr]
end
end
def sealS (n g : Nat) (X : TX) (c : Nat) : List (Nat × Nat × TV) -> List (Nat × Nat × TV)
 | [] => []
 | (i, d, v) :: r => match v.ref n with
  | false => (i, d, v) :: sealS n g X c r
  | true => match TV.sealW n g X v with
   | some v' => (i, c, v') :: sealS n g X c r
   | none => (i, c, .dead) :: sealS n g X c r
def sealO (n g : Nat) (X : TX) (c : Nat) : List (Nat × Nat × TOb) -> Option (List (Nat × Nat × TOb))
 | [] => some []
 | (i, d, v) :: r => match Nat.beq i n with
  | true => sealO n g X c r
  | false => match sealO n g X c r with
   | none => none
   | some r' => match v with
    | .lst g' t' l' => some ((i, d, .lst g' t' l') :: r')
    | .mp g' k' v' l' => some ((i, d, .mp g' k' v' l') :: r')
    | .nm g' k' u' l' b => match (TOb.nm g' k' u' l' b).ref n with
     | false => some ((i, d, .nm g' k' u' l' b) :: r')
     | true => none
    | .nl g' u' l' b => match (TOb.nl g' u' l' b).ref n with
     | false => some ((i, d, .nl g' u' l' b) :: r')
     | true => none
    | .els g' p s l' => match TV.refL n l' with
     | false => some ((i, d, .els g' p s l') :: r')
     | true => match p, TV.sealL n g X l' with
      | false, some l2 => some ((i, c, .els g' p s l2) :: r')
      | _, _ => none
def obL (t : Ty) : TOb -> Option (Nat × List t.D)
 | .lst g t' l => match castD (.list t') (.list t) l with
  | some l' => some (g, l')
  | none => none
 | .els g true sz l => match Nat.beq sz t.size, toDs0 t l with
  | true, some l' => some (g, l')
  | _, _ => none
 | _ => none
def TE.sealX (E : TE) (n g : Nat) (X : TX) : Option TE := match sealO n g X E.c E.h with
 | some h => some ⟨sealS n g X E.c E.s, h, E.m, E.c + 1⟩
 | none => none
def TE.sealT (E : TE) (n : Nat) (t : Ty) : Option TE := match Nat.blt n 1000, oget E.h n with
 | true, some (.lst g t' l) => E.sealX n g (.a t'.size t' l)
 | true, some (.els g _ sz l0) => match Nat.beq sz t.size, toDs0 t l0 with
  | true, some l => E.sealX n g (.a sz t l)
  | _, _ => none
 | true, some (.mp g k v l) => E.sealX n g (.m k v l)
 | _, _ => none
theorem sget_seal (n g : Nat) (X : TX) (c : Nat) : ∀ (s : List (Nat × Nat × TV)) (i : Nat),
  ((sget s i).ref n = false /\ sget (sealS n g X c s) i = sget s i /\ stime (sealS n g X c s) i = stime s i) \/
  ((sget s i).ref n = true /\ stime (sealS n g X c s) i = some c /\ (TV.sealW n g X (sget s i) = some (sget (sealS n g X c s) i) \/ sget (sealS n g X c s) i = .dead))
 | [], i => .inl ⟨rfl, rfl, rfl⟩
 | (j, d, v) :: r, i => by
  cases hb : Nat.beq i j with
  | false =>
   have := sget_seal n g X c r i;simp only [sealS];split
   ·simp only [sget, stime, hb]; exact this
   ·split
    ·simp only [sget, stime, hb]; exact this
    ·simp only [sget, stime, hb]; exact this
  | true =>
   simp only [sealS];split
   ·rename_i hr; left; simp only [sget, stime, hb]; exact ⟨hr, trivial, trivial⟩
   ·rename_i hr;right;split
    ·rename_i v' hv; simp only [sget, stime, hb]; exact ⟨hr, trivial, .inl hv⟩
    ·simp only [sget, stime, hb]; exact ⟨hr, trivial, .inr trivial⟩
theorem oget_seal {n g : Nat} {X : TX} {c : Nat} : ∀ {s h : List (Nat × Nat × TOb)}, sealO n g X c s = some h -> ∀ i,
  oget h n = none /\ (i ≠ n -> (oget s i = none /\ oget h i = none /\ otime h i = none) \/
   (∃ x, oget s i = some x /\ x.ref n = false /\ oget h i = some x /\ otime h i = otime s i) \/
   (∃ g' s' l' l2, oget s i = some (.els g' false s' l') /\ TV.sealL n g X l' = some l2 /\ oget h i = some (.els g' false s' l2) /\ otime h i = some c))
 | [], h, hs, i => by simp only [sealO] at hs; cases hs; exact ⟨rfl, fun _ => .inl ⟨rfl, rfl, rfl⟩⟩
 | (j, d, v) :: r, h, hs, i => by
  simp only [sealO] at hs;split at hs
  ·rename_i hj;obtain ⟨h1, h2⟩ := oget_seal hs i;refine ⟨h1, fun hi => ?_⟩;have : Nat.beq i j = false := beq_false.2 (by rw [beqs hj]; exact hi);simp only [oget, otime, this];exact h2 hi
  ·rename_i hj;have hjn := beq_false.1 hj;have hnj : Nat.beq n j = false := beq_false.2 fun e => hjn e.symm
   split at hs
   ·cases hs
   ·rename_i r' hr';obtain ⟨h1, h2⟩ := oget_seal hr' i;cases hb : Nat.beq i j with
    | false =>
     have main : ∀ x c', oget ((j, c', x) :: r') n = none /\ (i ≠ n -> (oget ((j, d, v) :: r) i = none /\ oget ((j, c', x) :: r') i = none /\ otime ((j, c', x) :: r') i = none) \/
       (∃ y, oget ((j, d, v) :: r) i = some y /\ y.ref n = false /\ oget ((j, c', x) :: r') i = some y /\ otime ((j, c', x) :: r') i = otime ((j, d, v) :: r) i) \/
       (∃ g' s' l' l2, oget ((j, d, v) :: r) i = some (.els g' false s' l') /\ TV.sealL n g X l' = some l2 /\ oget ((j, c', x) :: r') i = some (.els g' false s' l2) /\ otime ((j, c', x) :: r') i = some c)) := by
      intro x c'
      simp only [oget, otime, hb, hnj]
      exact ⟨h1, h2⟩
     split at hs
     ·cases hs; exact main _ _
     ·cases hs; exact main _ _
     ·split at hs
      ·cases hs; exact main _ _
      ·cases hs
     ·split at hs
      ·cases hs; exact main _ _
      ·cases hs
     ·split at hs
      ·cases hs; exact main _ _
      ·split at hs
       ·cases hs; exact main _ _
       ·cases hs
    | true =>
     split at hs
     ·cases hs;simp only [oget, otime, hb, hnj];exact ⟨h1, fun _ => .inr (.inl ⟨_, rfl, rfl, rfl, trivial⟩)⟩
     ·cases hs;simp only [oget, otime, hb, hnj];exact ⟨h1, fun _ => .inr (.inl ⟨_, rfl, rfl, rfl, trivial⟩)⟩
     ·split at hs
      ·rename_i hr;cases hs;simp only [oget, otime, hb, hnj];exact ⟨h1, fun _ => .inr (.inl ⟨_, rfl, hr, rfl, trivial⟩)⟩
      ·cases hs
     ·split at hs
      ·rename_i hr;cases hs;simp only [oget, otime, hb, hnj];exact ⟨h1, fun _ => .inr (.inl ⟨_, rfl, hr, rfl, trivial⟩)⟩
      ·cases hs
     ·split at hs
      ·rename_i hr;cases hs;simp only [oget, otime, hb, hnj];exact ⟨h1, fun _ => .inr (.inl ⟨_, rfl, hr, rfl, trivial⟩)⟩
      ·split at hs
       ·rename_i l2 hl2;cases hs;simp only [oget, otime, hb, hnj];exact ⟨h1, fun _ => .inr (.inr ⟨_, _, _, _, rfl, hl2, rfl, trivial⟩)⟩
       ·cases hs
theorem sealW_noref {n g : Nat} {X : TX} {v : TV} (h : v.ref n = false) : TV.sealW n g X v = some v := by
 have main : ∀ q, (∀ v : TV, SizeOf.sizeOf v < q -> v.ref n = false -> TV.sealW n g X v = some v) := by
  intro q;induction q with
  | zero => intro v hv; omega
  | succ q ih =>
   have list : ∀ cs : List TV, SizeOf.sizeOf cs <= q -> TV.refL n cs = false -> TV.sealL n g X cs = some cs := by
    intro cs;induction cs with
    | nil => intros; rfl
    | cons c cs ihc =>
     intro h1 h2;simp only [TV.refL] at h2;split at h2
     ·cases h2
     ·rename_i hc;simp only [List.cons.sizeOf_spec] at h1;simp only [TV.sealL, ih c (by omega) hc, ihc (by omega) h2]
   intro v hv hr;cases v <;> simp only [TV.sealW, TV.ref] at hr ⊢ <;> first
    | rfl
    | (rw [list _ (by simp at hv; omega) hr])
    | (rw [hr])
 exact main _ _ (Nat.lt_succ_self _) h
theorem fix_noref {H H' γ : Nat -> Nat} {n g : Nat} {X : TX} (hH : ∀ m, m ≠ n -> H' m = H m) (hX : X.good (H n)) (v : TV) (h : v.ref n = false) : V.fix n (γ n + g) X.x (v.v H γ) = v.v H γ := by
 rw [<- seal_v hH hX v v (sealW_noref h)];exact ref_v (d := n) hH (fun _ _ => rfl) v h
theorem ncells_fix (m : Nat) (u : Ty) (l : List u.D) (n g : Nat) (X : SX) : (ncells m u l).map (V.fix n g X) = ncells m u l := by
 conv => rhs; rw [<- List.map_id (ncells m u l)]
 refine List.map_congr_left fun c hc => ?_
 obtain ⟨j, x, _, rfl⟩ := ncells_mem hc;cases u <;> first | rfl | exact fix_free (enc_free _ _)
theorem keys_fix (k : Ty) {A : Type} (f : A -> k.D) (l : List A) (n g : Nat) (X : SX) : (l.map fun x => k.enc (f x)).map (V.fix n g X) = l.map fun x => k.enc (f x) := by
 rw [List.map_map];exact List.map_congr_left fun c hc => fix_free (enc_free k _)
theorem nmOb_fix {H H' γ : Nat -> Nat} {n g : Nat} {X : TX} (hH : ∀ m, m ≠ n -> H' m = H m) (hX : X.good (H n)) {m g' : Nat} {k u : Ty} {l : List (k.D × u.D)} {b : NB k} (hr : ∀ v, b.val = some v -> v.ref n = false) :
  (TOb.ob H γ m (.nm g' k u l b)).fix n (γ n + g) X.x = TOb.ob H' γ m (.nm g' k u l b) := by
 simp only [TOb.ob]
 rw [nmOb_congr (H' := H') (γ' := γ) (H := H) (γ := γ) rfl fun v hv => ref_v (d := n) hH (fun _ _ => rfl) v (hr v hv)]
 cases b with
 | no => simp only [nmOb, Ob.fix, ncells_fix, keys_fix]
 | bor x v =>
  have := fix_noref (γ := γ) (g := g) hH hX v (hr v rfl);simp only [nmOb];split <;> simp only [Ob.fix, ncells_fix, keys_fix, List.map_set, this]
 | fil x v =>
  have := fix_noref (γ := γ) (g := g) hH hX v (hr v rfl);have hk : V.fix n (γ n + g) X.x (k.enc x) = k.enc x := fix_free (enc_free k x);simp only [nmOb];split <;> simp only [Ob.fix, ncells_fix, keys_fix, List.map_set, List.map_append, List.map_cons, List.map_nil, this, hk]
theorem seal_core {E : TE} {n g : Nat} {X : TX} {h : List (Nat × Nat × TOb)} {k : Nat} {γ : Nat -> Nat} (hlt : n < 1000) (hl : X.good (olen E.h n))
  (ho : ∃ o0, hget (E.heap γ) n = some o0 /\ ObUp o0 (X.x.ob (γ n + g)))
  (hh : sealO n g X E.c E.h = some h) : Le (E.env k γ) (TE.env ⟨sealS n g X E.c E.s, h, E.m, E.c + 1⟩ k γ) /\ Ext E ⟨sealS n g X E.c E.s, h, E.m, E.c + 1⟩ /\ (E.ok -> TE.ok ⟨sealS n g X E.c E.s, h, E.m, E.c + 1⟩) := by
 have hH : ∀ m, m ≠ n -> olen h m = olen E.h m := by
  intro m hm;rcases (oget_seal hh m).2 hm with ⟨h1, h2, _⟩ | ⟨x, h1, _, h2, _⟩ | ⟨g', s', l', l2, h1, h3, h2, _⟩
  ·unfold olen; rw [h1, h2]
  ·unfold olen; rw [h1, h2]
  ·unfold olen; rw [h1, h2];have : ∀ (a b : List TV), TV.sealL n g X a = some b -> b.length = a.length := by
    intro a;induction a with
    | nil => intro b hb; simp only [TV.sealL] at hb; cases hb; rfl
    | cons c a ih =>
     intro b hb;simp only [TV.sealL] at hb;split at hb
     ·cases hb
     ·split at hb
      ·cases hb
      ·rename_i r hr; cases hb; simp [ih r hr]
   exact this l' l2 h3
 refine ⟨?_, ⟨Nat.le_succ _, fun i c h1 h2 => ?_, fun i c h1 h2 => ?_⟩, fun hE m hm => ?_⟩
 ·obtain ⟨o0, hg, hup⟩ := ho;have e1 : Le (E.env k γ) (SE k (E.slots γ) (hset (E.heap γ) n (X.x.ob (γ n + g)))) := by
   refine le_up (fun i _ => .inr (VUp.refl _)) (fun m o' ho' => ?_) (fun m o hmo => ?_)
   ·rw [hget_hset] at ho';split at ho'
    ·rename_i e; subst e; cases ho'; exact .inl ⟨_, hg, hup⟩
    ·exact .inl ⟨o', ho', ObUp.refl _⟩
   ·rw [hget_hset];split
    ·simp
    ·rw [hmo]; simp
  refine e1.trans ((le_sealS n (γ n + g) X.x (by rw [hget_hset, if_pos rfl]) X.free hlt).trans ?_);refine le_up (fun i _ => ?_) (fun m o' ho' => ?_) (fun m o hmo => ?_)
  ·rw [show aget (TE.slots ⟨sealS n g X E.c E.s, h, E.m, E.c + 1⟩ γ) i = _ from aget_slots _ _ _ _];rw [show aget ((E.slots γ).map fun x => (x.1, V.fix n (γ n + g) X.x x.2)) i = V.fix n (γ n + g) X.x (aget (E.slots γ) i) from aget_map _ rfl _ _];rw [show aget (E.slots γ) i = _ from aget_slots _ _ _ _];rcases sget_seal n g X E.c E.s i with ⟨h1, h2, _⟩ | ⟨h1, _, h2 | h2⟩
   ·right;rw [h2];have : TV.sealW n g X (sget E.s i) = some (sget E.s i) := by
     have main : ∀ q, (∀ v : TV, SizeOf.sizeOf v < q -> v.ref n = false -> TV.sealW n g X v = some v) := by
      intro q;induction q with
      | zero => intro v hv; omega
      | succ q ih =>
       have list : ∀ cs : List TV, SizeOf.sizeOf cs <= q -> TV.refL n cs = false -> TV.sealL n g X cs = some cs := by
        intro cs;induction cs with
        | nil => intros; rfl
        | cons c cs ihc =>
         intro h1 h2;simp only [TV.refL] at h2;split at h2
         ·cases h2
         ·rename_i hc;simp only [List.cons.sizeOf_spec] at h1;simp only [TV.sealL, ih c (by omega) hc, ihc (by omega) h2]
       intro v hv hr;cases v <;> simp only [TV.sealW, TV.ref] at hr ⊢ <;> first
        | rfl
        | (rw [list _ (by simp at hv; omega) hr])
        | (rw [hr])
     exact main _ _ (Nat.lt_succ_self _) h1
    rw [<- seal_v hH hl (γ := γ) _ _ this];exact VUp.refl _
   ·right;rw [<- seal_v hH hl (γ := γ) _ _ h2];exact VUp.refl _
   ·left; rw [h2]; rfl
  ·rw [show hget (TE.heap ⟨sealS n g X E.c E.s, h, E.m, E.c + 1⟩ γ) m = _ from hget_obs _ _ _ _, Option.map_eq_some_iff] at ho';obtain ⟨x, hx, rfl⟩ := ho';have hm : m ≠ n := by
    intro e;subst e;rw [(oget_seal hh m).1] at hx; cases hx
   left;rw [hget_hfix, if_neg hm, hget_hset, if_neg hm, hget_heap];rcases (oget_seal hh m).2 hm with ⟨h1, h2, _⟩ | ⟨y, h1, hr, h2, _⟩ | ⟨g', s', l', l2, h1, h3, h2, _⟩
   ·rw [h2] at hx; cases hx
   ·rw [h2] at hx; cases hx;refine ⟨_, by rw [h1]; rfl, ?_⟩;cases x with
    | lst g' t' l' => simp only [TOb.ob, Ob.fix, if_true]; exact ObUp.refl _
    | mp g' k' v' l' =>
     have e : ∀ (t : Ty) {A : Type} (f : A -> t.D) (l : List A), (l.map fun x => t.enc (f x)).map (V.fix n (γ n + g) X.x) = l.map fun x => t.enc (f x) := by
      intro t A f l;rw [List.map_map];exact List.map_congr_left fun c hc => fix_free (enc_free t _)
     simp only [TOb.ob, Ob.fix, e]; exact ObUp.refl _
    | nm g' k' u' l' b =>
     rw [nmOb_fix hH hl (fun v hv => by simp only [TOb.ref, hv] at hr; exact hr)];exact ObUp.refl _
    | nl g' u' l' b =>
     have e : nlOb (olen h) γ m (γ m + g') u' l' b = nlOb (olen E.h) γ m (γ m + g') u' l' b := nlOb_congr rfl fun v hv => ref_v (d := n) hH (fun _ _ => rfl) v (by simp only [TOb.ref, hv] at hr; exact hr)
     simp only [TOb.ob];rw [e];have e2 : (nlOb (olen E.h) γ m (γ m + g') u' l' b).fix n (γ n + g) X.x = nlOb (olen E.h) γ m (γ m + g') u' l' b := by
      cases b with
      | none => simp only [nlOb, Ob.fix, Bool.false_eq_true, if_false, ncells_fix]
      | some p =>
       obtain ⟨j, v⟩ := p;simp only [nlOb, Ob.fix, Bool.false_eq_true, if_false, List.map_set, ncells_fix];rw [fix_noref hH hl v (by simp only [TOb.ref, nlVal] at hr; exact hr)]
     rw [e2];exact ObUp.refl _
    | els g' p' s' l' =>
     simp only [TOb.ob, Ob.fix];have hv : TV.vL (olen h) γ l' = TV.vL (olen E.h) γ l' := congr_vL l' fun m' hm' => ⟨hH m' (fun e => by subst e; simp only [TOb.ref] at hr; rw [hr] at hm'; cases hm'), rfl⟩
     rw [hv];have hfx : (TV.vL (olen E.h) γ l').map (V.fix n (γ n + g) X.x) = TV.vL (olen E.h) γ l' := by
      have hsl : TV.sealL n g X l' = some l' := by
       have main : ∀ q, (∀ v : TV, SizeOf.sizeOf v < q -> v.ref n = false -> TV.sealW n g X v = some v) /\ (∀ cs : List TV, SizeOf.sizeOf cs < q -> TV.refL n cs = false -> TV.sealL n g X cs = some cs) := by
        intro q;induction q with
        | zero => exact ⟨fun v hv => by omega, fun v hv => by omega⟩
        | succ q ih =>
         have list : ∀ cs : List TV, SizeOf.sizeOf cs <= q -> TV.refL n cs = false -> TV.sealL n g X cs = some cs := by
          intro cs;induction cs with
          | nil => intros; rfl
          | cons c cs ihc =>
           intro h1 h2;simp only [TV.refL] at h2;split at h2
           ·cases h2
           ·rename_i hc;simp only [List.cons.sizeOf_spec] at h1;simp only [TV.sealL, ih.1 c (by omega) hc, ihc (by omega) h2]
         refine ⟨fun v hv hr => ?_, fun cs hc hr => list cs (by omega) hr⟩;cases v <;> simp only [TV.sealW, TV.ref] at hr ⊢ <;> first
          | rfl
          | (rw [list _ (by simp at hv; omega) hr])
          | (rw [hr])
       exact (main _).2 _ (Nat.lt_succ_self _) hr
      have := sealL_v hH hl (γ := γ) _ _ hsl;rw [<- fixL_map, <- this, hv]
     split
     ·exact ObUp.refl _
     ·rw [hfx]; exact ObUp.refl _
   ·rw [h2] at hx; cases hx;refine ⟨_, by rw [h1]; rfl, ?_⟩;simp only [TOb.ob, Ob.fix, Bool.false_eq_true, if_false];rw [<- fixL_map, <- sealL_v hH hl (γ := γ) _ _ h3];exact ObUp.refl _
  ·rw [hget_hfix] at hmo;split at hmo
   ·cases hmo
   ·rename_i hm;rw [hget_hset, if_neg hm, hget_heap] at hmo;rw [show hget (TE.heap ⟨sealS n g X E.c E.s, h, E.m, E.c + 1⟩ γ) m = _ from hget_obs _ _ _ _];rcases (oget_seal hh m).2 hm with ⟨h1, h2, _⟩ | ⟨x, h1, _, h2, _⟩ | ⟨g', s', l', l2, h1, h3, h2, _⟩
    ·rw [h1] at hmo; cases hmo
    ·rw [h2]; simp
    ·rw [h2]; simp
 ·rcases sget_seal n g X E.c E.s i with ⟨_, g2, g3⟩ | ⟨_, g2, _⟩
  ·exact ⟨by rw [<- g3]; exact h1, g2⟩
  ·have : some E.c = some c := by rw [<- g2]; exact h1
   injection this with this; omega
 ·by_cases hi : i = n
  ·subst hi;have hno := (oget_seal hh i).1;have : otime h i = none := by
    have : ∀ s : List (Nat × Nat × TOb), oget s i = none -> otime s i = none := by
     intro s;induction s with
     | nil => intro _; rfl
     | cons x s ih =>
      obtain ⟨j, c, v⟩ := x;simp only [oget, otime];cases Nat.beq i j with
      | true => simp
      | false => exact ih
    exact this h hno
   have h1' : otime h i = some c := h1;rw [this] at h1';cases h1'
  ·have h1' : otime h i = some c := h1
   show otime E.h i = some c /\ oget h i = oget E.h i
   rcases (oget_seal hh i).2 hi with ⟨_, _, g3⟩ | ⟨x, g1, _, g2, g3⟩ | ⟨_, _, _, _, _, _, _, g3⟩
   ·rw [g3] at h1'; cases h1'
   ·exact ⟨by rw [<- g3]; exact h1', by rw [g1, g2]⟩
   ·rw [g3] at h1'; cases h1'; omega
 ·obtain ⟨g1, g2, g3⟩ := hE m hm;have leaf : ∀ i (u : Ty) (y : u.D), sget E.s i = .leaf u y -> sget (sealS n g X E.c E.s) i = .leaf u y := by
   intro i u y hy;rcases sget_seal n g X E.c E.s i with ⟨_, h2, _⟩ | ⟨h1, _⟩
   ·rw [h2]; exact hy
   ·rw [hy] at h1; simp [TV.ref] at h1
  exact ⟨leaf _ _ _ g1, leaf _ _ _ g2, g3⟩
theorem sealX_ok {E E' : TE} {n g : Nat} {X : TX} {k : Nat} (hlt : n < 1000) (hl : X.good (olen E.h n))
  (ho : ∀ γ : Nat -> Nat, ∃ o0, hget (E.heap γ) n = some o0 /\ ObUp o0 (X.x.ob (γ n + g))) (h : E.sealX n g X = some E') : (∀ γ, Le (E.env k γ) (E'.env k γ)) /\ Ext E E' /\ (E.ok -> E'.ok) := by
 unfold TE.sealX at h
 split at h
 ·rename_i hh hs;cases h;have core := fun γ => seal_core (E := E) (k := k) (γ := γ) hlt hl (ho γ) hs
  exact ⟨fun γ => (core γ).1, (core z0).2.1, (core z0).2.2⟩
 ·cases h
theorem sealT_ok {E E' : TE} {n : Nat} {t : Ty} {k : Nat} (h : E.sealT n t = some E') : (∀ γ, Le (E.env k γ) (E'.env k γ)) /\ Ext E E' /\ (E.ok -> E'.ok) := by
 unfold TE.sealT at h;split at h
 ·rename_i g t' l hlt ho;exact sealX_ok (X := .a t'.size t' l) (by simpa [Nat.blt_eq] using hlt) ⟨by unfold olen; rw [ho]; rfl, rfl⟩ (fun γ => ⟨_, by rw [hget_heap, ho]; rfl, ObUp.refl _⟩) h
 ·rename_i g p sz l0 hlt ho;split at h
  ·rename_i l hsz hl0;refine sealX_ok (X := .a sz t l) (by simpa [Nat.blt_eq] using hlt) ⟨by unfold olen; rw [ho]; exact (toDs0_ok (H := z0) (γ := z0) hl0).1.symm, beqs hsz⟩ (fun γ => ⟨_, by rw [hget_heap, ho]; rfl, ?_⟩) h;have := ob_up_els (H := olen E.h) (γ := γ) (n := 0) (g := γ n + g) (p := p) (beqs hsz) hl0;rw [<- beqs hsz] at this;exact this
  ·cases h
 ·rename_i g k' v' l hlt ho;exact sealX_ok (X := .m k' v' l) (by simpa [Nat.blt_eq] using hlt) trivial (fun γ => ⟨_, by rw [hget_heap, ho]; rfl, ObUp.refl _⟩) h
 ·cases h
def TE.newT (E : TE) (slot id : Nat) (t : Ty) : Option TE := match E.fresh id, sget E.s slot with
 | true, .nil => some ((E.oput id (.lst 0 t [])).put (some slot) (.sof id 0 t.size))
 | _, _ => none
theorem newT_ok {E E' : TE} {slot id : Nat} {t : Ty} {k : Nat} (h : E.newT slot id t = some E') : (∀ γ, ∃ γ', Fx γ γ' /\ Le (E.env k γ) (E'.env k γ')) /\ Ext E E' /\ (E.ok -> E'.ok) := by
 unfold TE.newT at h;split at h
 ·rename_i hf hs;cases h;refine ⟨fun γ => ⟨γ0 γ id, fx_fresh hf, ?_⟩, (ext_oput _ _ _).trans (ext_put _ _ _), fun hE => ok_put (E := E.oput id (.lst 0 t [])) hE⟩;rw [env_put, env_fresh hf, se_upd];refine le_up (fun i _ => ?_) (fun m o' ho' => ?_) (fun m o hmo => ?_)
  ·right;simp only [aget];split
   ·rename_i e;subst e;rw [show aget (E.slots γ) i = _ from aget_slots _ _ _ _, hs];simp only [TV.v, γ0, if_true, TE.oput, olen_oset, TOb.len];intro w st v hr;rw [rep_nil hr];exact .so0
   ·exact VUp.refl _
  ·simp only [hsets] at ho';rw [hget_hset] at ho';split at ho'
   ·rename_i e;subst e;cases ho';exact .inr ⟨fresh_none hf, _, _, _, rfl⟩
   ·exact .inl ⟨o', ho', ObUp.refl _⟩
  ·simp only [hsets];rw [hget_hset];split
   ·simp
   ·rw [hmo]; simp
 ·cases h
theorem tv_nos (T : Nat -> Prop) (H γ : Nat -> Nat) : ∀ v : TV, (v.v H γ).nos T := by
 have main : ∀ q, ∀ v : TV, SizeOf.sizeOf v < q -> (v.v H γ).nos T := by
  intro q;induction q with
  | zero => intro v hv; omega
  | succ q ih =>
   have list : ∀ cs : List TV, SizeOf.sizeOf cs <= q -> V.nosL T (TV.vL H γ cs) := by
    intro cs;induction cs with
    | nil => intro _; trivial
    | cons c cs ihc =>
     intro h1;simp only [List.cons.sizeOf_spec] at h1;exact ⟨ih c (by omega), ihc (by omega)⟩
   intro v hv;cases v with
   | leaf t x => exact idfree_nos (enc_free t x)
   | agg cs => exact list cs (by simp at hv; omega)
   | tup cs => exact list cs (by simp at hv; omega)
   | fn f cs => exact list cs (by simp at hv; omega)
   | _ => trivial
 exact fun v => main _ v (Nat.lt_succ_self _)
theorem tv_nod {d : Nat} (H γ : Nat -> Nat) : ∀ v : TV, v.ref d = false -> (v.v H γ).nod d := by
 have main : ∀ q, ∀ v : TV, SizeOf.sizeOf v < q -> v.ref d = false -> (v.v H γ).nod d := by
  intro q;induction q with
  | zero => intro v hv; omega
  | succ q ih =>
   have list : ∀ cs : List TV, SizeOf.sizeOf cs <= q -> TV.refL d cs = false -> V.nodL d (TV.vL H γ cs) := by
    intro cs;induction cs with
    | nil => intro _ _; trivial
    | cons c cs ihc =>
     intro h1 h2;simp only [List.cons.sizeOf_spec] at h1;simp only [TV.refL] at h2;split at h2
     ·cases h2
     ·rename_i hc; exact ⟨ih c (by omega) hc, ihc (by omega) h2⟩
   intro v hv hr;cases v with
   | leaf t x => exact idfree_nod (enc_free t x)
   | agg cs => exact list cs (by simp at hv; omega) hr
   | tup cs => exact list cs (by simp at hv; omega) hr
   | fn f cs => exact list cs (by simp at hv; omega) hr
   | so n g sz off len => exact beq_false.1 (by simpa only [TV.ref] using hr)
   | sof n g sz => exact beq_false.1 (by simpa only [TV.ref] using hr)
   | ep n g sz i off => exact beq_false.1 (by simpa only [TV.ref] using hr)
   | mo n g => exact beq_false.1 (by simpa only [TV.ref] using hr)
   | _ => trivial
 exact fun v => main _ v (Nat.lt_succ_self _)
theorem ob_noref {H H' γ : Nat -> Nat} {d : Nat} (hH : ∀ m, m ≠ d -> H' m = H m) {n : Nat} (x : TOb) (h : x.ref d = false) : x.ob H' γ n = x.ob H γ n := by
 cases x with
 | lst g t l => rfl
 | els g p sz l => simp only [TOb.ob, refL_v hH (fun _ _ => rfl) l h]
 | mp g k v l => rfl
 | nm g k u l b => exact nmOb_congr rfl fun v hv => ref_v (d := d) hH (fun _ _ => rfl) v (by simp only [TOb.ref, hv] at h; exact h)
 | nl g u l b => exact nlOb_congr rfl fun v hv => ref_v (d := d) hH (fun _ _ => rfl) v (by simp only [TOb.ref, hv] at h; exact h)
def isIn : Ty -> Bool
 | .list _ => true
 | .map _ _ => true
 | _ => false
theorem hcell_nos (T : Nat -> Prop) (u : Ty) (s : Nat) (x : u.D) (hs : ¬ T s) : (u.hcell s x).nos T := by
 cases u <;> first | exact hs | exact idfree_nos (enc_free _ _)
theorem ncells_nos {T : Nat -> Prop} {n : Nat} (hT : ∀ j, ¬ T (qn n j)) (u : Ty) (l : List u.D) : ∀ y ∈ ncells n u l, y.nos T := by
 intro y hy;obtain ⟨j, x, _, rfl⟩ := ncells_mem hy;exact hcell_nos T u _ x (hT j)
theorem ncells_nod (d n : Nat) (u : Ty) (l : List u.D) : ∀ y ∈ ncells n u l, y.nod d := by
 intro y hy;obtain ⟨j, x, _, rfl⟩ := ncells_mem hy;cases u <;> first | trivial | exact idfree_nod (enc_free _ _)
theorem keys_p {p : V -> Prop} (hp : ∀ c : V, c.idfree = true -> p c) (k : Ty) {A : Type} (f : A -> k.D) (l : List A) : ∀ y ∈ l.map (fun x => k.enc (f x)), p y := by
 intro y hy;obtain ⟨z, _, rfl⟩ := List.mem_map.1 hy;exact hp _ (enc_free k _)
theorem tob_every {p : V -> Prop} (hfree : ∀ c : V, c.idfree = true -> p c) {H γ : Nat -> Nat} {n : Nat} (x : TOb) (hin : ∀ (u : Ty) (l : List u.D), ∀ y ∈ ncells n u l, p y)
  (hx : match x with | .els _ _ _ l => ∀ v ∈ l, p (v.v H γ) | .nm _ _ _ _ b => ∀ v, b.val = some v -> p (v.v H γ) | .nl _ _ _ b => ∀ v, nlVal b = some v -> p (v.v H γ) | _ => True) : (x.ob H γ n).every p := by
 have setp : ∀ (l : List V) (j : Nat) (v : V), (∀ y ∈ l, p y) -> p v -> ∀ y ∈ l.set j v, p y := fun l j v h1 h2 y hy => by
  rcases List.mem_or_eq_of_mem_set hy with h | rfl
  ·exact h1 y h
  ·exact h2
 have appp : ∀ (l : List V) (v : V), (∀ y ∈ l, p y) -> p v -> ∀ y ∈ l ++ [v], p y := fun l v h1 h2 y hy => by
  rcases List.mem_append.1 hy with h | h
  ·exact h1 y h
  ·simp at h; subst h; exact h2
 cases x with
 | lst g t l => exact keys_p hfree t _ l
 | els g q sz l =>
  show ∀ y ∈ TV.vL H γ l, p y
  rw [vL_map];intro y hy;obtain ⟨v, hv, rfl⟩ := List.mem_map.1 hy;exact hx v hv
 | mp g k v l => exact ⟨keys_p hfree k _ l, keys_p hfree v _ l⟩
 | nm g k u l b =>
  cases b with
  | no => exact ⟨keys_p hfree k _ l, hin u _⟩
  | bor x v =>
   simp only [TOb.ob, nmOb];split
   ·exact ⟨keys_p hfree k _ l, setp _ _ _ (hin u _) (hx v rfl)⟩
   ·exact ⟨keys_p hfree k _ l, hin u _⟩
  | fil x v =>
   simp only [TOb.ob, nmOb];split
   ·exact ⟨setp _ _ _ (keys_p hfree k _ l) (hfree _ (enc_free k x)), setp _ _ _ (hin u _) (hx v rfl)⟩
   ·exact ⟨appp _ _ (keys_p hfree k _ l) (hfree _ (enc_free k x)), appp _ _ (hin u _) (hx v rfl)⟩
 | nl g u l b =>
  cases b with
  | none => exact hin u l
  | some q => obtain ⟨j, v⟩ := q; exact setp _ _ _ (hin u l) (hx v rfl)
theorem ob_nos {T : Nat -> Prop} {H γ : Nat -> Nat} {n : Nat} (hT : ∀ j, ¬ T (qn n j)) (x : TOb) : (x.ob H γ n).every (V.nos T) := by
 refine tob_every (fun c => idfree_nos) x (fun u l => ncells_nos hT u l) ?_;cases x <;> first | trivial | (intro v _; exact tv_nos T H γ v)
theorem refL_mem {d : Nat} : ∀ {l : List TV}, TV.refL d l = false -> ∀ v ∈ l, v.ref d = false
 | [], _, v, hv => by cases hv
 | c :: cs, h, v, hv => by
  simp only [TV.refL] at h;split at h
  ·cases h
  ·rename_i hc;rcases List.mem_cons.1 hv with rfl | hv
   ·exact hc
   ·exact refL_mem h v hv
theorem ob_nod {d : Nat} {H γ : Nat -> Nat} {n : Nat} (x : TOb) (h : x.ref d = false) : (x.ob H γ n).every (V.nod d) := by
 refine tob_every (fun c => idfree_nod) x (fun u l => ncells_nod d n u l) ?_;cases x with
 | els g p sz l => exact fun v hv => tv_nod H γ v (refL_mem h v hv)
 | nm g k u l b => intro v hv; simp only [TOb.ref, hv] at h; exact tv_nod H γ v h
 | nl g u l b => intro v hv; simp only [TOb.ref, hv] at h; exact tv_nod H γ v h
 | _ => trivial
theorem set_self_nth {l : List V} {j : Nat} {p : V -> Prop} (h : ∀ i x, i ≠ j -> l[i]? = some x -> p x) (v : V) : ∀ i x, i ≠ j -> (l.set j v)[i]? = some x -> p x := by
 intro i x hi hx;rw [List.getElem?_set, if_neg (fun e => hi e.symm)] at hx;exact h i x hi hx
def TE.bmap (E : TE) (m d : Nat) (kv : Ty -> TV) : Option TE := match oget E.h m, E.fresh d with
 | some (.nm g k (.list t) l .no), true => match toD lf0 k (kv k) with
  | some (x, _) => some ((E.oput d (.lst 0 t ((mget k.beq x l).getD []))).oput m (.nm g k (.list t) l (.bor x (.sof d 0 t.size))))
  | none => none
 | _, _ => none
theorem heap_oput {E : TE} {γ : Nat -> Nat} {m : Nat} {x : TOb} (hl : ∀ n, olen (E.oput m x).h n = olen E.h n) (n : Nat) : hget ((E.oput m x).heap γ) n = if n = m then some (x.ob (olen E.h) γ m) else hget (E.heap γ) n := by
 rw [hget_heap, hget_heap];unfold TE.oput;simp only [oget_oset];have : olen (oset E.h m E.c x) = olen E.h := by funext k; exact hl k
 rw [this];by_cases e : n = m
 ·subst e; simp
 ·simp [e]
theorem bmap_ok {E E' : TE} {m d : Nat} {kv : Ty -> TV} {k : Nat} (h : E.bmap m d kv = some E') : (∀ γ, ∃ γ', Fx γ γ' /\ Le (E.env k γ) (E'.env k γ')) /\ Ext E E' /\ (E.ok -> E'.ok) := by
 unfold TE.bmap at h;split at h
 ·rename_i g kt t l hob hf;split at h
  ·rename_i x p hx;cases h;refine ⟨fun γ => ⟨γ0 γ d, fx_fresh hf, ?_⟩, (ext_oput _ _ _).trans (ext_oput _ _ _), fun hE => hE⟩;have hnone : oget E.h d = none := by
    unfold TE.fresh at hf;split at hf
    ·cases hf
    ·rename_i h; exact h
   have hmd : m ≠ d := by rintro rfl; rw [hnone] at hob; cases hob
   generalize hy : (mget kt.beq x l).getD [] = y;have e1 := env_fresh (n := k) (γ := γ) (x := .lst 0 t y) hf;have hH1 : ∀ n, n ≠ d -> olen (E.oput d (.lst 0 t y)).h n = olen E.h n := fun n hn => by unfold TE.oput; rw [olen_oset, if_neg hn]
   have hob1 : oget (E.oput d (.lst 0 t y)).h m = some (.nm g kt (.list t) l .no) := by unfold TE.oput; rw [oget_oset, if_neg hmd]; exact hob
   have hH2 : ∀ n, olen ((E.oput d (.lst 0 t y)).oput m (.nm g kt (.list t) l (.bor x (.sof d 0 t.size)))).h n = olen (E.oput d (.lst 0 t y)).h n := fun n => by
    rw [show ((E.oput d (.lst 0 t y)).oput m (.nm g kt (.list t) l (.bor x (.sof d 0 t.size)))).h = oset (E.oput d (.lst 0 t y)).h m _ _ from rfl, olen_oset];split
    ·rename_i e; subst e; simp only [TOb.len, olen, hob1]
    ·rfl
   have hγm : γ0 γ d m = γ m := by unfold γ0; rw [if_neg hmd]
   have hdl : olen (E.oput d (.lst 0 t y)).h d = y.length := by unfold TE.oput; rw [olen_oset, if_pos rfl]; rfl
   have hslots : ((E.oput d (.lst 0 t y)).oput m (.nm g kt (.list t) l (.bor x (.sof d 0 t.size)))).slots (γ0 γ d) = E.slots γ := by
    have a1 : (E.oput d (.lst 0 t y)).slots (γ0 γ d) = E.slots γ := by
     unfold TE.slots;apply List.map_congr_left;intro z hz;simp only [Prod.mk.injEq, true_and];have hs : srefs d E.s = false := by
      unfold TE.fresh at hf;split at hf
      ·cases hf
      ·split at hf
       ·cases hf
       ·assumption
     exact ref_v hH1 (fun m hm => by unfold γ0; rw [if_neg hm]) _ (srefs_mem hs z hz)
    rw [<- a1];unfold TE.slots;apply List.map_congr_left;intro z _;simp only [Prod.mk.injEq, true_and];rw [show olen ((E.oput d (.lst 0 t y)).oput m (.nm g kt (.list t) l (.bor x (.sof d 0 t.size)))).h = olen (E.oput d (.lst 0 t y)).h from funext hH2]
   have hheap1 : ∀ n, hget ((E.oput d (.lst 0 t y)).heap (γ0 γ d)) n = if n = d then some (.arr 0 true t.size (y.map t.enc)) else hget (E.heap γ) n := fun n => by
    have : (E.oput d (.lst 0 t y)).heap (γ0 γ d) = hset (E.heap γ) d ((TOb.lst 0 t y).ob (olen (E.oput d (.lst 0 t y)).h) (γ0 γ d) d) := by
     have := congrArg Env.h e1;simpa only [env_h, se_h] using this
    rw [this, hget_hset];simp only [TOb.ob, γ0, if_true, Nat.add_zero]
   have hmh : hget (E.heap γ) m = some (.map (γ m + g) (l.map fun p => kt.enc p.1) (ncells m (.list t) (l.map fun p => p.2))) := by
    rw [hget_heap, hob]; rfl
   have hheap : ∀ n, hget (((E.oput d (.lst 0 t y)).oput m (.nm g kt (.list t) l (.bor x (.sof d 0 t.size)))).heap (γ0 γ d)) n =
     if n = m then some (nmOb (olen (E.oput d (.lst 0 t y)).h) (γ0 γ d) m (γ m + g) kt (.list t) l (.bor x (.sof d 0 t.size))) else if n = d then some (.arr 0 true t.size (y.map t.enc)) else hget (E.heap γ) n := fun n => by
    rw [heap_oput hH2, hheap1]
    simp only [TOb.ob, hγm]
   have hcellv : (TV.sof d 0 t.size).v (olen (E.oput d (.lst 0 t y)).h) (γ0 γ d) = .so d 0 t.size 0 (y.map t.enc).length := by
    simp only [TV.v, hdl, γ0, if_true, List.length_map]
   unfold TE.env;rw [hslots];have hdn : hget (E.heap γ) d = none := by rw [hget_heap, hnone]; rfl
   cases hj : mix kt.beq x l with
   | some j =>
    have hjl := mix_lt hj;have hyj : (l.map fun p => p.2)[j]? = some y := by
     rw [List.getElem?_map, List.getElem?_eq_getElem hjl, <- hy, mget_mix, hj, Option.bind_some, List.getElem?_eq_getElem hjl];rfl
    refine le_unhide (d := d) (m := m) (s := qn m j) (sz := t.size) (j := j) (l := y.map t.enc) hdn hmh ?_ (fun i _ => ?_) ⟨keys_p (fun c => idfree_nos) kt _ l, fun i z hi hz => ?_⟩ (fun n z hn hz => ?_) (fun n => ?_)
    ·show (ncells m (.list t) (l.map fun p => p.2))[j]? = _
     rw [ncells_get, hyj]; rfl
    ·rw [show aget (E.slots γ) i = _ from aget_slots _ _ _ _]; exact tv_nos _ _ _ _
    ·rw [ncells_get, Option.map_eq_some_iff] at hz;obtain ⟨z0, _, rfl⟩ := hz;exact hcell_nos _ _ _ _ fun e => hi (qn_inj e).2
    ·rw [hget_heap, Option.map_eq_some_iff] at hz;obtain ⟨z0, _, rfl⟩ := hz;exact ob_nos (T := (· = qn m j)) (fun i e => hn (qn_inj e).1) z0
    ·rw [hheap];by_cases e : n = m
     ·subst e;rw [if_pos rfl, if_neg hmd, if_pos rfl, nm_bor_ks, hj, hcellv];rfl
     ·simp only [if_neg e]
   | none =>
    have hy0 : y = [] := by rw [<- hy, mget_mix, hj]; rfl
    subst hy0;refine le_up (fun i _ => .inr (VUp.refl _)) (fun n o' ho' => ?_) (fun n o hno => ?_)
    ·rw [hheap] at ho';split at ho'
     ·rename_i e; subst e;cases ho';refine .inl ⟨_, hmh, ?_⟩;rw [nm_bor_ks, hj];exact ObUp.refl _
     ·split at ho'
      ·rename_i e; subst e;cases ho';exact .inr ⟨hdn, _, _, _, rfl⟩
      ·exact .inl ⟨o', ho', ObUp.refl _⟩
    ·rw [hheap];split
     ·simp
     ·split
      ·simp
      ·rw [hno]; simp
  ·cases h
 ·cases h
theorem ncells_set (n : Nat) (u : Ty) (l : List u.D) (j : Nat) (y : u.D) (hj : j < l.length) : (ncells n u l).set j (u.hcell (qn n j) y) = ncells n u (l.set j y) := by
 apply List.ext_getElem?;intro i;rw [ncells_get, List.getElem?_set, List.getElem?_set, ncells_get];by_cases e : j = i
 ·subst e; simp [ncells_len, hj]
 ·simp [e]
theorem ncells_app (n : Nat) (u : Ty) (l : List u.D) (y : u.D) : ncells n u l ++ [u.hcell (qn n l.length) y] = ncells n u (l ++ [y]) := by
 apply List.ext_getElem?;intro i;rw [ncells_get, List.getElem?_append, List.getElem?_append, ncells_get, ncells_len];by_cases h : i < l.length
 ·simp [h]
 ·simp only [if_neg h];by_cases e : i = l.length
  ·subst e; simp
  ·have h1 : ∃ z, i - l.length = z + 1 := ⟨i - l.length - 1, by omega⟩;obtain ⟨z, hz⟩ := h1;rw [hz]; simp
theorem obL_ok {t : Ty} {x : TOb} {g : Nat} {l : List t.D} (h : obL t x = some (g, l)) : x.len = l.length /\ x.gen = g /\ ∀ (H γ : Nat -> Nat) (n : Nat), ObUp (x.ob H γ n) (.arr (γ n + g) true t.size (l.map t.enc)) := by
 unfold obL at h;split at h
 ·rename_i g' t' l';split at h
  ·rename_i l2 hl;cases h;obtain ⟨e, rfl⟩ := castD_some hl;injection e with e; subst e
   exact ⟨rfl, rfl, fun H γ n => ObUp.refl _⟩
  ·cases h
 ·rename_i g' sz l';split at h
  ·rename_i l2 hs hl;cases h;exact ⟨(toDs0_ok (H := z0) (γ := z0) hl).1.symm, rfl, fun H γ n => ob_up_els (n := n) (beqs hs) hl⟩
  ·cases h
 ·cases h
def killS (d c : Nat) : List (Nat × Nat × TV) -> List (Nat × Nat × TV)
 | [] => []
 | (i, c0, v) :: r => match v.ref d with
  | true => (i, c, .dead) :: killS d c r
  | false => (i, c0, v) :: killS d c r
theorem sget_kill (d c : Nat) : ∀ (s : List (Nat × Nat × TV)) (i : Nat), ((sget s i).ref d = false /\ sget (killS d c s) i = sget s i /\ stime (killS d c s) i = stime s i) \/ ((sget s i).ref d = true /\ sget (killS d c s) i = .dead /\ stime (killS d c s) i = some c)
 | [], i => .inl ⟨rfl, rfl, rfl⟩
 | (j, c0, v) :: r, i => by
  simp only [killS];cases hb : Nat.beq i j with
  | true =>
   split
   ·rename_i hr; simp only [sget, stime, hb]; exact .inr ⟨hr, trivial, trivial⟩
   ·rename_i hr; simp only [sget, stime, hb]; exact .inl ⟨hr, trivial, trivial⟩
  | false =>
   have := sget_kill d c r i;split <;> (simp only [sget, stime, hb]; exact this)
def odel (d : Nat) : List (Nat × Nat × TOb) -> List (Nat × Nat × TOb)
 | [] => []
 | (i, c, v) :: r => match Nat.beq i d with
  | true => odel d r
  | false => (i, c, v) :: odel d r
theorem oget_odel (d : Nat) : ∀ (s : List (Nat × Nat × TOb)) (i : Nat), oget (odel d s) i = if i = d then none else oget s i
 | [], i => by simp [odel, oget]
 | (j, c, v) :: r, i => by
  simp only [odel];cases hj : Nat.beq j d with
  | true =>
   have := beqs hj; subst this;simp only [oget_odel j r i, oget];by_cases e : i = j
   ·simp [e]
   ·rw [if_neg e, if_neg e, beq_false.2 e]
  | false =>
   simp only [oget, oget_odel d r i];cases hb : Nat.beq i j with
   | true => have := beqs hb; subst this; simp only [if_neg (beq_false.1 hj)]
   | false => rfl
theorem otime_odel (d : Nat) : ∀ (s : List (Nat × Nat × TOb)) (i : Nat), otime (odel d s) i = if i = d then none else otime s i
 | [], i => by simp [odel, otime]
 | (j, c, v) :: r, i => by
  simp only [odel];cases hj : Nat.beq j d with
  | true =>
   have := beqs hj; subst this;simp only [otime_odel j r i, otime];by_cases e : i = j
   ·simp [e]
   ·rw [if_neg e, if_neg e, beq_false.2 e]
  | false =>
   simp only [otime, otime_odel d r i];cases hb : Nat.beq i j with
   | true => have := beqs hb; subst this; simp only [if_neg (beq_false.1 hj)]
   | false => rfl
def norefO (d m : Nat) : List (Nat × Nat × TOb) -> Bool
 | [] => true
 | (i, _, v) :: r => match Nat.beq i m, v.ref d with
  | true, _ => norefO d m r
  | false, false => norefO d m r
  | false, true => false
theorem norefO_ok {d m : Nat} : ∀ {s : List (Nat × Nat × TOb)}, norefO d m s = true -> ∀ i x, i ≠ m -> oget s i = some x -> x.ref d = false
 | [], _, i, x, _, hx => by simp [oget] at hx
 | (j, c, v) :: r, h, i, x, hi, hx => by
  simp only [oget] at hx;simp only [norefO] at h;split at hx
  ·rename_i hb;have := beqs hb; subst this;cases hx;split at h
   ·rename_i hm; exact absurd (beqs hm) hi
   ·assumption
   ·cases h
  ·split at h
   ·exact norefO_ok h i x hi hx
   ·exact norefO_ok h i x hi hx
   ·cases h
def TE.sunk (E : TE) (m d : Nat) (x : TOb) : TE := ⟨killS d E.c E.s, oset (odel d E.h) m E.c x, E.m, E.c + 1⟩
theorem sunk_ext {E : TE} {m d : Nat} {x : TOb} (hmd : m ≠ d) : Ext E (E.sunk m d x) /\ (E.ok -> (E.sunk m d x).ok) := by
 refine ⟨⟨Nat.le_succ _, fun i c h1 h2 => ?_, fun i c h1 h2 => ?_⟩, fun hE q hq => ?_⟩
 ·rcases sget_kill d E.c E.s i with ⟨_, g2, g3⟩ | ⟨_, _, g3⟩
  ·exact ⟨by rw [<- g3]; exact h1, g2⟩
  ·have : some E.c = some c := by rw [<- g3]; exact h1
   injection this with this; omega
 ·have key : Ext (⟨E.s, odel d E.h, E.m, E.c⟩ : TE) ((⟨E.s, odel d E.h, E.m, E.c⟩ : TE).oput m x) := ext_oput _ _ _;obtain ⟨k1, k2⟩ := key.o i c h1 h2;have k1' : otime (odel d E.h) i = some c := k1;have k2' : oget (oset (odel d E.h) m E.c x) i = oget (odel d E.h) i := k2;rw [otime_odel] at k1';by_cases e : i = d
  ·rw [if_pos e] at k1'; cases k1'
  ·rw [if_neg e] at k1';refine ⟨k1', ?_⟩
   show oget (oset (odel d E.h) m E.c x) i = _
   rw [k2', oget_odel, if_neg e]
 ·obtain ⟨g1, g2, g3⟩ := hE q hq;have leaf : ∀ i (u : Ty) (y : u.D), sget E.s i = .leaf u y -> sget (killS d E.c E.s) i = .leaf u y := by
   intro i u y hy;rcases sget_kill d E.c E.s i with ⟨_, h2, _⟩ | ⟨h1, _⟩
   ·rw [h2]; exact hy
   ·rw [hy] at h1; simp [TV.ref] at h1
  exact ⟨leaf _ _ _ g1, leaf _ _ _ g2, g3⟩
theorem sunk_le {E : TE} {m d k j gd : Nat} {t : Ty} {ys : List t.D} {y mo x : TOb} {γ : Nat -> Nat} (hmd : m ≠ d) (hlt : d < 1000) (hd : oget E.h d = some y) (hy : obL t y = some (gd, ys)) (hm : oget E.h m = some mo) (hr : norefO d m E.h = true) (hxr : x.ref d = false) (hlen : x.len = mo.len)
  (hj : (mo.ob (olen E.h) γ m).at j = some ((TV.sof d gd t.size).v (olen E.h) γ)) (hrest : (mo.ob (olen E.h) γ m).rest j (V.nod d))
  (hst : (mo.ob (olen E.h) γ m).setc j (.hl (qn m j) t.size (ys.map t.enc)) = x.ob (olen E.h) γ m) : Le (E.env k γ) ((E.sunk m d x).env k γ) := by
 obtain ⟨q1, q2, q3⟩ := obL_ok hy
 have hdlen : olen E.h d = ys.length := by unfold olen; rw [hd]; exact q1
 have hH : ∀ n, n ≠ d -> olen (E.sunk m d x).h n = olen E.h n := fun n hn => by
  show olen (oset (odel d E.h) m E.c x) n = _
  rw [olen_oset];by_cases e : n = m
  ·subst e; rw [if_pos rfl, hlen]; unfold olen; rw [hm]
  ·rw [if_neg e]; unfold olen; rw [oget_odel, if_neg hn]
 let S' : List (Nat × V) := (killS d E.c E.s).map fun z => (z.1, z.2.2.v (olen E.h) γ)
 have hS' : (E.sunk m d x).slots γ = S' := by
  unfold TE.slots;apply List.map_congr_left;intro z hz;simp only [Prod.mk.injEq, true_and];have hzr : z.2.2.ref d = false := by
   have key : ∀ s : List (Nat × Nat × TV), ∀ z ∈ killS d E.c s, z.2.2.ref d = false := by
    intro s;induction s with
    | nil => intro z hz; cases hz
    | cons a s ih =>
     obtain ⟨i, c0, v⟩ := a;intro z hz;simp only [killS] at hz;split at hz
     ·rcases List.mem_cons.1 hz with rfl | hz
      ·rfl
      ·exact ih z hz
     ·rename_i hv;rcases List.mem_cons.1 hz with rfl | hz
      ·exact hv
      ·exact ih z hz
   exact key _ z hz
  exact ref_v (d := d) hH (fun _ _ => rfl) _ hzr
 have ag : ∀ i, aget S' i = (sget (killS d E.c E.s) i).v (olen E.h) γ := fun i => aget_slots _ _ _ _
 have ag0 : ∀ i, aget (E.slots γ) i = (sget E.s i).v (olen E.h) γ := fun i => aget_slots _ _ _ _
 have hdo : hget (E.heap γ) d = some (y.ob (olen E.h) γ d) := by rw [hget_heap, hd]; rfl
 have hmo : hget (E.heap γ) m = some (mo.ob (olen E.h) γ m) := by rw [hget_heap, hm]; rfl
 unfold TE.env
 rw [hS']
 have e1 : Le (SE k (E.slots γ) (E.heap γ)) (SE k S' (hset (E.heap γ) d (.arr (γ d + gd) true t.size (ys.map t.enc)))) := by
  refine le_up (fun i _ => ?_) (fun n o' ho' => ?_) (fun n o ho => ?_)
  ·rw [ag, ag0];rcases sget_kill d E.c E.s i with ⟨_, h2, _⟩ | ⟨_, h2, _⟩
   ·rw [h2]; exact .inr (VUp.refl _)
   ·rw [h2]; exact .inl rfl
  ·rw [hget_hset] at ho';split at ho'
   ·rename_i e; subst e; cases ho'; exact .inl ⟨_, hdo, q3 _ _ _⟩
   ·exact .inl ⟨o', ho', ObUp.refl _⟩
  ·rw [hget_hset];split
   ·simp
   ·rw [ho]; simp
 refine e1.trans (le_hide (d := d) (m := m) (s := qn m j) (sz := t.size) (j := j) (gd := γ d + gd) (l := ys.map t.enc) (x := mo.ob (olen E.h) γ m) (by rw [hget_hset, if_pos rfl]) hmd (by rw [hget_hset, if_neg hmd]; exact hmo)
  (by rw [hj]; simp only [TV.v, hdlen, List.length_map]) hlt (fun i _ => ?_) hrest (fun n z hn hnd hz => ?_) (fun n => ?_))
 ·rw [ag];rcases sget_kill d E.c E.s i with ⟨h1, h2, _⟩ | ⟨_, h2, _⟩
  ·rw [h2]; exact tv_nod _ _ _ h1
  ·rw [h2]; trivial
 ·rw [hget_hset, if_neg hnd, hget_heap, Option.map_eq_some_iff] at hz;obtain ⟨z0, hz0, rfl⟩ := hz;exact ob_nod z0 (norefO_ok hr n z0 hn hz0)
 ·rw [hget_heap]
  show Option.map (fun z => TOb.ob (olen (E.sunk m d x).h) γ n z) (oget (oset (odel d E.h) m E.c x) n) = _
  rw [oget_oset, oget_odel, hget_hset, hget_heap];by_cases e : n = d
  ·subst e; rw [if_neg (fun e => hmd e.symm), if_pos rfl, if_pos rfl]; rfl
  ·rw [if_neg e, if_neg e];by_cases e2 : n = m
   ·subst e2;rw [if_pos rfl, if_pos rfl, hst];simp only [Option.map_some, Option.some.injEq];exact ob_noref hH x hxr
   ·rw [if_neg e2, if_neg e2];cases hz : oget E.h n with
    | none => rw [if_neg e]; rfl
    | some z =>
     rw [if_neg e];simp only [Option.map_some, Option.some.injEq];exact ob_noref hH z (norefO_ok hr n z e2 hz)
def TE.rmap (E : TE) (m d : Nat) : Option TE := match oget E.h m, oget E.h d with
 | some (.nm g k (.list t) l (.fil x (.sof d' gd s))), some y => match obL t y, Nat.beq d' d, Nat.blt d 1000, Nat.beq m d with
  | some (g2, ys), true, true, false => match Nat.beq gd g2, Nat.beq s t.size, norefO d m E.h with
   | true, true, true => some (E.sunk m d (.nm g k (.list t) (mset k.beq x ys l) .no))
   | _, _, _ => none
  | _, _, _, _ => none
 | _, _ => none
theorem rmap_ok {E E' : TE} {m d k : Nat} (h : E.rmap m d = some E') : (∀ γ, Le (E.env k γ) (E'.env k γ)) /\ Ext E E' /\ (E.ok -> E'.ok) := by
 unfold TE.rmap at h;split at h
 ·rename_i g kt t l x d' gd s y hm hd;split at h
  ·rename_i g2 ys hy hdd hlt hmd;split at h
   ·rename_i hg hs hr;cases h;have e1 := beqs hdd; subst e1;have e2 := beqs hg; subst e2;have e3 := beqs hs; subst e3;have hmd' := beq_false.1 hmd;refine ⟨fun γ => ?_, (sunk_ext hmd').1, (sunk_ext hmd').2⟩;cases hj : mix kt.beq x l with
    | some j =>
     have hjl := mix_lt hj;have hjn : j < (ncells m (.list t) (l.map fun p => p.2)).length := by rw [ncells_len, List.length_map]; exact hjl
     refine sunk_le (j := j) hmd' (by simpa [Nat.blt_eq] using hlt) hd hy hm hr rfl rfl ?_ ?_ ?_
     ·simp only [TOb.ob, nmOb, hj, Ob.at];rw [List.getElem?_set, if_pos rfl, if_pos hjn]
     ·simp only [TOb.ob, nmOb, hj, Ob.rest];refine ⟨fun y hy => ?_, set_self_nth (fun i z hi hz => ncells_nod _ _ _ _ z (List.mem_of_getElem? hz)) _⟩;rcases List.mem_or_eq_of_mem_set hy with h | rfl
      ·exact keys_p (fun c => idfree_nod) kt _ l y h
      ·exact idfree_nod (enc_free _ _)
     ·simp only [TOb.ob, nmOb, hj, Ob.setc, List.set_set];rw [mset_mix, hj];simp only [List.map_set];rw [show V.hl (qn m j) t.size (ys.map t.enc) = (Ty.list t).hcell (qn m j) ys from rfl, ncells_set _ _ _ _ _ (by simpa using hjl)]
    | none =>
     have hjn : (ncells m (.list t) (l.map fun p => p.2)).length = l.length := by rw [ncells_len, List.length_map]
     refine sunk_le (j := l.length) hmd' (by simpa [Nat.blt_eq] using hlt) hd hy hm hr rfl rfl ?_ ?_ ?_
     ·simp only [TOb.ob, nmOb, hj, Ob.at];rw [List.getElem?_append, hjn, if_neg (Nat.lt_irrefl _), Nat.sub_self]; rfl
     ·simp only [TOb.ob, nmOb, hj, Ob.rest];refine ⟨fun y hy => ?_, fun i z hi hz => ?_⟩
      ·rcases List.mem_append.1 hy with h | h
       ·exact keys_p (fun c => idfree_nod) kt _ l y h
       ·simp at h; subst h; exact idfree_nod (enc_free _ _)
      ·rw [List.getElem?_append, hjn] at hz;by_cases hi' : i < l.length
       ·rw [if_pos hi'] at hz; exact ncells_nod _ _ _ _ z (List.mem_of_getElem? hz)
       ·rw [if_neg hi'] at hz;have : ∃ q, i - l.length = q + 1 := ⟨i - l.length - 1, by omega⟩;obtain ⟨q, hq⟩ := this;rw [hq] at hz; simp at hz
     ·simp only [TOb.ob, nmOb, hj, Ob.setc];rw [mset_mix, hj];simp only [List.map_append, List.map_cons, List.map_nil];rw [List.set_append, if_neg (by rw [hjn]; exact Nat.lt_irrefl _), hjn, Nat.sub_self];rw [show V.hl (qn m l.length) t.size (ys.map t.enc) = (Ty.list t).hcell (qn m (l.map fun p => p.2).length) ys from by rw [List.length_map]; rfl];rw [<- ncells_app];rfl
   ·cases h
  ·cases h
 ·cases h
theorem unh_cells (n : Nat) (u : Ty) (l : List u.D) (hu : isIn u = true) : (ncells n u l).map V.unh = l.map u.enc := by
 apply List.ext_getElem?;intro i;rw [List.getElem?_map, List.getElem?_map, ncells_get];cases l[i]? with
 | none => rfl
 | some x => cases u <;> first | rfl | cases hu
def TE.shut (E : TE) (m : Nat) : Option TE := match oget E.h m with
 | some (.nm g k u l .no) => match isIn u with
  | true => some (E.oput m (.mp g k u l))
  | false => none
 | some (.nl g u l none) => match isIn u with
  | true => some (E.oput m (.lst g u l))
  | false => none
 | _ => none
theorem in_size {u : Ty} (hu : isIn u = true) : u.size = 1 := by cases u <;> first | rfl | cases hu
theorem shut_ok {E E' : TE} {m k : Nat} (h : E.shut m = some E') : (∀ γ, Le (E.env k γ) (E'.env k γ)) /\ Ext E E' /\ (E.ok -> E'.ok) := by
 unfold TE.shut at h;have main : ∀ x x' : TOb, oget E.h m = some x -> x'.len = x.len -> (∀ γ, ShutOb (fun s => ∃ j, s = qn m j) (x.ob (olen E.h) γ m) (x'.ob (olen E.h) γ m)) -> (∀ γ, Le (E.env k γ) ((E.oput m x').env k γ)) /\ Ext E (E.oput m x') /\ (E.ok -> (E.oput m x').ok) := by
  intro x x' hm hlen hx;refine ⟨fun γ => ?_, ext_oput _ _ _, fun h => h⟩;rw [env_oput _ _ _ _ _ (by rw [hlen]; unfold olen; rw [hm])];refine le_shut (m := m) (T := fun s => ∃ j, s = qn m j) (by rw [hget_heap, hm]; rfl) (fun i _ => ?_) (fun n y hn hy => ?_) (hx γ) (fun n => by rw [hget_hset])
  ·rw [show aget (E.slots γ) i = _ from aget_slots _ _ _ _]; exact tv_nos _ _ _ _
  ·rw [hget_heap, Option.map_eq_some_iff] at hy;obtain ⟨z0, _, rfl⟩ := hy;exact ob_nos (fun i ⟨j, e⟩ => hn (qn_inj e).1) z0
 have inn : ∀ (u : Ty) (l : List u.D), isIn u = true -> ∀ y ∈ ncells m u l, (∃ s k z, (∃ j, s = qn m j) /\ y = V.hl s k z) \/ ∃ s ks vs, (∃ j, s = qn m j) /\ y = V.hm s ks vs := by
  intro u l hu y hy;obtain ⟨j, x, _, rfl⟩ := ncells_mem hy;cases u with
  | list t => exact .inl ⟨_, _, _, ⟨j, rfl⟩, rfl⟩
  | map k v => exact .inr ⟨_, _, _, ⟨j, rfl⟩, rfl⟩
  | _ => cases hu
 split at h
 ·rename_i g kt u l hm;split at h
  ·rename_i hu;cases h;refine main _ _ hm rfl fun γ => ?_
   simp only [TOb.ob, nmOb];refine ⟨rfl, rfl, ?_, keys_p (fun c => idfree_nos) kt _ l, inn u _ hu⟩;rw [unh_cells _ _ _ hu, List.map_map]; rfl
  ·cases h
 ·rename_i g u l hm;split at h
  ·rename_i hu;cases h;refine main _ _ hm rfl fun γ => ?_
   simp only [TOb.ob, nlOb];refine ⟨rfl, in_size hu, (unh_cells _ _ _ hu).symm, fun _ y hy => ?_, inn u _ hu⟩;obtain ⟨z, _, rfl⟩ := List.mem_map.1 hy;exact enc_free u z
  ·cases h
 ·cases h
inductive KP where
 | slot (s : Nat)
 | mem (n off : Nat)
def KP.get (E : TE) (k : Ty) : KP -> TV
 | .slot s => sget E.s s
 | .mem n off => match oget E.h n with
  | some (.els _ _ _ [v]) => match k.isA with
   | true => .agg ((v.cells.drop off).take k.size)
   | false => (v.cells.drop off).headD .dead
  | _ => .dead
inductive Gh where
 | sl (n : Nat) (t : Ty)
 | nw (slot id : Nat) (t : Ty)
 | bm (m d : Nat) (p : KP)
 | rm (m d : Nat)
 | sh (m : Nat)
def ghost (E : TE) : List Gh -> Option TE
 | [] => some E
 | .sl n t :: r => match E.sealT n t with
  | some E' => ghost E' r
  | none => none
 | .nw s i t :: r => match E.newT s i t with
  | some E' => ghost E' r
  | none => none
 | .bm m d p :: r => match E.bmap m d (fun k => p.get E k) with
  | some E' => ghost E' r
  | none => none
 | .rm m d :: r => match E.rmap m d with
  | some E' => ghost E' r
  | none => none
 | .sh m :: r => match E.shut m with
  | some E' => ghost E' r
  | none => none
theorem ghost_ok {k : Nat} : ∀ {gs : List Gh} {E E' : TE}, ghost E gs = some E' -> (∀ γ, ∃ γ', Fx γ γ' /\ Le (E.env k γ) (E'.env k γ')) /\ Ext E E' /\ (E.ok -> E'.ok)
 | [], E, E', h => by simp only [ghost] at h; cases h; exact ⟨fun γ => ⟨γ, Fx.refl _, Le.refl _⟩, Ext.refl _, id⟩
 | .sl n t :: r, E, E', h => by
  simp only [ghost] at h;split at h
  ·rename_i E1 h1;obtain ⟨a1, a2, a3⟩ := sealT_ok (k := k) h1;obtain ⟨b1, b2, b3⟩ := ghost_ok (k := k) h;exact ⟨fun γ => by obtain ⟨γ', f, h2⟩ := b1 γ; exact ⟨γ', f, (a1 γ).trans h2⟩, a2.trans b2, fun hE => b3 (a3 hE)⟩
  ·cases h
 | .nw s i t :: r, E, E', h => by
  simp only [ghost] at h;split at h
  ·rename_i E1 h1;obtain ⟨a1, a2, a3⟩ := newT_ok (k := k) h1;obtain ⟨b1, b2, b3⟩ := ghost_ok (k := k) h;exact ⟨fun γ => by obtain ⟨γ1, f1, h1⟩ := a1 γ; obtain ⟨γ', f2, h2⟩ := b1 γ1; exact ⟨γ', f1.trans f2, h1.trans h2⟩, a2.trans b2, fun hE => b3 (a3 hE)⟩
  ·cases h
 | .bm m d p :: r, E, E', h => by
  simp only [ghost] at h;split at h
  ·rename_i E1 h1;obtain ⟨a1, a2, a3⟩ := bmap_ok (k := k) h1;obtain ⟨b1, b2, b3⟩ := ghost_ok (k := k) h;exact ⟨fun γ => by obtain ⟨γ1, f1, h1⟩ := a1 γ; obtain ⟨γ', f2, h2⟩ := b1 γ1; exact ⟨γ', f1.trans f2, h1.trans h2⟩, a2.trans b2, fun hE => b3 (a3 hE)⟩
  ·cases h
 | .rm m d :: r, E, E', h => by
  simp only [ghost] at h;split at h
  ·rename_i E1 h1;obtain ⟨a1, a2, a3⟩ := rmap_ok (k := k) h1;obtain ⟨b1, b2, b3⟩ := ghost_ok (k := k) h;exact ⟨fun γ => by obtain ⟨γ', f, h2⟩ := b1 γ; exact ⟨γ', f, (a1 γ).trans h2⟩, a2.trans b2, fun hE => b3 (a3 hE)⟩
  ·cases h
 | .sh m :: r, E, E', h => by
  simp only [ghost] at h;split at h
  ·rename_i E1 h1;obtain ⟨a1, a2, a3⟩ := shut_ok (k := k) h1;obtain ⟨b1, b2, b3⟩ := ghost_ok (k := k) h;exact ⟨fun γ => by obtain ⟨γ', f, h2⟩ := b1 γ; exact ⟨γ', f, (a1 γ).trans h2⟩, a2.trans b2, fun hE => b3 (a3 hE)⟩
  ·cases h
end Go.PG.PH
