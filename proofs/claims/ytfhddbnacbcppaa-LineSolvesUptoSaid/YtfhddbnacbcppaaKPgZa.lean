/- The engine: regions whose order is open, their operations counted. -/
import Derived.Test.YtfhddbnacbcppaaKPgZ
set_option linter.unusedVariables false
set_option linter.unnecessarySimpa false
set_option linter.unusedSimpArgs false
namespace Go.PG

@[congr] theorem eff_congr {P : Program} {o : Oper} {e e' : Env} (h : e = e') : eff P o e = eff P o e' := by rw [h]

/-- EvD over a list of operations whose first one is the i-th. -/
def EvI (P : Program) (ops : Array Oper) (i : Nat) (l : List Oper) (e : Env) (acc : List Inf) (K : List Inf → Env → Prop) : Prop :=
  EvD P ops ((l.zipIdx i).map fun x => (x.2, x.1)) e acc K

def WaysI (b : Option Bool) (P : Program) (ops : Array Oper) (i : Nat) (dst : Option Nat) (op : Op) (ty : TypeId) (pos : String) (aft : Array Edge) (g : Nat × Bool) (os : List Oper) (e : Env) (acc : List Inf) (K : List Inf → Env → Prop) : Prop :=
  WaysD b P ops i dst op ty pos aft g ((os.zipIdx (i + 1)).map fun x => (x.2, x.1)) e acc K

/-- What is behind an operation. -/
def CoI (P : Program) (ops : Array Oper) (i : Nat) (os : List Oper) (dst : Option Nat) (e : Env) (rd : List Key) (acc : List Inf) (K : List Inf → Env → Prop) (v : V) (ups : List (Nat × Ob)) : Prop :=
  EvI P ops (i + 1) os (e.upd dst v ups) (⟨i, wkOf dst ups, rd⟩ :: acc) K
@[go_sem] theorem coi_eq {P : Program} {ops : Array Oper} {i : Nat} {os : List Oper} {dst : Option Nat} {e : Env} {rd : List Key} {acc : List Inf} {K : List Inf → Env → Prop} {v : V} {ups : List (Nat × Ob)} :
    CoI P ops i os dst e rd acc K v ups = EvI P ops (i + 1) os (e.upd dst v ups) (⟨i, wkOf dst ups, rd⟩ :: acc) K := rfl
/-- What is left of a region: every order comes to the same; and what is behind it. -/
def Dn (ops : Array Oper) (infs : List Inf) (K : Env → Prop) (e : Env) : Prop := okInf ops infs = true ∧ K e
theorem dn_mk {ops : Array Oper} {infs : List Inf} {K : Env → Prop} {e : Env} (h : okInf ops infs = true) (k : K e) : Dn ops infs K e := ⟨h, k⟩
@[congr] theorem dn_congr {ops : Array Oper} {infs : List Inf} {K : Env → Prop} {e e' : Env} (h : e = e') : Dn ops infs K e = Dn ops infs K e' := by rw [h]
@[congr] theorem evi_congr {P : Program} {ops : Array Oper} {i : Nat} {l : List Oper} {e e' : Env} {acc : List Inf} {K : List Inf → Env → Prop} (h : e = e') : EvI P ops i l e acc K = EvI P ops i l e' acc K := by rw [h]
@[congr] theorem waysi_congr {P : Program} {ops : Array Oper} {i : Nat} {dst : Option Nat} {op : Op} {ty : TypeId} {pos : String} {aft : Array Edge} {g : Nat × Bool} {os : List Oper} {e e' : Env} {acc : List Inf} {K : List Inf → Env → Prop} {b b' : Option Bool} (hb : b = b') (h : e = e') :
    WaysI b P ops i dst op ty pos aft g os e acc K = WaysI b' P ops i dst op ty pos aft g os e' acc K := by rw [hb, h]
@[congr] theorem waysl_congr {P : Program} {ops : Array Oper} {dst : Option Nat} {op : Op} {ty : TypeId} {pos : String} {aft : Array Edge} {os : List Oper} {e e' : Env} {K : Env → Prop} {b b' : Option Bool} (hb : b = b') (h : e = e') :
    WaysL b P ops dst op ty pos aft os e K = WaysL b' P ops dst op ty pos aft os e' K := by rw [hb, h]
@[congr] theorem gd_congr {ops : Array Oper} {o : Oper} {e e' : Env} (h : e = e') : gd ops e o = gd ops e' o := by rw [h]

section
variable {P : Program} {ops : Array Oper} {i : Nat} {dst : Option Nat} {op : Op} {ty : TypeId} {pos : String} {aft : Array Edge} {g : Nat × Bool} {os : List Oper} {e : Env} {acc : List Inf} {K : List Inf → Env → Prop}
@[go_sem] theorem evi_nil : EvI P ops i [] e acc K = K acc.reverse e := rfl
@[go_sem] theorem waysi_true : WaysI (some true) P ops i dst op ty pos aft g os e acc K = After (eff P ⟨dst, op, ty, pos, aft, none⟩ e) (CoI P ops i os dst e (rdOf ops ⟨dst, op, ty, pos, aft, some g⟩ e) acc K) := by unfold WaysI; rw [waysd_true]; rfl
@[go_sem] theorem waysi_false : WaysI (some false) P ops i dst op ty pos aft g os e acc K = EvI P ops (i + 1) os (e.upd dst (.tup []) []) (⟨i, wkOf dst [], rdOf ops ⟨dst, op, ty, pos, aft, some g⟩ e⟩ :: acc) K := by simp [WaysI, EvI, WaysD]
theorem waysi_if {c : Bool} (hn : c = false → WaysI (some false) P ops i dst op ty pos aft g os e acc K) (hy : c = true → WaysI (some true) P ops i dst op ty pos aft g os e acc K) : WaysI (some c) P ops i dst op ty pos aft g os e acc K := by
  cases c
  · exact hn rfl
  · exact hy rfl
theorem waysi_not {c : Bool} (hn : c = true → WaysI (some false) P ops i dst op ty pos aft g os e acc K) (hy : c = false → WaysI (some true) P ops i dst op ty pos aft g os e acc K) : WaysI (some (!c)) P ops i dst op ty pos aft g os e acc K := by
  cases c
  · exact hy rfl
  · exact hn rfl
@[go_sem] theorem evi_move (x : Operand) : EvI P ops i (⟨dst, (.move x), ty, pos, aft, none⟩ :: os) e acc K = After (eff P ⟨dst, (.move x), ty, pos, aft, none⟩ e) (CoI P ops i os dst e (rdOf ops ⟨dst, (.move x), ty, pos, aft, none⟩ e) acc K) := evd_op_eq rfl
@[go_sem] theorem evig_move (x : Operand) : EvI P ops i (⟨dst, (.move x), ty, pos, aft, some g⟩ :: os) e acc K = WaysI (gd ops e ⟨dst, (.move x), ty, pos, aft, some g⟩) P ops i dst (.move x) ty pos aft g os e acc K := evd_guard rfl
@[go_sem] theorem evi_assign (x : Operand) : EvI P ops i (⟨dst, (.assign x), ty, pos, aft, none⟩ :: os) e acc K = After (eff P ⟨dst, (.assign x), ty, pos, aft, none⟩ e) (CoI P ops i os dst e (rdOf ops ⟨dst, (.assign x), ty, pos, aft, none⟩ e) acc K) := evd_op_eq rfl
@[go_sem] theorem evig_assign (x : Operand) : EvI P ops i (⟨dst, (.assign x), ty, pos, aft, some g⟩ :: os) e acc K = WaysI (gd ops e ⟨dst, (.assign x), ty, pos, aft, some g⟩) P ops i dst (.assign x) ty pos aft g os e acc K := evd_guard rfl
@[go_sem] theorem evi_pick (a b c : Operand) : EvI P ops i (⟨dst, (.pick a b c), ty, pos, aft, none⟩ :: os) e acc K = After (eff P ⟨dst, (.pick a b c), ty, pos, aft, none⟩ e) (CoI P ops i os dst e (rdOf ops ⟨dst, (.pick a b c), ty, pos, aft, none⟩ e) acc K) := evd_op_eq rfl
@[go_sem] theorem evig_pick (a b c : Operand) : EvI P ops i (⟨dst, (.pick a b c), ty, pos, aft, some g⟩ :: os) e acc K = WaysI (gd ops e ⟨dst, (.pick a b c), ty, pos, aft, some g⟩) P ops i dst (.pick a b c) ty pos aft g os e acc K := evd_guard rfl
@[go_sem] theorem evi_alloc (t : TypeId) : EvI P ops i (⟨dst, (.alloc t), ty, pos, aft, none⟩ :: os) e acc K = After (eff P ⟨dst, (.alloc t), ty, pos, aft, none⟩ e) (CoI P ops i os dst e (rdOf ops ⟨dst, (.alloc t), ty, pos, aft, none⟩ e) acc K) := evd_op_eq rfl
@[go_sem] theorem evig_alloc (t : TypeId) : EvI P ops i (⟨dst, (.alloc t), ty, pos, aft, some g⟩ :: os) e acc K = WaysI (gd ops e ⟨dst, (.alloc t), ty, pos, aft, some g⟩) P ops i dst (.alloc t) ty pos aft g os e acc K := evd_guard rfl
@[go_sem] theorem evi_box (t : TypeId) (x : Operand) : EvI P ops i (⟨dst, (.box t x), ty, pos, aft, none⟩ :: os) e acc K = After (eff P ⟨dst, (.box t x), ty, pos, aft, none⟩ e) (CoI P ops i os dst e (rdOf ops ⟨dst, (.box t x), ty, pos, aft, none⟩ e) acc K) := evd_op_eq rfl
@[go_sem] theorem evig_box (t : TypeId) (x : Operand) : EvI P ops i (⟨dst, (.box t x), ty, pos, aft, some g⟩ :: os) e acc K = WaysI (gd ops e ⟨dst, (.box t x), ty, pos, aft, some g⟩) P ops i dst (.box t x) ty pos aft g os e acc K := evd_guard rfl
@[go_sem] theorem evi_build (t : TypeId) (x : Array (Nat × Operand)) : EvI P ops i (⟨dst, (.build t x), ty, pos, aft, none⟩ :: os) e acc K = After (eff P ⟨dst, (.build t x), ty, pos, aft, none⟩ e) (CoI P ops i os dst e (rdOf ops ⟨dst, (.build t x), ty, pos, aft, none⟩ e) acc K) := evd_op_eq rfl
@[go_sem] theorem evig_build (t : TypeId) (x : Array (Nat × Operand)) : EvI P ops i (⟨dst, (.build t x), ty, pos, aft, some g⟩ :: os) e acc K = WaysI (gd ops e ⟨dst, (.build t x), ty, pos, aft, some g⟩) P ops i dst (.build t x) ty pos aft g os e acc K := evd_guard rfl
@[go_sem] theorem evi_buildSlice (t n : Nat) (x : Array (Nat × Operand)) : EvI P ops i (⟨dst, (.buildSlice t n x), ty, pos, aft, none⟩ :: os) e acc K = After (eff P ⟨dst, (.buildSlice t n x), ty, pos, aft, none⟩ e) (CoI P ops i os dst e (rdOf ops ⟨dst, (.buildSlice t n x), ty, pos, aft, none⟩ e) acc K) := evd_op_eq rfl
@[go_sem] theorem evig_buildSlice (t n : Nat) (x : Array (Nat × Operand)) : EvI P ops i (⟨dst, (.buildSlice t n x), ty, pos, aft, some g⟩ :: os) e acc K = WaysI (gd ops e ⟨dst, (.buildSlice t n x), ty, pos, aft, some g⟩) P ops i dst (.buildSlice t n x) ty pos aft g os e acc K := evd_guard rfl
@[go_sem] theorem evi_load (t : TypeId) (x : Operand) : EvI P ops i (⟨dst, (.load t x), ty, pos, aft, none⟩ :: os) e acc K = After (eff P ⟨dst, (.load t x), ty, pos, aft, none⟩ e) (CoI P ops i os dst e (rdOf ops ⟨dst, (.load t x), ty, pos, aft, none⟩ e) acc K) := evd_op_eq rfl
@[go_sem] theorem evig_load (t : TypeId) (x : Operand) : EvI P ops i (⟨dst, (.load t x), ty, pos, aft, some g⟩ :: os) e acc K = WaysI (gd ops e ⟨dst, (.load t x), ty, pos, aft, some g⟩) P ops i dst (.load t x) ty pos aft g os e acc K := evd_guard rfl
@[go_sem] theorem evi_store (t : TypeId) (x y : Operand) : EvI P ops i (⟨dst, (.store t x y), ty, pos, aft, none⟩ :: os) e acc K = After (eff P ⟨dst, (.store t x y), ty, pos, aft, none⟩ e) (CoI P ops i os dst e (rdOf ops ⟨dst, (.store t x y), ty, pos, aft, none⟩ e) acc K) := evd_op_eq rfl
@[go_sem] theorem evig_store (t : TypeId) (x y : Operand) : EvI P ops i (⟨dst, (.store t x y), ty, pos, aft, some g⟩ :: os) e acc K = WaysI (gd ops e ⟨dst, (.store t x y), ty, pos, aft, some g⟩) P ops i dst (.store t x y) ty pos aft g os e acc K := evd_guard rfl
@[go_sem] theorem evi_binOp (op : BinOp) (t u : TypeId) (x y : Operand) : EvI P ops i (⟨dst, (.binOp op t x y u), ty, pos, aft, none⟩ :: os) e acc K = After (eff P ⟨dst, (.binOp op t x y u), ty, pos, aft, none⟩ e) (CoI P ops i os dst e (rdOf ops ⟨dst, (.binOp op t x y u), ty, pos, aft, none⟩ e) acc K) := evd_op_eq rfl
@[go_sem] theorem evig_binOp (op : BinOp) (t u : TypeId) (x y : Operand) : EvI P ops i (⟨dst, (.binOp op t x y u), ty, pos, aft, some g⟩ :: os) e acc K = WaysI (gd ops e ⟨dst, (.binOp op t x y u), ty, pos, aft, some g⟩) P ops i dst (.binOp op t x y u) ty pos aft g os e acc K := evd_guard rfl
@[go_sem] theorem evi_unOp (op : UnOp) (t : TypeId) (x : Operand) : EvI P ops i (⟨dst, (.unOp op t x), ty, pos, aft, none⟩ :: os) e acc K = After (eff P ⟨dst, (.unOp op t x), ty, pos, aft, none⟩ e) (CoI P ops i os dst e (rdOf ops ⟨dst, (.unOp op t x), ty, pos, aft, none⟩ e) acc K) := evd_op_eq rfl
@[go_sem] theorem evig_unOp (op : UnOp) (t : TypeId) (x : Operand) : EvI P ops i (⟨dst, (.unOp op t x), ty, pos, aft, some g⟩ :: os) e acc K = WaysI (gd ops e ⟨dst, (.unOp op t x), ty, pos, aft, some g⟩) P ops i dst (.unOp op t x) ty pos aft g os e acc K := evd_guard rfl
@[go_sem] theorem evi_convert (t u : TypeId) (x : Operand) : EvI P ops i (⟨dst, (.convert t u x), ty, pos, aft, none⟩ :: os) e acc K = After (eff P ⟨dst, (.convert t u x), ty, pos, aft, none⟩ e) (CoI P ops i os dst e (rdOf ops ⟨dst, (.convert t u x), ty, pos, aft, none⟩ e) acc K) := evd_op_eq rfl
@[go_sem] theorem evig_convert (t u : TypeId) (x : Operand) : EvI P ops i (⟨dst, (.convert t u x), ty, pos, aft, some g⟩ :: os) e acc K = WaysI (gd ops e ⟨dst, (.convert t u x), ty, pos, aft, some g⟩) P ops i dst (.convert t u x) ty pos aft g os e acc K := evd_guard rfl
@[go_sem] theorem evi_makeFunc (f : Fn) (a b : Array Operand) : EvI P ops i (⟨dst, (.makeFunc f a b), ty, pos, aft, none⟩ :: os) e acc K = After (eff P ⟨dst, (.makeFunc f a b), ty, pos, aft, none⟩ e) (CoI P ops i os dst e (rdOf ops ⟨dst, (.makeFunc f a b), ty, pos, aft, none⟩ e) acc K) := evd_op_eq rfl
@[go_sem] theorem evig_makeFunc (f : Fn) (a b : Array Operand) : EvI P ops i (⟨dst, (.makeFunc f a b), ty, pos, aft, some g⟩ :: os) e acc K = WaysI (gd ops e ⟨dst, (.makeFunc f a b), ty, pos, aft, some g⟩) P ops i dst (.makeFunc f a b) ty pos aft g os e acc K := evd_guard rfl
@[go_sem] theorem evi_makeSlice (t : TypeId) (x y : Operand) : EvI P ops i (⟨dst, (.makeSlice t x y), ty, pos, aft, none⟩ :: os) e acc K = After (eff P ⟨dst, (.makeSlice t x y), ty, pos, aft, none⟩ e) (CoI P ops i os dst e (rdOf ops ⟨dst, (.makeSlice t x y), ty, pos, aft, none⟩ e) acc K) := evd_op_eq rfl
@[go_sem] theorem evig_makeSlice (t : TypeId) (x y : Operand) : EvI P ops i (⟨dst, (.makeSlice t x y), ty, pos, aft, some g⟩ :: os) e acc K = WaysI (gd ops e ⟨dst, (.makeSlice t x y), ty, pos, aft, some g⟩) P ops i dst (.makeSlice t x y) ty pos aft g os e acc K := evd_guard rfl
@[go_sem] theorem evi_slice (t : TypeId) (x : Operand) (a b c : Option Operand) : EvI P ops i (⟨dst, (.slice t x a b c), ty, pos, aft, none⟩ :: os) e acc K = After (eff P ⟨dst, (.slice t x a b c), ty, pos, aft, none⟩ e) (CoI P ops i os dst e (rdOf ops ⟨dst, (.slice t x a b c), ty, pos, aft, none⟩ e) acc K) := evd_op_eq rfl
@[go_sem] theorem evig_slice (t : TypeId) (x : Operand) (a b c : Option Operand) : EvI P ops i (⟨dst, (.slice t x a b c), ty, pos, aft, some g⟩ :: os) e acc K = WaysI (gd ops e ⟨dst, (.slice t x a b c), ty, pos, aft, some g⟩) P ops i dst (.slice t x a b c) ty pos aft g os e acc K := evd_guard rfl
@[go_sem] theorem evi_fieldAddr (t f : Nat) (x : Operand) : EvI P ops i (⟨dst, (.fieldAddr t x f), ty, pos, aft, none⟩ :: os) e acc K = After (eff P ⟨dst, (.fieldAddr t x f), ty, pos, aft, none⟩ e) (CoI P ops i os dst e (rdOf ops ⟨dst, (.fieldAddr t x f), ty, pos, aft, none⟩ e) acc K) := evd_op_eq rfl
@[go_sem] theorem evig_fieldAddr (t f : Nat) (x : Operand) : EvI P ops i (⟨dst, (.fieldAddr t x f), ty, pos, aft, some g⟩ :: os) e acc K = WaysI (gd ops e ⟨dst, (.fieldAddr t x f), ty, pos, aft, some g⟩) P ops i dst (.fieldAddr t x f) ty pos aft g os e acc K := evd_guard rfl
@[go_sem] theorem evi_field (t f : Nat) (x : Operand) : EvI P ops i (⟨dst, (.field t x f), ty, pos, aft, none⟩ :: os) e acc K = After (eff P ⟨dst, (.field t x f), ty, pos, aft, none⟩ e) (CoI P ops i os dst e (rdOf ops ⟨dst, (.field t x f), ty, pos, aft, none⟩ e) acc K) := evd_op_eq rfl
@[go_sem] theorem evig_field (t f : Nat) (x : Operand) : EvI P ops i (⟨dst, (.field t x f), ty, pos, aft, some g⟩ :: os) e acc K = WaysI (gd ops e ⟨dst, (.field t x f), ty, pos, aft, some g⟩) P ops i dst (.field t x f) ty pos aft g os e acc K := evd_guard rfl
@[go_sem] theorem evi_indexAddr (t : TypeId) (x y : Operand) : EvI P ops i (⟨dst, (.indexAddr t x y), ty, pos, aft, none⟩ :: os) e acc K = After (eff P ⟨dst, (.indexAddr t x y), ty, pos, aft, none⟩ e) (CoI P ops i os dst e (rdOf ops ⟨dst, (.indexAddr t x y), ty, pos, aft, none⟩ e) acc K) := evd_op_eq rfl
@[go_sem] theorem evig_indexAddr (t : TypeId) (x y : Operand) : EvI P ops i (⟨dst, (.indexAddr t x y), ty, pos, aft, some g⟩ :: os) e acc K = WaysI (gd ops e ⟨dst, (.indexAddr t x y), ty, pos, aft, some g⟩) P ops i dst (.indexAddr t x y) ty pos aft g os e acc K := evd_guard rfl
@[go_sem] theorem evi_index (t : TypeId) (x y : Operand) : EvI P ops i (⟨dst, (.index t x y), ty, pos, aft, none⟩ :: os) e acc K = After (eff P ⟨dst, (.index t x y), ty, pos, aft, none⟩ e) (CoI P ops i os dst e (rdOf ops ⟨dst, (.index t x y), ty, pos, aft, none⟩ e) acc K) := evd_op_eq rfl
@[go_sem] theorem evig_index (t : TypeId) (x y : Operand) : EvI P ops i (⟨dst, (.index t x y), ty, pos, aft, some g⟩ :: os) e acc K = WaysI (gd ops e ⟨dst, (.index t x y), ty, pos, aft, some g⟩) P ops i dst (.index t x y) ty pos aft g os e acc K := evd_guard rfl
@[go_sem] theorem evi_extract (x : Operand) (k : Nat) : EvI P ops i (⟨dst, (.extract x k), ty, pos, aft, none⟩ :: os) e acc K = After (eff P ⟨dst, (.extract x k), ty, pos, aft, none⟩ e) (CoI P ops i os dst e (rdOf ops ⟨dst, (.extract x k), ty, pos, aft, none⟩ e) acc K) := evd_op_eq rfl
@[go_sem] theorem evig_extract (x : Operand) (k : Nat) : EvI P ops i (⟨dst, (.extract x k), ty, pos, aft, some g⟩ :: os) e acc K = WaysI (gd ops e ⟨dst, (.extract x k), ty, pos, aft, some g⟩) P ops i dst (.extract x k) ty pos aft g os e acc K := evd_guard rfl
@[go_sem] theorem evi_builtin (b : Builtin) (a : Array Operand) (t : Array TypeId) : EvI P ops i (⟨dst, (.call ⟨.builtin b, a, t⟩), ty, pos, aft, none⟩ :: os) e acc K = After (eff P ⟨dst, (.call ⟨.builtin b, a, t⟩), ty, pos, aft, none⟩ e) (CoI P ops i os dst e (rdOf ops ⟨dst, (.call ⟨.builtin b, a, t⟩), ty, pos, aft, none⟩ e) acc K) := evd_op_eq rfl
@[go_sem] theorem evig_builtin (b : Builtin) (a : Array Operand) (t : Array TypeId) : EvI P ops i (⟨dst, (.call ⟨.builtin b, a, t⟩), ty, pos, aft, some g⟩ :: os) e acc K = WaysI (gd ops e ⟨dst, (.call ⟨.builtin b, a, t⟩), ty, pos, aft, some g⟩) P ops i dst (.call ⟨.builtin b, a, t⟩) ty pos aft g os e acc K := evd_guard rfl
theorem evi_skip {o : Oper} (hg : gd ops e o = some false) (h : EvI P ops (i + 1) os (e.upd o.dst (.tup []) []) (⟨i, wkOf o.dst [], rdOf ops o e⟩ :: acc) K) : EvI P ops i (o :: os) e acc K := .inl ⟨hg, h⟩
theorem evi_gsplit {o : Oper} {c : Bool} (hg : gd ops e o = some c) (hn : c = false → EvI P ops (i + 1) os (e.upd o.dst (.tup []) []) (⟨i, wkOf o.dst [], rdOf ops o e⟩ :: acc) K) (hy : c = true → EvI P ops i (o :: os) e acc K) : EvI P ops i (o :: os) e acc K :=
  evd_gsplit hg hn hy
theorem evi_callS {x : Operand} {args : List Operand} {ats : Array TypeId} {f : FuncId} {caps vs : List V} {r : V} (hp : PC P f vs r) (hh : e.ev x = .fn (.func f) caps ∧ args.map e.ev ++ caps = vs ∧ V.idfreeL vs = true)
    (h : EvI P ops (i + 1) os (e.upd dst r []) (⟨i, wkOf dst [], rdOf ops ⟨dst, .call ⟨.value x, args.toArray, ats⟩, ty, pos, aft, none⟩ e⟩ :: acc) K) : EvI P ops i (⟨dst, .call ⟨.value x, args.toArray, ats⟩, ty, pos, aft, none⟩ :: os) e acc K :=
  evd_callS hh.1 hh.2.1 hh.2.2 hp h
theorem evi_callSg {x : Operand} {args : List Operand} {ats : Array TypeId} {f : FuncId} {caps vs : List V} {r : V} (hp : PC P f vs r) (hh : gd ops e ⟨dst, .call ⟨.value x, args.toArray, ats⟩, ty, pos, aft, some g⟩ = some true ∧ e.ev x = .fn (.func f) caps ∧ args.map e.ev ++ caps = vs ∧ V.idfreeL vs = true)
    (h : EvI P ops (i + 1) os (e.upd dst r []) (⟨i, wkOf dst [], rdOf ops ⟨dst, .call ⟨.value x, args.toArray, ats⟩, ty, pos, aft, some g⟩ e⟩ :: acc) K) : EvI P ops i (⟨dst, .call ⟨.value x, args.toArray, ats⟩, ty, pos, aft, some g⟩ :: os) e acc K :=
  evd_callSg hh.1 hh.2.1 hh.2.2.1 hh.2.2.2 hp h
end

theorem tr_sdraw {P : Program} {id : Nat} {l : List Oper} {n : Nat} {S : List (Nat × V)} {hp : Heap} {y : Code} {Q : Post} (hs : ∀ t, ∃ m, Sched m l.toArray (Region.schedule (P.follows .mixedOrders) l.toArray t))
    (hd : dstOk l n = true) (h : ∀ K : Env → Prop, (∀ e', Tr P y e' Q → K e') → EvI P l.toArray 0 l (SE n S hp) [] fun infs e' => Dn l.toArray infs K e') :
    Tr P (.seq (.region id l.toArray true) y) (SE n S hp) Q := by
  refine tr_seq_k fun K hK => tr_draw hs n (se_len _ _ _) hd ?_
  exact h K hK

theorem tr_tdraw {P : Program} {id : Nat} {l : List Oper} {n : Nat} {S : List (Nat × V)} {hp : Heap} {Q : Post} (hs : ∀ t, ∃ m, Sched m l.toArray (Region.schedule (P.follows .mixedOrders) l.toArray t))
    (hd : dstOk l n = true) (h : EvI P l.toArray 0 l (SE n S hp) [] fun infs e' => Dn l.toArray infs (Q .normal) e') : Tr P (.region id l.toArray true) (SE n S hp) Q :=
  tr_draw hs n (se_len _ _ _) hd h

attribute [go_sem] List.take_of_length_le List.length_append List.length_set Option.map_none beq_self_eq_true List.all_cons List.all_nil Option.isSome_some Option.isSome_none List.replicate_succ List.replicate_zero List.length_replicate
theorem tr_nilqS {P : Program} {c : Code} {n : Nat} {S : List (Nat × V)} {h : Heap} {Q : Post} (i sz : Nat) (hi : aget S i = .sl sz []) (hlt : decide (i < n) = true) (h1 : Tr P c (SE n ((i, .nil) :: S) h) Q) (h2 : Tr P c (SE n ((i, .emp sz) :: S) h) Q) : Tr P c (SE n S h) Q := by
  have e1 : ∀ v, (⟨(SE n S h).t.set i v, (SE n S h).h⟩ : Env) = SE n ((i, v) :: S) h := fun v => se_upd n S h i v []
  refine tr_nilq (e := SE n S h) i sz (by rw [se_get _ _ _ _ (of_decide_eq_true hlt), hi]) ?_ ?_
  · rw [e1]; exact h1
  · rw [e1]; exact h2

theorem drawS {P : Program} {id : Nat} {l : List Oper} {n : Nat} {S : List (Nat × V)} {hp : Heap} {y : Code} {Q : Post} (hm : P.follows .mixedOrders = true) (hb : edgesBack .any l.toArray = true)
    (hd : dstOk l n = true) (h : ∀ K : Env → Prop, (∀ e', Tr P y e' Q → K e') → EvI P l.toArray 0 l (SE n S hp) [] fun infs e' => Dn l.toArray infs K e') :
    Tr P (.seq (.region id l.toArray true) y) (SE n S hp) Q := tr_sdraw (fun t => sched_mixed hm hb t) hd h
theorem drawT {P : Program} {id : Nat} {l : List Oper} {n : Nat} {S : List (Nat × V)} {hp : Heap} {Q : Post} (hm : P.follows .mixedOrders = true) (hb : edgesBack .any l.toArray = true)
    (hd : dstOk l n = true) (h : EvI P l.toArray 0 l (SE n S hp) [] fun infs e' => Dn l.toArray infs (Q .normal) e') : Tr P (.region id l.toArray true) (SE n S hp) Q := tr_tdraw (fun t => sched_mixed hm hb t) hd h
end Go.PG
