/-
  THE MACHINE's STEPS for a frame of any kind, a round of a range over a function among them.
  AN ABSTRACT MACHINE for the loaded functions: values without addresses (PV: what never changes again; LV: what a call holds), a small abstract heap, and a big-step run over code whose types are resolved to sizes and offsets. Plain definitions.
  THE ABSTRACT MACHINE's run: operations, regions, code, functions. Plain definitions.
  THE ABSTRACT MACHINE: regions whose order is open, loops, code, functions, the whole program by rounds. Plain definitions.
  HOW THE ABSTRACT MACHINE's VALUES LIE IN A WORLD: relations, and that they last.
  THE CHECK that RCode says what the loaded code says: types resolved, annotations (what is kept at a loop's head, how arguments are handed over) free. Plain definitions.
  WHAT THE ABSTRACT HEAP SAYS OF A WORLD, and how it lasts.
  WHAT IS RECKONED WITH PVs. Plain definitions.
  THE OPERATIONS, 1: operands; what only reads.
-/
import Derived.Calls
import Derived.Laws.World
import GoSem.Core.Code
import Derived.Below
import GoSem.Core.View
import GoSem.Core.Region
import Derived.Laws.Cells
set_option linter.unusedVariables false
set_option linter.unusedSimpArgs false
set_option linter.unusedSectionVars false
section
namespace AI
open Go

structure Base where
  fn : FuncId
  kind : CallKind
  ro : Option Nat

def Base.fr (b : Base) (t : Array Value) (d : List Deferred) (todo : List Item) : Frame := { fn := b.fn, tmps := t, todo, defers := d, mode := .run, kind := b.kind, roundOf := b.ro }

def ev (t : Array Value) : Operand → Value
  | .tmp n => t.getD n undef
  | .const v => v
  | .global g => .pointer (some ⟨g, 0, none⟩)
  | .func f => .func (.func f) #[] #[]

theorem Base.eval (b : Base) (t : Array Value) (d : List Deferred) (todo : List Item) : (b.fr t d todo).eval = ev t := by
  funext x; cases x <;> rfl

section
variable {P : Program} {b : Base} {t : Array Value} {d : List Deferred} {k : List Item} {cs : List Frame} {w : World}

theorem s_skip : step P (lone (b.fr t d (.code .skip :: k)) cs w) = .next (lone (b.fr t d k) cs w) :=
  step_lone_go (by simp [stepG, stepG.exec, Base.fr])
theorem s_label {l : Nat} : step P (lone (b.fr t d (.code (.label l) :: k)) cs w) = .next (lone (b.fr t d k) cs w) :=
  step_lone_go (by simp [stepG, stepG.exec, Base.fr])
theorem s_inBlock {id : Nat} : step P (lone (b.fr t d (.inBlock id :: k)) cs w) = .next (lone (b.fr t d k) cs w) :=
  step_lone_go (by simp [stepG, stepG.exec, Base.fr])
theorem s_inScope {c : Code} : step P (lone (b.fr t d (.inScope c :: k)) cs w) = .next (lone (b.fr t d k) cs w) :=
  step_lone_go (by simp [stepG, stepG.exec, Base.fr])
theorem s_scope {c : Code} : step P (lone (b.fr t d (.code (.scope c) :: k)) cs w) = .next (lone (b.fr t d (.code c :: .inScope c :: k)) cs w) :=
  step_lone_go (by simp [stepG, stepG.exec, Base.fr])
theorem s_seq {x y : Code} : step P (lone (b.fr t d (.code (.seq x y) :: k)) cs w) = .next (lone (b.fr t d (.code x :: .code y :: k)) cs w) :=
  step_lone_go (by simp [stepG, stepG.exec, Base.fr])
theorem s_cond {c : Operand} {x y : Code} {v : Bool} (h : ev t c = .bool v) :
    step P (lone (b.fr t d (.code (.cond c x y) :: k)) cs w) = .next (lone (b.fr t d (.code (if v then x else y) :: k)) cs w) :=
  step_lone_go (by
    have := congrFun (Base.eval b t d (.code (.cond c x y) :: k)) c
    simp only [Base.fr] at this
    simp [stepG, stepG.exec, Base.fr, this, h])
theorem s_block {id : Nat} {c : Code} : step P (lone (b.fr t d (.code (.block id c) :: k)) cs w) = .next (lone (b.fr t d (.code c :: .inBlock id :: k)) cs w) :=
  step_lone_go (by simp [stepG, stepG.exec, Base.fr])
theorem s_loop {c : Code} : step P (lone (b.fr t d (.code (.loop c) :: k)) cs w) = .next (lone (b.fr t d (.code c :: .inLoop c :: k)) cs w) :=
  step_lone_go (by simp [stepG, stepG.exec, Base.fr])
theorem s_inLoop {c : Code} : step P (lone (b.fr t d (.inLoop c :: k)) cs w) = .next (lone (b.fr t d (.code c :: .inLoop c :: k)) cs w) :=
  step_lone_go (by simp [stepG, stepG.exec, Base.fr])
theorem s_exit {id : Nat} {k' : List Item} (h : exitTo id k = some k') : step P (lone (b.fr t d (.code (.exit id) :: k)) cs w) = .next (lone (b.fr t d k') cs w) :=
  step_lone_go (by simp [stepG, stepG.exec, Base.fr, h])
theorem s_ret (h : b.ro = none) : step P (lone (b.fr t d (.code .ret :: k)) cs w) = .next (lone { b.fr t d (.code .ret :: k) with mode := .returning } cs w) :=
  step_lone_go (by simp [stepG, stepG.exec, Base.fr, h])
theorem s_end (h : b.ro = none) : step P (lone (b.fr t d []) cs w) = .next (lone { b.fr t d [] with mode := .returning } cs w) :=
  step_lone_go (by simp [stepG, stepG.exec, Base.fr, h])
theorem s_region {id : Nat} {ops : Array Oper} :
    step P (lone (b.fr t d (.code (.region id ops false) :: k)) cs w) = .next (lone (b.fr t d (.inRegion ops (List.range ops.size) :: k)) cs w) :=
  step_lone_go (by simp [stepG, stepG.exec, Base.fr])
theorem s_draw {id : Nat} {ops : Array Oper} :
    step P (lone (b.fr t d (.code (.region id ops true) :: k)) cs w) =
      .next (lone (b.fr t d (.inRegion ops (Region.schedule (P.follows .mixedOrders) ops (w.tape w.drawn (.order b.fn id))) :: k)) cs { w with drawn := w.drawn + 1 }) :=
  step_lone_go (by simp [stepG, stepG.exec, Base.fr, choose, Sem.run, Question.forced, Question.cut])
theorem s_regionEnd {ops : Array Oper} : step P (lone (b.fr t d (.inRegion ops [] :: k)) cs w) = .next (lone (b.fr t d k) cs w) :=
  step_lone_go (by simp [stepG, stepG.exec, Base.fr])

def putV (t : Array Value) (dst : Option Tmp) (v : Value) : Array Value :=
  match dst with
  | some d => t.setIfInBounds d v
  | none => t

theorem fin_op {ops : Array Oper} {i : Nat} {rest : List Nat} {v : Value} :
    (b.fr t d (.inRegion ops (i :: rest) :: k)).finish v = b.fr (putV t ((ops[i]?).bind (·.dst)) v) d (.inRegion ops rest :: k) := by
  cases h : (ops[i]?).bind (·.dst) <;> simp [Frame.finish, Base.fr, putV, h]

theorem s_opSkip {ops : Array Oper} {i : Nat} {rest : List Nat} (h : ((ops[i]?).map (Region.wanted · (yielded ops t))).getD false = false) :
    step P (lone (b.fr t d (.inRegion ops (i :: rest) :: k)) cs w) = .next (lone (b.fr (putV t ((ops[i]?).bind (·.dst)) undef) d (.inRegion ops rest :: k)) cs w) := by
  rw [← fin_op]
  exact step_lone_go (by
    have h' := h
    simp only [Base.fr] at *
    simp [stepG, stepG.exec, h'])

theorem stepG_oper {ops : Array Oper} {i : Nat} {rest : List Nat} {o : Oper} (ho : ops[i]? = some o) (hw : Region.wanted o (yielded ops t) = true)
    (hd : ∀ c, o.op ≠ .defer c) :
    stepG P true { frame := b.fr t d (.inRegion ops (i :: rest) :: k), callers := cs, status := .running, dying := none } w =
      stepG.apply P true (b.fr t d (.inRegion ops (i :: rest) :: k)) cs none (execOp (ev t) o) w := by
  have he := Base.eval b t d (.inRegion ops (i :: rest) :: k)
  simp only [Base.fr] at he
  simp only [stepG, stepG.exec, stepG.oper, Frame.oper?, Base.fr, ho, hw, he, Option.map_some, Option.getD_some, if_true]
  split
  · rename_i c _ e; exact absurd e (hd c)
  · rfl

theorem s_value {ops : Array Oper} {i : Nat} {rest : List Nat} {o : Oper} {v : Value} {w' : World} (ho : ops[i]? = some o) (hw : Region.wanted o (yielded ops t) = true)
    (hd : ∀ c, o.op ≠ .defer c) (hr : (execOp (ev t) o).run P w = .ok (.value v) w') :
    step P (lone (b.fr t d (.inRegion ops (i :: rest) :: k)) cs w) = .next (lone (b.fr (putV t o.dst v) d (.inRegion ops rest :: k)) cs w') := by
  refine step_lone_go ?_
  rw [stepG_oper ho hw hd]
  have := fin_op (b := b) (t := t) (d := d) (k := k) (ops := ops) (i := i) (rest := rest) (v := v)
  rw [ho] at this
  simp only [Option.bind_some] at this
  rw [← this]
  simp [stepG.apply, hr]

theorem s_skipOp {ops : Array Oper} {i : Nat} {rest : List Nat} {o : Oper} {w' : World} (ho : ops[i]? = some o) (hw : Region.wanted o (yielded ops t) = true)
    (hd : ∀ c, o.op ≠ .defer c) (hr : (execOp (ev t) o).run P w = .ok .skip w') :
    step P (lone (b.fr t d (.inRegion ops (i :: rest) :: k)) cs w) = .next (lone (b.fr (putV t o.dst undef) d (.inRegion ops rest :: k)) cs w') := by
  refine step_lone_go ?_
  rw [stepG_oper ho hw hd]
  have := fin_op (b := b) (t := t) (d := d) (k := k) (ops := ops) (i := i) (rest := rest) (v := undef)
  rw [ho] at this
  simp only [Option.bind_some] at this
  rw [← this]
  simp [stepG.apply, hr]

theorem s_enter {ops : Array Oper} {i : Nat} {rest : List Nat} {o : Oper} {f : FuncId} {args : Array Value} {w' : World} (ho : ops[i]? = some o)
    (hw : Region.wanted o (yielded ops t) = true) (hd : ∀ c, o.op ≠ .defer c) (hr : (execOp (ev t) o).run P w = .ok (.enter f args) w') :
    step P (lone (b.fr t d (.inRegion ops (i :: rest) :: k)) cs w) = .next (lone (Frame.enter P f args .normal) (b.fr t d (.inRegion ops (i :: rest) :: k) :: cs) w') := by
  refine step_lone_go ?_
  rw [stepG_oper ho hw hd]
  simp [stepG.apply, hr, Base.fr]

theorem s_round {ops : Array Oper} {i : Nat} {rest : List Nat} {o : Oper} {l f : Nat} {t' : Array Value} {as bo : Code} {w' : World} (ho : ops[i]? = some o)
    (hw : Region.wanted o (yielded ops t) = true) (hd : ∀ c, o.op ≠ .defer c) (hr : (execOp (ev t) o).run P w = .ok (.round l f t' as bo) w') :
    step P (lone (b.fr t d (.inRegion ops (i :: rest) :: k)) cs w) = .next (lone (Frame.round l f t' as bo .normal) (b.fr t d (.inRegion ops (i :: rest) :: k) :: cs) w') := by
  refine step_lone_go ?_
  rw [stepG_oper ho hw hd]
  simp [stepG.apply, hr]

theorem s_panicOp {ops : Array Oper} {i : Nat} {rest : List Nat} {o : Oper} {v : Value} {w' : World} (ho : ops[i]? = some o)
    (hw : Region.wanted o (yielded ops t) = true) (hd : ∀ c, o.op ≠ .defer c) (hr : (execOp (ev t) o).run P w = .halt (.panic v) w') :
    step P (lone (b.fr t d (.inRegion ops (i :: rest) :: k)) cs w) =
      .next (lone { b.fr t d (.inRegion ops (i :: rest) :: k) with mode := .panicking [{ v, recovered := false }] } cs w') := by
  refine step_lone_go ?_
  rw [stepG_oper ho hw hd]
  simp [stepG.apply, hr, Frame.raise]
  rfl
end
end AI
end

section
namespace AI
open Go

inductive PV where
  | int (k : IntKind) (n : Int)
  | bool (b : Bool)
  | str (s : List UInt8)
  | list (rows : List (List PV))
  | nilp
  | ptr (row : List PV)
  | nili
  | iface (t : Nat) (x : PV)
  | ifaceR (t : Nat) (row : List PV)
  deriving Inhabited
abbrev Row := List PV
abbrev Rows := List Row

inductive LV where
  | pv (p : PV)
  | prow (r : Row)
  | row (l : List LV)
  | tup (l : List LV)
  | nils
  | nilf
  | ref (id ver : Nat)
  | full (rows : Rows)
  | fp (r : Row) (off : Nat)
  | ptr (id off : Nat)
  | elt (id ver i off : Nat)
  | clo (f : Nat) (first caps : List LV)
  | yld (id : Nat)
  | ifc (t : Nat) (x : LV)
  | opt (g : Bool) (gt : Nat) (want : Bool) (x : LV)
  | bad
  deriving Inhabited

inductive RO where
  | t (n : Nat)
  | k (v : LV)
  | g (n : Nat)
  deriving Inhabited

/-- How an argument is handed over: as it is; frozen (a scalar, a row of n cells): its lists are sealed; lent (likewise, not sealed: the answer must lead to no list). -/
inductive AM where
  | own | frz | frzR (n : Nat) | lend | lendR (n : Nat) | lendP
  deriving Inhabited

inductive ROp where
  | mov (d : Nat) (x : RO)
  | pick (d : Nat) (c a b : RO)
  | alloc (d ty : Nat) (zero : List LV)
  | box (d n : Nat) (x : RO)
  | build (d : Nat) (zero : List LV) (parts : List (Nat × Nat × RO))
  | mksl (d sz : Nat) (parts : List RO)
  | load (d : Nat) (agg : Bool) (n : Nat) (a : RO)
  | store (n : Nat) (a x : RO)
  | nilck (d : Nat) (x : RO)
  | bin (d cls : Nat) (op : BinOp) (x y : RO)
  | un (d : Nat) (op : UnOp) (x : RO)
  | conv (d : Nat) (k : IntKind) (x : RO)
  | fieldA (d : Nat) (x : RO) (off : Nat)
  | part (d : Nat) (agg : Bool) (n : Nat) (x : RO) (off : Nat)
  | idxA (d sz : Nat) (x i : RO)
  | idxP (d sz len : Nat) (x i : RO)
  | idx (d : Nat) (x i : RO)
  | idxV (d sz n : Nat) (x i : RO)
  | s2ap (d n : Nat) (x : RO)
  | len (d : Nat) (str : Bool) (x : RO)
  | sub (d : Nat) (str : Bool) (sz : Nat) (x : RO) (lo hi : Option RO)
  | subF (d sz : Nat) (x : RO) (lo hi : Option RO)
  | app (d sz bytes ety : Nat) (str : Bool) (s x : RO)
  | mk (d sz : Nat) (zero : Row) (n : RO)
  | s2b (d : Nat) (x : RO)
  | b2s (d : Nat) (x : RO)
  | mm (d : Nat) (big : Bool) (x y : RO)
  | mkif (d t : Nat) (x : RO)
  | panic (x : RO)
  | call (d : Option Nat) (f : Nat) (args : List (AM × RO))
  | callv (d : Option Nat) (f : RO) (args : List (AM × RO))
  | clo (d f : Nat) (first caps : List RO)
  | extract (d : Nat) (x : RO) (i : Nat)
  deriving Inhabited

structure GOp where
  op : ROp
  g : Option (Nat × Bool)
  deriving Inhabited

structure LoopAnn where
  keep : List Nat
  opn : List (Nat × Option Nat)
  grow : List Nat
  outs : List Nat
  deriving Inhabited

inductive RCode where
  | skip
  | region (ops : List GOp)
  | draw (ops : List GOp) (before : List Nat)
  | seq (a b : RCode)
  | cond (c : RO) (a b : RCode)
  | block (id : Nat) (c : RCode)
  | loop (ann : LoopAnn) (c : RCode)
  | rng (f : RO) (params : List Nat) (assign body : RCode)
  | exit (id : Nat)
  | ret
  deriving Inhabited

inductive Jump where
  | exit (id : Nat)
  | ret
  | busy
  deriving Inhabited

inductive Blk where
  | data (cells : List LV) (ty : Nat)
  | arr (sz ver : Nat) (fixd : Bool × Nat) (rows : Rows)
  | loop (tmps : List LV) (params : List Nat) (assign body : RCode) (pend : Option Jump)
  | dead
  deriving Inhabited

inductive Callee where
  | fn (f : Nat)
  | yld (id : Nat)

inductive Out where
  | ret (v : LV)
  | pnc (v : LV)

structure St where
  tmps : List LV
  heap : List Blk
  oks : List Bool

inductive Exit where
  | normal
  | exit (id : Nat)
  | ret
  | pnc (v : LV)

/-- What is reckoned with PVs. In proofs it is a variable, so that an evaluation stops at it. -/
structure Prims where
  bin : BinOp → PV → PV → PV
  binOk : Nat → BinOp → PV → PV → Bool
  un : UnOp → PV → PV
  unOk : UnOp → PV → Bool
  conv : IntKind → PV → PV
  convOk : IntKind → PV → Bool
  truth : PV → Bool
  isB : PV → Bool
  pick : PV → PV → PV → PV
  len : PV → PV
  lenOk : Bool → PV → Bool
  sidx : PV → PV → PV
  sidxOk : PV → PV → Bool
  cut : PV → Option PV → Option PV → PV
  cutOk : Bool → PV → Option PV → Option PV → Bool
  lidx : PV → PV → Row
  lidxOk : PV → PV → Nat → Bool
  pidx : Row → Nat → PV → Nat → Nat   -- offset of element i of size sz behind off
  pidxOk : PV → Nat → Bool
  cell : Row → Nat → PV
  sub : Row → Nat → Nat → Row
  wid : Row → Nat → Bool
  widGe : Row → Nat → Bool
  rlen : Rows → PV
  rget : Rows → Nat → Row
  rput : Rows → Nat → Nat → Row → Rows
  nat : PV → Nat
  natOk : PV → Rows → Bool
  rapp : Rows → Rows → Rows
  rows : PV → Rows
  rcut : Rows → Option PV → Option PV → Rows
  repl : PV → Row → Rows
  replOk : PV → Bool
  str : Rows → PV
  strOk : Rows → Bool
  join : Rows → Row
  joinOk : Rows → Nat → Bool
  mm : Bool → PV → PV → PV
  mmOk : PV → PV → Bool
  glob : Nat → Row
  rowsOk : Bool → PV → Nat → Bool
  lim : Rows → Nat → Bool
  flat : PV → Bool
  flatR : Row → Bool
  and : Bool → Bool → Bool
  imp : Bool → Bool → Bool
  gd : PV → Bool → Bool
  chk : List Bool → Bool
end AI
end

section
namespace AI
open Go

/-- What is known of a list's elements behind an append. -/
def fxApp (f : Bool × Nat) (s ety : Nat) : Bool × Nat := (f.1, if s = 0 then ety else if f.2 = ety then ety else 0)

section
variable (M : Prims)

def evalO (t : List LV) : RO → LV
  | .t n => t.getD n .bad
  | .k v => v
  | .g n => .fp (M.glob n) 0

/-- An operand, and what must hold for it to be there. -/
def strip : LV → LV × List Bool
  | .opt gb _ _ x => (x, [gb])
  | x => (x, [])
def sv (t : List LV) (o : RO) : LV × List Bool := strip (evalO M t o)

def LV.sc : LV → Bool
  | .row _ | .prow _ | .tup _ | .opt .. | .bad => false
  | _ => true

def cellsOf (n : Nat) : LV → Option (List LV)
  | .row l => if l.length = n then some l else none
  | .prow r => some ((List.range n).map fun i => .pv (M.cell r i))
  | x => if x.sc && n == 1 then some [x] else none

def widOk (n : Nat) : LV → List Bool
  | .prow r => [M.wid r n]
  | _ => []

def allPV : List LV → Option Row
  | [] => some []
  | .pv p :: l => match allPV l with | some r => some (p :: r) | none => none
  | _ => none

def mkAgg (l : List LV) : LV := match allPV l with | some r => .prow r | none => .row l

def splice (cells : List LV) (off : Nat) : List LV → List LV
  | [] => cells
  | x :: l => splice (cells.set off x) (off + 1) l

def impAll (b : Bool) : List Bool → List Bool
  | [] => []
  | k :: l => M.imp b k :: impAll b l

structure OpR where
  v : LV
  heap : List Blk
  oks : List Bool

mutual
/-- A scalar as a value that never changes again; its lists are sealed, a struct behind a pointer is given up. -/
def freeze : Nat → List Blk → LV → Option (PV × List Blk)
  | 0, _, _ => none
  | k + 1, h, x =>
    match x with
    | .pv p => some (p, h)
    | .nils => some (.list [], h)
    | .full rows => some (.list rows, h)
    | .fp r off => if off = 0 then some (.ptr r, h) else none
    | .ref id ver => match h[id]? with
      | some (.arr sz v f rows) => if v = ver then some (.list rows, h.set id (.arr sz v (true, f.2) rows)) else none
      | _ => none
    | .ptr id off => match h[id]? with
      | some (.data cells _) => if off = 0 then (match freezeAll k (h.set id .dead) cells with | some (r, h) => some (.ptr r, h) | none => none) else none
      | _ => none
    | .ifc t x => match freeze k h x with | some (p, h) => some (.iface t p, h) | none => none
    | _ => none
def freezeAll : Nat → List Blk → List LV → Option (Row × List Blk)
  | _, h, [] => some ([], h)
  | 0, _, _ :: _ => none
  | k + 1, h, x :: l => match freeze k h x with
    | some (p, h) => match freezeAll k h l with
      | some (r, h) => some (p :: r, h)
      | none => none
    | none => none
end

def depth : Nat := 40

/-- A struct of n cells, likewise. -/
def freezeRow (h : List Blk) (n : Nat) : LV → Option (Row × List Blk × List Bool)
  | .prow r => some (r, h, [M.wid r n])
  | x => match cellsOf M n x with
    | some l => match freezeAll depth h l with | some (r, h) => some (r, h, []) | none => none
    | none => none

/-- The rows of a list that is read. -/
def rowsOf (h : List Blk) (str : Bool) (sz : Nat) : LV → Option (Rows × List Bool)
  | .pv p => some (M.rows p, [M.rowsOk str p sz])
  | .nils => if str then none else some ([], [])
  | .full rows => if str then none else some (rows, [M.rowsOk false (.list rows) sz])
  | .ref id ver => match h[id]? with
    | some (.arr s v _ rows) => if v = ver && s == sz && !str then some (rows, []) else none
    | _ => none
  | _ => none

def lit? : LV → Option Nat
  | .pv (.int _ (.ofNat n)) => some n
  | _ => none

def eqNil : Nat → LV → LV → Option Bool
  | 4, .nilf, .nilf => some true
  | 4, .clo .., .nilf | 4, .yld _, .nilf | 4, .nilf, .clo .. | 4, .nilf, .yld _ => some false
  | 2, .ptr .., .pv .nilp | 2, .fp .., .pv .nilp | 2, .elt .., .pv .nilp => some false
  | 3, .ifc .., .pv .nili => some false
  | _, _, _ => none

def nilOp (op : BinOp) (b : Bool) : Option LV :=
  match op with
  | .eql => some (.pv (.bool b))
  | .neq => some (.pv (.bool !b))
  | _ => none

def buildParts (t : List LV) : List LV → List (Nat × Nat × RO) → Option (List LV × List Bool)
  | cells, [] => some (cells, [])
  | cells, (off, n, o) :: l => match cellsOf M n (sv M t o).1 with
    | some cs => match buildParts t (splice cells off cs) l with
      | some (r, ks) => some (r, (sv M t o).2 ++ widOk M n (sv M t o).1 ++ ks)
      | none => none
    | none => none

def rowParts (t : List LV) (sz : Nat) : List Blk → List RO → Option (Rows × List Blk × List Bool)
  | h, [] => some ([], h, [])
  | h, o :: l => match freezeRow M h sz (sv M t o).1 with
    | some (r, h, k1) => match rowParts t sz h l with
      | some (rs, h, k2) => some (r :: rs, h, (sv M t o).2 ++ k1 ++ k2)
      | none => none
    | none => none

/-! ### What a call is handed of the heap -/
mutual
def idsOf : LV → List Nat
  | .ref id _ | .ptr id _ | .elt id _ _ _ | .yld id => [id]
  | .row l | .tup l => idsOfs l
  | .clo _ a b => idsOfs a ++ idsOfs b
  | .ifc _ x | .opt _ _ _ x => idsOf x
  | _ => []
def idsOfs : List LV → List Nat
  | [] => []
  | x :: l => idsOf x ++ idsOfs l
end
def Blk.ids : Blk → List Nat
  | .data cells _ => idsOfs cells
  | .loop tmps .. => idsOfs tmps
  | _ => []
def addNew : List Nat → List Nat → List Nat
  | seen, [] => seen
  | seen, i :: l => if seen.contains i then addNew seen l else addNew (seen ++ [i]) l
/-- All blocks to which those of a list lead (the list from place 'k' on hasn't been looked at). -/
def reach (h : List Blk) : Nat → Nat → List Nat → List Nat
  | 0, _, seen => seen
  | n + 1, k, seen => match seen[k]? with
    | none => seen
    | some i => reach h n (k + 1) (addNew seen ((h.getD i .dead).ids))
def reachable (h : List Blk) (l : List Nat) : List Nat := reach h (h.length + 1) 0 (addNew [] l)

def verOf (h : List Blk) (id : Nat) : Option Nat :=
  match h[id]? with
  | some (.arr _ v _ _) => some v
  | _ => none

def posIn (i : Nat) : List Nat → Nat → Option Nat
  | [], _ => none
  | j :: l, k => if j = i then some k else posIn i l (k + 1)

-- New names: a block's by 'ri', a list's version by 'rv'.
mutual
def ren (ri : Nat → Option Nat) (rv : Nat → Nat → Option Nat) : LV → LV
  | .ref id ver => match ri id, rv id ver with
    | some i, some v => .ref i v
    | _, _ => .bad
  | .ptr id o => match ri id with | some i => .ptr i o | none => .bad
  | .elt id ver i o => match ri id, rv id ver with
    | some j, some v => .elt j v i o
    | _, _ => .bad
  | .yld id => match ri id with | some i => .yld i | none => .bad
  | .row l => .row (rens ri rv l)
  | .tup l => .tup (rens ri rv l)
  | .clo f a b => .clo f (rens ri rv a) (rens ri rv b)
  | .ifc t x => .ifc t (ren ri rv x)
  | .opt .. => .bad
  | x => x
def rens (ri : Nat → Option Nat) (rv : Nat → Nat → Option Nat) : List LV → List LV
  | [] => []
  | x :: l => ren ri rv x :: rens ri rv l
end

def renBlk (ri : Nat → Option Nat) (rv : Nat → Nat → Option Nat) (id : Nat) : Blk → Blk
  | .data cells ty => .data (rens ri rv cells) ty
  | .arr sz ver f rows => .arr sz ((rv id ver).getD 0) f rows
  | .loop tmps ps a b p => .loop (rens ri rv tmps) ps a b p
  | .dead => .dead

def renBlks (h : List Blk) (ri : Nat → Option Nat) (rv : Nat → Nat → Option Nat) : List Nat → List Blk
  | [] => []
  | i :: l => renBlk ri rv i (h.getD i .dead) :: renBlks h ri rv l

/-- Versions: those of today become 0, elder ones fall. -/
def toZero (h : List Blk) (id ver : Nat) : Option Nat :=
  match verOf h id with
  | some v => if v = ver then some 0 else none
  | none => none

/-- What is handed over: the names, the values, the blocks. -/
def handOver (h : List Blk) (args : List LV) : List Nat × List LV × List Blk :=
  let R := reachable h (idsOfs args)
  let ri := fun i => posIn i R 0
  (R, rens ri (toZero h) args, renBlks h ri (toZero h) R)

def backId (R : List Nat) (base : Nat) (j : Nat) : Nat :=
  match R[j]? with
  | some i => i
  | none => base + (j - R.length)
def backVer (h : List Blk) (R : List Nat) (j ver : Nat) : Nat :=
  match R[j]? with
  | some i => (verOf h i).getD 0 + ver
  | none => ver

abbrev backR (R : List Nat) (base : Nat) : Nat → Option Nat := fun k => some (backId R base k)
abbrev backV (h : List Blk) (R : List Nat) : Nat → Nat → Option Nat := fun k v => some (backVer h R k v)

/-- The heap behind a call: what was handed over is laid back, what is new stands behind. -/
def layOld (h : List Blk) (R : List Nat) (h2 : List Blk) : Nat → List Blk → List Blk
  | _, [] => []
  | i, b :: l => (match posIn i R 0 with
    | some j => renBlk (backR R h.length) (backV h R) j (h2.getD j .dead)
    | none => b) :: layOld h R h2 (i + 1) l
def layNew (h : List Blk) (R : List Nat) : Nat → List Blk → List Blk
  | _, [] => []
  | j, b :: l => renBlk (backR R h.length) (backV h R) j b :: layNew h R (j + 1) l

def takeBack (h : List Blk) (R : List Nat) (h2 : List Blk) (v : LV) : LV × List Blk :=
  (ren (backR R h.length) (backV h R) v, layOld h R h2 0 h ++ layNew h R R.length (h2.drop R.length))

mutual
/-- Does a value lead to no list? -/
def flatL : LV → Option (List Bool)
  | .pv p => some [M.flat p]
  | .prow r => some [M.flatR r]
  | .tup l | .row l => flatLs l
  | _ => none
def flatLs : List LV → Option (List Bool)
  | [] => some []
  | x :: l => match flatL x, flatLs l with
    | some a, some b => some (a ++ b)
    | _, _ => none
end

structure ArgR where
  args : List LV
  heap : List Blk      -- what is sealed is sealed
  lent : Bool
  oks : List Bool

def isRow : LV → Bool
  | .row _ | .prow _ => true
  | _ => false

/-- A struct of cells that never change again, lent by its address. -/
def lendP (h : List Blk) : LV → Option Row
  | .ptr id off => match h[id]? with
    | some (.data cells _) => if off = 0 then allPV cells else none
    | _ => none
  | .fp r off => if off = 0 then some r else none
  | .pv (.ptr r) => some r
  | _ => none

def argOf (h : List Blk) : AM → LV → Option (LV × List Blk × List Bool)
  | .own, x => some (x, h, [])
  | .frz, x => match freeze depth h x with | some (p, h') => some (.pv p, h', []) | none => none
  | .frzR n, x => if isRow x then (match freezeRow M h n x with | some (r, h', k) => some (.prow r, h', k) | none => none) else none
  | .lendP, x => match lendP h x with | some r => some (.fp r 0, h, []) | none => none
  | _, _ => none
def AM.lent : AM → Bool
  | .lend | .lendR _ | .lendP => true
  | _ => false

/-- The arguments as they are handed over. (What a lent one leads to is read as it is; it stays unsealed.) -/
def prep (t : List LV) : List Blk → List (AM × RO) → Option ArgR
  | h, [] => some ⟨[], h, false, []⟩
  | h, (m, o) :: l =>
    match argOf M h m (sv M t o).1 with
    | some (x, h1, k1) => match prep t h1 l with
      | some r => some ⟨x :: r.args, r.heap, r.lent || m.lent, (sv M t o).2 ++ k1 ++ r.oks⟩
      | none => none
    | none => none

inductive Res where
  | ok (r : OpR)
  | pnc (x : LV) (heap : List Blk) (oks : List Bool)

variable (S : Callee → List LV → List Blk → Option (Out × List Blk))

/-- What an answer makes of the caller. -/
def behind (a : ArgR) (R : List Nat) : Option (Out × List Blk) → Option Res
  | none => none
  | some (.ret v, h2) =>
    let b := takeBack a.heap R h2 v
    if a.lent = true then (match R, h2, flatL M b.1 with | [], [], some k => some (.ok ⟨b.1, a.heap, a.oks ++ k⟩) | _, _, _ => none)
    else if Nat.ble R.length h2.length = true then some (.ok ⟨b.1, b.2, a.oks⟩) else none
  | some (.pnc v, h2) =>
    let b := takeBack a.heap R h2 v
    if a.lent = true then none else some (.pnc b.1 b.2 a.oks)

def callFn (f : Nat) (first caps : List LV) (t : List LV) (h : List Blk) (args : List (AM × RO)) : Option Res :=
  match prep M t h args with
  | none => none
  | some a =>
    let o := handOver a.heap (first ++ a.args ++ caps)
    if o.1.all (fun i => Nat.blt i a.heap.length) = true then behind M a o.1 (S (.fn f) o.2.1 o.2.2) else none
def callYld (id : Nat) (t : List LV) (h : List Blk) (args : List (AM × RO)) : Option Res :=
  match prep M t h args with
  | none => none
  | some a =>
    let o := handOver a.heap (.yld id :: a.args)
    if o.1.all (fun i => Nat.blt i a.heap.length) = true then (match o.2.1 with
      | .yld j :: l => behind M a o.1 (S (.yld j) l o.2.2)
      | _ => none) else none
def callRun (c : Callee) (first caps : List LV) (t : List LV) (h : List Blk) (args : List (AM × RO)) : Option Res :=
  match c with
  | .fn f => callFn M S f first caps t h args
  | .yld id => callYld M S id t h args

def pvOf (t : List LV) (o : RO) : Option (PV × List Bool) :=
  match sv M t o with
  | (.pv p, k) => some (p, k)
  | _ => none
def pvOf? (t : List LV) : Option RO → Option (Option PV × List Bool)
  | none => some (none, [])
  | some o => match pvOf M t o with | some (p, k) => some (some p, k) | none => none

def okAll (t : List LV) : List RO → List Bool
  | [] => []
  | o :: l => (sv M t o).2 ++ okAll t l

def opRun (o : ROp) (t : List LV) (h : List Blk) : Option Res :=
  match o with
  | .mov _ x => some (.ok ⟨(sv M t x).1, h, (sv M t x).2⟩)
  | .pick _ c a b => match sv M t c, sv M t a, sv M t b with
    | (.pv c, k), (.pv a, ka), (.pv b, kb) => some (.ok ⟨.pv (M.pick c a b), h, k ++ [M.isB c] ++ impAll M (M.gd c true) ka ++ impAll M (M.gd c false) kb⟩)
    | (.pv c, k), (.bad, _), (.pv b, kb) => some (.ok ⟨.pv b, h, k ++ [M.gd c false] ++ kb⟩)
    | (.pv c, k), (.pv a, ka), (.bad, _) => some (.ok ⟨.pv a, h, k ++ [M.gd c true] ++ ka⟩)
    | _, _, _ => none
  | .alloc _ ty z => some (.ok ⟨.ptr h.length 0, h ++ [.data z ty], []⟩)
  | .box _ n x => match cellsOf M n (sv M t x).1 with
    | some cs => some (.ok ⟨.ptr h.length 0, h ++ [.data cs 0], (sv M t x).2 ++ widOk M n (sv M t x).1⟩)
    | none => none
  | .build _ z parts => match buildParts M t z parts with
    | some (cs, k) => some (.ok ⟨mkAgg cs, h, k⟩)
    | none => none
  | .mksl _ sz parts => match rowParts M t sz h parts with
    | some (rs, h, k) => some (.ok ⟨.ref h.length 0, h ++ [.arr sz 0 (false, 0) rs], k⟩)
    | none => none
  | .load _ agg n a => match sv M t a with
    | (.ptr id off, k) => match h[id]? with
      | some (.data cells _) =>
        if off + n ≤ cells.length then some (.ok ⟨if agg then mkAgg ((cells.drop off).take n) else cells.getD off .bad, h, k⟩) else none
      | _ => none
    | (.fp r off, k) => some (.ok ⟨if agg then .prow (M.sub r off n) else .pv (M.cell r off), h, M.widGe r (off + n) :: k⟩)
    | (.elt id ver i off, k) => match h[id]? with
      | some (.arr sz v _ rows) => if v = ver && off + n ≤ sz then some (.ok ⟨if agg then .prow (M.sub (M.rget rows i) off n) else .pv (M.cell (M.rget rows i) off), h, k⟩) else none
      | _ => none
    | _ => none
  | .store n a x => match sv M t a, sv M t x with
    | (.ptr id off, k1), (x, k2) => match h[id]? with
      | some (.data cells ty) => match cellsOf M n x with
        | some cs => if off + n ≤ cells.length then some (.ok ⟨.bad, h.set id (.data (splice cells off cs) ty), k1 ++ k2 ++ widOk M n x⟩) else none
        | none => none
      | _ => none
    | (.elt id ver i off, k1), (x, k2) => match h[id]? with
      | some (.arr sz v f _) => if v = ver && off + n ≤ sz && !f.1 then
          (match freezeRow M h n x with
          | some (r, h', k3) => match h'[id]? with
            | some (.arr sz' v' (false, ty') rows') => if v' = ver && sz' == sz then some (.ok ⟨.bad, h'.set id (.arr sz' v' (false, ty') (M.rput rows' i off r)), k1 ++ k2 ++ k3⟩) else none
            | _ => none
          | none => none)
        else none
      | _ => none
    | _, _ => none
  | .nilck _ x => match sv M t x with
    | (.ptr id off, k) => some (.ok ⟨.ptr id off, h, k⟩)
    | (.fp r off, k) => some (.ok ⟨.fp r off, h, k⟩)
    | (.elt a b c d, k) => some (.ok ⟨.elt a b c d, h, k⟩)
    | (.clo a b c, k) => some (.ok ⟨.clo a b c, h, k⟩)
    | (.yld a, k) => some (.ok ⟨.yld a, h, k⟩)
    | _ => none
  | .bin _ cls op x y => match sv M t x, sv M t y with
    | (x, k1), (y, k2) => match x, y with
      | .pv p, .pv q => some (.ok ⟨.pv (M.bin op p q), h, k1 ++ k2 ++ [M.binOk cls op p q]⟩)
      | x, y => match eqNil cls x y with
        | some b => match nilOp op b with | some v => some (.ok ⟨v, h, k1 ++ k2⟩) | none => none
        | none => none
  | .un _ op x => match pvOf M t x with
    | some (p, k) => some (.ok ⟨.pv (M.un op p), h, k ++ [M.unOk op p]⟩)
    | none => none
  | .conv _ c x => match pvOf M t x with
    | some (p, k) => some (.ok ⟨.pv (M.conv c p), h, k ++ [M.convOk c p]⟩)
    | none => none
  | .fieldA _ x o => match sv M t x with
    | (.ptr id off, k) => some (.ok ⟨.ptr id (off + o), h, k⟩)
    | (.fp r off, k) => some (.ok ⟨.fp r (off + o), h, k⟩)
    | (.elt a b c off, k) => some (.ok ⟨.elt a b c (off + o), h, k⟩)
    | _ => none
  | .part _ agg n x off => match sv M t x with
    | (.row l, k) => if off + n ≤ l.length then some (.ok ⟨if agg then mkAgg ((l.drop off).take n) else l.getD off .bad, h, k⟩) else none
    | (.prow r, k) => some (.ok ⟨if agg then .prow (M.sub r off n) else .pv (M.cell r off), h, k ++ [M.widGe r (off + n)]⟩)
    | _ => none
  | .idxA _ sz x i => match sv M t x, pvOf M t i with
    | (.pv p, k1), some (i, k2) => some (.ok ⟨.fp (M.lidx p i) 0, h, k1 ++ k2 ++ [M.lidxOk p i sz]⟩)
    | (.full rows, k1), some (i, k2) => some (.ok ⟨.fp (M.rget rows (M.nat i)) 0, h, k1 ++ k2 ++ [M.natOk i rows, M.wid (M.rget rows (M.nat i)) sz]⟩)
    | (.ref id ver, k1), some (i, k2) => match h[id]? with
      | some (.arr s v _ rows) => if v = ver && s == sz then some (.ok ⟨.elt id ver (M.nat i) 0, h, k1 ++ k2 ++ [M.natOk i rows]⟩) else none
      | _ => none
    | _, _ => none
  | .idxP _ sz n x i => match sv M t x with
    | (.ptr id off, k1) => match lit? (sv M t i).1 with
      | some j => if j < n then some (.ok ⟨.ptr id (off + j * sz), h, k1 ++ (sv M t i).2⟩) else none
      | none => none
    | (.fp r off, k1) => match pvOf M t i with
      | some (i, k2) => some (.ok ⟨.fp r (M.pidx r off i sz), h, k1 ++ k2 ++ [M.pidxOk i n]⟩)
      | none => none
    | _ => none
  | .idx _ x i => match sv M t x, sv M t i with
    | (.pv p, k1), (.pv i, k2) => some (.ok ⟨.pv (M.sidx p i), h, k1 ++ k2 ++ [M.sidxOk p i]⟩)
    | _, _ => none
  | .idxV _ sz n x i => match sv M t x, sv M t i with
    | (.prow r, k1), (.pv i, k2) => if sz = 1 then some (.ok ⟨.pv (M.cell r (M.pidx r 0 i 1)), h, k1 ++ k2 ++ [M.pidxOk i n, M.wid r n]⟩) else none
    | (.row l, k1), (i, k2) => match lit? i with
      | some j => if j < n && l.length == n * sz && sz == 1 then some (.ok ⟨l.getD j .bad, h, k1 ++ k2⟩) else none
      | none => none
    | _, _ => none
  | .s2ap _ n x => match sv M t x with
    | (.ref id ver, k) => match h[id]? with
      | some (.arr sz v f rows) => if v = ver && sz == 1 then some (.ok ⟨.fp (M.join rows) 0, h.set id (.arr sz v (true, f.2) rows), k ++ [M.joinOk rows n]⟩) else none
      | _ => none
    | _ => none
  | .len _ str x => match sv M t x with
    | (.pv p, k) => some (.ok ⟨.pv (M.len p), h, k ++ [M.lenOk str p]⟩)
    | (.nils, k) => if str then none else some (.ok ⟨.pv (.int .i64 0), h, k⟩)
    | (.full rows, k) => if str then none else some (.ok ⟨.pv (M.rlen rows), h, k⟩)
    | (.ref id ver, k) => match h[id]? with
      | some (.arr _ v _ rows) => if v = ver && !str then some (.ok ⟨.pv (M.rlen rows), h, k⟩) else none
      | _ => none
    | _ => none
  | .sub _ str sz x lo hi => match sv M t x, pvOf? M t lo, pvOf? M t hi with
    | (.pv p, k), some (lo, k1), some (hi, k2) => some (.ok ⟨.pv (M.cut p lo hi), h, k ++ k1 ++ k2 ++ [M.cutOk str p lo hi, M.rowsOk str p sz]⟩)
    | (.ref id ver, k), some (lo, k1), some (hi, k2) => if str then none else match lo, hi with
      | none, none => some (.ok ⟨.ref id ver, h, k⟩)
      | lo, hi => match h[id]? with
        | some (.arr s _ _ _) =>
          if s == sz || s == 0 then (match freeze depth h (.ref id ver) with
            | some (p, h) => some (.ok ⟨.pv (M.cut p lo hi), h, k ++ k1 ++ k2 ++ [M.cutOk false p lo hi]⟩)
            | none => none)
          else none
        | _ => none
    | _, _, _ => none
  | .subF _ sz x lo hi => match sv M t x, pvOf? M t lo, pvOf? M t hi with
    | (.pv p, k), some (lo, k1), some (hi, k2) => some (.ok ⟨.full (M.rcut (M.rows p) lo hi), h, k ++ k1 ++ k2 ++ [M.cutOk false p lo hi, M.rowsOk false p sz]⟩)
    | _, _, _ => none
  | .app _ sz b ety str s x => match rowsOf M h str sz (sv M t x).1, sv M t s with
    | some (rows2, k2), (.nils, k1) => some (.ok ⟨.ref h.length 0, h ++ [.arr sz 0 (false, ety) rows2], (sv M t x).2 ++ k2 ++ k1 ++ [M.lim rows2 b]⟩)
    | some (rows2, k2), (.full rows1, k1) => some (.ok ⟨.ref h.length 0, h ++ [.arr sz 0 (false, ety) (M.rapp rows1 rows2)], (sv M t x).2 ++ k2 ++ k1 ++ [M.natOk (.int .i64 0) rows2, M.rowsOk false (.list rows1) sz, M.lim (M.rapp rows1 rows2) b]⟩)
    | some (rows2, k2), (.ref id ver, k1) => match h[id]? with
      | some (.arr s v f rows1) => if v = ver && (s == sz || s == 0) then
          some (.ok ⟨.ref id (ver + 1), h.set id (.arr sz (ver + 1) (fxApp f s ety) (M.rapp rows1 rows2)), (sv M t x).2 ++ k2 ++ k1 ++ [M.lim (M.rapp rows1 rows2) b]⟩)
        else none
      | _ => none
    | _, _ => none
  | .mk _ sz z n => match pvOf M t n with
    | some (p, k) => some (.ok ⟨.ref h.length 0, h ++ [.arr sz 0 (false, 0) (M.repl p z)], k ++ [M.replOk p]⟩)
    | none => none
  | .s2b _ x => match pvOf M t x with
    | some (p, k) => some (.ok ⟨.ref h.length 0, h ++ [.arr 1 0 (false, 0) (M.rows p)], k ++ [M.rowsOk true p 1]⟩)
    | none => none
  | .b2s _ x => match rowsOf M h false 1 (sv M t x).1 with
    | some (rows, k) => some (.ok ⟨.pv (M.str rows), h, (sv M t x).2 ++ k ++ [M.strOk rows]⟩)
    | none => none
  | .mm _ big x y => match pvOf M t x, pvOf M t y with
    | some (p, k1), some (q, k2) => some (.ok ⟨.pv (M.mm big p q), h, k1 ++ k2 ++ [M.mmOk p q]⟩)
    | _, _ => none
  | .mkif _ ty x => match sv M t x with
    | (.pv p, k) => some (.ok ⟨.pv (.iface ty p), h, k⟩)
    | (.prow r, k) => some (.ok ⟨.pv (.ifaceR ty r), h, k⟩)
    | (x, k) => some (.ok ⟨.ifc ty x, h, k⟩)
  | .panic x => some (.pnc (sv M t x).1 h (sv M t x).2)
  | .call _ f args => callRun M S (.fn f) [] [] t h args
  | .callv _ f args => match evalO M t f with
    | .clo f a b => callRun M S (.fn f) a b t h args
    | .yld id => callRun M S (.yld id) [] [] t h args
    | _ => none
  | .clo _ f a b => some (.ok ⟨.clo f (a.map fun o => (sv M t o).1) (b.map fun o => (sv M t o).1), h, okAll M t a ++ okAll M t b⟩)
  | .extract _ x i => match sv M t x with
    | (.tup l, k) => match l[i]? with | some v => some (.ok ⟨v, h, k⟩) | none => none
    | _ => none

def ROp.dst : ROp → Option Nat
  | .mov d _ | .pick d .. | .alloc d .. | .box d .. | .build d .. | .mksl d .. | .load d .. | .nilck d _ | .bin d .. | .un d .. | .conv d .. | .fieldA d .. | .part d .. | .idxA d .. | .idxP d .. | .idx d .. | .idxV d .. | .s2ap d .. | .len d ..
  | .sub d .. | .subF d .. | .app d .. | .mk d .. | .s2b d _ | .b2s d _ | .mm d .. | .mkif d .. | .clo d .. | .extract d .. => some d
  | .store .. | .panic _ => none
  | .call d .. | .callv d .. => d

/-- Operations that may be reckoned ahead of their guard. -/
def ROp.quiet : ROp → Bool
  | .mov .. | .bin .. | .un .. | .conv .. | .load .. | .fieldA .. | .part .. | .idxA .. | .idx .. | .idxV .. | .len .. | .nilck .. | .extract .. | .pick .. => true
  | _ => false

def put (t : List LV) (d : Option Nat) (v : LV) : List LV :=
  match d with
  | some d => t.set d v
  | none => t

/-- A guard's value. -/
def guardOf (want : Bool) : LV → Option (Bool × List Bool)
  | .pv q => some (M.gd q want, [M.isB q])
  | .opt gb _ _ (.pv q) => some (M.and gb (M.gd q want), [M.imp gb (M.isB q)])
  | .opt gb _ _ .bad => some (false, [M.imp gb false])
  | _ => none

inductive RegR where
  | ok (s : St)
  | pnc (x : LV) (s : St)

def stepG (o : GOp) (s : St) : Option RegR :=
  match o.g with
  | none => match opRun M S o.op s.tmps s.heap with
    | some (.ok r) => some (.ok ⟨put s.tmps o.op.dst r.v, r.heap, r.oks ++ s.oks⟩)
    | some (.pnc x h k) => some (.pnc x ⟨s.tmps, h, k ++ s.oks⟩)
    | none => none
  | some (gt, want) => match guardOf M want (s.tmps.getD gt .bad) with
    | none => none
    | some (b, k0) =>
      if o.op.quiet then
        (match opRun M S o.op s.tmps s.heap with
        | some (.ok r) => some (.ok ⟨put s.tmps o.op.dst (.opt b gt want r.v), r.heap, k0 ++ impAll M b r.oks ++ s.oks⟩)
        | _ => some (.ok ⟨put s.tmps o.op.dst (.opt b gt want .bad), s.heap, k0 ++ M.imp b false :: s.oks⟩))
      else if b = true then
        (match opRun M S o.op s.tmps s.heap with
        | some (.ok r) => some (.ok ⟨put s.tmps o.op.dst r.v, r.heap, k0 ++ r.oks ++ s.oks⟩)
        | some (.pnc x h k) => some (.pnc x ⟨s.tmps, h, k0 ++ k ++ s.oks⟩)
        | none => none)
      else some (.ok ⟨put s.tmps o.op.dst .bad, s.heap, k0 ++ s.oks⟩)

def runOps : List GOp → St → Option RegR
  | [], s => some (.ok s)
  | o :: l, s => match stepG M S o s with
    | some (.ok s) => runOps l s
    | r => r
end
end AI
end

section
namespace AI
open Go

structure RRes where
  cell : Bool
  t : Nat
  agg : Bool
  n : Nat
  frz : Bool
  deriving Inhabited

structure RFn where
  ntmps : Nat
  res : List RRes
  body : RCode
  deriving Inhabited

section
variable (M : Prims) (S : Callee → List LV → List Blk → Option (Out × List Blk))

/-! ### Regions whose order is open: which blocks an operation reads and writes -/
def rowIds : LV → List Nat
  | .ref id _ => [id]
  | _ => []
/-- In a region whose order is open nothing is sealed: arguments that are to be sealed lead to no block. -/
def argIds (t : List LV) : List (AM × RO) → Option (List Nat × List Nat)
  | [] => some ([], [])
  | (m, o) :: l => match argIds t l with
    | none => none
    | some (r, w) => match m with
      | .own => some (r, idsOf (sv M t o).1 ++ w)
      | .lendP => some (idsOf (sv M t o).1 ++ r, w)
      | .frz | .frzR _ => (match idsOf (sv M t o).1 with | [] => some (r, w) | _ => none)
      | _ => none
def touch (o : ROp) (t : List LV) (h : List Blk) : Option (List Nat × List Nat) :=
  let v (o : RO) := (sv M t o).1
  match o with
  | .load _ _ _ a => some (idsOf (v a), [])
  | .store _ a _ => match v a with
    | .ptr id _ => some ([], [id])
    | _ => none
  | .idxA _ _ x _ => some (rowIds (v x), [])
  | .len _ _ x | .b2s _ x => some (rowIds (v x), [])
  | .sub _ _ _ x lo hi => match v x, lo, hi with
    | .ref .., none, none => some ([], [])
    | .ref .., _, _ => none
    | _, _, _ => some ([], [])
  | .mksl .. | .s2ap .. | .panic _ => none
  | .app _ _ _ _ _ s x => some (rowIds (v x), rowIds (v s))
  | .call _ _ args => match argIds M t args with
    | some (r, w) => some (r, reachable h w)
    | none => none
  | .callv _ f args => match argIds M t args, v f with
    | some (r, w), .clo _ a b => some (r, reachable h (idsOfs a ++ w ++ idsOfs b))
    | some (r, w), .yld id => some (r, reachable h (id :: w))
    | _, _ => none
  | _ => some ([], [])

def meets : List Nat → List Nat → Bool
  | [], _ => false
  | i :: l, r => r.contains i || meets l r
def apart (a b : List Nat × List Nat) : Bool := !(meets a.2 b.1 || meets a.2 b.2 || meets a.1 b.2)

/-- All operations ahead of number j that aren't ordered ahead of it lie apart from it. -/
def apartAll (before : Nat) (f : List Nat × List Nat) : Nat → List (List Nat × List Nat) → Bool
  | _, [] => true
  | i, e :: l => (before.testBit i || apart e f) && apartAll before f (i + 1) l

def runDraw : List GOp → List Nat → List (List Nat × List Nat) → St → Option St
  | [], _, _, s => some s
  | o :: l, before, fs, s => match touch M o.op s.tmps s.heap with
    | none => none
    | some (rd, wr) => match stepG M S o s with
      | some (.ok s1) =>
        if apartAll (before.headD 0) (rd, wr ++ List.range' s.heap.length (s1.heap.length - s.heap.length)) 0 fs = true then
          runDraw l before.tail (fs ++ [(rd, wr ++ List.range' s.heap.length (s1.heap.length - s.heap.length))]) s1
        else none
      | _ => none

/-! ### Loops -/
def openAll : List (Nat × Option Nat) → List LV → List Blk → List LV × List Blk
  | [], t, h => (t, h)
  | (i, none) :: l, t, h => match t.getD i .bad with
    | .nils => openAll l (t.set i (.ref h.length 0)) (h ++ [.arr 0 0 (false, 0) []])
    | _ => openAll l t h
  | (i, some o) :: l, t, h => match t.getD i .bad with
    | .ptr id off => match h[id]? with
      | some (.data cells ty) => match cells.getD (off + o) .bad with
        | .nils => openAll l t (h.set id (.data (cells.set (off + o) (.ref h.length 0)) ty) ++ [.arr 0 0 (false, 0) []])
        | _ => openAll l t h
      | _ => openAll l t h
    | _ => openAll l t h

def forget (keep : List Nat) : Nat → List LV → List LV
  | _, [] => []
  | i, x :: l => (if keep.contains i then x else .bad) :: forget keep (i + 1) l

/-- Versions at a loop's head and at a function's end: what was handed over keeps its version (1, where the loop lets it grow); else 0. -/
def headVer (m : Nat) (grow : List Nat) (h : List Blk) (id ver : Nat) : Option Nat :=
  match verOf h id with
  | some v => if v = ver then (if grow.contains id then some 1 else if id < m then some v else some 0) else none
  | none => none

def tidy (m : Nat) (grow : List Nat) (h : List Blk) (vs : List LV) : List LV × List Blk :=
  let R := reachable h (List.range m ++ idsOfs vs)
  let ri := fun i => posIn i R 0
  (rens ri (headVer m grow h) vs, renBlks h ri (headVer m grow h) R)

def head (m : Nat) (ann : LoopAnn) (s : St) : St :=
  let o := openAll ann.opn s.tmps s.heap
  let d := tidy m ann.grow o.2 (forget ann.keep 0 o.1)
  ⟨d.1, d.2, s.oks⟩

/-- What is kept behind a loop. -/
def outOf (hd : St → St) (x : Option (Exit × St)) : Option (Exit × St) :=
  match x with
  | some (e, s) => some (e, ⟨(hd s).tmps, (hd s).heap, s.oks⟩)
  | none => none

variable (Lp : (St → St) → (St → Option (Exit × St)) → St → Option (Exit × St))

def setAll : List LV → List Nat → List LV → List LV
  | t, p :: ps, v :: vs => setAll (t.set p v) ps vs
  | t, _, _ => t

def exec (m : Nat) : RCode → St → Option (Exit × St)
  | .skip, s => some (.normal, s)
  | .region ops, s => match runOps M S ops s with
    | some (.ok s) => some (.normal, s)
    | some (.pnc x s) => some (.pnc x, s)
    | none => none
  | .draw ops before, s => match runDraw M S ops before [] s with
    | some s => some (.normal, s)
    | none => none
  | .seq a b, s => match exec m a s with
    | some (.normal, s) => exec m b s
    | r => r
  | .cond c a b, s => match evalO M s.tmps c with
    | .pv p => if M.truth p = true then exec m a ⟨s.tmps, s.heap, M.isB p :: s.oks⟩ else exec m b ⟨s.tmps, s.heap, M.isB p :: s.oks⟩
    | _ => none
  | .block id c, s => match exec m c s with
    | some (.exit i, s) => if i = id then some (.normal, s) else some (.exit i, s)
    | r => r
  | .loop ann c, s => match outOf (head m ⟨ann.outs, [], ann.grow, []⟩) (Lp (head m ann) (exec m c) ⟨(head m ann s).tmps, (head m ann s).heap, []⟩) with
    | some (e, s') => some (e, ⟨s'.tmps, s'.heap, s'.oks ++ s.oks⟩)
    | none => none
  | .rng f ps assign body, s =>
    match evalO M s.tmps f with
    | .clo fn a b =>
      match callRun M S (.fn fn) a b s.tmps (s.heap ++ [.loop s.tmps ps assign body none]) [(.own, .k (.yld s.heap.length))] with
      | some (.ok r) => match r.heap[s.heap.length]? with
        | some (.loop _ _ _ _ p) =>
          let s' : St := ⟨s.tmps, r.heap.set s.heap.length .dead, r.oks ++ s.oks⟩
          (match p with
          | none => some (.normal, s')
          | some (.exit i) => some (.exit i, s')
          | some .ret => some (.ret, s')
          | some .busy => none)
        | _ => none
      | some (.pnc x h k) => some (.pnc x, ⟨s.tmps, h, k ++ s.oks⟩)
      | none => none
    | _ => none
  | .exit id, s => some (.exit id, s)
  | .ret, s => some (.ret, s)

/-! ### Functions -/
def resOne (t : List LV) (h : List Blk) (r : RRes) : Option (LV × List Blk × List Bool) :=
  match (if r.cell then (match opRun M S (.load 0 r.agg r.n (.t r.t)) t h with | some (.ok x) => some (x.v, x.oks) | _ => none) else some (t.getD r.t .bad, [])) with
  | none => none
  | some (v, k) =>
    if r.frz then
      (if r.agg then (if isRow v then (match freezeRow M h r.n v with | some (x, h, k') => some (.prow x, h, k ++ k') | none => none) else none)
       else (match freeze depth h v with | some (p, h) => some (.pv p, h, k) | none => none))
    else some (v, h, k)
def resAll (t : List LV) : List Blk → List RRes → Option (List LV × List Blk × List Bool)
  | h, [] => some ([], h, [])
  | h, r :: l => match resOne M S t h r with
    | some (v, h, k) => match resAll t h l with
      | some (vs, h, k') => some (v :: vs, h, k ++ k')
      | none => none
    | none => none
def resVal : List LV → LV
  | [v] => v
  | l => .tup l

def runFn (fn : RFn) (args : List LV) (h : List Blk) : Option (Out × List Blk) :=
  match exec M S Lp h.length fn.body ⟨args ++ List.replicate (fn.ntmps - args.length) .bad, h, []⟩ with
  | some (.pnc x, s) => if M.chk s.oks = true then
      (match tidy h.length [] s.heap [x] with
      | (v :: _, h') => some (.pnc v, h')
      | _ => none) else none
  | some (.exit _, _) => none
  | some (_, s) => match resAll M S s.tmps s.heap fn.res with
    | some (vs, h', k) => if M.chk (k ++ s.oks) = true then
        (match tidy h.length [] h' [resVal vs] with
        | (v :: _, h'') => some (.ret v, h'')
        | _ => none) else none
    | none => none
  | none => none

def putBack (n id : Nat) (h : List Blk) (p : Option Jump) : Option (List Blk) :=
  match h[id]? with
  | some (.loop t ps assign body (some .busy)) => some (tidy n [] (h.set id (.loop t ps assign body p)) []).2
  | _ => none

/-- A round: the loop's block is marked while its body runs. -/
def runYld (id : Nat) (args : List LV) (h : List Blk) : Option (Out × List Blk) :=
  match h[id]? with
  | some (.loop t ps assign body none) =>
    if ps.length = args.length then
    (match exec M S Lp h.length assign ⟨setAll t ps args, h, []⟩ with
    | some (.normal, s1) =>
      (match s1.heap[id]? with
      | some (.loop t1 ps1 as1 bo1 none) =>
        (match exec M S Lp h.length body ⟨s1.tmps, s1.heap.set id (.loop t1 ps1 as1 bo1 (some .busy)), s1.oks⟩ with
        | some (e, s) =>
          if M.chk s.oks = true then
            (match e with
            | .pnc _ => none
            | .normal => (match putBack h.length id s.heap none with | some h => some (.ret (.pv (.bool true)), h) | none => none)
            | .exit i => (match putBack h.length id s.heap (some (.exit i)) with | some h => some (.ret (.pv (.bool false)), h) | none => none)
            | .ret => (match putBack h.length id s.heap (some .ret) with | some h => some (.ret (.pv (.bool false)), h) | none => none))
          else none
        | none => none)
      | _ => none)
    | _ => none)
    else none
  | _ => none
end

/-! ### Rounds -/
def loopAt (M : Prims) : Nat → (St → St) → (St → Option (Exit × St)) → St → Option (Exit × St)
  | 0, _, _, _ => none
  | n + 1, hd, f, s => match f s with
    | some (.normal, s') => if M.chk s'.oks = true then loopAt M n hd f ⟨(hd s').tmps, (hd s').heap, []⟩ else none
    | some (e, s') => if M.chk s'.oks = true then some (e, ⟨s'.tmps, s'.heap, []⟩) else none
    | none => none

/-- The whole program with so many rounds: 'tab' its functions, 'ov' those that are told otherwise. -/
def run (M : Prims) (tab : Nat → Option RFn) (ov : Nat → Option ((Callee → List LV → List Blk → Option (Out × List Blk)) → List LV → List Blk → Option (Out × List Blk))) : Nat → Callee → List LV → List Blk → Option (Out × List Blk)
  | 0, _, _, _ => none
  | k + 1, .yld id, args, h => runYld M (run M tab ov k) (loopAt M k) id args h
  | k + 1, .fn f, args, h => match ov f with
    | some F => F (run M tab ov k) args h
    | none => match tab f with
      | some fn => runFn M (run M tab ov k) (loopAt M k) fn args h
      | none => none
end AI
end

section
namespace AI
open Go

abbrev Ghost := Nat → Nat
abbrev HF := Nat → Option Blk
abbrev Loc := Nat → Option (Nat × Nat)

def bstr (s : List UInt8) : ByteArray := ⟨s.toArray⟩

/-- A value that takes one cell. -/
def one : Value → Bool
  | .agg _ | .tuple _ => false
  | _ => true

inductive RP (G : Ghost) (w : World) : PV → Value → Prop where
  | int (k : IntKind) (n : Int) : RP G w (.int k n) (.int k n)
  | bool (b : Bool) : RP G w (.bool b) (.bool b)
  | str (s : List UInt8) : RP G w (.str s) (.string (bstr s))
  | nilp : RP G w .nilp (.pointer none)
  | nili : RP G w .nili .nilIface
  | list0 (a : Option Addr) (c : Nat) (ha : ∀ x, a = some x → x.spot = none) : RP G w (.list []) (.slice a 0 c)
  | list (rows : Rows) (b off c sz : Nat) (vs : Nat → Nat → Value) (hc : rows.length ≤ c)
      (hw : ∀ (i : Nat) (row : Row), rows[i]? = some row → row.length = sz)
      (hs : ∀ (i : Nat) (row : Row) (j : Nat) (p : PV), rows[i]? = some row → row[j]? = some p → w.cell? ⟨b, off + i * sz + j, none⟩ = some (vs i j) ∧ off + i * sz + j < G b)
      (hr : ∀ (i : Nat) (row : Row) (j : Nat) (p : PV), rows[i]? = some row → row[j]? = some p → RP G w p (vs i j)) :
      RP G w (.list rows) (.slice (some ⟨b, off, none⟩) rows.length c)
  | ptr (row : Row) (b off : Nat) (vs : Nat → Value)
      (hs : ∀ (j : Nat) (p : PV), row[j]? = some p → w.cell? ⟨b, off + j, none⟩ = some (vs j) ∧ off + j < G b)
      (hr : ∀ (j : Nat) (p : PV), row[j]? = some p → RP G w p (vs j)) :
      RP G w (.ptr row) (.pointer (some ⟨b, off, none⟩))
  | iface (t : Nat) (p : PV) (v : Value) (h : RP G w p v) : RP G w (.iface t p) (.iface t v)
  | ifaceR (t : Nat) (row : Row) (cs : Array Value) (hl : row.length = cs.size)
      (hr : ∀ (j : Nat) (p : PV) (c : Value), row[j]? = some p → cs[j]? = some c → RP G w p c) : RP G w (.ifaceR t row) (.iface t (.agg cs))

/-- From one world to a later one: what is sealed stays. -/
structure Evo (G : Ghost) (w : World) (G' : Ghost) (w' : World) : Prop where
  os : w'.os = w.os
  tape : w'.tape = w.tape
  output : w'.output = w.output
  size : w.heap.size ≤ w'.heap.size
  keep : ∀ b o, o < G b → o < G' b ∧ w'.cell? ⟨b, o, none⟩ = w.cell? ⟨b, o, none⟩

theorem Evo.refl (G : Ghost) (w : World) : Evo G w G w := ⟨rfl, rfl, rfl, Nat.le_refl _, fun _ _ h => ⟨h, rfl⟩⟩
theorem Evo.trans {G G1 G2 : Ghost} {w w1 w2 : World} (h : Evo G w G1 w1) (k : Evo G1 w1 G2 w2) : Evo G w G2 w2 :=
  ⟨k.os.trans h.os, k.tape.trans h.tape, k.output.trans h.output, Nat.le_trans h.size k.size, fun b o hb =>
    ⟨(k.keep b o (h.keep b o hb).1).1, (k.keep b o (h.keep b o hb).1).2.trans (h.keep b o hb).2⟩⟩

theorem RP.evo {G G' : Ghost} {w w' : World} (e : Evo G w G' w') {p : PV} {v : Value} (h : RP G w p v) : RP G' w' p v := by
  induction h with
  | int k n => exact .int k n
  | bool b => exact .bool b
  | str s => exact .str s
  | nilp => exact .nilp
  | nili => exact .nili
  | list0 a c ha => exact .list0 a c ha
  | list rows b off c sz vs hc hw hs hr ih =>
    exact .list rows b off c sz vs hc hw (fun i row j p h1 h2 => ⟨((e.keep _ _ (hs i row j p h1 h2).2).2).trans (hs i row j p h1 h2).1, (e.keep _ _ (hs i row j p h1 h2).2).1⟩) ih
  | ptr row b off vs hs hr ih =>
    exact .ptr row b off vs (fun j p h1 => ⟨((e.keep _ _ (hs j p h1).2).2).trans (hs j p h1).1, (e.keep _ _ (hs j p h1).2).1⟩) ih
  | iface t p v _ ih => exact .iface t p v ih
  | ifaceR t row cs hl hr ih => exact .ifaceR t row cs hl ih

def slv : Option (Nat × Nat) → Nat → Value
  | none, _ => .slice none 0 0
  | some (b, c), n => .slice (some ⟨b, 0, none⟩) n c

inductive RV (G : Ghost) (w : World) (h : HF) (μ : Loc) : LV → Value → Prop where
  | pv (p : PV) (v : Value) (hp : RP G w p v) : RV G w h μ (.pv p) v
  | prow (r : Row) (cs : Array Value) (hl : r.length = cs.size)
      (hr : ∀ (j : Nat) (p : PV) (c : Value), r[j]? = some p → cs[j]? = some c → RP G w p c) : RV G w h μ (.prow r) (.agg cs)
  | row (l : List LV) (cs : Array Value) (hl : l.length = cs.size)
      (hr : ∀ (j : Nat) (x : LV) (c : Value), l[j]? = some x → cs[j]? = some c → RV G w h μ x c)
      (ho : ∀ (j : Nat) (c : Value), cs[j]? = some c → one c = true) : RV G w h μ (.row l) (.agg cs)
  | tup (l : List LV) (cs : Array Value) (hl : l.length = cs.size)
      (hr : ∀ (j : Nat) (x : LV) (c : Value), l[j]? = some x → cs[j]? = some c → RV G w h μ x c) : RV G w h μ (.tup l) (.tuple cs)
  | nils : RV G w h μ .nils (.slice none 0 0)
  | nilf : RV G w h μ .nilf .nilFunc
  | ref (id ver : Nat) (a : Option Addr) (n c : Nat) (hd : ∃ b, h id = some b)
      (hv : ∀ sz v' f rows, h id = some (.arr sz v' f rows) → ver ≤ v' ∧ (v' = ver → .slice a n c = slv (μ id) rows.length)) : RV G w h μ (.ref id ver) (.slice a n c)
  | full (rows : Rows) (a : Option Addr) (hp : RP G w (.list rows) (.slice a rows.length rows.length)) : RV G w h μ (.full rows) (.slice a rows.length rows.length)
  | fp (r : Row) (off b base : Nat) (vs : Nat → Value)
      (hs : ∀ (j : Nat) (p : PV), r[j]? = some p → w.cell? ⟨b, base + j, none⟩ = some (vs j) ∧ base + j < G b)
      (hr : ∀ (j : Nat) (p : PV), r[j]? = some p → RP G w p (vs j)) : RV G w h μ (.fp r off) (.pointer (some ⟨b, base + off, none⟩))
  | ptr (id off b : Nat) (hd : ∃ b, h id = some b) (hv : ∀ cells ty, h id = some (.data cells ty) → ∃ c, μ id = some (b, c)) : RV G w h μ (.ptr id off) (.pointer (some ⟨b, off, none⟩))
  | elt (id ver i off b o : Nat) (hd : ∃ b, h id = some b)
      (hv : ∀ sz v' f rows, h id = some (.arr sz v' f rows) → ver ≤ v' ∧ (v' = ver → i < rows.length ∧ o = i * sz + off ∧ ∃ c, μ id = some (b, c))) :
      RV G w h μ (.elt id ver i off) (.pointer (some ⟨b, o, none⟩))
  | clo (f : Nat) (first caps : List LV) (fs cs : Array Value) (hl1 : first.length = fs.size) (hl2 : caps.length = cs.size)
      (h1 : ∀ (j : Nat) (x : LV) (c : Value), first[j]? = some x → fs[j]? = some c → RV G w h μ x c)
      (h2 : ∀ (j : Nat) (x : LV) (c : Value), caps[j]? = some x → cs[j]? = some c → RV G w h μ x c) : RV G w h μ (.clo f first caps) (.func (.func f) fs cs)
  | yld (id b : Nat) (hd : ∃ b, h id = some b) (hv : ∀ t ps a bo p, h id = some (.loop t ps a bo p) → ∃ c, μ id = some (b, c)) : RV G w h μ (.yld id) (.func (.yield b) #[] #[])
  | ifc (t : Nat) (x : LV) (v : Value) (hx : RV G w h μ x v) : RV G w h μ (.ifc t x) (.iface t v)
  | opt (g : Bool) (gt : Nat) (want : Bool) (x : LV) (v : Value) (hx : g = true → RV G w h μ x v) (hn : g = false → v = undef) : RV G w h μ (.opt g gt want x) v
  | bad (v : Value) : RV G w h μ .bad v

/-- From one heap to a later one: no block turns into one of another kind, a list's version tells whether it is the one that it was. -/
structure Comp (h : HF) (μ : Loc) (h' : HF) (μ' : Loc) : Prop where
  dom : ∀ id b, h id = some b → ∃ b', h' id = some b'
  data : ∀ id b cells ty, h id = some b → h' id = some (.data cells ty) → (∃ cells', b = .data cells' ty) ∧ μ' id = μ id
  arr : ∀ id b sz v f rows, h id = some b → h' id = some (.arr sz v f rows) →
    ∃ sz0 v0 f0 rows0, b = .arr sz0 v0 f0 rows0 ∧ (v0 < v ∨ (v0 = v ∧ rows0.length = rows.length ∧ sz0 = sz ∧ μ' id = μ id))
  loop : ∀ id b t ps a bo p, h id = some b → h' id = some (.loop t ps a bo p) → (∃ t' ps' a' bo' p', b = .loop t' ps' a' bo' p') ∧ μ' id = μ id

theorem Comp.refl (h : HF) (μ : Loc) : Comp h μ h μ where
  dom _ b hb := ⟨b, hb⟩
  data _ _ cells ty hb hc := ⟨⟨cells, Option.some.inj (hb.symm.trans hc)⟩, rfl⟩
  arr _ _ sz v f rows hb hc := ⟨sz, v, f, rows, Option.some.inj (hb.symm.trans hc), .inr ⟨rfl, rfl, rfl, rfl⟩⟩
  loop _ _ t ps a bo p hb hc := ⟨⟨t, ps, a, bo, p, Option.some.inj (hb.symm.trans hc)⟩, rfl⟩

theorem Comp.trans {h h1 h2 : HF} {μ μ1 μ2 : Loc} (c : Comp h μ h1 μ1) (d : Comp h1 μ1 h2 μ2) : Comp h μ h2 μ2 where
  dom id b hb := let ⟨b1, h1⟩ := c.dom id b hb; d.dom id b1 h1
  data id b cells ty hb hc := by
    obtain ⟨b1, e1⟩ := c.dom id b hb
    obtain ⟨⟨c1, rfl⟩, m1⟩ := d.data id b1 cells ty e1 hc
    obtain ⟨k, m2⟩ := c.data id b c1 ty hb e1
    exact ⟨k, m1.trans m2⟩
  arr id b sz v f rows hb hc := by
    obtain ⟨b1, e1⟩ := c.dom id b hb
    obtain ⟨sz1, v1, f1, r1, rfl, hh⟩ := d.arr id b1 sz v f rows e1 hc
    obtain ⟨sz0, v0, f0, r0, e0, hk⟩ := c.arr id b sz1 v1 f1 r1 hb e1
    refine ⟨sz0, v0, f0, r0, e0, ?_⟩
    rcases hh with hh | ⟨rfl, hl, rfl, m1⟩
    · rcases hk with hk | ⟨rfl, -, -, -⟩
      · exact .inl (Nat.lt_trans hk hh)
      · exact .inl hh
    · rcases hk with hk | ⟨rfl, hl2, rfl, m2⟩
      · exact .inl hk
      · exact .inr ⟨rfl, hl2.trans hl, rfl, m1.trans m2⟩
  loop id b t ps a bo p hb hc := by
    obtain ⟨b1, e1⟩ := c.dom id b hb
    obtain ⟨⟨t1, ps1, a1, bo1, p1, rfl⟩, m1⟩ := d.loop id b1 t ps a bo p e1 hc
    obtain ⟨k, m2⟩ := c.loop id b t1 ps1 a1 bo1 p1 hb e1
    exact ⟨k, m1.trans m2⟩

theorem RV.evo {G G' : Ghost} {w w' : World} {h h' : HF} {μ μ' : Loc} (e : Evo G w G' w') (c : Comp h μ h' μ') {x : LV} {v : Value} (r : RV G w h μ x v) : RV G' w' h' μ' x v := by
  induction r with
  | pv p v hp => exact .pv p v (hp.evo e)
  | prow r cs hl hr => exact .prow r cs hl (fun j p c h1 h2 => (hr j p c h1 h2).evo e)
  | row l cs hl hr ho ih => exact .row l cs hl ih ho
  | tup l cs hl hr ih => exact .tup l cs hl ih
  | nils => exact .nils
  | nilf => exact .nilf
  | ref id ver a n c' hd hv =>
    obtain ⟨b, hb⟩ := hd
    refine .ref id ver a n c' (c.dom id b hb) (fun sz v' f rows hh => ?_)
    obtain ⟨sz0, v0, f0, r0, rfl, hk⟩ := c.arr id b sz v' f rows hb hh
    have h0 := hv sz0 v0 f0 r0 hb
    rcases hk with hk | ⟨rfl, hl, _, m⟩
    · exact ⟨Nat.le_trans h0.1 (Nat.le_of_lt hk), fun he => by omega⟩
    · exact ⟨h0.1, fun he => by rw [h0.2 he, m, hl]⟩
  | full rows a hp => exact .full rows a (hp.evo e)
  | fp r off b base vs hs hr => exact .fp r off b base vs (fun j p h1 => ⟨((e.keep _ _ (hs j p h1).2).2).trans (hs j p h1).1, (e.keep _ _ (hs j p h1).2).1⟩) (fun j p h1 => (hr j p h1).evo e)
  | ptr id off b hd hv =>
    obtain ⟨b0, hb⟩ := hd
    refine .ptr id off b (c.dom id b0 hb) (fun cells ty hh => ?_)
    obtain ⟨⟨c0, rfl⟩, m⟩ := c.data id b0 cells ty hb hh
    rw [m]; exact hv c0 ty hb
  | elt id ver i off b o hd hv =>
    obtain ⟨b0, hb⟩ := hd
    refine .elt id ver i off b o (c.dom id b0 hb) (fun sz v' f rows hh => ?_)
    obtain ⟨sz0, v0, f0, r0, rfl, hk⟩ := c.arr id b0 sz v' f rows hb hh
    have h0 := hv sz0 v0 f0 r0 hb
    rcases hk with hk | ⟨rfl, hl, rfl, m⟩
    · exact ⟨Nat.le_trans h0.1 (Nat.le_of_lt hk), fun he => by omega⟩
    · exact ⟨h0.1, fun he => by rw [m, ← hl]; exact h0.2 he⟩
  | clo f first caps fs cs hl1 hl2 h1 h2 ih1 ih2 => exact .clo f first caps fs cs hl1 hl2 ih1 ih2
  | yld id b hd hv =>
    obtain ⟨b0, hb⟩ := hd
    refine .yld id b (c.dom id b0 hb) (fun t ps a bo p hh => ?_)
    obtain ⟨⟨t', ps', a', bo', p', rfl⟩, m⟩ := c.loop id b0 t ps a bo p hb hh
    rw [m]; exact hv _ _ _ _ _ hb
  | ifc t x v _ ih => exact .ifc t x v ih
  | opt g gt want x v _ hn ih => exact .opt g gt want x v ih hn
  | bad v => exact .bad v
end AI
end

section
namespace AI
open Go

def eqC1 : Value → LV → Bool
  | .int k n, .pv (.int k' n') => k == k' && n == n'
  | .bool b, .pv (.bool b') => b == b'
  | .string s, .pv (.str l) => s.data.toList == l
  | .slice none 0 0, .nils => true
  | .pointer none, .pv .nilp => true
  | .nilIface, .pv .nili => true
  | .nilFunc, .nilf => true
  | _, _ => false
def eqCs : List Value → List LV → Bool
  | [], [] => true
  | v :: l, x :: r => eqC1 v x && eqCs l r
  | _, _ => false
def eqC : Value → LV → Bool
  | .agg cs, .row l => eqCs cs.toList l
  | v, x => eqC1 v x

def ckRO : Operand → RO → Bool
  | .tmp n, .t m => n == m
  | .const v, .k x => eqC v x
  | .func f, .k (.clo g [] []) => f == g
  | .global g, .g n => g == n
  | _, _ => false
def ckROs : List Operand → List RO → Bool
  | [], [] => true
  | a :: l, b :: r => ckRO a b && ckROs l r
  | _, _ => false
def ckRO? : Option Operand → Option RO → Bool
  | none, none => true
  | some a, some b => ckRO a b
  | _, _ => false
def ckArgs : List Operand → List (AM × RO) → Bool
  | [], [] => true
  | a :: l, (_, b) :: r => ckRO a b && ckArgs l r
  | _, _ => false

def tsize (P : Program) (t : TypeId) : Option Nat := (P.info? t).map (·.size)
def tagg (P : Program) (t : TypeId) : Option Bool :=
  match P.underlying t with
  | some (.struct _) | some (.array _ _) => some true
  | some _ => some false
  | none => none
def tzero (P : Program) (t : TypeId) (z : List LV) : Bool :=
  match P.info? t with
  | some i => match i.zero with
    | some v => i.size == v.cells.size && eqCs v.cells.toList z
    | none => false
  | none => false
def tzeroP (P : Program) (t : TypeId) (z : Row) : Bool :=
  match P.info? t with
  | some i => match i.zero with
    | some v => i.size == v.cells.size && eqCs v.cells.toList (z.map LV.pv)
    | none => false
  | none => false
def telem (P : Program) (t : TypeId) : Option TypeId :=
  match P.underlying t with
  | some (.slice e) => some e
  | _ => none
def tarr (P : Program) (t : TypeId) : Option (Nat × TypeId) :=
  match P.underlying t with
  | some (.array n e) => some (n, e)
  | _ => none
def tfield (P : Program) (t : TypeId) (f : Nat) : Option (Nat × TypeId) :=
  match P.underlying t with
  | some (.struct fs) => (fs[f]?).map fun x => (x.offset, x.type)
  | _ => none
def isInt (P : Program) (t : TypeId) : Bool := match P.underlying t with | some (.int _) => true | _ => false
def isKind (P : Program) (t : TypeId) (k : IntKind) : Bool := match P.underlying t with | some (.int k') => k == k' | _ => false
def isStr (P : Program) (t : TypeId) : Bool := match P.underlying t with | some .string => true | _ => false
def isBytes (P : Program) (t : TypeId) : Bool := match telem P t with | some e => isKind P e .u8 | none => false

def ckParts (P : Program) (t : TypeId) : List (Nat × Operand) → List (Nat × Nat × RO) → Bool
  | [], [] => true
  | (i, x) :: l, (off, n, y) :: r =>
    ckRO x y && (match tarr P t with
      | some (_, e) => tsize P e == some n && off == i * n
      | none => match tfield P t i with
        | some (o, e) => tsize P e == some n && off == o
        | none => false) && ckParts P t l r
  | _, _ => false
def ckElems : Nat → List (Nat × Operand) → List RO → Bool
  | _, [], [] => true
  | k, (i, x) :: l, y :: r => i == k && ckRO x y && ckElems (k + 1) l r
  | _, _, _ => false

/-- All places of a struct or an array are known. -/
def tplaces (P : Program) (t : TypeId) : Bool :=
  match P.underlying t with
  | some (.array _ e) => (P.info? e).isSome
  | some (.struct fields) => (fields.toList.mapM (fun f => (P.info? f.type).map fun i => (f.offset, i.size))).isSome
  | _ => false

/-- The class of a type that is compared. -/
def tcls (P : Program) (t : TypeId) : Nat :=
  match P.underlying t with
  | some (.int _) | some .string => 0
  | some .bool => 1
  | some (.pointer _) => 2
  | some (.interface _) => 3
  | some (.func _ _ _) => 4
  | _ => 5

/-- Types whose comparisons the machine reckons: numbers, texts, truths; against nil: pointers, functions, interfaces without methods or against the literal. -/
def ckEq (P : Program) (op : BinOp) (t : TypeId) (x y : Operand) : Bool :=
  match P.underlying t with
  | some (.int _) | some .string => true
  | some .bool => match op with | .eql | .neq => true | _ => false
  | some (.pointer _) | some (.func _ _ _) => match op with | .eql | .neq => true | _ => false
  | some (.interface _) => (match op with | .eql | .neq => true | _ => false) && (Region.isConst x || Region.isConst y)
  | _ => false

def ckBuiltin (P : Program) (b : Builtin) (args : List Operand) (at_ : List TypeId) : ROp → Bool
  | .len _ str x => (b matches .len) && (match args, at_ with
    | [a], [t] => ckRO a x && (if str then isStr P t else (telem P t).isSome)
    | _, _ => false)
  | .app _ sz bytes ety str s x => (b matches .append) && (match args, at_ with
    | [a, c], [t, u] => ckRO a s && ckRO c x && !isInt P u && (match telem P t with
      | some e => (match P.info? e with | some i => e == ety && i.size == sz && decide (0 < sz) && i.bytes == bytes && decide (0 < bytes) && i.zero.any (fun z => z.cells.size == sz) | none => false) &&
        (if str then isStr P u && sz == 1 && isKind P e .u8 else telem P u == some e)
      | none => false)
    | _, _ => false)
  | .mm _ big x y => (if big then b matches .max else b matches .min) && (match args, at_ with
    | [a, c], t :: _ => ckRO a x && ckRO c y && isInt P t
    | _, _ => false)
  | _ => false

def ckOp (P : Program) (o : Oper) (r : ROp) : Bool :=
  o.dst == r.dst &&
  match o.op, r with
  | .move x, .mov _ y | .assign x, .mov _ y => ckRO x y
  | .pick c a b, .pick _ c' a' b' => ckRO c c' && ckRO a a' && ckRO b b'
  | .alloc t, .alloc _ ty z => ty == t && tzero P t z
  | .box t x, .box _ n y => tsize P t == some n && ckRO x y
  | .build t ps, .build _ z qs => tzero P t z && tplaces P t && ckParts P t ps.toList qs && qs.all fun q => decide (q.1 + q.2.1 ≤ z.length)
  | .buildSlice t n ps, .mksl _ sz qs => (match telem P t with | some e => tsize P e == some sz && (P.info? e).any (·.zero.isSome) | none => false) && n == qs.length && decide (0 < sz) && decide (n * sz ≤ 2 ^ 24) && ckElems 0 ps.toList qs
  | .load t a, .load _ ag n b => tsize P t == some n && tagg P t == some ag && (ag || n == 1) && ckRO a b
  | .store t a x, .store n b y => tsize P t == some n && ckRO a b && ckRO x y
  | .nilCheck x, .nilck _ y => ckRO x y
  | .binOp op t x y _, .bin _ c op' x' y' => op == op' && tcls P t == c && ckRO x x' && ckRO y y' && ckEq P op t x y
  | .unOp op _ x, .un _ op' x' => op == op' && ckRO x x'
  | .convert s t x, .conv _ k y => isInt P s && isKind P t k && ckRO x y
  | .convert s t x, .s2b _ y => isStr P s && isBytes P t && ckRO x y
  | .convert s t x, .b2s _ y => isBytes P s && isStr P t && ckRO x y
  | .fieldAddr t x f, .fieldA _ y o => ckRO x y && (match tfield P t f with | some (off, e) => off == o && (match tsize P e with | some n => n != 0 | none => false) | none => false)
  | .field t x f, .part _ ag n y o => ckRO x y && (match tfield P t f with | some (off, e) => off == o && tsize P e == some n && tagg P e == some ag && (ag || n == 1) | none => false)
  | .indexAddr t x i, .idxA _ sz y j => ckRO x y && ckRO i j && (match telem P t with | some e => tsize P e == some sz | none => false)
  | .indexAddr t x i, .idxP _ sz n y j => ckRO x y && ckRO i j && (match tarr P t with | some (m, e) => m == n && tsize P e == some sz | none => false)
  | .index t x i, .idx _ y j => ckRO x y && ckRO i j && isStr P t
  | .index t x i, .idxV _ sz n y j => ckRO x y && ckRO i j && (match tarr P t with | some (m, e) => m == n && tsize P e == some sz && tagg P e == some false | none => false)
  | .sliceToArrayPointer t x, .s2ap _ n y => ckRO x y && (match tarr P t with | some (m, _) => m == n && decide (0 < n) | none => false)
  | .extract x i, .extract _ y j => ckRO x y && i == j
  | .slice t x lo hi none, .sub _ str sz y lo' hi' => ckRO x y && ckRO? lo lo' && ckRO? hi hi' && (if str then isStr P t else (match telem P t with | some e => tsize P e == some sz | none => false))
  | .slice t x lo hi (some m), .subF _ sz y lo' hi' => ckRO x y && ckRO? lo lo' && ckRO? hi hi' && ckRO? (some m) hi' && (match telem P t with | some e => tsize P e == some sz | none => false)
  | .makeSlice t l c, .mk _ sz z n => ckRO l n && ckRO c n && (match telem P t with | some e => tsize P e == some sz && tzeroP P e z && decide (0 < sz) && (P.info? e).any (fun i => decide (i.bytes ≤ 2 ^ 24)) | none => false)
  | .makeFunc (.func f) a c, .clo _ g a' c' => f == g && ckROs a.toList a' && ckROs c.toList c'
  | .makeInterface t x, .mkif _ u y => t == u && ckRO x y && !(match P.underlying t with | some (.interface _) => true | none => true | _ => false)
  | .panic x, .panic y => ckRO x y
  | .call c, r => match c.callee, r with
    | .value (.func f), .call _ g args => f == g && ckArgs c.args.toList args
    | .value f, .callv _ g args => ckRO f g && ckArgs c.args.toList args
    | .builtin b, r => ckBuiltin P b c.args.toList c.argTypes.toList r
    | _, _ => false
  | _, _ => false

def ckG (P : Program) (ops : Array Oper) (o : Oper) (r : GOp) : Bool :=
  ckOp P o r.op && match o.guard, r.g with
  | none, none => true
  | some (j, want), some (t, want') => ((ops[j]?).bind (·.dst)) == some t && want == want'
  | _, _ => false
def ckOps (P : Program) (ops : Array Oper) : List Oper → List GOp → Bool
  | [], [] => true
  | o :: l, r :: q => ckG P ops o r && ckOps P ops l q
  | _, _ => false

/-! ### Regions whose order is open -/
def RO.reads : RO → List Nat
  | .t n => [n]
  | _ => []
def rosReads : List RO → List Nat
  | [] => []
  | o :: l => o.reads ++ rosReads l
def roReads? : Option RO → List Nat
  | none => []
  | some o => o.reads
def partReads : List (Nat × Nat × RO) → List Nat
  | [] => []
  | (_, _, o) :: l => o.reads ++ partReads l
def argReads : List (AM × RO) → List Nat
  | [] => []
  | (_, o) :: l => o.reads ++ argReads l

def ROp.reads : ROp → List Nat
  | .mov _ x | .box _ _ x | .nilck _ x | .un _ _ x | .conv _ _ x | .fieldA _ x _ | .part _ _ _ x _ | .s2ap _ _ x | .len _ _ x | .s2b _ x | .b2s _ x | .mkif _ _ x | .panic x | .extract _ x _ | .load _ _ _ x | .mk _ _ _ x => x.reads
  | .pick _ c a b => c.reads ++ a.reads ++ b.reads
  | .alloc .. => []
  | .build _ _ parts => partReads parts
  | .mksl _ _ parts => rosReads parts
  | .store _ a x => a.reads ++ x.reads
  | .bin _ _ _ x y | .mm _ _ x y => x.reads ++ y.reads
  | .idxA _ _ x i | .idxP _ _ _ x i | .idx _ x i | .idxV _ _ _ x i => x.reads ++ i.reads
  | .sub _ _ _ x lo hi | .subF _ _ x lo hi => x.reads ++ roReads? lo ++ roReads? hi
  | .app _ _ _ _ _ s x => s.reads ++ x.reads
  | .call _ _ args => argReads args
  | .callv _ f args => f.reads ++ argReads args
  | .clo _ _ a b => rosReads a ++ rosReads b
def GOp.reads (g : GOp) : List Nat := (match g.g with | some (t, _) => [t] | none => []) ++ g.op.reads


/-- Two operations that share no temporary but in reading. -/
def indep (a b : GOp) : Bool :=
  (match a.op.dst with | some d => !(b.reads.contains d) && !(b.op.dst == some d) | none => true) &&
  (match b.op.dst with | some d => !(a.reads.contains d) | none => true)
def ckApart (before : List Nat) (gs : List GOp) : Bool :=
  (List.range gs.length).all fun j => (List.range j).all fun i => (before.getD j 0).testBit i || indep (gs.getD i default) (gs.getD j default)
def ckBefore (ops : Array Oper) (before : List Nat) : Bool :=
  (List.range ops.size).all fun j => match ops[j]? with
    | some o => before.getD j 0 == o.after.toList.foldl (fun s e => if Region.binds .any e then s ||| 2 ^ e.on ||| before.getD e.on 0 else s) 0 && o.after.toList.all fun e => !Region.binds .any e || decide (e.on < j)
    | none => true

def noRng : RCode → Bool
  | .rng .. => false
  | .seq a b | .cond _ a b => noRng a && noRng b
  | .block _ c | .loop _ c => noRng c
  | _ => true

def ckCode (P : Program) : Code → RCode → Bool
  | .skip, .skip => true
  | .label _, .skip => true
  | .region _ ops d, .region rs => !d && ckOps P ops ops.toList rs
  | .region _ ops d, .draw rs before => d && ckOps P ops ops.toList rs && ckBefore ops before && ckApart before rs
  | .seq a b, .seq x y => ckCode P a x && ckCode P b y
  | .cond c a b, .cond c' x y => ckRO c c' && ckCode P a x && ckCode P b y
  | .block i a, .block j x => i == j && ckCode P a x
  | .loop a, .loop _ x => ckCode P a x
  | .scope a, x => ckCode P a x
  | .rangeFunc f ps a b, .rng g qs x y => ckRO f g && ps.toList == qs && noRng x && noRng y && ckCode P a x && ckCode P b y
  | .exit i, .exit j => i == j
  | .ret, .ret => true
  | _, _ => false

def ckRes (P : Program) : List ResultVar → List RRes → Bool
  | [], [] => true
  | .tmp t :: l, r :: q => !r.cell && r.t == t && ckRes P l q
  | .cell a t :: l, r :: q => r.cell && r.t == a && tsize P t == some r.n && tagg P t == some r.agg && (r.agg || r.n == 1) && ckRes P l q
  | _, _ => false
def ckFn (P : Program) (f : FuncId) (r : RFn) : Bool :=
  match P.funcs[f]? with
  | some fn => fn.ntmps == r.ntmps && ckRes P fn.results.toList r.res && (match fn.body with | some c => ckCode P c r.body | none => false)
  | none => false
end AI
end

section
namespace AI
open Go

def jumpCode : Option Jump → Option Code
  | none => none
  | some (.exit i) => some (.exit i)
  | some .ret => some .ret
  | some .busy => none

/-- One block. -/
def Own (P : Program) (G : Ghost) (w : World) (h : HF) (μ : Loc) (id : Nat) : Blk → Prop
  | .data cells ty => ∃ b c vs ty', μ id = some (b, c) ∧ w.heap[b]? = some (.cells vs ty' (0, 0)) ∧ vs.size = cells.length ∧ (G b = 0 ∧ (ty ≠ 0 → ty' = ty)) ∧
      ∀ (j : Nat) (x : LV) (v : Value), cells[j]? = some x → vs[j]? = some v → RV G w h μ x v ∧ one v = true
  | .arr sz _ f rows => (μ id = none ∧ rows = []) ∨ ∃ b c vs ty fr, μ id = some (b, c) ∧ w.heap[b]? = some (.cells vs ty fr) ∧ (∀ j, j < vs.size → ¬ (fr.1 ≤ j ∧ j < fr.2)) ∧ 0 < sz ∧ vs.size = c * sz ∧ rows.length ≤ c ∧
      (∀ (i : Nat) (row : Row), rows[i]? = some row → row.length = sz) ∧
      (∀ (i : Nat) (row : Row) (j : Nat) (p : PV), rows[i]? = some row → row[j]? = some p → ∃ v, vs[i * sz + j]? = some v ∧ RP G w p v) ∧
      G b ≤ rows.length * sz ∧ ((f.1 = false → G b = 0) ∧ (f.2 ≠ 0 → ty = f.2))
  | .loop t ps as bo p => ∃ b c L, μ id = some (b, c) ∧ w.heap[b]? = some (.loop L) ∧ L.params.toList = ps ∧ (ckCode P L.assign as && noRng as) = true ∧ (ckCode P L.body bo && noRng bo) = true ∧
      (p ≠ some .busy → L.pending = jumpCode p) ∧ (p ≠ some .busy → L.state = (if p.isNone then .ready else .done)) ∧ L.tmps.size = t.length ∧
      ∀ (j : Nat) (x : LV) (v : Value), t[j]? = some x → L.tmps[j]? = some v → RV G w h μ x v
  | .dead => True

structure HRel (P : Program) (G : Ghost) (w : World) (h : HF) (μ : Loc) : Prop where
  own : ∀ id blk, h id = some blk → Own P G w h μ id blk
  inj : ∀ i j x y b c c', h i = some x → h j = some y → x ≠ .dead → y ≠ .dead → μ i = some (b, c) → μ j = some (b, c') → i = j
  new : ∀ b, w.heap.size ≤ b → G b = 0

/-- The part of a step that no operation parts with. 'T': the blocks that it may turn. -/
structure Move (G : Ghost) (w : World) (h : HF) (μ : Loc) (T : Nat → Prop) (G' : Ghost) (w' : World) (h' : HF) (μ' : Loc) : Prop where
  evo : Evo G w G' w'
  comp : Comp h μ h' μ'
  frame : ∀ b, b < w.heap.size → (∀ id x c, T id → h id = some x → x ≠ .dead → μ id ≠ some (b, c)) → w'.heap[b]? = w.heap[b]? ∧ G' b = G b
  loc : ∀ id x' b c, h' id = some x' → x' ≠ .dead → μ' id = some (b, c) → w.heap.size ≤ b ∨ ∃ x c', h id = some x ∧ x ≠ .dead ∧ μ id = some (b, c')
  rest : ∀ id, ¬ T id → ∀ x, h id = some x → h' id = some x ∧ μ' id = μ id

theorem blk_cell {w : World} {b : Nat} {vs : Array Value} {ty : TypeId} {fr : Nat × Nat} (h : w.heap[b]? = some (.cells vs ty fr)) (o : Nat) : w.cell? ⟨b, o, none⟩ = vs[o]? := by
  simp [World.cell?, h]
theorem blk_lt {w : World} {b : Nat} {o : Obj} (h : w.heap[b]? = some o) : b < w.heap.size := (Array.getElem?_eq_some_iff.1 h).1
theorem cell_lt {w : World} {b o : Nat} {v : Value} (h : w.cell? ⟨b, o, none⟩ = some v) : b < w.heap.size := by
  unfold World.cell? at h
  cases hb : w.heap[b]? with
  | none => simp [hb] at h
  | some x => exact blk_lt hb

/-- A block that no step has turned still is what it was. -/
theorem Own.keep {P : Program} {G G' : Ghost} {w w' : World} {h h' : HF} {μ μ' : Loc} (e : Evo G w G' w') (c : Comp h μ h' μ') {id : Nat} {blk : Blk}
    (o : Own P G w h μ id blk) (hμ : μ' id = μ id) (hb : ∀ b c, μ id = some (b, c) → blk ≠ .dead → w'.heap[b]? = w.heap[b]? ∧ G' b = G b) : Own P G' w' h' μ' id blk := by
  cases blk with
  | dead => trivial
  | data cells ty0 =>
    obtain ⟨b, c0, vs, ty, h1, h2, h3, h4, h5⟩ := o
    obtain ⟨k1, k2⟩ := hb b c0 h1 (by simp)
    exact ⟨b, c0, vs, ty, hμ.trans h1, k1.trans h2, h3, ⟨k2.trans h4.1, h4.2⟩, fun j x v hx hv => ⟨(h5 j x v hx hv).1.evo e c, (h5 j x v hx hv).2⟩⟩
  | arr sz ver f rows =>
    rcases o with ⟨h1, h2⟩ | ⟨b, c0, vs, ty, fr, h1, h2, hf, hz, h3, h4, h5, h6, h7, h8⟩
    · exact .inl ⟨hμ.trans h1, h2⟩
    · obtain ⟨k1, k2⟩ := hb b c0 h1 (by simp)
      exact .inr ⟨b, c0, vs, ty, fr, hμ.trans h1, k1.trans h2, hf, hz, h3, h4, h5, fun i row j p hi hj => let ⟨v, hv, hp⟩ := h6 i row j p hi hj; ⟨v, hv, hp.evo e⟩, by rw [k2]; exact h7, ⟨fun hf => by rw [k2]; exact h8.1 hf, h8.2⟩⟩
  | loop t ps as bo p =>
    obtain ⟨b, c0, L, h1, h2, h3, h4, h5, h6, h7, h8, h9⟩ := o
    obtain ⟨k1, -⟩ := hb b c0 h1 (by simp)
    exact ⟨b, c0, L, hμ.trans h1, k1.trans h2, h3, h4, h5, h6, h7, h8, fun j x v hx hv => (h9 j x v hx hv).evo e c⟩

theorem Own.lt {P : Program} {G : Ghost} {w : World} {h : HF} {μ : Loc} {id : Nat} {blk : Blk} (o : Own P G w h μ id blk) (hd : blk ≠ .dead) {b c : Nat} (hm : μ id = some (b, c)) : b < w.heap.size := by
  cases blk with
  | dead => exact absurd rfl hd
  | data cells ty0 => obtain ⟨b1, c1, vs, ty, h1, h2, _⟩ := o; rw [hm] at h1; cases h1; exact blk_lt h2
  | arr sz ver f rows =>
    rcases o with ⟨h1, _⟩ | ⟨b1, c1, vs, ty, fr, h1, h2, _⟩
    · rw [hm] at h1; cases h1
    · rw [hm] at h1; cases h1; exact blk_lt h2
  | loop t ps as bo p => obtain ⟨b1, c1, L, h1, h2, _⟩ := o; rw [hm] at h1; cases h1; exact blk_lt h2

/-- A step turns a fitting heap into a fitting heap, if it does so for the blocks that it may turn and those that it makes. -/
theorem Move.hrel {P : Program} {G G' : Ghost} {w w' : World} {h h' : HF} {μ μ' : Loc} {T : Nat → Prop} (m : Move G w h μ T G' w' h' μ') (r : HRel P G w h μ)
    (own : ∀ id blk, h' id = some blk → (T id ∨ h id = none) → Own P G' w' h' μ' id blk)
    (inj : ∀ i j x y b c c', h' i = some x → h' j = some y → x ≠ .dead → y ≠ .dead → μ' i = some (b, c) → μ' j = some (b, c') → w.heap.size ≤ b → i = j)
    (sameId : ∀ id x' b c, h' id = some x' → x' ≠ .dead → μ' id = some (b, c) → b < w.heap.size → ∃ x c', h id = some x ∧ x ≠ .dead ∧ μ id = some (b, c'))
    (new : ∀ b, w'.heap.size ≤ b → G' b = 0) : HRel P G' w' h' μ' where
  own id blk hb := by
    by_cases hT : T id
    · exact own id blk hb (.inl hT)
    · cases hx : h id with
      | none => exact own id blk hb (.inr hx)
      | some x =>
        obtain ⟨k1, k2⟩ := m.rest id hT x hx
        obtain rfl : x = blk := Option.some.inj (k1.symm.trans hb)
        refine (r.own id x hx).keep m.evo m.comp k2 (fun b c hm hd => m.frame b ((r.own id x hx).lt hd hm) (fun j y c' hj hy hyd hm' => ?_))
        exact hT ((r.inj id j x y b c c' hx hy hd hyd hm hm') ▸ hj)
  inj i j x y b c c' hi hj hx hy hm hm' := by
    by_cases hb : w.heap.size ≤ b
    · exact inj i j x y b c c' hi hj hx hy hm hm' hb
    · obtain ⟨x0, c0, e1, e2, e3⟩ := sameId i x b c hi hx hm (by omega)
      obtain ⟨y0, c1, f1, f2, f3⟩ := sameId j y b c' hj hy hm' (by omega)
      exact r.inj i j x0 y0 b c0 c1 e1 f1 e2 f2 e3 f3
  new := new
end AI
end

section
namespace AI
open Go

def bytesLt : List UInt8 → List UInt8 → Bool
  | _, [] => false
  | [], _ :: _ => true
  | a :: x, b :: y => a < b || (a == b && bytesLt x y)

def intBin (op : BinOp) (k : IntKind) (x y : Int) : PV :=
  match op with
  | .add => .int k (k.wrap (x + y))
  | .sub => .int k (k.wrap (x - y))
  | .mul => .int k (k.wrap (x * y))
  | .quo => .int k (k.wrap (x.tdiv y))
  | .rem => .int k (x.tmod y)
  | .and => .int k (k.wrap (BitVec.ofInt k.bits x &&& BitVec.ofInt k.bits y).toNat)
  | .or => .int k (k.wrap (BitVec.ofInt k.bits x ||| BitVec.ofInt k.bits y).toNat)
  | .xor => .int k (k.wrap (BitVec.ofInt k.bits x ^^^ BitVec.ofInt k.bits y).toNat)
  | .andNot => .int k (k.wrap (BitVec.ofInt k.bits x &&& ~~~BitVec.ofInt k.bits y).toNat)
  | .shl => .int k (k.wrap (x * 2 ^ (min y.toNat k.bits)))
  | .shr => .int k (x.fdiv (2 ^ (min y.toNat k.bits)))
  | .eql => .bool (x == y)
  | .neq => .bool (x != y)
  | .lss => .bool (x < y)
  | .leq => .bool (x ≤ y)
  | .gtr => .bool (x > y)
  | .geq => .bool (x ≥ y)

def shiftOp : BinOp → Bool
  | .shl | .shr => true
  | _ => false

def pBin (op : BinOp) (p q : PV) : PV :=
  match p, q with
  | .int k x, .int _ y => intBin op k x y
  | .str a, .str b => match op with
    | .add => .str (a ++ b)
    | .eql => .bool (a == b)
    | .neq => .bool (!(a == b))
    | .lss => .bool (bytesLt a b)
    | .leq => .bool (bytesLt a b || a == b)
    | .gtr => .bool (!(bytesLt a b || a == b))
    | .geq => .bool (!bytesLt a b)
    | _ => .nilp
  | .bool a, .bool b => match op with
    | .eql => .bool (a == b)
    | .neq => .bool (!(a == b))
    | _ => .nilp
  | .nilp, .nilp | .nili, .nili => match op with
    | .eql => .bool true
    | .neq => .bool false
    | _ => .nilp
  | .ptr _, .nilp | .nilp, .ptr _ | .iface _ _, .nili | .ifaceR _ _, .nili | .nili, .iface _ _ | .nili, .ifaceR _ _ => match op with
    | .eql => .bool false
    | .neq => .bool true
    | _ => .nilp
  | _, _ => .nilp

def maxStr : Nat := 2 ^ 40

def pBinOk (cls : Nat) (op : BinOp) (p q : PV) : Bool :=
  match p, q with
  | .int k _, .int k' y => cls == 0 && if shiftOp op then decide (0 ≤ y) else (k == k' && (match op with | .quo | .rem => y != 0 | _ => true))
  | .str a, .str b => cls == 0 && match op with
    | .add => decide (a.length + b.length ≤ maxStr)
    | .eql | .neq | .lss | .leq | .gtr | .geq => true
    | _ => false
  | .bool _, .bool _ => cls == 1 && (match op with | .eql | .neq => true | _ => false)
  | .nilp, .nilp | .ptr _, .nilp | .nilp, .ptr _ => cls == 2 && (match op with | .eql | .neq => true | _ => false)
  | .nili, .nili | .iface _ _, .nili | .ifaceR _ _, .nili | .nili, .iface _ _ | .nili, .ifaceR _ _ => cls == 3 && (match op with | .eql | .neq => true | _ => false)
  | _, _ => false

def pUn (op : UnOp) (p : PV) : PV :=
  match op, p with
  | .neg, .int k n => .int k (k.wrap (0 - n))
  | .xor, .int k n => intBin .xor k (if k.signed then -1 else k.max) n
  | .not, .bool b => .bool (!b)
  | _, _ => .nilp
def pUnOk (op : UnOp) (p : PV) : Bool :=
  match op, p with
  | .neg, .int _ _ | .xor, .int _ _ | .not, .bool _ => true
  | _, _ => false

def byteRow (b : UInt8) : Row := [.int .u8 b.toNat]
def pRows : PV → Rows
  | .list rows => rows
  | .str s => s.map byteRow
  | _ => []
def pNat : PV → Nat
  | .int _ n => n.toNat
  | _ => 0
def pInt? : PV → Option Int
  | .int _ n => some n
  | _ => none
def cutAt (n : Nat) : Option PV → Nat
  | none => n
  | some p => pNat p
def pCut (p : PV) (lo hi : Option PV) : PV :=
  match p with
  | .str s => .str ((s.take (cutAt s.length hi)).drop (cutAt 0 lo))
  | .list rows => .list ((rows.take (cutAt rows.length hi)).drop (cutAt 0 lo))
  | _ => .nilp
def boundOk (y : Nat) : Option PV → Bool
  | none => true
  | some (.int _ n) => decide (0 ≤ n) && decide (n ≤ y)
  | _ => false
def pCutOk (str : Bool) (p : PV) (lo hi : Option PV) : Bool :=
  match p with
  | .str s => str && boundOk s.length hi && boundOk (cutAt s.length hi) lo
  | .list rows => !str && boundOk rows.length hi && boundOk (cutAt rows.length hi) lo
  | _ => false
def rowsWide (sz : Nat) (rows : Rows) : Bool := rows.all fun r => r.length == sz

def byteOf? : Row → Option UInt8
  | [.int .u8 n] => if 0 ≤ n ∧ n < 256 then some (UInt8.ofNat n.toNat) else none
  | _ => none

def prims (glob : Nat → Row) : Prims where
  bin := pBin
  binOk := pBinOk
  un := pUn
  unOk := pUnOk
  conv k p := match p with | .int _ n => .int k (k.wrap n) | _ => .nilp
  convOk _ p := match p with | .int _ _ => true | _ => false
  truth p := match p with | .bool b => b | _ => false
  isB p := match p with | .bool _ => true | _ => false
  pick c a b := match c with | .bool true => a | _ => b
  len p := match p with | .str s => .int .i64 s.length | .list r => .int .i64 r.length | _ => .nilp
  lenOk str p := match p with | .str _ => str | .list _ => !str | _ => false
  sidx p i := match p with | .str s => .int .u8 ((s.getD (pNat i) 0).toNat) | _ => .nilp
  sidxOk p i := match p, i with | .str s, .int _ n => decide (0 ≤ n) && decide (n < s.length) | _, _ => false
  cut := pCut
  cutOk := pCutOk
  lidx p i := match p with | .list rows => rows.getD (pNat i) [] | _ => []
  lidxOk p i sz := match p, i with | .list rows, .int _ n => decide (0 ≤ n) && decide (n < rows.length) && (rows.getD n.toNat []).length == sz | _, _ => false
  pidx _ off i sz := off + pNat i * sz
  pidxOk i n := match i with | .int _ k => decide (0 ≤ k) && decide (k < n) | _ => false
  cell r i := r.getD i .nilp
  sub r o n := (r.drop o).take n
  wid r n := r.length == n
  widGe r n := decide (n ≤ r.length)
  rlen rows := .int .i64 rows.length
  rget rows i := rows.getD i []
  rput rows i o r := rows.set i ((rows.getD i []).take o ++ r ++ (rows.getD i []).drop (o + r.length))
  nat := pNat
  natOk i rows := match i with | .int _ n => decide (0 ≤ n) && decide (n < rows.length) | _ => false
  rapp a b := a ++ b
  rows := pRows
  rowsOk str p sz := match p with | .list rows => !str && rowsWide sz rows | .str _ => str && sz == 1 | _ => false
  rcut rows lo hi := (rows.take (cutAt rows.length hi)).drop (cutAt 0 lo)
  repl p z := List.replicate (pNat p) z
  replOk p := match p with | .int _ n => decide (0 ≤ n) && decide (n ≤ 2 ^ 24) | _ => false
  str rows := .str (rows.map fun r => (byteOf? r).getD 0)
  strOk rows := rows.all fun r => (byteOf? r).isSome
  join rows := rows.flatten
  joinOk rows n := decide (n ≤ rows.length)
  mm big p q := match p, q with | .int k x, .int _ y => .int k (if big then (if x < y then y else x) else (if y < x then y else x)) | _, _ => .nilp
  mmOk p q := match p, q with | .int k _, .int k' _ => k == k' | _, _ => false
  glob := glob
  lim rows b := decide (rows.length * b ≤ 2 ^ 44)
  flat p := match p with | .int .. | .bool _ | .str _ | .nilp | .nili => true | _ => false
  flatR r := r.all fun p => match p with | .int .. | .bool _ | .str _ | .nilp | .nili => true | _ => false
  and := (· && ·)
  imp a b := !a || b
  gd p want := match p with | .bool b => b == want | _ => false
  chk l := l.all id
end AI
end

section
namespace AI
open Go

structure TR (G : Ghost) (w : World) (h : HF) (μ : Loc) (t : List LV) (a : Array Value) : Prop where
  size : t.length = a.size
  rel : ∀ (n : Nat) (x : LV) (v : Value), t[n]? = some x → a[n]? = some v → RV G w h μ x v

def GlobRel (G : Ghost) (w : World) (glob : Nat → Row) : Prop :=
  ∀ g j p, (glob g)[j]? = some p → ∃ v, w.cell? ⟨g, j, none⟩ = some v ∧ j < G g ∧ RP G w p v

theorem GlobRel.evo {G G' : Ghost} {w w' : World} {glob : Nat → Row} (e : Evo G w G' w') (r : GlobRel G w glob) : GlobRel G' w' glob := by
  intro g j p hp
  obtain ⟨v, h1, h2, h3⟩ := r g j p hp
  exact ⟨v, (e.keep g j h2).2.trans h1, (e.keep g j h2).1, h3.evo e⟩

theorem TR.evo {G G' : Ghost} {w w' : World} {h h' : HF} {μ μ' : Loc} {t : List LV} {a : Array Value} (e : Evo G w G' w') (c : Comp h μ h' μ') (r : TR G w h μ t a) : TR G' w' h' μ' t a :=
  ⟨r.size, fun n x v h1 h2 => (r.rel n x v h1 h2).evo e c⟩

section
variable {P : Program} {glob : Nat → Row} {G : Ghost} {w : World} {h : HF} {μ : Loc}

theorem TR.get {t : List LV} {a : Array Value} (r : TR G w h μ t a) (n : Nat) : RV G w h μ (t.getD n .bad) (a.getD n undef) := by
  by_cases hn : n < t.length
  · have h1 : t[n]? = some t[n] := List.getElem?_eq_getElem hn
    have h2 : a[n]? = some (a[n]'(r.size ▸ hn)) := Array.getElem?_eq_getElem (r.size ▸ hn)
    have := r.rel n _ _ h1 h2
    simpa [List.getD, h1, Array.getD, r.size ▸ hn] using this
  · have : t[n]? = none := List.getElem?_eq_none (Nat.le_of_not_lt hn)
    simp only [List.getD, this, Option.getD_none]
    exact .bad _

theorem eqC1_one {v : Value} {x : LV} (e : eqC1 v x = true) : one v = true := by
  unfold eqC1 at e; split at e <;> first | rfl | cases e
theorem eqC1_rv {v : Value} {x : LV} (e : eqC1 v x = true) : RV G w h μ x v := by
  unfold eqC1 at e
  split at e
  · simp only [Bool.and_eq_true, beq_iff_eq] at e; obtain ⟨rfl, rfl⟩ := e; exact .pv _ _ (.int _ _)
  · simp only [beq_iff_eq] at e; subst e; exact .pv _ _ (.bool _)
  · simp only [beq_iff_eq] at e; subst e; exact .pv _ _ (.str _)
  · exact .nils
  · exact .pv _ _ .nilp
  · exact .pv _ _ .nili
  · exact .nilf
  · cases e

theorem eqCs_get : ∀ {vs : List Value} {xs : List LV}, eqCs vs xs = true → vs.length = xs.length ∧ ∀ (j : Nat) (v : Value) (x : LV), vs[j]? = some v → xs[j]? = some x → eqC1 v x = true
  | [], [], _ => ⟨rfl, fun j v x h1 => by simp at h1⟩
  | v :: l, x :: r, e => by
    simp only [eqCs, Bool.and_eq_true] at e
    obtain ⟨h1, h2⟩ := eqCs_get e.2
    refine ⟨by simp [h1], fun j v' x' hv hx => ?_⟩
    cases j with
    | zero => simp at hv hx; subst hv; subst hx; exact e.1
    | succ j => simp at hv hx; exact h2 j v' x' hv hx
  | [], _ :: _, e => by simp [eqCs] at e
  | _ :: _, [], e => by simp [eqCs] at e

theorem eqC_rv {v : Value} {x : LV} (e : eqC v x = true) : RV G w h μ x v := by
  unfold eqC at e
  split at e
  · rename_i cs l
    obtain ⟨h1, h2⟩ := eqCs_get e
    refine .row l cs (by simpa using h1.symm) (fun j x c hx hc => eqC1_rv (h2 j c x (by simpa using hc) hx)) (fun j c hc => ?_)
    have hj : j < l.length := by have := (Array.getElem?_eq_some_iff.1 hc).1; simp at h1; omega
    exact eqC1_one (h2 j c l[j] (by simpa using hc) (List.getElem?_eq_getElem hj))
  · exact eqC1_rv e

theorem evalO_rv {t : List LV} {a : Array Value} (r : TR G w h μ t a) (hg : GlobRel G w glob) {x : Operand} {o : RO} (e : ckRO x o = true) : RV G w h μ (evalO (prims glob) t o) (ev a x) := by
  unfold ckRO at e
  split at e
  · simp only [beq_iff_eq] at e; subst e; exact r.get _
  · exact eqC_rv e
  · simp only [beq_iff_eq] at e; subst e
    exact .clo _ _ _ _ _ rfl rfl (fun j x c hx => by simp at hx) (fun j x c hx => by simp at hx)
  · rename_i g n
    simp only [beq_iff_eq] at e; subst e
    have := fun j p hp => hg g j p hp
    refine .fp _ 0 g 0 (fun j => ((w.cell? ⟨g, j, none⟩).getD undef)) (fun j p hp => ?_) (fun j p hp => ?_)
    · obtain ⟨v, h1, h2, h3⟩ := hg g j p hp
      simp only [Nat.zero_add, h1]; exact ⟨rfl, h2⟩
    · obtain ⟨v, h1, h2, h3⟩ := hg g j p hp
      simp only [h1]; exact h3
  · cases e

theorem strip_rv {x : LV} {v : Value} (r : RV G w h μ x v) (hk : (strip x).2.all id = true) : RV G w h μ (strip x).1 v := by
  cases r with
  | opt g gt want x v hx hn => simp only [strip, List.all_cons, id, List.all_nil, Bool.and_true] at hk ⊢; exact hx hk
  | _ => simp only [strip]; constructor <;> assumption

theorem sv_rv {t : List LV} {a : Array Value} (r : TR G w h μ t a) (hg : GlobRel G w glob) {x : Operand} {o : RO} (e : ckRO x o = true) (hk : (sv (prims glob) t o).2.all id = true) :
    RV G w h μ (sv (prims glob) t o).1 (ev a x) := strip_rv (evalO_rv r hg e) hk

theorem sv_rv' {t : List LV} {a : Array Value} (r : TR G w h μ t a) (hg : GlobRel G w glob) {x : Operand} {o : RO} (e : ckRO x o = true) {y : LV} {k : List Bool}
    (hs : sv (prims glob) t o = (y, k)) (hk : k.all id = true) : RV G w h μ y (ev a x) := by
  have := sv_rv r hg e (by rw [hs]; exact hk)
  rwa [hs] at this
end

/-! ### What the values are -/
section
variable {G : Ghost} {w : World} {h : HF} {μ : Loc}
theorem RV.pv_inv {p : PV} {v : Value} (r : RV G w h μ (.pv p) v) : RP G w p v := by cases r; assumption
theorem RP.int_inv {k : IntKind} {n : Int} {v : Value} (r : RP G w (.int k n) v) : v = .int k n := by cases r; rfl
theorem RP.bool_inv {b : Bool} {v : Value} (r : RP G w (.bool b) v) : v = .bool b := by cases r; rfl
theorem RP.nilp_inv {v : Value} (r : RP G w .nilp v) : v = .pointer none := by cases r; rfl
theorem RP.nili_inv {v : Value} (r : RP G w .nili v) : v = .nilIface := by cases r; rfl
theorem RP.ptr_inv {row : Row} {v : Value} (r : RP G w (.ptr row) v) : ∃ a, v = .pointer (some a) := by cases r; exact ⟨_, rfl⟩
theorem RP.iface_inv {t : Nat} {p : PV} {v : Value} (r : RP G w (.iface t p) v) : ∃ t x, v = .iface t x := by cases r; exact ⟨_, _, rfl⟩
theorem RP.ifaceR_inv {t : Nat} {p : Row} {v : Value} (r : RP G w (.ifaceR t p) v) : ∃ t x, v = .iface t x := by cases r; exact ⟨_, _, rfl⟩
theorem RP.str_inv {s : List UInt8} {v : Value} (r : RP G w (.str s) v) : v = .string (bstr s) := by cases r; rfl
end

/-! ### The runs -/
section
variable {P : Program} (w : World)
theorem r_underlying {t : TypeId} {d : TypeDesc} (ht : P.underlying t = some d) : (underlying t).run P w = .ok d w := by simp [underlying, ht]
theorem r_sizeOf {t : TypeId} {n : Nat} (ht : tsize P t = some n) : (Go.sizeOf t).run P w = .ok n w := by
  unfold tsize at ht
  cases hi : P.info? t with
  | none => simp [hi] at ht
  | some i => simp [hi] at ht; simp [Go.sizeOf, typeInfo, hi, ht]
theorem r_isAgg {t : TypeId} {b : Bool} (ht : tagg P t = some b) : (isAgg t).run P w = .ok b w := by
  unfold tagg at ht
  cases hu : P.underlying t with
  | none => simp [hu] at ht
  | some d =>
    simp only [hu] at ht
    unfold isAgg
    simp only [Sem.run_bind, r_underlying w hu, Result.andThen_ok]
    cases d <;> simp at ht <;> subst ht <;> rfl
end
end AI
end
