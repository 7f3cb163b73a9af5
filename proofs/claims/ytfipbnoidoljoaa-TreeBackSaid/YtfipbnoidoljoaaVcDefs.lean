/- A generator of verification conditions for the model's code: it runs a function's code on values that may hold variables, keeps the function's own boxes out of sight, and leaves a formula that speaks of the memory that others see and of calls. -/
import Derived.Test.YtfipbnoidoljoaaVcEqB
namespace Go.Vc
open Go Go.RowKit

/-! ### Values by their shape -/
inductive Sh where
  | int (k : IntKind)
  | bool
  | str
  | ptr
  | addr
  | sl
  | mp
  | any
  | nil
  | cons (a b : Sh)
  | agg (s : Sh)
  | tup (s : Sh)

@[reducible] def Sh.T : Sh → Type
  | .int _ => Int
  | .bool => Bool
  | .str => ByteArray
  | .ptr => Option Addr
  | .addr => Addr
  | .sl => Option Addr × Nat × Nat
  | .mp => Option Nat
  | .any => Value
  | .nil => Unit
  | .cons a b => a.T × b.T
  | .agg s => s.T
  | .tup s => s.T

def Sh.vals : (s : Sh) → s.T → List Value
  | .int k, x => [.int k x]
  | .bool, b => [.bool b]
  | .str, s => [.string s]
  | .ptr, a => [.pointer a]
  | .addr, a => [.pointer (some a)]
  | .sl, x => [.slice x.1 x.2.1 x.2.2]
  | .mp, r => [.map r]
  | .any, v => [v]
  | .nil, _ => []
  | .cons a b, x => a.vals x.1 ++ b.vals x.2
  | .agg s, x => [.agg (s.vals x).toArray]
  | .tup s, x => [.tuple (s.vals x).toArray]

def Sh.mk (s : Sh) (x : s.T) : Value := (s.vals x).headD undef

def Sh.get : (s : Sh) → List Value → Option (s.T × List Value)
  | .int k, l => match l with
    | .int k' n :: r => cond (decide (k' = k)) (some (n, r)) none
    | _ => none
  | .bool, l => match l with
    | .bool b :: r => some (b, r)
    | _ => none
  | .str, l => match l with
    | .string b :: r => some (b, r)
    | _ => none
  | .ptr, l => match l with
    | .pointer b :: r => some (b, r)
    | _ => none
  | .addr, l => match l with
    | .pointer (some b) :: r => some (b, r)
    | _ => none
  | .sl, l => match l with
    | .slice a n c :: r => some ((a, n, c), r)
    | _ => none
  | .mp, l => match l with
    | .map b :: r => some (b, r)
    | _ => none
  | .any, l => match l with
    | v :: r => some (v, r)
    | _ => none
  | .nil, l => some ((), l)
  | .cons a b, l => match a.get l with
    | some (x, r) => match b.get r with
      | some (y, r') => some ((x, y), r')
      | none => none
    | none => none
  | .agg s, l => match l with
    | .agg cs :: r => match s.get cs.toList with
      | some (x, []) => some (x, r)
      | _ => none
    | _ => none
  | .tup s, l => match l with
    | .tuple cs :: r => match s.get cs.toList with
      | some (x, []) => some (x, r)
      | _ => none
    | _ => none

def Sh.app : Sh → Sh → Sh
  | .nil, s => s
  | .cons a b, s => .cons a (b.app s)
  | x, s => .cons x s

def shapeBase (P : Program) (t : TypeId) : Sh :=
  match P.underlying t with
  | some .bool => .bool
  | some (.int k) => .int k
  | some .string => .str
  | some (.pointer _) => .ptr
  | some (.slice _) => .sl
  | some (.map _ _) => .mp
  | _ => .any

def flat (P : Program) : Nat → TypeId → Sh
  | 0, _ => .cons .any .nil
  | d + 1, t => match P.underlying t with
    | some (.struct fs) => fs.toList.foldr (fun f s => (flat P d f.type).app s) .nil
    | some (.array n e) => (List.replicate n ()).foldr (fun _ s => (flat P d e).app s) .nil
    | _ => .cons (shapeBase P t) .nil

def shape1 (P : Program) (t : TypeId) : Sh :=
  match P.underlying t with
  | some (.struct _) => .agg (flat P 12 t)
  | some (.array _ _) => .agg (flat P 12 t)
  | _ => shapeBase P t

def shapeOf (P : Program) (t : TypeId) : Sh :=
  match P.underlying t with
  | some (.tuple ts) => .tup (ts.toList.foldr (fun t s => .cons (shape1 P t) s) .nil)
  | _ => shape1 P t

/-- The shape of what an operation leaves. -/
def opShape (P : Program) (o : Oper) : Sh :=
  match o.op with
  | .indexAddr .. => .addr
  | .fieldAddr .. => .addr
  | .alloc _ => .addr
  | .box .. => .addr
  | .range .. => .addr
  | .buildSlice .. => .sl
  | .makeSlice .. => .sl
  | .makeMap .. => .mp
  | .binOp .eql .. => .bool
  | .binOp .neq .. => .bool
  | .binOp .lss .. => .bool
  | .binOp .leq .. => .bool
  | .binOp .gtr .. => .bool
  | .binOp .geq .. => .bool
  | .slice t .. => match P.underlying t with
    | some .string => .str
    | _ => .sl
  | _ => shapeOf P o.type

/-! ### Formulas -/
inductive Fm : Type 1 where
  | bad (why : Nat)
  | atom (p : Prop)
  | and (p : Prop) (f : Fm)
  | imp (p : Prop) (f : Fm)
  | both (f g : Fm)
  | all (α : Type) (f : α → Fm)
  | ex (α : Type) (f : α → Fm)
  | calls (P : Program) (fn : FuncId) (args : Array Value) (w : World) (k : Ending → World → Fm)
  | opw (P : Program) (s : Sem Next) (w : World) (k : Value → World → Fm)

def OpW (P : Program) (s : Sem Next) (w : World) (K : Value → World → Prop) : Prop :=
  match s.run P w with
  | .ok (.value v) w' => K v w'
  | .ok .skip w' => K undef w'
  | .ok (.enter f args) w' => Calls P f args w' fun e w'' => ∃ v, e = .returned v ∧ K v w''
  | _ => False

def Fm.den : Fm → Prop
  | .bad _ => False
  | .atom p => p
  | .and p f => p ∧ f.den
  | .imp p f => p → f.den
  | .both f g => f.den ∧ g.den
  | .all α f => ∀ x : α, (f x).den
  | .ex α f => ∃ x : α, (f x).den
  | .calls P fn args w k => Calls P fn args w fun e w' => (k e w').den
  | .opw P s w k => OpW P s w fun v w' => (k v w').den

def badT (c : Operand) (n : Nat) : Fm := .bad (match c with
  | .tmp t => n * 1000 + t
  | _ => n)

def Sh.allF : (s : Sh) → (s.T → Fm) → Fm
  | .int _, f => .all Int f
  | .bool, f => .all Bool f
  | .str, f => .all ByteArray f
  | .ptr, f => .all (Option Addr) f
  | .addr, f => .all Addr f
  | .sl, f => .all (Option Addr) fun a => .all Nat fun n => .all Nat fun c => f (a, n, c)
  | .mp, f => .all (Option Nat) f
  | .any, f => .all Value f
  | .nil, f => f ()
  | .cons a b, f => a.allF fun x => b.allF fun y => f (x, y)
  | .agg s, f => s.allF f
  | .tup s, f => s.allF f

def Sh.exF : (s : Sh) → (s.T → Fm) → Fm
  | .int _, f => .ex Int f
  | .bool, f => .ex Bool f
  | .str, f => .ex ByteArray f
  | .ptr, f => .ex (Option Addr) f
  | .addr, f => .ex Addr f
  | .sl, f => .ex (Option Addr) fun a => .ex Nat fun n => .ex Nat fun c => f (a, n, c)
  | .mp, f => .ex (Option Nat) f
  | .any, f => .ex Value f
  | .nil, f => f ()
  | .cons a b, f => a.exF fun x => b.exF fun y => f (x, y)
  | .agg s, f => s.exF f
  | .tup s, f => s.exF f

/-! ### What the formula says of worlds -/
/-- What was there is as it was. -/
structure Bel (w W : World) : Prop where
  below : Below w.heap.size w W
  drawn : w.drawn ≤ W.drawn
structure Evo (ds : List Nat) (w W : World) : Prop where
  os : W.os = w.os
  tape : W.tape = w.tape
  output : W.output = w.output
  size : w.heap.size ≤ W.heap.size
  block : ∀ b, b < w.heap.size → b ∉ ds → W.heap[b]? = w.heap[b]?
  drawn : w.drawn ≤ W.drawn

def evoP (ds : List Nat) (w W : World) : Prop :=
  match ds with
  | [] => Bel w W
  | _ :: _ => Evo ds w W

def Gives (P : Program) (s : Sem Value) (v : Value) : Prop := ∀ W, s.run P W = .ok v W
def Reads (P : Program) (ds : List Nat) (s : Sem Value) (w : World) (v : Value) : Prop := ∀ W, evoP ds w W → s.run P W = .ok v W
def Under (gs : List Nat) (W : World) : Prop := ∀ g ∈ gs, g < W.heap.size
def Keeps (gs : List Nat) (W W' : World) : Prop := ∀ g ∈ gs, W'.heap[g]? = W.heap[g]?

/-! ### The state -/
inductive Slot where
  | val (v : Value)
  | lit (b : Bool)
  | loc (j off : Nat)
  | dead

def Slot.alive : Slot → Bool
  | .dead => false
  | _ => true

def Slot.value (gs : List Nat) : Slot → Value
  | .val v => v
  | .lit b => .bool b
  | .loc j off => .pointer (some ⟨gs.getD j 0, off, none⟩)
  | .dead => undef

inductive Pend where
  | pure (i : Nat)
  | box (i g : Nat) (cells : List Value) (ty : TypeId)
  | read (i : Nat) (s : Sem Value) (v : Value)

def Pend.idx : Pend → Nat
  | .pure i => i
  | .box i _ _ _ => i
  | .read i _ _ => i

def Pend.isBox : Pend → Bool
  | .box .. => true
  | _ => false

def Pend.inGs (gs : List Nat) : Pend → Prop
  | .box _ g _ _ => g ∈ gs
  | _ => True

def Slot.okAt (m : Nat) : Slot → Prop
  | .loc j _ => j < m
  | _ => True

def Pend.holds (P : Program) : Pend → World → Prop
  | .pure _, _ => True
  | .box _ g cells ty, W => W.heap[g]? = some (.cells cells.toArray ty (0, 0))
  | .read _ s v, W => s.run P W = .ok v W

structure St where
  env : List (Nat × Slot)
  boxes : List (List Value × TypeId)
  gs : List Nat
  ro : List Nat
  w : World
  clean : Bool
  dirty : List Nat
  pend : List Pend

structure LH where
  vars : List (Tmp × Sh)
  boxes : List (Tmp × Sh)

/-- An order, with choices. -/
inductive Ot where
  | nil
  | op (i : Nat) (r : Ot)
  | alt (a b : Ot)
def Ot.depth : Ot → Nat
  | .nil => 0
  | .op _ r => r.depth + 1
  | .alt a b => max a.depth b.depth
def Ot.heads : Ot → List Nat
  | .nil => []
  | .op i _ => [i]
  | .alt a b => a.heads ++ b.heads

structure Hints where
  promo : List Tmp
  asks : List Tmp
  splits : List Tmp
  ord : List (Nat × List Nat)
  unroll : List (Nat × Nat)
  loops : List (Nat × LH)
  cuts : List (Nat × LH)
  nexts : List (Nat × Sh)
  alts : List (Nat × Ot)

def look {α : Type} : List (Nat × α) → Nat → Option α
  | [], _ => none
  | (k, v) :: r, t => cond (Nat.beq k t) (some v) (look r t)

def has (l : List Nat) (t : Nat) : Bool := l.any fun k => Nat.beq k t
def hasO (l : List Nat) (t : Option Nat) : Bool := match t with
  | some t => has l t
  | none => false

def St.slot (st : St) : Operand → Slot
  | .tmp t => (look st.env t).getD .dead
  | .const (.bool b) => .lit b
  | .const v => .val v
  | .global g => .val (.pointer (some ⟨g, 0, none⟩))
  | .func f => .val (.func (.func f) #[] #[])

def St.rho (st : St) (x : Operand) : Value := (st.slot x).value st.gs
def St.alive (st : St) (o : Oper) : Bool := o.op.operands.toList.all fun x => (st.slot x).alive

def St.set (st : St) (dst : Option Tmp) (s : Slot) : St :=
  match dst with
  | some d => { st with env := (d, s) :: st.env }
  | none => st

def St.put (st : St) (dr : Bool) (p : Pend) : St := cond dr { st with pend := p :: st.pend } st

/-! ### One operation -/
def valueS (s : Sem Value) : Sem Next := do pure (.value (← s))
def skipS (s : Sem Unit) : Sem Next := do s; pure .skip
def invokeS (f : Value) (args : Array Value) : Sem Next := do
  let d ← Deferred.ofValue f args
  invoke d.target d.args

def valSem (ρ : Operand → Value) (o : Oper) : Option (Sem Value) :=
  match o.op with
  | .load t x => some (Instr.loadAt t (ρ x))
  | .binOp op xType x y _ => some (binOpS op xType x y (ρ x) (ρ y))
  | .unOp op _ x => some (Op.unary op (ρ x))
  | .convert src dst x => some (convert src dst (ρ x))
  | .sliceToArrayPointer arr x => some (Instr.arrayAt arr (ρ x))
  | .makeInterface xType x => some (Instr.makeInterface xType (ρ x))
  | .makeFunc fn first captured => some (Instr.makeFunc fn (first.map ρ) (captured.map ρ))
  | .slice t x lo hi mx => some (Instr.sliceAt t (ρ x) (lo.map ρ) (hi.map ρ) (mx.map ρ))
  | .fieldAddr s x f => some (Instr.fieldAt s (ρ x) f)
  | .field xType x f => some (Instr.field xType (ρ x) f)
  | .indexAddr t x ix => some (Instr.indexAt t (ρ x) (ρ ix))
  | .index xType x ix => some (Instr.index xType (ρ x) (ρ ix))
  | .lookup xType x ix ok => some (Instr.lookup xType (ρ x) (ρ ix) ok)
  | .extract t ix => some (Instr.extract (ρ t) ix)
  | .build t parts => some (Instr.build t (parts.map fun (i, x) => (i, ρ x)))
  | .call c => match c.callee with
    | .builtin .len => some (Builtin.len_ c.argTypes o.type (c.args.map ρ))
    | .builtin .cap => some (Builtin.cap_ c.argTypes o.type (c.args.map ρ))
    | .builtin .min => some (Builtin.min_ c.argTypes o.type (c.args.map ρ))
    | .builtin .max => some (Builtin.max_ c.argTypes o.type (c.args.map ρ))
    | _ => none
  | _ => none

def effSem (ρ : Operand → Value) (o : Oper) : Sem Next :=
  match o.op with
  | .alloc elem => valueS (Instr.alloc elem true (.tuple #[]))
  | .box elem x => valueS (Instr.box elem (ρ x))
  | .buildSlice t len parts => valueS (Instr.buildSlice t len (parts.map fun (i, x) => (i, ρ x)))
  | .store t a x => skipS (Instr.storeAt t (ρ a) (ρ x))
  | .convert src dst x => valueS (convert src dst (ρ x))
  | .makeMap t r => valueS (Instr.makeMap t (r.map ρ))
  | .makeSlice t l c => valueS (Instr.makeSlice t (ρ l) (ρ c))
  | .mapUpdate t m k x => skipS (Instr.mapUpdate t (ρ m) (ρ k) (ρ x))
  | .insert t m k x => skipS (Instr.mapUpdate t (ρ m) (ρ k) (ρ x))
  | .mapEntry t m k => valueS (Instr.mapEntry t (ρ m) (ρ k))
  | .entryStore t m s x => skipS (Instr.entryStore t (ρ m) (ρ s) (ρ x))
  | .range xType x => valueS (Instr.range xType (ρ x))
  | .next it isString => valueS (Instr.next (ρ it) isString o.type)
  | .call c => match c.callee with
    | .builtin b => builtin b c.argTypes o.type (c.args.map fun | .const _ => true | _ => false) (c.args.map ρ)
    | .value f => invokeS (ρ f) (c.args.map ρ)
    | _ => execOp ρ o
  | _ => execOp ρ o

def isSlice (P : Program) (t : TypeId) : Bool := match P.underlying t with
  | some (.slice _) => true
  | _ => false
def isMap (P : Program) (t : TypeId) : Bool := match P.underlying t with
  | some (.map _ _) => true
  | _ => false

/-- Operations that leave the world as it is. -/
def isQuiet (P : Program) (o : Oper) : Bool :=
  match o.op with
  | .move _ | .assign _ | .pick .. | .nilCheck _ | .load .. | .binOp .. | .unOp .. | .makeFunc .. | .makeInterface .. | .slice .. | .fieldAddr .. | .field .. | .indexAddr .. | .index .. | .lookup .. | .extract .. | .build .. => true
  | .convert src dst _ => !isSlice P src && !isSlice P dst
  | .call c => match c.callee with
    | .builtin .len | .builtin .cap | .builtin .min | .builtin .max => true
    | _ => false
  | _ => false

/-- Operations whose value hangs on the memory. -/
def isRead (P : Program) (o : Oper) : Bool :=
  match o.op with
  | .load .. | .lookup .. => true
  | .call c => match c.callee with
    | .builtin .len => isMap P (c.argTypes.getD 0 0)
    | _ => false
  | _ => false

def boolOf : Slot → Option Bool
  | .lit b => some b
  | .val (.bool b) => some b
  | _ => none

def oneCell : Value → Bool
  | .agg _ => false
  | .tuple _ => false
  | _ => true

def fieldOff (P : Program) (s : TypeId) (f : Nat) : Option Nat :=
  match P.underlying s with
  | some (.struct fs) => match fs[f]? with
    | some fl => match pureRun P (sizeOf fl.type) with
      | some (_ + 1) => some fl.offset
      | _ => none
    | none => none
  | _ => none

def arrOff (P : Program) (t : TypeId) (ix : Value) : Option Nat :=
  match P.underlying t, ix with
  | some (.array len e), .int _ i => match pureRun P (sizeOf e) with
    | some sz => cond (decide (0 ≤ i ∧ i < len)) (some (i.toNat * sz)) none
    | none => none
  | _, _ => none

/-- What a load of type t out of some cells from a place on gives. -/
def cellLoad (P : Program) (t : TypeId) (cells : List Value) (off : Nat) : Option Value :=
  match pureRun P (isAgg t), pureRun P (sizeOf t) with
  | some true, some m => cond (Nat.ble (off + m) cells.length) (some (.agg ((cells.drop off).take m).toArray)) none
  | some false, some _ => cells[off]?
  | _, _ => none

def cellStore (P : Program) (t : TypeId) (cells : List Value) (off : Nat) (v : Value) : Option (List Value) :=
  match pureRun P (sizeOf t) with
  | some m => cond (Nat.beq v.cells.toList.length m && Nat.ble (off + m) cells.length && v.cells.toList.all oneCell) (some (cells.take off ++ v.cells.toList ++ cells.drop (off + m))) none
  | none => none

section
variable (P : Program) (H : Hints)

/-- A pure operation. -/
def pureF (dr : Bool) (i : Nat) (o : Oper) (k : St → Fm) (st : St) : Fm :=
  cond (st.alive o)
    (cond (hasO H.asks o.dst)
      (match valSem st.rho o with
        | some s => (opShape P o).exF fun x => .and (Gives P s ((opShape P o).mk x)) (k ((st.set o.dst (.val ((opShape P o).mk x))).put dr (.pure i)))
        | none => .bad 1)
      (match runQ P st.rho o with
        | some v => k ((st.set o.dst (.val v)).put dr (.pure i))
        | none => .bad 2))
    (.bad 3)

def readF (dr : Bool) (i : Nat) (o : Oper) (k : St → Fm) (st : St) : Fm :=
  cond (st.alive o)
    (match valSem st.rho o with
      | some s => (opShape P o).exF fun x => .and (Reads P st.dirty s st.w ((opShape P o).mk x)) (k ((st.set o.dst (.val ((opShape P o).mk x))).put dr (.read i s ((opShape P o).mk x))))
      | none => .bad 4)
    (.bad 5)

def copyF (dr : Bool) (i : Nat) (o : Oper) (x : Operand) (k : St → Fm) (st : St) : Fm :=
  cond (st.slot x).alive (k ((st.set o.dst (st.slot x)).put dr (.pure i))) (.bad 6)

def evalQ (dr : Bool) (i : Nat) (o : Oper) (k : St → Fm) (st : St) : Fm :=
  match o.op with
  | .move x => copyF dr i o x k st
  | .assign x => copyF dr i o x k st
  | .pick c a b => match st.slot c with
    | .lit true => copyF dr i o a k st
    | .lit false => copyF dr i o b k st
    | .val (.bool c') => match boolOf (st.slot a), boolOf (st.slot b) with
      | some x, some y => k ((st.set o.dst (.val (.bool (cond c' x y)))).put dr (.pure i))
      | _, _ => .bad 7
    | _ => .bad 8
  | .nilCheck x => match st.slot x with
    | .loc j off => k ((st.set o.dst (.loc j off)).put dr (.pure i))
    | .val v => cond (hasO H.asks o.dst)
      (match v with
        | .pointer a => .ex Addr fun ad => .and (a = some ad) (k ((st.set o.dst (.val (.pointer (some ad)))).put dr (.pure i)))
        | _ => .bad 9)
      (match pureRun P (execOp st.rho o) with
        | some (.value v) => k ((st.set o.dst (.val v)).put dr (.pure i))
        | _ => .bad 10)
    | _ => .bad 11
  | .load t x => match st.slot x with
    | .loc j off => match st.boxes[j]?, st.gs[j]? with
      | some (cells, ty), some g => match cellLoad P t cells off with
        | some v => k ((st.set o.dst (.val v)).put dr (.box i g cells ty))
        | none => .bad 12
      | _, _ => .bad 13
    | _ => readF P dr i o k st
  | .fieldAddr s x f => match st.slot x with
    | .loc j off => match fieldOff P s f with
      | some d => k ((st.set o.dst (.loc j (off + d))).put dr (.pure i))
      | none => .bad 14
    | _ => pureF P H dr i o k st
  | .indexAddr t x ix => match st.slot x with
    | .loc j off => match arrOff P t (st.rho ix) with
      | some d => cond (st.slot ix).alive (k ((st.set o.dst (.loc j (off + d))).put dr (.pure i))) (.bad 15)
      | none => .bad 16
    | _ => pureF P H dr i o k st
  | _ => cond (isRead P o) (readF P dr i o k st) (pureF P H dr i o k st)

/-- The world at hand is shown: before whatever others may see. -/
def withW (st : St) (body : World → Fm) : Fm :=
  cond st.clean (body st.w) (.all World fun W => .imp (evoP st.dirty st.w W) (match st.gs with
    | [] => body W
    | g :: r => .imp (Under (g :: r) W) (body W)))

def keepF (gs : List Nat) (W W' : World) (f : Fm) : Fm :=
  match gs with
  | [] => f
  | g :: r => .and (Keeps (g :: r) W W') f

/-- What has been read before, and might have been read behind this, reads the same. -/
def pendF (ds : List Nat) (w : World) : List Pend → Fm → Fm
  | [], f => f
  | .read _ s v :: r, f => .and (Reads P ds s w v) (pendF ds w r f)
  | _ :: r, f => pendF ds w r f

def leftPend (wt : Nat → Bool) (l : List Pend) : List Pend := l.filter fun p => !wt p.idx

def locsOf (st : St) (o : Oper) : List Nat := o.op.operands.toList.filterMap fun x => match st.slot x with
  | .loc j _ => some j
  | _ => none

/-- The own boxes that are handed on by their address. -/
def boxF (st : St) (W : World) : List Nat → Fm → Fm
  | [], f => f
  | j :: r, f => match st.boxes[j]?, st.gs[j]? with
    | some (cells, ty), some g => .imp (W.heap[g]? = some (.cells cells.toArray ty (0, 0))) (boxF st W r f)
    | _, _ => boxF st W r f

def afterW (wt : Nat → Bool) (st : St) (w' : World) : St := { st with w := w', clean := true, dirty := [], pend := leftPend wt st.pend }

def boxE (wt : Nat → Bool) (o : Oper) (t : TypeId) (cells : List Value) (k : St → Fm) (st : St) : Fm :=
  .all Nat fun g => .imp (st.w.heap.size ≤ g) (pendF P st.dirty st.w (leftPend wt st.pend)
    (k ({ st with boxes := st.boxes ++ [(cells, t)], gs := st.gs ++ [g], clean := false, pend := leftPend wt st.pend }.set o.dst (.loc st.boxes.length 0))))

def storeE (wt : Nat → Bool) (o : Oper) (t : TypeId) (j off : Nat) (v : Value) (k : St → Fm) (st : St) : Fm :=
  match st.boxes[j]?, st.gs[j]? with
  | some (cells, ty), some g => match cellStore P t cells off v with
    | some cells' =>
      cond (has st.ro j || (leftPend wt st.pend).any Pend.isBox) (.bad 21)
        (pendF P (g :: st.dirty) st.w (leftPend wt st.pend)
          (k ({ st with boxes := st.boxes.set j (cells', ty), dirty := g :: st.dirty, clean := false, pend := leftPend wt st.pend }.set o.dst .dead)))
    | none => .bad 22
  | _, _ => .bad 23

def callE (wt : Nat → Bool) (o : Oper) (f : FuncId) (args : Array Value) (k : St → Fm) (st : St) : Fm :=
  withW st fun W => boxF st W (locsOf st o) (.calls P f args W fun e w' => (opShape P o).exF fun x =>
    .and (e = .returned ((opShape P o).mk x)) (keepF st.gs W w' (pendF P [] w' (leftPend wt st.pend) (k ((afterW wt st w').set o.dst (.val ((opShape P o).mk x)))))))

def effV (wt : Nat → Bool) (o : Oper) (k : St → Fm) (st : St) : Fm :=
  withW st fun W => boxF st W (locsOf st o) (.opw P (effSem st.rho o) W fun v w' => (opShape P o).exF fun x =>
    .and (v = (opShape P o).mk x) (keepF st.gs W w' (pendF P [] w' (leftPend wt st.pend) (k ((afterW wt st w').set o.dst (.val ((opShape P o).mk x)))))))

def effU (wt : Nat → Bool) (o : Oper) (k : St → Fm) (st : St) : Fm :=
  withW st fun W => boxF st W (locsOf st o) (.opw P (effSem st.rho o) W fun _ w' =>
    keepF st.gs W w' (pendF P [] w' (leftPend wt st.pend) (k ((afterW wt st w').set o.dst .dead))))

/-- What the next round of a range over a map, or a string, hands over: the shapes of the key and the element. -/
def nextShape (H : Hints) (o : Oper) : Sh :=
  match o.dst with
  | some d => (look H.nexts d).getD .nil
  | none => .nil

/-- The next round of a range: none, or a key and an element. -/
def nextE (wt : Nat → Bool) (o : Oper) (k : St → Fm) (st : St) : Fm :=
  withW st fun W => boxF st W (locsOf st o) (.opw P (effSem st.rho o) W fun v w' =>
    .and (v = .tuple #[.bool false] ∨ ∃ x, v = .tuple (.bool true :: (nextShape H o).vals x).toArray)
      (.both (.imp (v = .tuple #[.bool false]) (keepF st.gs W w' (pendF P [] w' (leftPend wt st.pend) (k ((afterW wt st w').set o.dst (.val (.tuple #[.bool false])))))))
        ((nextShape H o).allF fun x => .imp (v = .tuple (.bool true :: (nextShape H o).vals x).toArray)
          (keepF st.gs W w' (pendF P [] w' (leftPend wt st.pend) (k ((afterW wt st w').set o.dst (.val (.tuple (.bool true :: (nextShape H o).vals x).toArray)))))))))

def evalE (wt : Nat → Bool) (o : Oper) (k : St → Fm) (st : St) : Fm :=
  cond (st.alive o)
    (match o.op with
    | .box t x => cond (hasO H.promo o.dst) (boxE P wt o t (st.rho x).cells.toList k st) (effV P wt o k st)
    | .alloc t => cond (hasO H.promo o.dst)
      (match pureRun P (zeroValue t) with
        | some z => boxE P wt o t z.cells.toList k st
        | none => .bad 20)
      (effV P wt o k st)
    | .store t a x => match st.slot a with
      | .loc j off => storeE P wt o t j off (st.rho x) k st
      | _ => effU P wt o k st
    | .mapUpdate .. => effU P wt o k st
    | .insert .. => effU P wt o k st
    | .entryStore .. => effU P wt o k st
    | .next .. => nextE P H wt o k st
    | .call c => match c.callee with
      | .value _ => cond (hasO H.asks o.dst) (effV P wt o k st)
        (match pureRun P (execOp st.rho o) with
          | some (.enter f args) => callE P wt o f args k st
          | _ => .bad 25)
      | _ => effV P wt o k st
    | _ => effV P wt o k st)
    (.bad 24)

/-- A guarded operation: it is carried out where its guard has yielded what it wants. -/
def guardF (ops : Array Oper) (o : Oper) (run skip : St → Fm) (st : St) : Fm :=
  match o.guard with
  | none => run st
  | some (j, want) => match (ops[j]?).bind (·.dst) with
    | none => .bad 30
    | some d => match look st.env d with
      | some (.lit c) => cond (c == want) (run st) (skip st)
      | some (.val (.bool c)) => cond (has H.splits d)
        (.both (.imp (c = true) (cond want (run { st with env := (d, .lit true) :: st.env }) (skip { st with env := (d, .lit true) :: st.env })))
          (.imp (c = false) (cond want (skip { st with env := (d, .lit false) :: st.env }) (run { st with env := (d, .lit false) :: st.env }))))
        (cond (c == want) (run st) (skip st))
      | some (.val (.tuple _)) => skip st
      | _ => .bad (31000 + d)

def evalOps (dr : Bool) (ops : Array Oper) : List Nat → (St → Fm) → St → Fm
  | [], k, st => k { st with pend := [] }
  | i :: r, k, st => match ops[i]? with
    | none => .bad 32
    | some o => guardF H ops o
      (fun st => cond (isQuiet P o) (evalQ P H dr i o (evalOps dr ops r k) st) (evalE P H (fun x => waits .any ops x i) o (evalOps dr ops r k) st))
      (fun st => evalOps dr ops r k ((st.set o.dst (.val undef)).put dr (.pure i))) st

/-- The same, along an order with choices. -/
def evalT (ops : Array Oper) : Ot → (St → Fm) → St → Fm
  | .nil, k, st => k { st with pend := [] }
  | .op i r, k, st => match ops[i]? with
    | none => .bad 32
    | some o => guardF H ops o
      (fun st => cond (isQuiet P o) (evalQ P H true i o (evalT ops r k) st) (evalE P H (fun x => waits .any ops x i) o (evalT ops r k) st))
      (fun st => evalT ops r k ((st.set o.dst (.val undef)).put true (.pure i))) st
  | .alt a b, k, st => .both (evalT ops a k st) (evalT ops b k st)

inductive Ex where
  | normal
  | exit (id : Nat)
  | ret

def key : Code → Option Nat
  | .region id _ _ => some id
  | .seq a b => match key a with
    | some k => some k
    | none => key b
  | .cond _ a b => match key a with
    | some k => some k
    | none => key b
  | .block _ b => key b
  | .loop b => key b
  | .scope b => key b
  | _ => none

def lookK {α : Type} (l : List (Nat × α)) (k : Option Nat) : Option α := match k with
  | some k => look l k
  | none => none

def dsts : Code → List Nat
  | .region _ ops _ => ops.toList.filterMap (·.dst)
  | .seq a b => dsts a ++ dsts b
  | .cond c a b => (match c with
    | .tmp t => [t]
    | _ => []) ++ (dsts a ++ dsts b)
  | .block _ b => dsts b
  | .loop b => dsts b
  | .scope b => dsts b
  | _ => []

/-- The shape of what a loop, or a joint, carries: its slots, then its boxes' cells. -/
def LH.sh (h : LH) : Sh := (h.vars.foldr (fun x s => Sh.cons x.2 s) Sh.nil).app (h.boxes.foldr (fun x s => x.2.app s) Sh.nil)

/-- The length of a shape that is a row of cells. -/
def Sh.len : Sh → Nat
  | .nil => 0
  | .cons _ b => b.len + 1
  | _ => 1

def valsV (st : St) : List (Tmp × Sh) → Option (List Value)
  | [] => some []
  | x :: r => match look st.env x.1, valsV st r with
    | some s, some l => cond s.alive (some (s.value st.gs :: l)) none
    | _, _ => none

def valsB (st : St) : List (Tmp × Sh) → Option (List Value)
  | [] => some []
  | x :: r => match look st.env x.1, valsB st r with
    | some (.loc j _), some l => match st.boxes[j]? with
      | some (cells, _) => cond (Nat.beq cells.length x.2.len) (some (cells ++ l)) none
      | none => none
    | _, _ => none

/-- What it carries, out of a state. -/
def LH.vals (h : LH) (st : St) : Option (List Value) :=
  match valsV st h.vars, valsB st h.boxes with
  | some a, some b => some (a ++ b)
  | _, _ => none

def boxIdx (h : LH) (st : St) : List Nat := h.boxes.filterMap fun x => match look st.env x.1 with
  | some (.loc j _) => some j
  | _ => none

def setVars : List (Tmp × Sh) → List Value → List (Nat × Slot) → List (Nat × Slot)
  | [], _, env => env
  | x :: r, v :: vs, env => (x.1, .val v) :: setVars r vs env
  | x :: r, [], env => (x.1, .dead) :: setVars r [] env

def setCells (bs : List (List Value × TypeId)) (j : Nat) (cells : List Value) : List (List Value × TypeId) :=
  match bs[j]? with
  | some (_, ty) => bs.set j (cells, ty)
  | none => bs

def setBoxes (env : List (Nat × Slot)) : List (Tmp × Sh) → List Value → List (List Value × TypeId) → List (List Value × TypeId)
  | [], _, bs => bs
  | x :: r, vs, bs => match look env x.1 with
    | some (.loc j _) => setBoxes env r (vs.drop x.2.len) (setCells bs j (vs.take x.2.len))
    | _ => setBoxes env r (vs.drop x.2.len) bs

/-- Boxes that may not be written meanwhile: those that are not carried. -/
def lockRo (h : LH) (st : St) : List Nat := (List.range st.boxes.length).filter fun j => !has (boxIdx h st) j

/-- The state at a loop's head, or at a joint: what was written is gone, but for what is carried. -/
def headSt (h : LH) (ds : List Nat) (st : St) (vs : List Value) (w : World) (ro : List Nat) : St :=
  { env := setVars h.vars vs (ds.map (fun d => (d, Slot.dead)) ++ st.env)
    boxes := setBoxes st.env h.boxes (vs.drop h.vars.length) st.boxes
    gs := st.gs
    ro := ro
    w := w
    clean := true
    dirty := []
    pend := [] }

/-- A carried slot is one that is written, a carried box's address is not; what is carried may be written here. -/
def hintOk (h : LH) (ds : List Nat) (st : St) : Bool :=
  h.vars.all (fun x => has ds x.1) && h.boxes.all (fun x => !has ds x.1) && (boxIdx h st).all fun j => !has st.ro j

def arriveF (h : LH) (st : St) (J : h.sh.T → World → Fm) : Fm :=
  match h.vals st with
  | some vs => match h.sh.get vs with
    | some (x, []) => withW st fun W => J x W
    | _ => .bad 40
  | none => .bad 41

def relSt (st0 st : St) : St := { st with ro := st0.ro }

def wpC : Code → (Ex → St → Fm) → St → Fm
  | .skip, K, st => K .normal st
  | .region id ops dr, K, st => match cond dr (look H.alts id) none with
    | some t => evalT P H ops t (K .normal) { st with clean := false }
    | none => evalOps P H dr ops (cond dr ((look H.ord id).getD []) (List.range ops.size)) (K .normal) (cond dr { st with clean := false } st)
  | .seq a b, K, st => match lookK H.cuts (key b) with
    | some h => cond (hintOk h (dsts a) st) (.ex (h.sh.T → World → Prop) fun J => .both
        (wpC a (fun e st' => match e with
          | .normal => arriveF h st' fun x W => .atom (J x W)
          | e => K e (relSt st st')) { st with ro := lockRo h st })
        (h.sh.allF fun x => .all World fun w' => .imp (J x w') (wpC b K (headSt h (dsts a) st (h.sh.vals x) w' st.ro)))) (.bad 56)
    | none => wpC a (fun e st' => match e with
        | .normal => wpC b K st'
        | e => K e st') st
  | .cond c a b, K, st => match st.slot c with
    | .lit true => wpC a K st
    | .lit false => wpC b K st
    | .val (.bool v) => match c with
      | .tmp t => cond (has H.splits t)
        (.both (.imp (v = true) (wpC a K { st with env := (t, .lit true) :: st.env })) (.imp (v = false) (wpC b K { st with env := (t, .lit false) :: st.env })))
        (cond v (wpC a K st) (wpC b K st))
      | _ => .bad 50
    | _ => badT c 51
  | .block id b, K, st => wpC b (fun e st' => match e with
    | .exit id' => cond (Nat.beq id' id) (K .normal st') (K (.exit id') st')
    | e => K e st') st
  | .exit id, K, st => K (.exit id) st
  | .scope b, K, st => wpC b K st
  | .label _, K, st => K .normal st
  | .ret, K, st => K .ret st
  | .loop b, K, st => match lookK H.unroll (key b) with
    | some n => Nat.rec (motive := fun _ => St → Fm) (fun _ => .bad 52) (fun _ ih st => wpC b (fun e st' => match e with
        | .normal => ih st'
        | e => K e st') st) n st
    | none => match lookK H.loops (key b) with
      | some h => cond (hintOk h (dsts b) st) (.ex (h.sh.T → World → Prop) fun J => .ex (h.sh.T → World → Nat) fun m => .both
          (arriveF h st fun x W => .atom (J x W))
          (h.sh.allF fun x => .all World fun w' => .imp (J x w') (wpC b (fun e st' => match e with
            | .normal => arriveF h st' fun y W => .both (.atom (J y W)) (.atom (m y W < m x w'))
            | e => K e (relSt st st')) (headSt h (dsts b) st (h.sh.vals x) w' (lockRo h st))))) (.bad 55)
      | none => .bad 53
  | _, _, _ => .bad 54

def resultsF (R : Ending → World → Prop) : List ResultVar → List Value → St → Fm
  | [], vs, st => withW st fun W => .atom (R (.returned (match vs.reverse with
    | [v] => v
    | l => .tuple l.toArray)) W)
  | .tmp t :: r, vs, st => match look st.env t with
    | some s => cond s.alive (resultsF R r (s.value st.gs :: vs) st) (.bad 60)
    | none => .bad 61
  | .cell a t :: r, vs, st => match look st.env a with
    | some (.loc j off) => match st.boxes[j]? with
      | some (cells, _) => match cellLoad P t cells off with
        | some v => resultsF R r (v :: vs) st
        | none => .bad 62
      | none => .bad 63
    | some (.val (.pointer (some ad))) => (shapeOf P t).exF fun x => .and (Reads P st.dirty (loadVar t ad) st.w ((shapeOf P t).mk x)) (resultsF R r ((shapeOf P t).mk x :: vs) st)
    | _ => .bad 64

def initEnv : Nat → List Value → List (Nat × Slot)
  | _, [] => []
  | i, v :: r => (i, .val v) :: initEnv (i + 1) r

/-- A function's formula. -/
def fnF (fn : Func) (args : List Value) (w : World) (R : Ending → World → Prop) : Fm :=
  match fn.body with
  | some c => wpC P H c (fun e st => match e with
      | .exit _ => .bad 70
      | _ => resultsF P R fn.results.toList [] st) { env := initEnv 0 args, boxes := [], gs := [], ro := [], w := w, clean := true, dirty := [], pend := [] }
  | none => .bad 71

/-! ### What is asked of the code and the hints, closed -/
def ordOk (ops : Array Oper) : List Nat → Array Bool → Bool
  | [], listed => (Region.ready .any ops listed).isEmpty
  | i :: r, listed => (match ops[i]? with
    | none => false
    | some o => cond (isQuiet P o) ((Region.ready .any ops listed).contains i && Region.free .any ops listed i) (Region.ready .any ops listed == [i])) && ordOk ops r (listed.setIfInBounds i true)

def ordOkT (ops : Array Oper) : Bool → Ot → Array Bool → Bool
  | sub, .nil, listed => !sub && (Region.ready .any ops listed).isEmpty
  | sub, .op i r, listed => (match ops[i]? with
    | none => false
    | some o => cond sub (!isQuiet P o) (cond (isQuiet P o) ((Region.ready .any ops listed).contains i && Region.free .any ops listed i) (Region.ready .any ops listed == [i]))) && ordOkT ops false r (listed.setIfInBounds i true)
  | sub, .alt a b, listed => cond sub true (!(Region.ready .any ops listed).isEmpty && (Region.ready .any ops listed).all fun j => (a.heads ++ b.heads).contains j) && ordOkT ops true a listed && ordOkT ops true b listed

def dstOk (n : Nat) (o : Oper) : Bool := match o.dst with
  | some d => Nat.ble (d + 1) n
  | none => true

def codeOk (n : Nat) : Code → Bool
  | .region id ops dr => Region.noSelect ops && ops.toList.all (dstOk n) && cond dr (match cond dr (look H.alts id) none with
    | some t => Nat.ble t.depth ops.size && ordOkT P ops false t (Array.replicate ops.size false)
    | none => Nat.beq ((look H.ord id).getD []).length ops.size && ordOk P ops ((look H.ord id).getD []) (Array.replicate ops.size false)) true
  | .seq a b => codeOk n a && codeOk n b
  | .cond _ a b => codeOk n a && codeOk n b
  | .block _ b => codeOk n b
  | .loop b => codeOk n b
  | .scope b => codeOk n b
  | _ => true

def fnOk (fn : Func) (m : Nat) : Bool := match fn.body with
  | some c => codeOk P H fn.ntmps c && Nat.ble m fn.ntmps
  | none => false
end
end Go.Vc
