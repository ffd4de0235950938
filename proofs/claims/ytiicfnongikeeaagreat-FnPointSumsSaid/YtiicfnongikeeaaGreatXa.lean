/- What is proved at the end: for every input FnPointSums returns true and its argument reads as it did; without condition. Part 1 of 7. -/
import Derived.Orders
import Derived.OwnWalk
import Derived.Laws.Cells
import Derived.Laws.Tables
import Derived.LoopN

set_option linter.unusedSimpArgs false
set_option linter.unusedVariables false
/- An abstract machine for a part of the language: its values, heap, code and steps. -/
namespace XM
open Go

/-- An operand: a temporary or a constant. -/
inductive XO where
  | t (n : Nat)
  | c (v : Value)
  deriving Inhabited

abbrev Env := Nat → Value
def XO.ev (e : Env) : XO → Value
  | .t n => e n
  | .c v => v

structure Blk where
  cells : List Value
  elem : TypeId
  rw : Bool

structure Hp where
  bk : Nat → Option Blk
  nx : Nat

structure St where
  env : Env
  h : Hp

def put (e : Env) (d : Option Nat) (v : Value) : Env :=
  match d with
  | some d => fun t => if t = d then v else e t
  | none => e

/-- Plain operations: no heap. -/
inductive XP where
  | move (x : XO)
  | pick (c a b : XO)
  | bin (op : BinOp) (x y : XO)
  | binB (neg : Bool) (x y : XO)
  | isNil (neg : Bool) (x : XO)
  | un (op : UnOp) (x : XO)
  | conv (k : IntKind) (x : XO)
  | field (off sz : Nat) (agg : Bool) (x : XO)
  | fieldAddr (off : Nat) (x : XO)
  | indexAddr (w : Nat) (x i : XO)
  | indexStr (x i : XO)
  | slice (w : Nat) (x : XO) (lo hi : Option XO)
  | sliceStr (x : XO) (lo hi : Option XO)
  | len (x : XO)
  | lenStr (x : XO)
  | mx (x y : XO)
  | mn (x y : XO)
  | extract (x : XO) (i : Nat)
  | mkfunc (f : FuncId) (first caps : List XO)
  | build (zero : List Value) (parts : List (Nat × Nat × XO))
  | nilCheck (x : XO)
  deriving Inhabited

inductive XK where
  | p (x : XP)
  | load (sz : Nat) (agg : Bool) (x : XO)
  | box (elem : TypeId) (w : Nat) (x : XO)
  | mkrow (elem : TypeId) (w len : Nat) (zero : List Value) (parts : List (Nat × XO))
  | make (elem : TypeId) (w bytes : Nat) (zero : List Value) (n : XO)
  | store (sz : Nat) (x v : XO)
  | append (elem : TypeId) (w bytes : Nat) (s x : XO)
  | copy (elem : TypeId) (w : Nat) (d s : XO)
  | call (f : XO) (args : List XO)
  deriving Inhabited

structure XOper where
  dst : Option Nat
  k : XK
  guard : Option (Nat × Bool)
  chk : Bool
  deriving Inhabited

inductive XC where
  | skip
  | region (held : Bool) (ops : List XOper)
  | seq (a b : XC)
  | cond (c : XO) (a b : XC)
  | block (id : Nat) (b : XC)
  | loop (b : XC)
  | exit (id : Nat)
  | ret
  deriving Inhabited

inductive XR where
  | tmp (t : Nat)
  | cell (t : Nat) (sz : Nat) (agg : Bool)
  deriving Inhabited

structure XFunc where
  nt : Nat
  body : XC
  res : List XR
  deriving Inhabited

/-! ### plain operations -/

def one : Value → Bool
  | .agg _ | .tuple _ => false
  | _ => true

def binInt (op : BinOp) (k : IntKind) (a b : Int) : Option Value :=
  match op with
  | .add => some (.int k (k.wrap (a + b)))
  | .sub => some (.int k (k.wrap (a - b)))
  | .mul => some (.int k (k.wrap (a * b)))
  | .quo => if b = 0 then none else some (.int k (k.wrap (a.tdiv b)))
  | .rem => if b = 0 then none else some (.int k (a.tmod b))
  | .and => some (.int k (k.wrap (BitVec.ofInt k.bits a &&& BitVec.ofInt k.bits b).toNat))
  | .or => some (.int k (k.wrap (BitVec.ofInt k.bits a ||| BitVec.ofInt k.bits b).toNat))
  | .xor => some (.int k (k.wrap (BitVec.ofInt k.bits a ^^^ BitVec.ofInt k.bits b).toNat))
  | .andNot => some (.int k (k.wrap (BitVec.ofInt k.bits a &&& ~~~BitVec.ofInt k.bits b).toNat))
  | .eql => some (.bool (a == b))
  | .neq => some (.bool (a != b))
  | .lss => some (.bool (a < b))
  | .leq => some (.bool (a ≤ b))
  | .gtr => some (.bool (a > b))
  | .geq => some (.bool (a ≥ b))
  | _ => none

def binShift (op : BinOp) (k : IntKind) (a b : Int) : Option Value :=
  match op with
  | .shl => if b < 0 then none else some (.int k (k.wrap (a * 2 ^ (min b.toNat k.bits))))
  | .shr => if b < 0 then none else some (.int k (a.fdiv (2 ^ (min b.toNat k.bits))))
  | _ => none

def binStr (op : BinOp) (x y : ByteArray) : Option Value :=
  match op with
  | .add => if x.size + y.size ≤ 1073741824 then some (.string (x ++ y)) else none
  | .eql => some (.bool (x.toList == y.toList))
  | .neq => some (.bool (!(x.toList == y.toList)))
  | .lss => some (.bool (Op.bytesLess x.toList y.toList))
  | .leq => some (.bool (Op.bytesLess x.toList y.toList || x.toList == y.toList))
  | .gtr => some (.bool (!(Op.bytesLess x.toList y.toList || x.toList == y.toList)))
  | .geq => some (.bool (!(Op.bytesLess x.toList y.toList)))
  | _ => none

def isShift : BinOp → Bool
  | .shl | .shr => true
  | _ => false

def binV (op : BinOp) (x y : Value) : Option Value :=
  match x, y with
  | .int k a, .int k' b => if isShift op then binShift op k a b else if k = k' then binInt op k a b else none
  | .string a, .string b => binStr op a b
  | _, _ => none

def binBV (neg : Bool) : Value → Value → Option Value
  | .bool a, .bool b => some (.bool (if neg then !(a == b) else a == b))
  | _, _ => none

def unV (op : UnOp) (x : Value) : Option Value :=
  match op, x with
  | .neg, .int k n => some (.int k (k.wrap (0 - n)))
  | .not, .bool b => some (.bool !b)
  | _, _ => none

def isNilV (neg : Bool) : Value → Option Value
  | .slice none _ _ => some (.bool (!neg))
  | .slice (some _) _ _ => some (.bool neg)
  | _ => none

def partV (off sz : Nat) (agg : Bool) (cs : Array Value) : Option Value :=
  if agg then some (.agg (cs.extract off (off + sz))) else cs[off]?

def idx (i : Int) (n : Nat) : Option Nat := if 0 ≤ i ∧ i < n then some i.toNat else none

def bnd (x : Option Value) (dflt : Nat) (top : Nat) : Option Nat :=
  match x with
  | none => some dflt
  | some (.int _ i) => if 0 ≤ i ∧ i ≤ top then some i.toNat else none
  | some _ => none

def addOff (a : Addr) (n : Nat) : Addr := ⟨a.block, a.off + n, none⟩

def fillX : List Value → List (Nat × Nat × Value) → Option (List Value)
  | cs, [] => some cs
  | cs, (off, sz, v) :: r =>
    let vs := v.cells.toList
    if vs.length = sz ∧ off + sz ≤ cs.length then fillX (cs.take off ++ vs ++ cs.drop (off + sz)) r else none

def pickV : Value → Value → Value → Option Value
  | .bool t, a, b => some (if t then a else b)
  | _, _, _ => none
def convV (k : IntKind) : Value → Option Value
  | .int _ n => some (.int k (k.wrap n))
  | _ => none
def fieldV (off sz : Nat) (agg : Bool) : Value → Option Value
  | .agg cs => partV off sz agg cs
  | _ => none
def fieldAddrV (off : Nat) : Value → Option Value
  | .pointer (some a) => some (.pointer (some (addOff a off)))
  | _ => none
def indexAddrV (w : Nat) : Value → Value → Option Value
  | .slice (some a) n _, .int _ i => (idx i n).bind fun i => some (.pointer (some (addOff a (i * w))))
  | _, _ => none
def indexStrV : Value → Value → Option Value
  | .string s, .int _ i => (idx i s.size).bind fun i => (s[i]?).bind fun b => some (.int .u8 b.toNat)
  | _, _ => none
def sliceV (w : Nat) (lo hi : Option Value) : Value → Option Value
  | .slice none n _ => (bnd hi n n).bind fun h => (bnd lo 0 h).bind fun _ => some (.slice none 0 0)
  | .slice (some a) n k => (bnd hi n n).bind fun h => (bnd lo 0 h).bind fun l => if k = w then some (.slice (some (addOff a (l * w))) (h - l) w) else none
  | _ => none
def sliceStrV (lo hi : Option Value) : Value → Option Value
  | .string s => (bnd hi s.size s.size).bind fun h => (bnd lo 0 h).bind fun l => some (.string (s.extract l h))
  | _ => none
def lenV : Value → Option Value
  | .slice _ n _ => some (.int .i64 n)
  | _ => none
def lenStrV : Value → Option Value
  | .string s => some (.int .i64 s.size)
  | _ => none
def mxV : Value → Value → Option Value
  | .int k a, .int _ b => some (.int k (if b > a then b else a))
  | _, _ => none
def mnV : Value → Value → Option Value
  | .int k a, .int _ b => some (.int k (if b < a then b else a))
  | _, _ => none
def extractV (i : Nat) : Value → Option Value
  | .tuple vs => vs[i]?
  | _ => none
def nilCheckV : Value → Option Value
  | .pointer (some a) => some (.pointer (some a))
  | .func (.func f) a b => some (.func (.func f) a b)
  | _ => none

def XP.ev (e : Env) : XP → Option Value
  | .move x => some (x.ev e)
  | .pick c a b => pickV (c.ev e) (a.ev e) (b.ev e)
  | .bin op x y => binV op (x.ev e) (y.ev e)
  | .binB neg x y => binBV neg (x.ev e) (y.ev e)
  | .isNil neg x => isNilV neg (x.ev e)
  | .un op x => unV op (x.ev e)
  | .conv k x => convV k (x.ev e)
  | .field off sz agg x => fieldV off sz agg (x.ev e)
  | .fieldAddr off x => fieldAddrV off (x.ev e)
  | .indexAddr w x i => indexAddrV w (x.ev e) (i.ev e)
  | .indexStr x i => indexStrV (x.ev e) (i.ev e)
  | .slice w x lo hi => sliceV w (lo.map (·.ev e)) (hi.map (·.ev e)) (x.ev e)
  | .sliceStr x lo hi => sliceStrV (lo.map (·.ev e)) (hi.map (·.ev e)) (x.ev e)
  | .len x => lenV (x.ev e)
  | .lenStr x => lenStrV (x.ev e)
  | .mx x y => mxV (x.ev e) (y.ev e)
  | .mn x y => mnV (x.ev e) (y.ev e)
  | .extract x i => extractV i (x.ev e)
  | .mkfunc f first caps => some (.func (.func f) (first.map (·.ev e)).toArray (caps.map (·.ev e)).toArray)
  | .build zero parts => (fillX zero (parts.map fun (o, s, x) => (o, s, x.ev e))).map fun cs => .agg cs.toArray
  | .nilCheck x => nilCheckV (x.ev e)

/-! ### operations upon the heap -/

def Hp.get (h : Hp) (b : Nat) : Option Blk := h.bk b
def Hp.new (h : Hp) (x : Blk) : Hp := ⟨fun b => if b = h.nx then some x else h.bk b, h.nx + 1⟩
def Hp.set (h : Hp) (b : Nat) (x : Option Blk) : Hp := ⟨fun c => if c = b then x else h.bk c, h.nx⟩

def splice (cs : List Value) (off : Nat) (vs : List Value) : List Value := cs.take off ++ vs ++ cs.drop (off + vs.length)

/-- The cells of a slice's n elements of w cells. -/
def Hp.cellsOf (h : Hp) (w : Nat) : Value → Option (List Value)
  | .slice none 0 _ => some []
  | .slice (some a) n _ => if n = 0 then some [] else (h.bk a.block).bind fun b => if a.off + n * w ≤ b.cells.length then some ((b.cells.drop a.off).take (n * w)) else none
  | _ => none

def sizeMax : Nat := 4294967296

def rowFill (w : Nat) : List Value → List (Nat × Value) → Option (List Value)
  | cs, [] => some cs
  | cs, (i, v) :: r =>
    let vs := v.cells.toList
    if vs.length = w ∧ i * w + w ≤ cs.length then rowFill w (cs.take (i * w) ++ vs ++ cs.drop (i * w + w)) r else none

def reps (n : Nat) (z : List Value) : List Value := (List.replicate n z).flatten

/-- Operations that read one block. -/
def XK.ld (e : Env) (h : Hp) : XK → Option Value
  | .load sz agg x => match x.ev e with
    | .pointer (some a) => (h.bk a.block).bind fun b =>
      if a.off + sz ≤ b.cells.length then (if agg then some (.agg ((b.cells.drop a.off).take sz).toArray) else b.cells[a.off]?) else none
    | _ => none
  | _ => none

/-- Operations that make a block: what it holds, and the value. -/
def XK.mk (e : Env) (nx : Nat) : XK → Option (Blk × Value)
  | .box elem w x => if (x.ev e).cells.toList.length = w ∧ (x.ev e).cells.toList.all one then some (⟨(x.ev e).cells.toList, elem, true⟩, .pointer (some ⟨nx, 0, none⟩)) else none
  | .mkrow elem w len zero parts => (rowFill w (reps len zero) (parts.map fun (i, x) => (i, x.ev e))).bind fun cs =>
      if cs.all one then some (⟨cs, elem, true⟩, .slice (some ⟨nx, 0, none⟩) len w) else none
  | .make elem w _ zero n => match n.ev e with
    | .int _ i => if 0 ≤ i ∧ i ≤ sizeMax then some (⟨reps i.toNat zero, elem, true⟩, .slice (some ⟨nx, 0, none⟩) i.toNat w) else none
    | _ => none
  | _ => none

/-- Operations that change the heap. -/
def XK.eff (e : Env) (h : Hp) : XK → Option (Value × Hp)
  | .store sz x v => match x.ev e with
    | .pointer (some a) => (h.bk a.block).bind fun b =>
      if (v.ev e).cells.toList.length = sz ∧ (v.ev e).cells.toList.all one ∧ a.off + sz ≤ b.cells.length ∧ b.rw
        then some (undef, h.set a.block (some ⟨splice b.cells a.off (v.ev e).cells.toList, b.elem, true⟩)) else none
    | _ => none
  | .append elem w _ s x => match s.ev e, x.ev e with
    | .slice none 0 _, .slice B m k =>
      if m = 0 then some (.slice none 0 0, h) else
      (h.cellsOf w (.slice B m k)).bind fun xs =>
      if m ≤ sizeMax then some (.slice (some ⟨h.nx, 0, none⟩) m w, h.new ⟨xs, elem, true⟩) else none
    | .slice (some a) n c, .slice B m k =>
      if c = w then
        if n + m = 0 then some (.slice (some a) 0 w, h) else
        (h.cellsOf w (.slice B m k)).bind fun xs => (h.bk a.block).bind fun b =>
        if a.off = 0 ∧ b.cells.length = n * w ∧ b.rw ∧ b.elem = elem ∧ n + m ≤ sizeMax
          then some (.slice (some ⟨h.nx, 0, none⟩) (n + m) w, (h.set a.block none).new ⟨b.cells ++ xs, elem, true⟩) else none
      else none
    | _, _ => none
  | .copy elem w d s => match d.ev e, s.ev e with
    | .slice A n _, .slice B m k =>
      if min m n = 0 then some (.int .i64 0, h) else
      (h.cellsOf w (.slice B (min m n) k)).bind fun xs =>
      match A with
      | none => none
      | some a => (h.bk a.block).bind fun b =>
        if a.off + n * w ≤ b.cells.length ∧ b.rw ∧ b.elem = elem
          then some (.int .i64 (min m n : Nat), h.set a.block (some ⟨splice b.cells a.off xs, b.elem, true⟩)) else none
    | _, _ => none
  | _ => none

/-! ### steps -/

inductive Task where
  | code (c : XC)
  | op (o : XOper)
  | call (f : FuncId) (args : List Value) (v : Value)

def wanted (e : Env) (g : Option (Nat × Bool)) : Prop :=
  match g with
  | none => True
  | some (d, b) => e d = .bool b

def unwanted (e : Env) (g : Option (Nat × Bool)) : Prop :=
  match g with
  | none => False
  | some (d, b) => e d = .bool (!b)

def catchX (id : Nat) : Exit → Exit
  | .exit j => if j = id then .normal else .exit j
  | e => e

def argEnv (args : List Value) : Env := fun t => (args[t]?).getD undef

def XR.ev (e : Env) (h : Hp) : XR → Option Value
  | .tmp t => some (e t)
  | .cell t sz agg => XK.ld e h (.load sz agg (.t t))

def resV (e : Env) (h : Hp) (res : List XR) : Option Value :=
  match res with
  | [r] => r.ev e h
  | rs => (rs.mapM (fun r => XR.ev e h r)).map fun vs => .tuple vs.toArray

def XK.isEff : XK → Bool
  | .store .. | .append .. | .copy .. | .call .. => true
  | _ => false

def ldBlock (e : Env) : XK → Option Nat
  | .load _ _ x => match x.ev e with | .pointer (some a) => some a.block | _ => none
  | _ => none

/-- What a region that is held asks of its states: the blocks in Kp stand still. -/
def HeldOk (ops : List XOper) (σ : Nat → St) : Prop :=
  ∃ Kp : Nat → Prop, (∀ b, Kp b → b < (σ 0).h.nx) ∧
    ∀ i o, ops[i]? = some o → o.chk = true →
      (o.k.isEff = true → ∀ b, Kp b → (σ (i + 1)).h.bk b = (σ i).h.bk b) ∧
      (∀ b, wanted (σ i).env o.guard → ldBlock (σ i).env o.k = some b → Kp b)

inductive Ev (F : FuncId → Option XFunc) : Task → St → Exit → St → Prop where
  | skip {s} : Ev F (.code .skip) s .normal s
  | exit {s id} : Ev F (.code (.exit id)) s (.exit id) s
  | ret {s} : Ev F (.code .ret) s .ret s
  | seqN {a b s s1 e s2} : Ev F (.code a) s .normal s1 → Ev F (.code b) s1 e s2 → Ev F (.code (.seq a b)) s e s2
  | seqX {a b s e s1} : Ev F (.code a) s e s1 → e ≠ .normal → Ev F (.code (.seq a b)) s e s1
  | cond {c a b s e s1} {t : Bool} : c.ev s.env = .bool t → Ev F (.code (if t then a else b)) s e s1 → Ev F (.code (.cond c a b)) s e s1
  | block {id b s e s1} : Ev F (.code b) s e s1 → Ev F (.code (.block id b)) s (catchX id e) s1
  | loopN {b s s1 e s2} : Ev F (.code b) s .normal s1 → Ev F (.code (.loop b)) s1 e s2 → Ev F (.code (.loop b)) s e s2
  | loopX {b s e s1} : Ev F (.code b) s e s1 → e ≠ .normal → Ev F (.code (.loop b)) s e s1
  | region {held ops s} (σ : Nat → St) : σ 0 = s → (∀ i o, ops[i]? = some o → Ev F (.op o) (σ i) .normal (σ (i + 1))) →
      (held = true → HeldOk ops σ) → Ev F (.code (.region held ops)) s .normal (σ ops.length)
  | opSkip {o s} : unwanted s.env o.guard → Ev F (.op o) s .normal ⟨put s.env o.dst undef, s.h⟩
  | opPure {o s p v} : wanted s.env o.guard → o.k = .p p → p.ev s.env = some v → Ev F (.op o) s .normal ⟨put s.env o.dst v, s.h⟩
  | opLoad {o s v} : wanted s.env o.guard → o.k.ld s.env s.h = some v → Ev F (.op o) s .normal ⟨put s.env o.dst v, s.h⟩
  | opMake {o s b v} : wanted s.env o.guard → o.k.mk s.env s.h.nx = some (b, v) → Ev F (.op o) s .normal ⟨put s.env o.dst v, s.h.new b⟩
  | opEff {o s v h'} : wanted s.env o.guard → o.k.eff s.env s.h = some (v, h') → Ev F (.op o) s .normal ⟨put s.env o.dst v, h'⟩
  | opCall {o s f args g first caps v ε h'} : wanted s.env o.guard → o.k = .call f args → f.ev s.env = .func (.func g) first caps →
      Ev F (.call g (first.toList ++ args.map (·.ev s.env) ++ caps.toList) v) ⟨ε, s.h⟩ .normal ⟨ε, h'⟩ →
      Ev F (.op o) s .normal ⟨put s.env o.dst v, h'⟩
  | call {f args v ε h xf e s'} : F f = some xf → Ev F (.code xf.body) ⟨argEnv args, h⟩ e s' → (e = .normal ∨ e = .ret) →
      resV s'.env s'.h xf.res = some v → Ev F (.call f args v) ⟨ε, h⟩ .normal ⟨ε, s'.h⟩

end XM

/- The translation of the model's code into the abstract machine's, with its static tests. -/
namespace XM
open Go

def atomOk : Value → Bool
  | .bool _ | .int _ _ | .string _ | .pointer none | .slice none 0 0 | .nilFunc | .nilIface => true
  | .func (.func _) first caps => first.isEmpty && caps.isEmpty
  | _ => false

def constOk : Value → Bool
  | .agg cs => cs.toList.all atomOk
  | .tuple cs => cs.toList.all atomOk
  | v => atomOk v

def cO : Operand → Option XO
  | .tmp t => some (.t t)
  | .const v => if constOk v then some (.c v) else none
  | .func f => some (.c (.func (.func f) #[] #[]))
  | .global _ => none

def cOs : List Operand → Option (List XO)
  | [] => some []
  | x :: r => (cO x).bind fun x => (cOs r).map fun r => x :: r

def cOpt : Option Operand → Option (Option XO)
  | none => some none
  | some x => (cO x).map some

def cParts : List (Nat × Operand) → Option (List (Nat × XO))
  | [] => some []
  | (i, x) :: r => (cO x).bind fun x => (cParts r).map fun r => (i, x) :: r

def aggT (P : Program) (t : TypeId) : Option Bool :=
  match P.underlying t with
  | some (.struct _) | some (.array _ _) => some true
  | some _ => some false
  | none => none

def sizeT (P : Program) (t : TypeId) : Option Nat := (P.info? t).map (·.size)

def zeroT (P : Program) (t : TypeId) : Option Value := (P.info? t).bind fun i => i.zero.bind fun z => if constOk z ∧ z.cells.toList.all one then some z else none

def sameO : Operand → Operand → Bool
  | .tmp a, .tmp b => a == b
  | .const (.int j a), .const (.int k b) => j == k && a == b
  | _, _ => false

def isNilC : Operand → Bool
  | .const (.slice none 0 0) => true
  | _ => false

def places (P : Program) (fields : Array Field) : Option (List (Nat × Nat)) := fields.toList.mapM fun f => (P.info? f.type).map fun i => (f.offset, i.size)

def cFieldParts (ps : List (Nat × Nat)) : List (Nat × Operand) → Option (List (Nat × Nat × XO))
  | [] => some []
  | (i, x) :: r => (ps[i]?).bind fun q => (cO x).bind fun x => (cFieldParts ps r).map fun r => (q.1, q.2, x) :: r

def cK (P : Program) : Op → Option XK
  | .move x | .assign x => (cO x).map fun x => .p (.move x)
  | .pick c a b => (cO c).bind fun c => (cO a).bind fun a => (cO b).map fun b => .p (.pick c a b)
  | .alloc t => (zeroT P t).bind fun z => (sizeT P t).map fun s => .box t s (.c z)
  | .box t x => (cO x).bind fun x => (sizeT P t).map fun s => .box t s x
  | .build t parts => match P.underlying t with
    | some (.struct fields) => (zeroT P t).bind fun z => (places P fields).bind fun pl => (cFieldParts pl parts.toList).map fun ps => .p (.build z.cells.toList ps)
    | _ => none
  | .buildSlice t len parts => match P.underlying t with
    | some (.slice elem) => (zeroT P elem).bind fun z => (sizeT P elem).bind fun s => (cParts parts.toList).bind fun ps =>
      if len * s ≤ 16777216 ∧ z.cells.size = s ∧ 0 < s then some (.mkrow elem s len z.cells.toList ps) else none
    | _ => none
  | .load t a => (cO a).bind fun a => (sizeT P t).bind fun s => (aggT P t).bind fun g => if s = 1 ∨ g = true then some (.load s g a) else none
  | .store t a x => (cO a).bind fun a => (cO x).bind fun x => (sizeT P t).map fun s => .store s a x
  | .nilCheck x => (cO x).map fun x => .p (.nilCheck x)
  | .binOp op t x y _ => (cO x).bind fun x' => (cO y).bind fun y' =>
    match P.underlying t with
    | some (.int _) | some .string => some (.p (.bin op x' y'))
    | some .bool => (match op with | .eql => some (.p (.binB false x' y')) | .neq => some (.p (.binB true x' y')) | _ => none)
    | some (.slice _) => if isNilC y then (match op with | .eql => some (.p (.isNil false x')) | .neq => some (.p (.isNil true x')) | _ => none) else none
    | _ => none
  | .unOp op _ x => (cO x).map fun x => .p (.un op x)
  | .convert src dst x => (cO x).bind fun x => match P.underlying src, P.underlying dst with
    | some (.int _), some (.int k) => some (.p (.conv k x))
    | _, _ => none
  | .makeFunc (.func f) first caps => (cOs first.toList).bind fun fs => (cOs caps.toList).map fun cs => .p (.mkfunc f fs cs)
  | .makeSlice t l c => if sameO l c then match P.underlying t with
      | some (.slice elem) => (P.info? elem).bind fun i => (zeroT P elem).bind fun z => (cO l).bind fun n =>
        if i.bytes ≤ 1024 ∧ z.cells.size = i.size ∧ 0 < i.size then some (.make elem i.size i.bytes z.cells.toList n) else none
      | _ => none
    else none
  | .slice t x lo hi none => (cO x).bind fun x => (cOpt lo).bind fun lo => (cOpt hi).bind fun hi => match P.underlying t with
    | some (.slice elem) => (sizeT P elem).map fun s => .p (.slice s x lo hi)
    | some .string => some (.p (.sliceStr x lo hi))
    | _ => none
  | .fieldAddr t x f => (cO x).bind fun x => match P.underlying t with
    | some (.struct fields) => (fields[f]?).bind fun fd => (sizeT P fd.type).bind fun s => if s = 0 then none else some (.p (.fieldAddr fd.offset x))
    | _ => none
  | .field t x f => (cO x).bind fun x => match P.underlying t with
    | some (.struct fields) => (fields[f]?).bind fun fd => (sizeT P fd.type).bind fun s => (aggT P fd.type).map fun g => .p (.field fd.offset s g x)
    | _ => none
  | .indexAddr t x i => (cO x).bind fun x => (cO i).bind fun i => match P.underlying t with
    | some (.slice elem) => (sizeT P elem).map fun s => .p (.indexAddr s x i)
    | _ => none
  | .index t x i => (cO x).bind fun x => (cO i).bind fun i => match P.underlying t with
    | some .string => some (.p (.indexStr x i))
    | _ => none
  | .extract x i => (cO x).map fun x => .p (.extract x i)
  | .call c => match c.callee with
    | .builtin .len => match c.args.toList, c.argTypes.toList with
      | [x], [t] => (match P.underlying t with
        | some .string => (cO x).map fun x => .p (.lenStr x)
        | some (.slice _) => (cO x).map fun x => .p (.len x)
        | _ => none)
      | _, _ => none
    | .builtin .max => match c.args.toList with
      | [x, y] => (cO x).bind fun x => (cO y).map fun y => .p (.mx x y)
      | _ => none
    | .builtin .min => match c.args.toList with
      | [x, y] => (cO x).bind fun x => (cO y).map fun y => .p (.mn x y)
      | _ => none
    | .builtin .append => match c.args.toList, c.argTypes.toList with
      | [s, x], [t, u] => (cO s).bind fun s => (cO x).bind fun x => (match P.underlying t, P.underlying u with
        | some (.slice elem), some (.slice elem') => (P.info? elem).bind fun i => (zeroT P elem).bind fun z =>
          if i.bytes ≤ 1024 ∧ elem = elem' ∧ z.cells.size = i.size ∧ 0 < i.size then some (.append elem i.size i.bytes s x) else none
        | _, _ => none)
      | _, _ => none
    | .builtin .copy => match c.args.toList, c.argTypes.toList with
      | [d, s], [t, u] => (cO d).bind fun d => (cO s).bind fun s => (match P.underlying t, P.underlying u with
        | some (.slice elem), some (.slice elem') => (sizeT P elem).bind fun w => if elem = elem' ∧ 0 < w then some (.copy elem w d s) else none
        | _, _ => none)
      | _, _ => none
    | .value f => (cO f).bind fun f => (cOs c.args.toList).map fun xs => .call f xs
    | _ => none
  | _ => none

def cGuard (ops : Array Oper) : Option (Nat × Bool) → Option (Option (Nat × Bool))
  | none => some none
  | some (j, b) => ((ops[j]?).bind (·.dst)).map fun d => some (d, b)

def dstOk (sz : Nat) : Option Nat → Bool
  | none => true
  | some d => d < sz

/-- One operation, without the mark. -/
def cOp (P : Program) (sz : Nat) (ops : Array Oper) (o : Oper) : Option XOper :=
  if dstOk sz o.dst then (cK P o.op).bind fun k => (cGuard ops o.guard).map fun g => ⟨o.dst, k, g, false⟩ else none

def XO.rd : XO → List Nat
  | .t n => [n]
  | .c _ => []

def optRd : Option XO → List Nat
  | none => []
  | some x => x.rd

def XP.rd : XP → List Nat
  | .move x | .isNil _ x | .un _ x | .conv _ x | .field _ _ _ x | .fieldAddr _ x | .len x | .lenStr x | .extract x _ | .nilCheck x => x.rd
  | .pick c a b => c.rd ++ a.rd ++ b.rd
  | .bin _ x y | .binB _ x y | .indexAddr _ x y | .indexStr x y | .mx x y | .mn x y => x.rd ++ y.rd
  | .slice _ x lo hi | .sliceStr x lo hi => x.rd ++ optRd lo ++ optRd hi
  | .mkfunc _ fs caps => fs.flatMap XO.rd ++ caps.flatMap XO.rd
  | .build _ ps => ps.flatMap fun q => q.2.2.rd

def XK.rd : XK → List Nat
  | .p x => x.rd
  | .load _ _ x | .box _ _ x | .make _ _ _ _ x => x.rd
  | .mkrow _ _ _ _ ps => ps.flatMap fun q => q.2.rd
  | .store _ x v => x.rd ++ v.rd
  | .append _ _ _ s x => s.rd ++ x.rd
  | .copy _ _ d s => d.rd ++ s.rd
  | .call f xs => f.rd ++ xs.flatMap XO.rd

def XOper.rd (o : XOper) : List Nat := o.k.rd ++ (match o.guard with | some (d, _) => [d] | none => [])

def XK.isMk : XK → Bool
  | .box .. | .mkrow .. | .make .. => true
  | _ => false

def XK.isLd : XK → Bool
  | .load .. => true
  | _ => false

def clash (d : Option Nat) (l : List Nat) : Bool :=
  match d with
  | some d => l.contains d
  | none => false

/-- May i and j, i ahead of j, stand unordered? -/
def freeTmp (x y : XOper) : Bool := !(clash x.dst y.rd) && !(clash y.dst x.rd) && !(clash x.dst y.dst.toList)

def freeHeap (x y : XOper) : Bool := !(x.k.isEff && y.k.isEff) && !(x.k.isMk && y.k.isEff)

def edgesBack (ops : List Oper) : Bool :=
  ops.zipIdx.all fun (o, i) => o.after.toList.all fun e => !(Region.binds .any e) || e.on < i

def loadEff (x y : XOper) : Bool := (x.k.isLd && y.k.isEff) || (x.k.isEff && y.k.isLd)

/-- Pairs i < j that no edge orders. -/
def loosePairs (b : Array Nat) (n : Nat) : List (Nat × Nat) :=
  (List.range n).flatMap fun j => ((List.range j).filter fun i => !((b.getD j 0).testBit i)).map fun i => (i, j)

def chkOf (ps : List (Nat × Nat)) (xs : Array XOper) (i : Nat) : Bool :=
  ps.any fun (a, b) => (a == i || b == i) && loadEff (xs.getD a default) (xs.getD b default)

def looseOk (ps : List (Nat × Nat)) (xs : Array XOper) : Bool :=
  ps.all fun (a, b) => freeTmp (xs.getD a default) (xs.getD b default) && freeHeap (xs.getD a default) (xs.getD b default)

def cOps (P : Program) (sz : Nat) (ops : Array Oper) : List Oper → Option (List XOper)
  | [] => some []
  | o :: r => (cOp P sz ops o).bind fun x => (cOps P sz ops r).map fun r => x :: r

def markAll (ps : List (Nat × Nat)) (xs : List XOper) : List XOper := xs.zipIdx.map fun (x, i) => { x with chk := chkOf ps xs.toArray i }

def cRegion (P : Program) (sz : Nat) (ops : Array Oper) (draw : Bool) : Option XC :=
  (cOps P sz ops ops.toList).bind fun xs =>
    if draw then
      let ps := loosePairs (Region.before ops) xs.length
      if edgesBack ops.toList && looseOk ps xs.toArray then
        let ys := markAll ps xs
        some (.region (ys.any (·.chk)) ys)
      else none
    else some (.region false xs)

def cC (P : Program) (sz : Nat) : Code → Option XC
  | .skip => some .skip
  | .label _ => some .skip
  | .region _ ops draw => cRegion P sz ops draw
  | .seq a b => (cC P sz a).bind fun a => (cC P sz b).map fun b => .seq a b
  | .cond c a b => (cO c).bind fun c => (cC P sz a).bind fun a => (cC P sz b).map fun b => .cond c a b
  | .block id b => (cC P sz b).map fun b => .block id b
  | .loop b => (cC P sz b).map fun b => .loop b
  | .exit id => some (.exit id)
  | .ret => some .ret
  | _ => none

def cRes (P : Program) : List ResultVar → Option (List XR)
  | [] => some []
  | .tmp t :: r => (cRes P r).map fun r => .tmp t :: r
  | .cell t ty :: r => (sizeT P ty).bind fun s => (aggT P ty).bind fun g => if s = 1 ∨ g = true then (cRes P r).map fun r => .cell t s g :: r else none

def cF (P : Program) (fn : Func) : Option XFunc :=
  if fn.name == "runtime.NumGoroutine" then none else
  fn.body.bind fun c => (cC P fn.ntmps c).bind fun b => (cRes P fn.results.toList).map fun r => ⟨fn.ntmps, b, r⟩

def compiled (P : Program) (f : FuncId) : Option XFunc := (P.funcs[f]?).bind (cF P)

end XM

/- The relation between the abstract machine's values and heaps and the model's. -/
namespace XM
open Go

structure Loc where
  blk : Nat
  base : Nat
  size : Nat
  rw : Bool

abbrev Ren := Nat → Option Loc

inductive VR (ρ : Ren) : Value → Value → Prop where
  | bool (b : Bool) : VR ρ (.bool b) (.bool b)
  | int (k : IntKind) (n : Int) : VR ρ (.int k n) (.int k n)
  | string (s : ByteArray) : VR ρ (.string s) (.string s)
  | ptrN : VR ρ (.pointer none) (.pointer none)
  | ptr {b o : Nat} {L : Loc} : ρ b = some L → VR ρ (.pointer (some ⟨b, o, none⟩)) (.pointer (some ⟨L.blk, L.base + o, none⟩))
  | sliceZ {A A' : Option Addr} {c : Nat} : A.isNone = A'.isNone → VR ρ (.slice A 0 c) (.slice A' 0 0)
  | slice {b o n c c' : Nat} {L : Loc} : ρ b = some L → n ≤ c' → (L.rw = true → o + c' * c ≤ L.size) →
      VR ρ (.slice (some ⟨b, o, none⟩) n c) (.slice (some ⟨L.blk, L.base + o, none⟩) n c')
  | nilFunc : VR ρ .nilFunc .nilFunc
  | nilIface : VR ρ .nilIface .nilIface
  | func (f : FuncId) {x x' y y' : List Value} : x.length = x'.length → (∀ (i : Nat) (u u' : Value), x[i]? = some u → x'[i]? = some u' → VR ρ u u') →
      y.length = y'.length → (∀ (i : Nat) (u u' : Value), y[i]? = some u → y'[i]? = some u' → VR ρ u u') → VR ρ (.func (.func f) x.toArray y.toArray) (.func (.func f) x'.toArray y'.toArray)
  | agg {x x' : List Value} : x.length = x'.length → (∀ (i : Nat) (u u' : Value), x[i]? = some u → x'[i]? = some u' → VR ρ u u') → VR ρ (.agg x.toArray) (.agg x'.toArray)
  | tuple {x x' : List Value} : x.length = x'.length → (∀ (i : Nat) (u u' : Value), x[i]? = some u → x'[i]? = some u' → VR ρ u u') → VR ρ (.tuple x.toArray) (.tuple x'.toArray)

/-- Lists that agree element by element. -/
def LR (ρ : Ren) (x x' : List Value) : Prop := x.length = x'.length ∧ ∀ (i : Nat) (u u' : Value), x[i]? = some u → x'[i]? = some u' → VR ρ u u'

theorem VR.undef (ρ : Ren) : VR ρ undef undef := VR.tuple (x := []) (x' := []) rfl (by simp)

def Ext (ρ ρ' : Ren) : Prop := ∀ b L, ρ b = some L → ρ' b = some L

theorem Ext.refl (ρ : Ren) : Ext ρ ρ := fun _ _ h => h
theorem Ext.trans {ρ ρ' ρ'' : Ren} (h : Ext ρ ρ') (h' : Ext ρ' ρ'') : Ext ρ ρ'' := fun b L e => h' b L (h b L e)

theorem VR.mono {ρ ρ' : Ren} {v v' : Value} (h : VR ρ v v') (e : Ext ρ ρ') : VR ρ' v v' := by
  induction h with
  | bool => exact .bool _
  | int => exact .int _ _
  | string => exact .string _
  | ptrN => exact .ptrN
  | ptr h => exact .ptr (e _ _ h)
  | sliceZ h => exact .sliceZ h
  | slice h1 h2 h3 => exact .slice (e _ _ h1) h2 h3
  | nilFunc => exact .nilFunc
  | nilIface => exact .nilIface
  | func f h1 _ h3 _ ih1 ih2 => exact .func f h1 ih1 h3 ih2
  | agg h1 _ ih => exact .agg h1 ih
  | tuple h1 _ ih => exact .tuple h1 ih

theorem LR.mono {ρ ρ' : Ren} {v v' : List Value} (h : LR ρ v v') (e : Ext ρ ρ') : LR ρ' v v' := ⟨h.1, fun i u u' a b => (h.2 i u u' a b).mono e⟩

theorem LR.nil (ρ : Ren) : LR ρ [] [] := ⟨rfl, by simp⟩
theorem LR.cons {ρ : Ren} {v v' : Value} {x x' : List Value} (h : VR ρ v v') (hs : LR ρ x x') : LR ρ (v :: x) (v' :: x') := by
  refine ⟨by simp [hs.1], fun i u u' a b => ?_⟩
  cases i with
  | zero => simp at a b; subst a; subst b; exact h
  | succ i => exact hs.2 i u u' (by simpa using a) (by simpa using b)
theorem LR.append {ρ : Ren} {x x' y y' : List Value} (h : LR ρ x x') (hs : LR ρ y y') : LR ρ (x ++ y) (x' ++ y') := by
  refine ⟨by simp [h.1, hs.1], fun i u u' a b => ?_⟩
  by_cases hi : i < x.length
  · rw [List.getElem?_append_left hi] at a; rw [List.getElem?_append_left (h.1 ▸ hi)] at b; exact h.2 i u u' a b
  · rw [List.getElem?_append_right (by omega)] at a; rw [List.getElem?_append_right (by have := h.1; omega)] at b
    rw [← h.1] at b; exact hs.2 _ u u' a b
theorem LR.take {ρ : Ren} {x x' : List Value} (h : LR ρ x x') (n : Nat) : LR ρ (x.take n) (x'.take n) := by
  refine ⟨by simp [h.1], fun i u u' a b => ?_⟩
  rw [List.getElem?_take] at a b
  by_cases hn : i < n
  · rw [if_pos hn] at a b; exact h.2 i u u' a b
  · rw [if_neg hn] at a; cases a
theorem LR.drop {ρ : Ren} {x x' : List Value} (h : LR ρ x x') (n : Nat) : LR ρ (x.drop n) (x'.drop n) := by
  refine ⟨by simp [h.1], fun i u u' a b => ?_⟩
  rw [List.getElem?_drop] at a b; exact h.2 _ u u' a b
theorem LR.get {ρ : Ren} {x x' : List Value} (h : LR ρ x x') {i : Nat} {u : Value} (a : x[i]? = some u) : ∃ u', x'[i]? = some u' ∧ VR ρ u u' := by
  have hi : i < x'.length := by
    have := (List.getElem?_eq_some_iff.1 a).1; rw [← h.1]; exact this
  exact ⟨x'[i], List.getElem?_eq_getElem hi, h.2 i u _ a (List.getElem?_eq_getElem hi)⟩
theorem LR.replicate {ρ : Ren} {z : List Value} (h : LR ρ z z) (n : Nat) : LR ρ (reps n z) (reps n z) := by
  induction n with
  | zero => exact LR.nil ρ
  | succ n ih => unfold reps at *; rw [List.replicate_succ, List.flatten_cons]; exact h.append ih

theorem VR.agg' {ρ : Ren} {x x' : List Value} (h : LR ρ x x') : VR ρ (.agg x.toArray) (.agg x'.toArray) := .agg h.1 h.2
theorem VR.tuple' {ρ : Ren} {x x' : List Value} (h : LR ρ x x') : VR ρ (.tuple x.toArray) (.tuple x'.toArray) := .tuple h.1 h.2

theorem VR.agg_inv {ρ : Ren} {cs : Array Value} {v' : Value} (h : VR ρ (.agg cs) v') : ∃ cs', v' = .agg cs' ∧ LR ρ cs.toList cs'.toList := by
  cases h with
  | agg h1 h2 => exact ⟨_, rfl, h1, h2⟩
theorem VR.tuple_inv {ρ : Ren} {cs : Array Value} {v' : Value} (h : VR ρ (.tuple cs) v') : ∃ cs', v' = .tuple cs' ∧ LR ρ cs.toList cs'.toList := by
  cases h with
  | tuple h1 h2 => exact ⟨_, rfl, h1, h2⟩
theorem VR.int_inv {ρ : Ren} {k : IntKind} {n : Int} {v' : Value} (h : VR ρ (.int k n) v') : v' = .int k n := by cases h; rfl
theorem VR.bool_inv {ρ : Ren} {b : Bool} {v' : Value} (h : VR ρ (.bool b) v') : v' = .bool b := by cases h; rfl
theorem VR.string_inv {ρ : Ren} {s : ByteArray} {v' : Value} (h : VR ρ (.string s) v') : v' = .string s := by cases h; rfl
theorem VR.ptr_inv {ρ : Ren} {a : Addr} {v' : Value} (h : VR ρ (.pointer (some a)) v') :
    ∃ L, ρ a.block = some L ∧ a.spot = none ∧ v' = .pointer (some ⟨L.blk, L.base + a.off, none⟩) := by cases h with | ptr h => exact ⟨_, h, rfl, rfl⟩
theorem VR.func_inv {ρ : Ren} {f : FuncId} {x y : Array Value} {v' : Value} (h : VR ρ (.func (.func f) x y) v') :
    ∃ x' y', v' = .func (.func f) x' y' ∧ LR ρ x.toList x'.toList ∧ LR ρ y.toList y'.toList := by
  cases h with
  | func f h1 h2 h3 h4 => exact ⟨_, _, rfl, ⟨h1, h2⟩, ⟨h3, h4⟩⟩

/-- The cells of a value. -/
theorem VR.cells {ρ : Ren} {v v' : Value} (h : VR ρ v v') : LR ρ v.cells.toList v'.cells.toList := by
  cases h with
  | agg h1 h2 => exact ⟨h1, h2⟩
  | bool => exact LR.cons (.bool _) (LR.nil ρ)
  | int => exact LR.cons (.int _ _) (LR.nil ρ)
  | string => exact LR.cons (.string _) (LR.nil ρ)
  | ptrN => exact LR.cons .ptrN (LR.nil ρ)
  | ptr h => exact LR.cons (.ptr h) (LR.nil ρ)
  | sliceZ h => exact LR.cons (.sliceZ h) (LR.nil ρ)
  | slice h1 h2 h3 => exact LR.cons (.slice h1 h2 h3) (LR.nil ρ)
  | nilFunc => exact LR.cons .nilFunc (LR.nil ρ)
  | nilIface => exact LR.cons .nilIface (LR.nil ρ)
  | func f h1 h2 h3 h4 => exact LR.cons (.func f h1 h2 h3 h4) (LR.nil ρ)
  | tuple h1 h2 => exact LR.cons (.tuple h1 h2) (LR.nil ρ)

theorem VR.one {ρ : Ren} {v v' : Value} (h : VR ρ v v') : one v' = one v := by cases h <;> rfl

theorem LR.allOne {ρ : Ren} {x x' : List Value} (h : LR ρ x x') (ho : x.all one = true) : x'.all one = true := by
  rw [List.all_eq_true] at *
  intro v' hv
  obtain ⟨i, hi, rfl⟩ := List.getElem_of_mem hv
  have hi' : i < x.length := by rw [h.1]; exact hi
  have := h.2 i x[i] x'[i] (by simp [hi']) (by simp [hi])
  rw [this.one]; exact ho _ (List.getElem_mem hi')

theorem atomOk_VR (ρ : Ren) (v : Value) (h : atomOk v = true) : VR ρ v v := by
  unfold atomOk at h
  split at h
  · exact .bool _
  · exact .int _ _
  · exact .string _
  · exact .ptrN
  · exact .sliceZ rfl
  · exact .nilFunc
  · exact .nilIface
  · rename_i f a b
    simp at h
    obtain ⟨rfl, rfl⟩ := h
    exact VR.func f (x := []) (x' := []) (y := []) (y' := []) rfl (by simp) rfl (by simp)
  · simp at h

theorem atomsOk_LR (ρ : Ren) (x : List Value) (h : x.all atomOk = true) : LR ρ x x := by
  rw [List.all_eq_true] at h
  refine ⟨rfl, fun i u u' a b => ?_⟩
  rw [a] at b; cases b
  exact atomOk_VR ρ u (h u (List.mem_of_getElem? a))

theorem constOk_VR (ρ : Ren) (v : Value) (h : constOk v = true) : VR ρ v v := by
  unfold constOk at h
  split at h
  · rename_i cs; have := VR.agg' (atomsOk_LR ρ cs.toList h); simpa using this
  · rename_i cs; have := VR.tuple' (atomsOk_LR ρ cs.toList h); simpa using this
  · exact atomOk_VR ρ v h

/-! ### operands -/

theorem cO_VR {ρ : Ren} {e : Env} {a : Act} {x : Operand} {x' : XO} (hc : cO x = some x') (h : ∀ t ∈ x'.rd, VR ρ (e t) (a.tmps.getD t undef)) :
    VR ρ (x'.ev e) (a.eval x) := by
  cases x with
  | tmp t => simp [cO] at hc; subst hc; exact h t (by simp [XO.rd])
  | const v => simp [cO] at hc; obtain ⟨h1, rfl⟩ := hc; exact constOk_VR ρ v h1
  | func f => simp [cO] at hc; subst hc; exact VR.func f (x := []) (x' := []) (y := []) (y' := []) rfl (by simp) rfl (by simp)
  | global g => simp [cO] at hc

theorem cOs_LR {ρ : Ren} {e : Env} {a : Act} : ∀ {xs : List Operand} {ys : List XO}, cOs xs = some ys → (∀ t ∈ ys.flatMap XO.rd, VR ρ (e t) (a.tmps.getD t undef)) →
    LR ρ (ys.map (·.ev e)) (xs.map a.eval)
  | [], ys, hc, _ => by simp [cOs] at hc; subst hc; exact LR.nil ρ
  | x :: r, ys, hc, h => by
    simp only [cOs, Option.bind_eq_some_iff, Option.map_eq_some_iff] at hc
    obtain ⟨y, hy, ys', hys, rfl⟩ := hc
    simp only [List.flatMap_cons, List.mem_append] at h
    exact LR.cons (cO_VR hy fun t ht => h t (.inl ht)) (cOs_LR hys fun t ht => h t (.inr ht))

end XM

/- Plain operations of the abstract machine come to what the model's come to. -/
namespace XM
open Go

section
variable {P : Program} {ρ : Ren} {e : Env} {a : Act}

def Gives (P : Program) (a : Act) (o : Oper) (v : Value) : Prop := ∀ w, (execOp a.eval o).run P w = .ok (.value v) w

theorem run_underlying' {t : TypeId} {d : TypeDesc} (h : P.underlying t = some d) (w : World) : (underlying t).run P w = .ok d w := by
  simp [underlying, h]
theorem run_sizeOf' {t : TypeId} {s : Nat} (h : sizeT P t = some s) (w : World) : (Go.sizeOf t).run P w = .ok s w := by
  unfold sizeT at h
  cases hi : P.info? t with
  | none => simp [hi] at h
  | some i => simp [hi] at h; simp [Go.sizeOf, typeInfo, hi, h]
theorem run_isAgg' {t : TypeId} {g : Bool} (h : aggT P t = some g) (w : World) : (isAgg t).run P w = .ok g w := by
  unfold aggT at h
  cases hu : P.underlying t with
  | none => simp [hu] at h
  | some d => cases d <;> simp [hu] at h <;> subst h <;> simp [isAgg, underlying, hu]
theorem run_zero' {t : TypeId} {z : Value} (h : zeroT P t = some z) (w : World) : (zeroValue t).run P w = .ok z w := by
  unfold zeroT at h
  cases hi : P.info? t with
  | none => simp [hi] at h
  | some i =>
    cases hz : i.zero with
    | none => simp [hi, hz] at h
    | some y => simp only [hi, hz, Option.bind_some, Option.ite_none_right_eq_some, Option.some.injEq] at h; simp [zeroValue, typeInfo, hi, hz, h.2]
theorem zeroT_one {t : TypeId} {z : Value} (h : zeroT P t = some z) : z.cells.toList.all one = true := by
  unfold zeroT at h
  cases hi : P.info? t with
  | none => simp [hi] at h
  | some i =>
    cases hz : i.zero with
    | none => simp [hi, hz] at h
    | some y => simp only [hi, hz, Option.bind_some, Option.ite_none_right_eq_some, Option.some.injEq] at h; obtain ⟨h1, rfl⟩ := h; exact h1.2
theorem zeroT_ok {t : TypeId} {z : Value} (h : zeroT P t = some z) : constOk z = true := by
  unfold zeroT at h
  cases hi : P.info? t with
  | none => simp [hi] at h
  | some i =>
    cases hz : i.zero with
    | none => simp [hi, hz] at h
    | some y => simp only [hi, hz, Option.bind_some, Option.ite_none_right_eq_some, Option.some.injEq] at h; obtain ⟨h1, rfl⟩ := h; exact h1.1

theorem binInt_run {op : BinOp} {k : IntKind} {x y : Int} {v : Value} (hs : isShift op = false) (h : binInt op k x y = some v) (w : World) (t : TypeId) :
    (binOp op t (.int k x) (.int k y)).run P w = .ok v w ∧ ∀ ρ, VR ρ v v := by
  cases op <;> simp [binInt, isShift] at h hs
  case quo => obtain ⟨h1, rfl⟩ := h; exact ⟨by simp [binOp, Op.intDiv, h1], fun _ => .int _ _⟩
  case rem => obtain ⟨h1, rfl⟩ := h; exact ⟨by simp [binOp, Op.intDiv, h1], fun _ => .int _ _⟩
  all_goals (subst h; exact ⟨by simp [binOp, Op.intArith, Op.intBits, Op.intCmp], fun _ => by first | exact .int _ _ | exact .bool _⟩)

theorem binShift_run {op : BinOp} {k k' : IntKind} {x y : Int} {v : Value} (hs : isShift op = true) (h : binShift op k x y = some v) (w : World) (t : TypeId) :
    (binOp op t (.int k x) (.int k' y)).run P w = .ok v w ∧ ∀ ρ, VR ρ v v := by
  cases op <;> simp [binShift, isShift] at h hs
  all_goals (obtain ⟨h1, rfl⟩ := h; exact ⟨by simp [binOp, Op.shift, Int.not_lt.2 h1], fun _ => .int _ _⟩)

theorem binStr_run {op : BinOp} {x y : ByteArray} {v : Value} (h : binStr op x y = some v) (w : World) (t : TypeId) :
    (binOp op t (.string x) (.string y)).run P w = .ok v w ∧ ∀ ρ, VR ρ v v := by
  cases op <;> simp only [binStr] at h <;> (try cases h)
  case add =>
    split at h
    · rename_i hs; cases h
      refine ⟨?_, fun _ => .string _⟩
      have : ¬ ((((x.size + y.size : Nat) : Int)) > IntKind.i64.max) := by
        have : IntKind.i64.max = 9223372036854775807 := by decide
        rw [this]; omega
      simp only [binOp, Op.stringOp]
      rw [if_neg this]; rfl
    · cases h
  all_goals exact ⟨by simp [binOp, Op.stringOp], fun _ => .bool _⟩

theorem run_equalIn_bool (d : Nat) (x y : Bool) {t : TypeId} (hu : P.underlying t = some .bool) (w : World) :
    (Op.equalIn (d + 1) t (.bool x) (.bool y)).run P w = .ok (x == y) w := by
  simp [Op.equalIn, run_underlying' hu]
theorem run_bool_eql (x y : Bool) {t : TypeId} (hu : P.underlying t = some .bool) (w : World) : (Op.equal t (.bool x) (.bool y)).run P w = .ok (x == y) w := by
  unfold Op.equal Op.maxDepth; exact run_equalIn_bool 9999 x y hu w
theorem run_equalIn_slice (d : Nat) (A : Option Addr) (n c : Nat) {t u : TypeId} (hu : P.underlying t = some (.slice u)) (w : World) :
    (Op.equalIn (d + 1) t (.slice A n c) (.slice none 0 0)).run P w = .ok A.isNone w := by
  cases A <;> simp [Op.equalIn, run_underlying' hu]
theorem run_slice_eql (A : Option Addr) (n c : Nat) {t u : TypeId} (hu : P.underlying t = some (.slice u)) (w : World) :
    (Op.equal t (.slice A n c) (.slice none 0 0)).run P w = .ok A.isNone w := by
  unfold Op.equal Op.maxDepth; exact run_equalIn_slice 9999 A n c hu w

/-- A value that the operation gives, whatever the world. -/
theorem gives_v {o : Oper} {s : Sem Value} {v : Value} (h : execOp a.eval o = (do pure (.value (← s)))) (hs : ∀ w, s.run P w = .ok v w) : Gives P a o v := by
  intro w; rw [h]; simp [hs]

theorem eqGuard_run {op : BinOp} {t : TypeId} {x y : Operand} {u v : Value} (hu : ∀ cs, u ≠ .agg cs) (hn : u ≠ .nilIface) (w : World) :
    (eqGuard op t x y u v).run P w = .ok () w := by
  unfold eqGuard
  cases u <;> first | exact absurd rfl (hu _) | exact absurd rfl hn | (split <;> simp)

theorem bin_gives {o : Oper} {op : BinOp} {t t' : TypeId} {x y : Operand} {v : Value} (ho : o.op = .binOp op t x y t')
    (hu : ∀ cs, a.eval x ≠ .agg cs) (hn : a.eval x ≠ .nilIface) (h : ∀ w, (binOp op t (a.eval x) (a.eval y)).run P w = .ok v w) : Gives P a o v := by
  intro w
  simp [execOp, ho, eqGuard_run hu hn, h]

theorem binV_VR {op : BinOp} {u u' v : Value} (h : binV op u u' = some v) (ρ : Ren) : VR ρ v v := by
  unfold binV at h
  split at h
  · split at h
    · cases op <;> simp [binShift] at h
      all_goals (obtain ⟨h1, rfl⟩ := h; exact .int _ _)
    · split at h
      · cases op <;> simp [binInt] at h
        case quo => obtain ⟨h1, rfl⟩ := h; exact .int _ _
        case rem => obtain ⟨h1, rfl⟩ := h; exact .int _ _
        all_goals (subst h; first | exact .int _ _ | exact .bool _)
      · cases h
  · cases op <;> simp only [binStr] at h <;> (try cases h)
    case add => split at h <;> cases h; exact .string _
    all_goals exact .bool _
  · cases h

theorem binV_sound {o : Oper} {op : BinOp} {t t' : TypeId} {x y : Operand} {u u' v : Value} (ho : o.op = .binOp op t x y t')
    (hx : VR ρ u (a.eval x)) (hy : VR ρ u' (a.eval y)) (h : binV op u u' = some v) : VR ρ v v ∧ Gives P a o v := by
  have h0 := h
  unfold binV at h
  split at h
  · rename_i k m k' n
    have ex := hx.int_inv; have ey := hy.int_inv
    split at h
    · rename_i hs
      exact ⟨binV_VR h0 ρ, bin_gives ho (by simp [ex]) (by simp [ex]) fun w => by rw [ex, ey]; exact (binShift_run hs h w t).1⟩
    · rename_i hs
      split at h
      · rename_i hk; subst hk
        have hs : isShift op = false := by simpa using hs
        exact ⟨binV_VR h0 ρ, bin_gives ho (by simp [ex]) (by simp [ex]) fun w => by rw [ex, ey]; exact (binInt_run hs h w t).1⟩
      · cases h
  · have ex := hx.string_inv; have ey := hy.string_inv
    exact ⟨binV_VR h0 ρ, bin_gives ho (by simp [ex]) (by simp [ex]) fun w => by rw [ex, ey]; exact (binStr_run h w t).1⟩
  · cases h

theorem binB_sound {o : Oper} {op : BinOp} {neg : Bool} {t t' : TypeId} {x y : Operand} {u u' v : Value} (ho : o.op = .binOp op t x y t')
    (hop : (op = .eql ∧ neg = false) ∨ (op = .neq ∧ neg = true)) (hu : P.underlying t = some .bool)
    (hx : VR ρ u (a.eval x)) (hy : VR ρ u' (a.eval y)) (h : binBV neg u u' = some v) : VR ρ v v ∧ Gives P a o v := by
  unfold binBV at h
  split at h
  · rename_i p q
    have ex := hx.bool_inv; have ey := hy.bool_inv
    cases h
    refine ⟨.bool _, bin_gives ho (by simp [ex]) (by simp [ex]) fun w => ?_⟩
    rw [ex, ey]
    rcases hop with ⟨rfl, rfl⟩ | ⟨rfl, rfl⟩ <;> simp [binOp, run_bool_eql p q hu]
  · cases h

theorem isNil_sound {o : Oper} {op : BinOp} {neg : Bool} {t t' u : TypeId} {x y : Operand} {s v : Value} (ho : o.op = .binOp op t x y t')
    (hop : (op = .eql ∧ neg = false) ∨ (op = .neq ∧ neg = true)) (ht : P.underlying t = some (.slice u)) (hy : isNilC y = true)
    (hx : VR ρ s (a.eval x)) (h : isNilV neg s = some v) : VR ρ v v ∧ Gives P a o v := by
  have ey : a.eval y = .slice none 0 0 := by
    unfold isNilC at hy; split at hy
    · rfl
    · cases hy
  have hs : ∃ A n c, s = .slice A n c := by
    unfold isNilV at h; split at h
    · exact ⟨_, _, _, rfl⟩
    · exact ⟨_, _, _, rfl⟩
    · cases h
  obtain ⟨A, n, c, rfl⟩ := hs
  have hA : ∃ A' n' c', a.eval x = .slice A' n' c' ∧ A'.isNone = A.isNone := by
    generalize a.eval x = z at hx
    cases hx with
    | sliceZ hz => exact ⟨_, _, _, rfl, hz.symm⟩
    | slice h1 h2 h3 => exact ⟨_, _, _, rfl, rfl⟩
  obtain ⟨A', n', c', ex, hn⟩ := hA
  have hv : v = .bool (if neg then !A.isNone else A.isNone) := by
    cases A <;> simp [isNilV] at h <;> subst h <;> cases neg <;> rfl
  subst hv
  refine ⟨.bool _, bin_gives ho (by simp [ex]) (by simp [ex]) fun w => ?_⟩
  rw [ex, ey]
  rcases hop with ⟨rfl, rfl⟩ | ⟨rfl, rfl⟩
  · simp [binOp, run_slice_eql A' n' c' ht, hn]
  · simp [binOp, run_slice_eql A' n' c' ht, hn]

theorem un_sound {o : Oper} {op : UnOp} {t : TypeId} {x : Operand} {u v : Value} (ho : o.op = .unOp op t x) (hx : VR ρ u (a.eval x)) (h : unV op u = some v) : VR ρ v v ∧ Gives P a o v := by
  unfold unV at h
  split at h
  · cases h; have ex := hx.int_inv
    exact ⟨.int _ _, fun w => by simp [execOp, ho, Op.unary, ex, Op.intArith]⟩
  · cases h; have ex := hx.bool_inv
    exact ⟨.bool _, fun w => by simp [execOp, ho, Op.unary, ex]⟩
  · cases h

theorem LR.extract {x x' : Array Value} (h : LR ρ x.toList x'.toList) (i j : Nat) : LR ρ (x.extract i j).toList (x'.extract i j).toList := by
  simp only [Array.toList_extract, List.extract_eq_take_drop]
  exact (h.drop i).take _

theorem part_sound {cs cs' : Array Value} {off s : Nat} {g : Bool} {t : TypeId} {v : Value} (hs : sizeT P t = some s) (hg : aggT P t = some g)
    (h : LR ρ cs.toList cs'.toList) (hv : partV off s g cs = some v) : ∃ v', VR ρ v v' ∧ ∀ w, (part t cs' off).run P w = .ok v' w := by
  unfold partV at hv
  cases g with
  | true =>
    simp at hv; subst hv
    have := VR.agg' (h.extract off (off + s))
    simp only [Array.toArray_toList] at this
    exact ⟨_, this, fun w => by simp [part, run_isAgg' hg, run_sizeOf' hs]⟩
  | false =>
    simp at hv
    have hv' : cs.toList[off]? = some v := by simpa using hv
    obtain ⟨v', h1, h2⟩ := h.get hv'
    have h1' : cs'[off]? = some v' := by simpa using h1
    exact ⟨v', h2, fun w => by simp [part, run_isAgg' hg, h1']⟩

theorem add_eq (b o n : Nat) : (Addr.add ⟨b, o, none⟩ n) = ⟨b, o + n, none⟩ := by
  unfold Addr.add; split
  · rename_i h; subst h; rfl
  · rfl

theorem asIntOf_run (k : IntKind) (n : Int) (w : World) : (asIntOf (.int k n)).run P w = .ok (k, n) w := rfl

theorem fieldAddr_sound {o : Oper} {s : TypeId} {x : Operand} {f : Nat} {fields : Array Field} {fd : Field} {sz : Nat} {u v : Value} (ho : o.op = .fieldAddr s x f)
    (hs : P.underlying s = some (.struct fields)) (hf : fields[f]? = some fd) (hz : sizeT P fd.type = some sz) (hne : sz ≠ 0) (hx : VR ρ u (a.eval x))
    (hv : fieldAddrV fd.offset u = some v) : ∃ v', VR ρ v v' ∧ Gives P a o v' := by
  have ⟨a0, hu⟩ : ∃ a0, u = .pointer (some a0) := by
    unfold fieldAddrV at hv; split at hv
    · exact ⟨_, rfl⟩
    · cases hv
  subst hu
  cases hv
  obtain ⟨L, h1, h2, h3⟩ := hx.ptr_inv
  refine ⟨_, VR.ptr h1, fun w => ?_⟩
  simp [execOp, ho, Instr.fieldAt, run_underlying' hs, hf, h3, Instr.sureAddr, fieldPlace, run_sizeOf' hz, hne, add_eq, addOff, Nat.add_assoc]

theorem VR.slice_inv {A : Option Addr} {n c : Nat} {v' : Value} (h : VR ρ (.slice A n c) v') :
    ∃ A' c', v' = .slice A' n c' ∧ n ≤ c' ∧ A'.isNone = A.isNone ∧
      ((n = 0 ∧ c' = 0) ∨ ∃ (b o : Nat) (L : Loc), A = some ⟨b, o, none⟩ ∧ ρ b = some L ∧ A' = some ⟨L.blk, L.base + o, none⟩ ∧ (L.rw = true → o + c' * c ≤ L.size)) := by
  cases h with
  | sliceZ h => exact ⟨_, _, rfl, Nat.le_refl _, h.symm, .inl ⟨rfl, rfl⟩⟩
  | slice h1 h2 h3 => exact ⟨_, _, rfl, h2, rfl, .inr ⟨_, _, _, rfl, h1, rfl, h3⟩⟩

theorem idx_some {i : Int} {n j : Nat} (h : idx i n = some j) : 0 ≤ i ∧ i < n ∧ j = i.toNat := by
  unfold idx at h; split at h
  · rename_i h'; cases h; exact ⟨h'.1, h'.2, rfl⟩
  · cases h

theorem indexAddr_sound {o : Oper} {t e : TypeId} {x i : Operand} {sz : Nat} {u u' v : Value} (ho : o.op = .indexAddr t x i)
    (ht : P.underlying t = some (.slice e)) (hz : sizeT P e = some sz) (hx : VR ρ u (a.eval x)) (hi : VR ρ u' (a.eval i))
    (hv : indexAddrV sz u u' = some v) : ∃ v', VR ρ v v' ∧ Gives P a o v' := by
  have ⟨a0, n, c, k, j, hu, hu'⟩ : ∃ a0 n c k j, u = .slice (some a0) n c ∧ u' = .int k j := by
    unfold indexAddrV at hv; split at hv
    · exact ⟨_, _, _, _, _, rfl, rfl⟩
    · cases hv
  subst hu; subst hu'
  simp only [indexAddrV, indexStrV, Option.bind_eq_some_iff] at hv
  obtain ⟨q, hq, hv⟩ := hv
  cases hv
  obtain ⟨h0, h1, rfl⟩ := idx_some hq
  obtain ⟨A', c', ex, hn, hnn, h⟩ := hx.slice_inv
  have ei := hi.int_inv
  rcases h with ⟨hn0, _⟩ | ⟨b, of, L, hA, hL, hA', hrw⟩
  · omega
  · cases hA
    subst hA'
    refine ⟨_, VR.ptr hL, fun w => ?_⟩
    simp [execOp, ho, Instr.indexAt, run_underlying' ht, ex, ei, asIntOf_run, h0, h1, run_sizeOf' hz, add_eq, addOff, Nat.add_assoc]

theorem indexStr_sound {o : Oper} {t : TypeId} {x i : Operand} {u u' v : Value} (ho : o.op = .index t x i)
    (ht : P.underlying t = some .string) (hx : VR ρ u (a.eval x)) (hi : VR ρ u' (a.eval i))
    (hv : indexStrV u u' = some v) : ∃ v', VR ρ v v' ∧ Gives P a o v' := by
  have ⟨s, k, j, hu, hu'⟩ : ∃ s k j, u = .string s ∧ u' = .int k j := by
    unfold indexStrV at hv; split at hv
    · exact ⟨_, _, _, rfl, rfl⟩
    · cases hv
  subst hu; subst hu'
  simp only [indexAddrV, indexStrV, Option.bind_eq_some_iff] at hv
  obtain ⟨q, hq, b, hb, hv⟩ := hv
  cases hv
  obtain ⟨h0, h1, rfl⟩ := idx_some hq
  have ex := hx.string_inv; have ei := hi.int_inv
  exact ⟨_, .int _ _, fun w => by simp [execOp, ho, Instr.index, run_underlying' ht, ex, ei, asIntOf_run, h0, hb]⟩

theorem optVR {x : Option Operand} {x' : Option XO} (hc : cOpt x = some x') (h : ∀ t ∈ optRd x', VR ρ (e t) (a.tmps.getD t undef)) :
    (x = none ∧ x' = none) ∨ ∃ y y', x = some y ∧ x' = some y' ∧ VR ρ (y'.ev e) (a.eval y) := by
  cases x with
  | none => simp [cOpt] at hc; exact .inl ⟨rfl, hc.symm⟩
  | some y =>
    simp only [cOpt, Option.map_eq_some_iff] at hc
    obtain ⟨y', hy, rfl⟩ := hc
    exact .inr ⟨y, y', rfl, rfl, cO_VR hy h⟩

theorem sliceBound_run {i : Int} {k : IntKind} {top : Nat} {code : BoundsCode} (h0 : 0 ≤ i) (h1 : i ≤ top) (w : World) : (Instr.sliceBound (.int k i) top code).run P w = .ok i.toNat w := by
  simp [Instr.sliceBound, asIntOf_run, h0, h1]

theorem bnd_cases {x : Option Value} {d top r : Nat} (h : bnd x d top = some r) : (x = none ∧ r = d) ∨ ∃ k i, x = some (.int k i) ∧ 0 ≤ i ∧ i ≤ top ∧ r = i.toNat := by
  unfold bnd at h
  split at h
  · cases h; exact .inl ⟨rfl, rfl⟩
  · split at h
    · rename_i h'; cases h; exact .inr ⟨_, _, rfl, h'.1, h'.2, rfl⟩
    · cases h
  · cases h

theorem optInt {x : Option Operand} {x' : Option XO} (h : (x = none ∧ x' = none) ∨ ∃ y y', x = some y ∧ x' = some y' ∧ VR ρ (y'.ev e) (a.eval y)) {k : IntKind} {i : Int}
    (he : x'.map (·.ev e) = some (.int k i)) : x.map a.eval = some (.int k i) := by
  rcases h with ⟨rfl, rfl⟩ | ⟨y, y', rfl, rfl, hv⟩
  · simp at he
  · simp at he; rw [he] at hv; simp [hv.int_inv]
theorem optNone {x : Option Operand} {x' : Option XO} (h : (x = none ∧ x' = none) ∨ ∃ y y', x = some y ∧ x' = some y' ∧ VR ρ (y'.ev e) (a.eval y))
    (he : x'.map (·.ev e) = none) : x.map a.eval = none := by
  rcases h with ⟨rfl, rfl⟩ | ⟨y, y', rfl, rfl, hv⟩
  · rfl
  · simp at he

/-- The bounds of a slice expression, in the model: n the length, c the capacity. -/
theorem sliceBounds_run {lo hi : Option Operand} {lo' hi' : Option XO} {n c : Nat} {h l : Nat} (hnc : n ≤ c) (isSl : Bool)
    (hlo : (lo = none ∧ lo' = none) ∨ ∃ y y', lo = some y ∧ lo' = some y' ∧ VR ρ (y'.ev e) (a.eval y))
    (hhi : (hi = none ∧ hi' = none) ∨ ∃ y y', hi = some y ∧ hi' = some y' ∧ VR ρ (y'.ev e) (a.eval y))
    (e1 : bnd (hi'.map (·.ev e)) n n = some h) (e2 : bnd (lo'.map (·.ev e)) 0 h = some l) (w : World) :
    (Instr.sliceBounds isSl n c (lo.map a.eval) (hi.map a.eval) none).run P w = .ok (l, h, c) w ∧ l ≤ h ∧ h ≤ n := by
  have hH : (∃ k i, hi.map a.eval = some (.int k i) ∧ 0 ≤ i ∧ i ≤ n ∧ h = i.toNat) ∨ (hi.map a.eval = none ∧ h = n) := by
    rcases bnd_cases e1 with ⟨q, rfl⟩ | ⟨k, i, q, h0, h1, rfl⟩
    · exact .inr ⟨optNone hhi q, rfl⟩
    · exact .inl ⟨k, i, optInt hhi q, h0, h1, rfl⟩
  have hL : (∃ k i, lo.map a.eval = some (.int k i) ∧ 0 ≤ i ∧ i ≤ h ∧ l = i.toNat) ∨ (lo.map a.eval = none ∧ l = 0) := by
    rcases bnd_cases e2 with ⟨q, rfl⟩ | ⟨k, i, q, h0, h1, rfl⟩
    · exact .inr ⟨optNone hlo q, rfl⟩
    · exact .inl ⟨k, i, optInt hlo q, h0, h1, rfl⟩
  have h2 : l ≤ h := by rcases hL with ⟨k, i, _, h0, h1, rfl⟩ | ⟨_, rfl⟩ <;> omega
  have h3 : h ≤ n := by rcases hH with ⟨k, i, _, h0, h1, rfl⟩ | ⟨_, rfl⟩ <;> omega
  refine ⟨?_, h2, h3⟩
  rcases hH with ⟨k, i, q, h0, h1, rfl⟩ | ⟨q, rfl⟩ <;> rcases hL with ⟨k', i', q', h0', h1', rfl⟩ | ⟨q', rfl⟩
  · simp [Instr.sliceBounds, q, q', sliceBound_run h0 (show i ≤ (c : Int) by omega), sliceBound_run h0' h1']
  · simp [Instr.sliceBounds, q, q', sliceBound_run h0 (show i ≤ (c : Int) by omega)]
  · simp [Instr.sliceBounds, q, q', sliceBound_run h0' h1']
  · simp [Instr.sliceBounds, q, q']

theorem slice_sound {o : Oper} {t el : TypeId} {x : Operand} {lo hi : Option Operand} {lo' hi' : Option XO} {sz : Nat} {u v : Value} (ho : o.op = .slice t x lo hi none)
    (ht : P.underlying t = some (.slice el)) (hz : sizeT P el = some sz) (hx : VR ρ u (a.eval x))
    (hlo : (lo = none ∧ lo' = none) ∨ ∃ y y', lo = some y ∧ lo' = some y' ∧ VR ρ (y'.ev e) (a.eval y))
    (hhi : (hi = none ∧ hi' = none) ∨ ∃ y y', hi = some y ∧ hi' = some y' ∧ VR ρ (y'.ev e) (a.eval y))
    (hv : sliceV sz (lo'.map (·.ev e)) (hi'.map (·.ev e)) u = some v) : ∃ v', VR ρ v v' ∧ Gives P a o v' := by
  have ⟨A, n, k, h, l, hu, e1, e2, hv2⟩ : ∃ A n k h l, u = .slice A n k ∧ bnd (hi'.map (·.ev e)) n n = some h ∧ bnd (lo'.map (·.ev e)) 0 h = some l ∧
      (match (generalizing := false) A with | none => some (Value.slice none 0 0) | some a => if k = sz then some (.slice (some (addOff a (l * sz))) (h - l) sz) else none) = some v := by
    unfold sliceV at hv
    split at hv
    · simp only [Option.bind_eq_some_iff] at hv
      obtain ⟨h, e1, l, e2, hv⟩ := hv
      exact ⟨_, _, _, h, l, rfl, e1, e2, hv⟩
    · simp only [Option.bind_eq_some_iff] at hv
      obtain ⟨h, e1, l, e2, hv⟩ := hv
      exact ⟨_, _, _, h, l, rfl, e1, e2, hv⟩
    · cases hv
  subst hu
  clear hv
  obtain ⟨A', c', ex, hn, hnn, hh⟩ := hx.slice_inv
  have hb := fun w => (sliceBounds_run (P := P) hn true hlo hhi e1 e2 w).1
  obtain ⟨hlh, hhn⟩ := (sliceBounds_run (P := P) hn true hlo hhi e1 e2 default).2
  have key : ∀ A'', A'' = (if c' = l then A' else A'.map (·.add (l * sz))) → Gives P a o (.slice A'' (h - l) (c' - l)) := by
    intro A'' hA w
    subst hA
    simp only [execOp, ho, ex, Instr.sliceAt, Sem.run_bind, run_underlying' ht, Result.andThen_ok, Instr.slice, Option.map_none, hb w, run_sizeOf' hz, Sem.run_pure]
  cases A with
  | none =>
    simp at hv2
    subst hv2
    cases A' with
    | some _ => simp at hnn
    | none =>
      rcases hh with ⟨rfl, rfl⟩ | ⟨b, of, L, hA, _⟩
      · have h0 : h = 0 := by omega
        have l0 : l = 0 := by omega
        subst h0; subst l0
        exact ⟨_, .sliceZ rfl, key _ (by simp)⟩
      · cases hA
  | some a0 =>
    simp at hv2
    obtain ⟨rfl, rfl⟩ := hv2
    rcases hh with ⟨rfl, rfl⟩ | ⟨b, of, L, hA, hL, hA', hrw⟩
    · have h0 : h = 0 := by omega
      have l0 : l = 0 := by omega
      subst h0; subst l0
      exact ⟨_, .sliceZ (by simpa using hnn.symm), key _ (by simp)⟩
    · cases hA
      subst hA'
      by_cases hc : c' = l
      · have h1 : h = l := by omega
        subst h1
        have h2 : c' - h = 0 := by omega
        have := key _ rfl
        rw [if_pos hc, h2] at this
        refine ⟨_, ?_, this⟩
        rw [Nat.sub_self]
        exact .sliceZ rfl
      · have := key _ rfl
        rw [if_neg hc] at this
        simp only [Option.map_some, add_eq] at this
        refine ⟨_, ?_, this⟩
        rw [Nat.add_assoc]
        refine VR.slice hL (by omega) fun hr => ?_
        have h4 := hrw hr
        have h5 : l * k + (c' - l) * k = c' * k := by rw [← Nat.add_mul]; congr 1; omega
        rw [Nat.add_assoc, h5]; exact h4

theorem sliceStr_sound {o : Oper} {t : TypeId} {x : Operand} {lo hi : Option Operand} {lo' hi' : Option XO} {u v : Value} (ho : o.op = .slice t x lo hi none)
    (ht : P.underlying t = some .string) (hx : VR ρ u (a.eval x))
    (hlo : (lo = none ∧ lo' = none) ∨ ∃ y y', lo = some y ∧ lo' = some y' ∧ VR ρ (y'.ev e) (a.eval y))
    (hhi : (hi = none ∧ hi' = none) ∨ ∃ y y', hi = some y ∧ hi' = some y' ∧ VR ρ (y'.ev e) (a.eval y))
    (hv : sliceStrV (lo'.map (·.ev e)) (hi'.map (·.ev e)) u = some v) : ∃ v', VR ρ v v' ∧ Gives P a o v' := by
  have ⟨s, hu⟩ : ∃ s, u = .string s := by
    unfold sliceStrV at hv; split at hv
    · exact ⟨_, rfl⟩
    · cases hv
  subst hu
  simp only [sliceStrV, Option.bind_eq_some_iff] at hv
  obtain ⟨h, e1, l, e2, hv⟩ := hv
  cases hv
  have ex := hx.string_inv
  have hb := fun w => (sliceBounds_run (P := P) (Nat.le_refl _) false hlo hhi e1 e2 w).1
  exact ⟨_, .string _, fun w => by simp [execOp, ho, ex, Instr.sliceAt, run_underlying' ht, Instr.slice, hb w]⟩

theorem foldl_set (off : Nat) : ∀ (vs : List Value) (j : Nat) (cs : List Value), off + j + vs.length ≤ cs.length →
    (List.foldl (fun (cs : Array Value) (x : Value × Nat) => cs.setIfInBounds (off + x.2) x.1) cs.toArray (vs.zipIdx j)).toList = cs.take (off + j) ++ vs ++ cs.drop (off + j + vs.length)
  | [], j, cs, h => by simp
  | v :: vs, j, cs, h => by
    simp only [List.zipIdx_cons, List.foldl_cons, List.setIfInBounds_toArray]
    have h' : off + j < cs.length := by simp at h; omega
    rw [foldl_set off vs (j + 1) (cs.set (off + j) v) (by simp at h ⊢; omega)]
    have e1 : (cs.set (off + j) v).take (off + (j + 1)) = cs.take (off + j) ++ [v] := by
      rw [← Nat.add_assoc, List.take_succ_eq_append_getElem (by simpa using h')]
      simp [List.take_set_of_le]
    have e2 : (cs.set (off + j) v).drop (off + (j + 1) + vs.length) = cs.drop (off + j + (v :: vs).length) := by
      rw [List.drop_set_of_lt (by omega)]; congr 1; simp; omega
    rw [e1, e2]; simp

theorem fill_step {place : Nat → Option (Nat × Nat)} {cs : List Value} {i off sz : Nat} {v : Value} {rest : List (Nat × Value)} (hp : place i = some (off, sz))
    (h1 : v.cells.toList.length = sz) (h2 : off + sz ≤ cs.length) :
    Instr.fill place cs.toArray ((i, v) :: rest) = Instr.fill place (cs.take off ++ v.cells.toList ++ cs.drop (off + sz)).toArray rest := by
  simp only [Instr.fill, hp]
  have h1' : v.cells.size = sz := by simpa using h1
  rw [if_neg (by simp [h1']; omega)]
  congr 1
  have := foldl_set off v.cells.toList 0 cs (by rw [h1]; omega)
  apply Array.ext'
  rw [← Array.foldl_toList, Array.toList_zipIdx, this, h1]
  simp

theorem fillX_sound {pl : List (Nat × Nat)} : ∀ {parts : List (Nat × Operand)} {ps : List (Nat × Nat × XO)} {cs cs' r : List Value}, cFieldParts pl parts = some ps →
    (∀ t ∈ ps.flatMap fun q => q.2.2.rd, VR ρ (e t) (a.tmps.getD t undef)) → LR ρ cs cs' →
    fillX cs (ps.map fun (o, s, x) => (o, s, x.ev e)) = some r → ∃ r', LR ρ r r' ∧ Instr.fill (pl.toArray[·]?) cs'.toArray (parts.map fun (i, x) => (i, a.eval x)) = some r'.toArray
  | [], ps, cs, cs', r, hc, _, hcs, hf => by
    simp [cFieldParts] at hc; subst hc
    simp [fillX] at hf; subst hf
    exact ⟨cs', hcs, by simp [Instr.fill]⟩
  | (i, x) :: rest, ps, cs, cs', r, hc, h, hcs, hf => by
    simp only [cFieldParts, Option.bind_eq_some_iff, Option.map_eq_some_iff] at hc
    obtain ⟨⟨off, sz⟩, hq, x', hx, ps', hps, rfl⟩ := hc
    simp only [List.flatMap_cons, List.mem_append] at h
    simp only [List.map_cons, fillX] at hf
    split at hf
    · rename_i hl
      have hv := cO_VR hx fun t ht => h t (.inl ht)
      have hcl := hv.cells
      obtain ⟨r', h1, h2⟩ := fillX_sound hps (fun t ht => h t (.inr ht)) (((hcs.take off).append hcl).append (hcs.drop (off + sz))) hf
      refine ⟨r', h1, ?_⟩
      rw [List.map_cons, fill_step (cs := cs') (off := off) (sz := sz) (by simpa using hq) (by rw [← hcl.1]; exact hl.1) (by rw [← hcs.1]; exact hl.2)]
      exact h2
    · cases hf

theorem build_sound {o : Oper} {t : TypeId} {parts : Array (Nat × Operand)} {fields : Array Field} {z : Value} {pl : List (Nat × Nat)} {ps : List (Nat × Nat × XO)} {v : Value}
    (ho : o.op = .build t parts) (ht : P.underlying t = some (.struct fields)) (hz : zeroT P t = some z) (hpl : places P fields = some pl) (hps : cFieldParts pl parts.toList = some ps)
    (h : ∀ t ∈ ps.flatMap fun q => q.2.2.rd, VR ρ (e t) (a.tmps.getD t undef))
    (hv : (fillX z.cells.toList (ps.map fun (o, s, x) => (o, s, x.ev e))).map (fun cs => Value.agg cs.toArray) = some v) : ∃ v', VR ρ v v' ∧ Gives P a o v' := by
  simp only [Option.map_eq_some_iff] at hv
  obtain ⟨r, hr, rfl⟩ := hv
  obtain ⟨r', h1, h2⟩ := fillX_sound hps h (constOk_VR ρ z (zeroT_ok hz)).cells hr
  refine ⟨_, VR.agg' h1, fun w => ?_⟩
  simp only [Array.toArray_toList, List.getElem?_toArray] at h2
  have hp := fun w => run_places (P := P) w fields.toList pl hpl
  simp [execOp, ho, Instr.build, run_zero' hz, run_underlying' ht, Array.mapM_eq_mapM_toList, hp, h2]

theorem nilCheck_sound {o : Oper} {x : Operand} {u v : Value} (ho : o.op = .nilCheck x) (hx : VR ρ u (a.eval x))
    (hv : nilCheckV u = some v) : ∃ v', VR ρ v v' ∧ Gives P a o v' := by
  generalize hz : a.eval x = z at hx
  cases hx with
  | ptr h => cases hv; exact ⟨_, .ptr h, fun w => by simp [execOp, ho, hz]⟩
  | func f h1 h2 h3 h4 => cases hv; exact ⟨_, .func f h1 h2 h3 h4, fun w => by simp [execOp, ho, hz]⟩
  | _ => cases hv

theorem fieldV_inv {off sz : Nat} {g : Bool} {u v : Value} (h : fieldV off sz g u = some v) : ∃ cs, u = .agg cs ∧ partV off sz g cs = some v := by
  unfold fieldV at h; split at h
  · exact ⟨_, rfl, h⟩
  · cases h

theorem arr1 {α : Type} {x : Array α} {y : α} (h : x.toList = [y]) : x = #[y] := by apply Array.ext'; simpa using h
theorem arr2 {α : Type} {x : Array α} {y z : α} (h : x.toList = [y, z]) : x = #[y, z] := by apply Array.ext'; simpa using h

theorem len_sound {o : Oper} {c : Call} {x : Operand} {t el : TypeId} {u v : Value} (ho : o.op = .call c) (hc : c.callee = .builtin .len) (ha : c.args.toList = [x]) (hat : c.argTypes.toList = [t])
    (hel : P.underlying t = some (.slice el)) (hx : VR ρ u (a.eval x)) (hv : lenV u = some v) : ∃ v', VR ρ v v' ∧ Gives P a o v' := by
  unfold lenV at hv
  split at hv
  · rename_i A n k
    cases hv
    obtain ⟨A', c', ex, _⟩ := hx.slice_inv
    exact ⟨_, .int _ _, fun w => by simp [execOp, ho, resolve, hc, arr1 ha, arr1 hat, invoke, builtin, Builtin.len_, ex, run_underlying' hel, goInt]⟩
  · cases hv

theorem lenStr_sound {o : Oper} {c : Call} {x : Operand} {t : TypeId} {u v : Value} (ho : o.op = .call c) (hc : c.callee = .builtin .len) (ha : c.args.toList = [x]) (hat : c.argTypes.toList = [t])
    (hel : P.underlying t = some .string) (hx : VR ρ u (a.eval x)) (hv : lenStrV u = some v) : ∃ v', VR ρ v v' ∧ Gives P a o v' := by
  unfold lenStrV at hv
  split at hv
  · cases hv
    have ex := hx.string_inv
    exact ⟨_, .int _ _, fun w => by simp [execOp, ho, resolve, hc, arr1 ha, arr1 hat, invoke, builtin, Builtin.len_, ex, run_underlying' hel, goInt]⟩
  · cases hv

theorem mx_sound {o : Oper} {c : Call} {x y : Operand} {u u' v : Value} (ho : o.op = .call c) (hc : c.callee = .builtin .max) (ha : c.args.toList = [x, y])
    (hx : VR ρ u (a.eval x)) (hy : VR ρ u' (a.eval y)) (hv : mxV u u' = some v) : ∃ v', VR ρ v v' ∧ Gives P a o v' := by
  unfold mxV at hv
  split at hv
  · cases hv
    have ex := hx.int_inv; have ey := hy.int_inv
    exact ⟨_, .int _ _, fun w => by simp [execOp, ho, resolve, hc, arr2 ha, invoke, builtin, Builtin.max_, Builtin.max2, ex, ey]⟩
  · cases hv
theorem mn_sound {o : Oper} {c : Call} {x y : Operand} {u u' v : Value} (ho : o.op = .call c) (hc : c.callee = .builtin .min) (ha : c.args.toList = [x, y])
    (hx : VR ρ u (a.eval x)) (hy : VR ρ u' (a.eval y)) (hv : mnV u u' = some v) : ∃ v', VR ρ v v' ∧ Gives P a o v' := by
  unfold mnV at hv
  split at hv
  · cases hv
    have ex := hx.int_inv; have ey := hy.int_inv
    exact ⟨_, .int _ _, fun w => by simp [execOp, ho, resolve, hc, arr2 ha, invoke, builtin, Builtin.min_, Builtin.min2, ex, ey]⟩
  · cases hv

/-- Each plain operation comes, in the model, to a value that is its own under the renaming. -/
theorem plain_sound {o : Oper} {p : XP} {v : Value} (hk : cK P o.op = some (.p p)) (hv : p.ev e = some v)
    (hr : ∀ t ∈ p.rd, VR ρ (e t) (a.tmps.getD t undef)) : ∃ v', VR ρ v v' ∧ Gives P a o v' := by
  generalize hop : o.op = op at hk
  cases op <;> simp only [cK, Option.bind_eq_some_iff, Option.map_eq_some_iff, reduceCtorEq, and_false, exists_false, false_and] at hk
  case move x =>
    obtain ⟨x', hx, hp⟩ := hk; cases hp; cases hv
    exact ⟨_, cO_VR hx hr, fun w => by simp [execOp, hop]⟩
  case assign x =>
    obtain ⟨x', hx, hp⟩ := hk; cases hp; cases hv
    exact ⟨_, cO_VR hx hr, fun w => by simp [execOp, hop]⟩
  case pick c x y =>
    obtain ⟨c', hc, x', hx, y', hy, hp⟩ := hk; cases hp
    simp only [XP.rd, List.mem_append] at hr
    have h1 := cO_VR hc fun t ht => hr t (.inl (.inl ht))
    have h2 := cO_VR hx fun t ht => hr t (.inl (.inr ht))
    have h3 := cO_VR hy fun t ht => hr t (.inr ht)
    simp only [XP.ev, pickV] at hv
    split at hv
    · rename_i b hb
      cases hv
      rw [hb] at h1
      refine ⟨if b then a.eval x else a.eval y, by cases b <;> assumption, fun w => ?_⟩
      simp [execOp, hop, h1.bool_inv, asBool]
    · cases hv
  case build t parts =>
    split at hk
    · simp only [Option.bind_eq_some_iff, Option.map_eq_some_iff] at hk
      obtain ⟨z, hz, pl, hpl, ps, hps, hp⟩ := hk; cases hp
      exact build_sound hop (by assumption) hz hpl hps hr hv
    · cases hk
  case buildSlice t n parts =>
    split at hk
    · simp only [Option.bind_eq_some_iff] at hk
      obtain ⟨z, hz, s, hs, ps, hps, hk⟩ := hk
      split at hk <;> cases hk
    · cases hk
  case load t x =>
    obtain ⟨x', hx, s, hs, g, hg, hk⟩ := hk
    split at hk <;> cases hk
  case nilCheck x =>
    obtain ⟨x', hx, hp⟩ := hk; cases hp
    exact nilCheck_sound hop (cO_VR hx hr) hv
  case binOp op t x y t' =>
    obtain ⟨x', hx, y', hy, hk⟩ := hk
    split at hk
    · cases hk
      simp only [XP.rd, List.mem_append] at hr
      obtain ⟨h1, h2⟩ := binV_sound hop (cO_VR hx fun t ht => hr t (.inl ht)) (cO_VR hy fun t ht => hr t (.inr ht)) hv
      exact ⟨_, h1, h2⟩
    · cases hk
      simp only [XP.rd, List.mem_append] at hr
      obtain ⟨h1, h2⟩ := binV_sound hop (cO_VR hx fun t ht => hr t (.inl ht)) (cO_VR hy fun t ht => hr t (.inr ht)) hv
      exact ⟨_, h1, h2⟩
    · split at hk <;> cases hk
      all_goals
        simp only [XP.rd, List.mem_append] at hr
      · obtain ⟨h1, h2⟩ := binB_sound hop (.inl ⟨rfl, rfl⟩) (by assumption) (cO_VR hx fun t ht => hr t (.inl ht)) (cO_VR hy fun t ht => hr t (.inr ht)) hv
        exact ⟨_, h1, h2⟩
      · obtain ⟨h1, h2⟩ := binB_sound hop (.inr ⟨rfl, rfl⟩) (by assumption) (cO_VR hx fun t ht => hr t (.inl ht)) (cO_VR hy fun t ht => hr t (.inr ht)) hv
        exact ⟨_, h1, h2⟩
    · split at hk
      · split at hk <;> cases hk
        · obtain ⟨h1, h2⟩ := isNil_sound hop (.inl ⟨rfl, rfl⟩) (by assumption) (by assumption) (cO_VR hx hr) hv
          exact ⟨_, h1, h2⟩
        · obtain ⟨h1, h2⟩ := isNil_sound hop (.inr ⟨rfl, rfl⟩) (by assumption) (by assumption) (cO_VR hx hr) hv
          exact ⟨_, h1, h2⟩
      · cases hk
    · cases hk
  case unOp op t x =>
    obtain ⟨x', hx, hp⟩ := hk; cases hp
    obtain ⟨h1, h2⟩ := un_sound hop (cO_VR hx hr) hv
    exact ⟨_, h1, h2⟩
  case convert src dst x =>
    obtain ⟨x', hx, hk⟩ := hk
    split at hk <;> cases hk
    rename_i h1 h2
    have hxv := cO_VR hx hr
    simp only [XP.ev, convV] at hv
    split at hv
    · rename_i j n hj
      cases hv
      rw [hj] at hxv
      exact ⟨_, .int _ _, fun w => by simp [execOp, hop, hxv.int_inv, convert, run_underlying' h1, run_underlying' h2, Conv.intToInt]⟩
    · cases hv
  case makeFunc fn first caps =>
    cases fn <;> simp only [cK, reduceCtorEq, Option.bind_eq_some_iff, Option.map_eq_some_iff] at hk
    obtain ⟨fs, hfs, cs, hcs, hp⟩ := hk; cases hp
    cases hv
    simp only [XP.rd, List.mem_append] at hr
    have h1 := cOs_LR hfs fun t ht => hr t (.inl ht)
    have h2 := cOs_LR hcs fun t ht => hr t (.inr ht)
    refine ⟨_, .func _ h1.1 h1.2 h2.1 h2.2, fun w => ?_⟩
    have hm : ∀ x : Array Operand, Array.map a.eval x = (x.toList.map a.eval).toArray := fun x => by apply Array.ext'; simp
    simp only [execOp, hop, Instr.makeFunc, hm]; rfl
  case makeSlice t l c =>
    split at hk
    · split at hk
      · simp only [Option.bind_eq_some_iff] at hk
        obtain ⟨i, hi, z, hz, n, hn, hk⟩ := hk
        split at hk <;> cases hk
      · cases hk
    · cases hk
  case slice t x lo hi mx =>
    cases mx <;> simp only [cK, reduceCtorEq, Option.bind_eq_some_iff, Option.map_eq_some_iff] at hk
    obtain ⟨x', hx, lo', hlo, hi', hhi, hk⟩ := hk
    split at hk
    · simp only [Option.map_eq_some_iff] at hk
      obtain ⟨s, hs, hp⟩ := hk; cases hp
      simp only [XP.rd, List.mem_append] at hr
      exact slice_sound hop (by assumption) hs (cO_VR hx fun t ht => hr t (.inl (.inl ht))) (optVR hlo fun t ht => hr t (.inl (.inr ht))) (optVR hhi fun t ht => hr t (.inr ht)) hv
    · cases hk
      simp only [XP.rd, List.mem_append] at hr
      exact sliceStr_sound hop (by assumption) (cO_VR hx fun t ht => hr t (.inl (.inl ht))) (optVR hlo fun t ht => hr t (.inl (.inr ht))) (optVR hhi fun t ht => hr t (.inr ht)) hv
    · cases hk
  case fieldAddr t x f =>
    obtain ⟨x', hx, hk⟩ := hk
    split at hk
    · simp only [Option.bind_eq_some_iff] at hk
      obtain ⟨fd, hf, s, hs, hk⟩ := hk
      split at hk <;> cases hk
      exact fieldAddr_sound hop (by assumption) hf hs (by assumption) (cO_VR hx hr) hv
    · cases hk
  case field t x f =>
    obtain ⟨x', hx, hk⟩ := hk
    split at hk
    · rename_i fields hst
      simp only [Option.bind_eq_some_iff, Option.map_eq_some_iff] at hk
      obtain ⟨fd, hf, s, hs, g, hg, hp⟩ := hk; cases hp
      obtain ⟨cs, hcs, hpv⟩ := fieldV_inv hv
      have hxv := cO_VR hx hr
      rw [hcs] at hxv
      obtain ⟨cs', he, hl⟩ := hxv.agg_inv
      obtain ⟨v', h1, h2⟩ := part_sound hs hg hl hpv
      exact ⟨v', h1, fun w => by simp [execOp, hop, Instr.field, run_underlying' hst, hf, he, asAgg, h2]⟩
    · cases hk
  case indexAddr t x i =>
    obtain ⟨x', hx, i', hi, hk⟩ := hk
    split at hk
    · simp only [Option.map_eq_some_iff] at hk
      obtain ⟨s, hs, hp⟩ := hk; cases hp
      simp only [XP.rd, List.mem_append] at hr
      exact indexAddr_sound hop (by assumption) hs (cO_VR hx fun t ht => hr t (.inl ht)) (cO_VR hi fun t ht => hr t (.inr ht)) hv
    · cases hk
  case index t x i =>
    obtain ⟨x', hx, i', hi, hk⟩ := hk
    split at hk
    · cases hk
      simp only [XP.rd, List.mem_append] at hr
      exact indexStr_sound hop (by assumption) (cO_VR hx fun t ht => hr t (.inl ht)) (cO_VR hi fun t ht => hr t (.inr ht)) hv
    · cases hk
  case extract x i =>
    obtain ⟨x', hx, hp⟩ := hk; cases hp
    have hxv := cO_VR hx hr
    simp only [XP.ev, extractV] at hv
    split at hv
    · rename_i vs hvs
      rw [hvs] at hxv
      obtain ⟨cs', he, hl⟩ := hxv.tuple_inv
      have hv' : vs.toList[i]? = some v := by simpa using hv
      obtain ⟨v', h1, h2⟩ := hl.get hv'
      have h1' : cs'[i]? = some v' := by simpa using h1
      exact ⟨v', h2, fun w => by simp [execOp, hop, Instr.extract, he, h1']⟩
    · cases hv
  case call c =>
    split at hk
    · rename_i hc
      split at hk
      · rename_i x t hx ht
        split at hk
        · simp only [Option.map_eq_some_iff] at hk
          obtain ⟨x', hx', hp⟩ := hk; cases hp
          exact lenStr_sound hop hc hx ht (by assumption) (cO_VR hx' hr) hv
        · simp only [Option.map_eq_some_iff] at hk
          obtain ⟨x', hx', hp⟩ := hk; cases hp
          exact len_sound hop hc hx ht (by assumption) (cO_VR hx' hr) hv
        · cases hk
      · cases hk
    · rename_i hc
      split at hk
      · simp only [Option.bind_eq_some_iff, Option.map_eq_some_iff] at hk
        obtain ⟨x', hx, y', hy, hp⟩ := hk; cases hp
        simp only [XP.rd, List.mem_append] at hr
        exact mx_sound hop hc (by assumption) (cO_VR hx fun t ht => hr t (.inl ht)) (cO_VR hy fun t ht => hr t (.inr ht)) hv
      · cases hk
    · rename_i hc
      split at hk
      · simp only [Option.bind_eq_some_iff, Option.map_eq_some_iff] at hk
        obtain ⟨x', hx, y', hy, hp⟩ := hk; cases hp
        simp only [XP.rd, List.mem_append] at hr
        exact mn_sound hop hc (by assumption) (cO_VR hx fun t ht => hr t (.inl ht)) (cO_VR hy fun t ht => hr t (.inr ht)) hv
      · cases hk
    · split at hk
      · simp only [Option.bind_eq_some_iff] at hk
        obtain ⟨s', hs, x', hx, hk⟩ := hk
        split at hk
        · simp only [Option.bind_eq_some_iff] at hk
          obtain ⟨i, hi, z, hz, hk⟩ := hk
          split at hk <;> cases hk
        · cases hk
      · cases hk
    · split at hk
      · simp only [Option.bind_eq_some_iff] at hk
        obtain ⟨s', hs, x', hx, hk⟩ := hk
        split at hk
        · simp only [Option.bind_eq_some_iff] at hk
          obtain ⟨i, hi, hk⟩ := hk
          split at hk <;> cases hk
        · cases hk
      · cases hk
    · simp only [Option.bind_eq_some_iff, Option.map_eq_some_iff] at hk
      obtain ⟨f', hf, xs, hxs, hp⟩ := hk; cases hp
    · cases hk

end
end XM

/- Operations upon the heap: the abstract machine's and the model's. -/
namespace XM
open Go

/-- A block of the abstract heap, and where it lies in the model's. -/
def BR (ρ : Ren) (w : World) (b : Nat) (x : Blk) : Prop :=
  ∃ L, ρ b = some L ∧ L.blk < w.heap.size ∧ L.rw = x.rw ∧
    (∀ (i : Nat) (v : Value), x.cells[i]? = some v → ∃ v', w.cell? ⟨L.blk, L.base + i, none⟩ = some v' ∧ VR ρ v v') ∧
    (x.rw = true → L.base = 0 ∧ ∃ arr fr, w.heap[L.blk]? = some (.cells arr x.elem fr) ∧ arr.size = L.size ∧ fr.2 ≤ fr.1)

/-- A heap whose live blocks are told by Lv. -/
def HR (ρ : Ren) (Lv : Nat → Blk → Prop) (w : World) : Prop :=
  (∀ b x, Lv b x → BR ρ w b x) ∧
  (∀ b1 x1 b2 x2 L1 L2, Lv b1 x1 → Lv b2 x2 → x1.rw = true → ρ b1 = some L1 → ρ b2 = some L2 → L1.blk = L2.blk → b1 = b2) ∧
  (∀ b x, Lv b x → x.cells.all one = true)

def live (h : Hp) (b : Nat) (x : Blk) : Prop := h.bk b = some x

/-- What no run of this machine changes. -/
def Same (w w' : World) : Prop := w'.os = w.os ∧ w'.tape = w.tape ∧ w'.output = w.output

theorem Same.refl (w : World) : Same w w := ⟨rfl, rfl, rfl⟩
theorem Same.trans {a b c : World} (h : Same a b) (k : Same b c) : Same a c := ⟨k.1.trans h.1, k.2.1.trans h.2.1, k.2.2.trans h.2.2⟩

/-- What a run has done: from (ρ, h, w) to (ρ', h', w'). -/
structure Eff (touch : Bool) (ρ : Ren) (h : Hp) (w : World) (ρ' : Ren) (h' : Hp) (w' : World) : Prop where
  ext : Ext ρ ρ'
  dom : ∀ b L, ρ' b = some L → ρ b = some L ∨ (h.nx ≤ b ∧ b < h'.nx)
  size : w.heap.size ≤ w'.heap.size
  frame : ∀ β, β < w.heap.size → (touch = true → ∀ b x L, h.bk b = some x → x.rw = true → ρ b = some L → L.blk ≠ β) → w'.heap[β]? = w.heap[β]?
  same : Same w w'
  img : ∀ b x L, h'.bk b = some x → ρ' b = some L → w.heap.size ≤ L.blk ∨ ∃ b0 x0 L0, h.bk b0 = some x0 ∧ (x.rw = true → x0.rw = true) ∧ ρ b0 = some L0 ∧ L0.blk = L.blk

theorem Eff.refl (t : Bool) (ρ : Ren) (h : Hp) (w : World) : Eff t ρ h w ρ h w :=
  ⟨Ext.refl ρ, fun _ _ e => .inl e, Nat.le_refl _, fun _ _ _ => rfl, Same.refl w, fun b x L h1 h3 => .inr ⟨b, x, L, h1, id, h3, rfl⟩⟩

theorem Eff.trans {ρ ρ' ρ'' : Ren} {h h' h'' : Hp} {w w' w'' : World} (e1 : Eff true ρ h w ρ' h' w') (e2 : Eff true ρ' h' w' ρ'' h'' w'') (n1 : h.nx ≤ h'.nx) (n2 : h'.nx ≤ h''.nx) :
    Eff true ρ h w ρ'' h'' w'' := by
  refine ⟨e1.ext.trans e2.ext, fun b L hb => ?_, Nat.le_trans e1.size e2.size, fun β hβ hn => ?_, e1.same.trans e2.same, fun b x L h1 h3 => ?_⟩
  · rcases e2.dom b L hb with hb | ⟨h1, h2⟩
    · rcases e1.dom b L hb with hb | ⟨h1, h2⟩
      · exact .inl hb
      · exact .inr ⟨h1, by omega⟩
    · exact .inr ⟨by omega, h2⟩
  · rw [e2.frame β (Nat.lt_of_lt_of_le hβ e1.size) ?_, e1.frame β hβ hn]
    intro _ b x L h1 h2 h3 h4
    rcases e1.img b x L h1 h3 with h5 | ⟨b0, x0, L0, h5, h6, h7, h8⟩
    · omega
    · exact hn rfl b0 x0 L0 h5 (h6 h2) h7 (h8.trans h4)
  · rcases e2.img b x L h1 h3 with h5 | ⟨b0, x0, L0, h5, h6, h7, h8⟩
    · exact .inl (Nat.le_trans e1.size h5)
    · rcases e1.img b0 x0 L0 h5 h7 with h9 | ⟨b1, x1, L1, h9, h10, h11, h12⟩
      · exact .inl (by omega)
      · exact .inr ⟨b1, x1, L1, h9, fun hx => h10 (h6 hx), h11, h12.trans h8⟩

/-- A world that differs in its drawn numbers alone. -/
theorem BR.heap {ρ : Ren} {w w' : World} {b : Nat} {x : Blk} (h : BR ρ w b x) (e : w'.heap = w.heap) : BR ρ w' b x := by
  obtain ⟨L, h1, h2, h3, h4, h5⟩ := h
  refine ⟨L, h1, by rw [e]; exact h2, h3, fun i v hv => ?_, by rw [e]; exact h5⟩
  obtain ⟨v', a, b⟩ := h4 i v hv
  exact ⟨v', by unfold World.cell? at *; rw [e]; exact a, b⟩
theorem HR.heap {ρ : Ren} {Lv : Nat → Blk → Prop} {w w' : World} (h : HR ρ Lv w) (e : w'.heap = w.heap) : HR ρ Lv w' :=
  ⟨fun b x hl => (h.1 b x hl).heap e, h.2⟩
theorem Eff.heap {t : Bool} {ρ ρ' : Ren} {h h' : Hp} {w w1 w' : World} (e1 : Eff t ρ h w1 ρ' h' w') (e : w1.heap = w.heap) (es : Same w w1) : Eff t ρ h w ρ' h' w' := by
  refine ⟨e1.ext, e1.dom, by rw [← e]; exact e1.size, fun β hβ hn => ?_, es.trans e1.same, fun b x L h1 h3 => ?_⟩
  · rw [← e]; exact e1.frame β (by rw [e]; exact hβ) hn
  · rw [← e]; exact e1.img b x L h1 h3

theorem cell_of_heap {w w' : World} {a : Addr} (h : w'.heap[a.block]? = w.heap[a.block]?) : w'.cell? a = w.cell? a := by
  unfold World.cell?; rw [h]

theorem BR.keep {ρ ρ' : Ren} {w w' : World} {b : Nat} {x : Blk} (h : BR ρ w b x) (hx : Ext ρ ρ') (hs : w.heap.size ≤ w'.heap.size)
    (e : ∀ L, ρ b = some L → w'.heap[L.blk]? = w.heap[L.blk]?) : BR ρ' w' b x := by
  obtain ⟨L, h1, h2, h3, h4, h5⟩ := h
  have e := e L h1
  refine ⟨L, hx _ _ h1, by omega, h3, fun i v hv => ?_, fun hr => ?_⟩
  · obtain ⟨v', a, b⟩ := h4 i v hv
    exact ⟨v', by rw [cell_of_heap e]; exact a, b.mono hx⟩
  · rw [e]; exact h5 hr

/-- What the translation of an operation tells of it. -/
inductive Inv (P : Program) : Op → XK → Prop where
  | p {op p} : Inv P op (.p p)
  | load {t x x' sz g} : cO x = some x' → sizeT P t = some sz → aggT P t = some g → (sz = 1 ∨ g = true) → Inv P (.load t x) (.load sz g x')
  | alloc {t z s} : zeroT P t = some z → sizeT P t = some s → Inv P (.alloc t) (.box t s (.c z))
  | box {t x x' s} : cO x = some x' → sizeT P t = some s → Inv P (.box t x) (.box t s x')
  | mkrow {t len parts elem s z ps} : P.underlying t = some (.slice elem) → zeroT P elem = some z → sizeT P elem = some s → cParts parts.toList = some ps →
      len * s ≤ 16777216 → z.cells.size = s → 0 < s → Inv P (.buildSlice t len parts) (.mkrow elem s len z.cells.toList ps)
  | make {t l c elem i z n} : P.underlying t = some (.slice elem) → P.info? elem = some i → zeroT P elem = some z → cO l = some n → sameO l c = true →
      i.bytes ≤ 1024 → z.cells.size = i.size → 0 < i.size → Inv P (.makeSlice t l c) (.make elem i.size i.bytes z.cells.toList n)
  | store {t x x' v v' s} : cO x = some x' → cO v = some v' → sizeT P t = some s → Inv P (.store t x v) (.store s x' v')
  | append {c s x t u s' x' elem i z} : c.callee = .builtin .append → c.args.toList = [s, x] → c.argTypes.toList = [t, u] → cO s = some s' → cO x = some x' →
      P.underlying t = some (.slice elem) → P.underlying u = some (.slice elem) → P.info? elem = some i → zeroT P elem = some z → i.bytes ≤ 1024 → z.cells.size = i.size → 0 < i.size →
      Inv P (.call c) (.append elem i.size i.bytes s' x')
  | copy {c d s t u d' s' elem w} : c.callee = .builtin .copy → c.args.toList = [d, s] → c.argTypes.toList = [t, u] → cO d = some d' → cO s = some s' →
      P.underlying t = some (.slice elem) → P.underlying u = some (.slice elem) → sizeT P elem = some w → 0 < w → Inv P (.call c) (.copy elem w d' s')
  | call {c f f' xs} : c.callee = .value f → cO f = some f' → cOs c.args.toList = some xs → Inv P (.call c) (.call f' xs)

theorem cK_inv {P : Program} {op : Op} {k : XK} (hk : cK P op = some k) : Inv P op k := by
  cases op <;> simp only [cK, Option.bind_eq_some_iff, Option.map_eq_some_iff, reduceCtorEq] at hk
  case load t x =>
    obtain ⟨x', hx, s, hs, g, hg, hk⟩ := hk
    split at hk <;> cases hk
    exact .load hx hs hg (by assumption)
  case alloc t => obtain ⟨z, hz, s, hs, rfl⟩ := hk; exact .alloc hz hs
  case box t x => obtain ⟨x', hx, s, hs, rfl⟩ := hk; exact .box hx hs
  case buildSlice t n parts =>
    split at hk
    · simp only [Option.bind_eq_some_iff] at hk
      obtain ⟨z, hz, s, hs, ps, hps, hk⟩ := hk
      split at hk <;> cases hk
      rename_i h; exact .mkrow (by assumption) hz hs hps h.1 h.2.1 h.2.2
    · cases hk
  case makeSlice t l c =>
    split at hk
    · split at hk
      · simp only [Option.bind_eq_some_iff] at hk
        obtain ⟨i, hi, z, hz, n, hn, hk⟩ := hk
        split at hk <;> cases hk
        rename_i h; exact .make (by assumption) hi hz hn (by assumption) h.1 h.2.1 h.2.2
      · cases hk
    · cases hk
  case store t x v => obtain ⟨x', hx, v', hv, s, hs, rfl⟩ := hk; exact .store hx hv hs
  case call c =>
    split at hk
    · repeat (first | (split at hk) | (simp only [Option.map_eq_some_iff] at hk; obtain ⟨_, _, rfl⟩ := hk; exact .p) | cases hk)
    · split at hk
      · simp only [Option.bind_eq_some_iff, Option.map_eq_some_iff] at hk; obtain ⟨_, _, _, _, rfl⟩ := hk; exact .p
      · cases hk
    · split at hk
      · simp only [Option.bind_eq_some_iff, Option.map_eq_some_iff] at hk; obtain ⟨_, _, _, _, rfl⟩ := hk; exact .p
      · cases hk
    · split at hk
      · simp only [Option.bind_eq_some_iff] at hk
        obtain ⟨s', hs, x', hx, hk⟩ := hk
        split at hk
        · simp only [Option.bind_eq_some_iff] at hk
          obtain ⟨i, hi, z, hz, hk⟩ := hk
          split at hk <;> cases hk
          rename_i h; obtain ⟨h1, rfl, h2, h3⟩ := h
          exact .append (by assumption) (by assumption) (by assumption) hs hx (by assumption) (by assumption) hi hz h1 h2 h3
        · cases hk
      · cases hk
    · split at hk
      · simp only [Option.bind_eq_some_iff] at hk
        obtain ⟨s', hs, x', hx, hk⟩ := hk
        split at hk
        · simp only [Option.bind_eq_some_iff] at hk
          obtain ⟨i, hi, hk⟩ := hk
          split at hk <;> cases hk
          rename_i h; obtain ⟨rfl, h1⟩ := h
          exact .copy (by assumption) (by assumption) (by assumption) hs hx (by assumption) (by assumption) hi h1
        · cases hk
      · cases hk
    · simp only [Option.bind_eq_some_iff, Option.map_eq_some_iff] at hk
      obtain ⟨f', hf, xs, hxs, rfl⟩ := hk
      exact .call (by assumption) hf hxs
    · cases hk
  case makeFunc fn first caps =>
    cases fn <;> simp only [cK, reduceCtorEq, Option.bind_eq_some_iff, Option.map_eq_some_iff] at hk
    obtain ⟨_, _, _, _, rfl⟩ := hk; exact .p
  case slice t x lo hi mx =>
    cases mx <;> simp only [cK, reduceCtorEq, Option.bind_eq_some_iff, Option.map_eq_some_iff] at hk
    obtain ⟨x', hx, lo', hlo, hi', hhi, hk⟩ := hk
    split at hk
    · simp only [Option.map_eq_some_iff] at hk; obtain ⟨_, _, rfl⟩ := hk; exact .p
    · cases hk; exact .p
    · cases hk
  case build t parts =>
    split at hk
    · simp only [Option.bind_eq_some_iff, Option.map_eq_some_iff] at hk
      obtain ⟨z, hz, pl, hpl, ps, hps, rfl⟩ := hk; exact .p
    · cases hk
  case binOp op t x y t' =>
    obtain ⟨x', hx, y', hy, hk⟩ := hk
    split at hk
    · cases hk; exact .p
    · cases hk; exact .p
    · split at hk <;> cases hk <;> exact .p
    · split at hk
      · split at hk <;> cases hk <;> exact .p
      · cases hk
    · cases hk
  case convert src dst x =>
    obtain ⟨x', hx, hk⟩ := hk
    split at hk <;> cases hk
    exact .p
  case fieldAddr t x f =>
    obtain ⟨x', hx, hk⟩ := hk
    split at hk
    · simp only [Option.bind_eq_some_iff] at hk
      obtain ⟨fd, hf, s, hs, hk⟩ := hk
      split at hk <;> cases hk
      exact .p
    · cases hk
  case field t x f =>
    obtain ⟨x', hx, hk⟩ := hk
    split at hk
    · simp only [Option.bind_eq_some_iff, Option.map_eq_some_iff] at hk
      obtain ⟨fd, hf, s, hs, g, hg, rfl⟩ := hk; exact .p
    · cases hk
  case indexAddr t x i =>
    obtain ⟨x', hx, i', hi, hk⟩ := hk
    split at hk
    · simp only [Option.map_eq_some_iff] at hk
      obtain ⟨s, hs, rfl⟩ := hk; exact .p
    · cases hk
  case index t x i =>
    obtain ⟨x', hx, i', hi, hk⟩ := hk
    split at hk
    · cases hk; exact .p
    · cases hk
  case move x => obtain ⟨_, _, rfl⟩ := hk; exact .p
  case assign x => obtain ⟨_, _, rfl⟩ := hk; exact .p
  case pick c x y => obtain ⟨_, _, _, _, _, _, rfl⟩ := hk; exact .p
  case nilCheck x => obtain ⟨_, _, rfl⟩ := hk; exact .p
  case unOp op t x => obtain ⟨_, _, rfl⟩ := hk; exact .p
  case extract x i => obtain ⟨_, _, rfl⟩ := hk; exact .p

section
variable {P : Program} {ρ : Ren} {e : Env} {a : Act} {h : Hp} {w : World}

theorem cells_run {L : Loc} {x : Blk} (hb : ∀ (i : Nat) (v : Value), x.cells[i]? = some v → ∃ v', w.cell? ⟨L.blk, L.base + i, none⟩ = some v' ∧ VR ρ v v') (off n : Nat) (hn : off + n ≤ x.cells.length) :
    ∃ l : List Value, (∀ w1 : World, w1.heap = w.heap → (loadCells ⟨L.blk, L.base + off, none⟩ n).run P w1 = .ok l.toArray w1) ∧ LR ρ ((x.cells.drop off).take n) l := by
  have hex : ∀ i, ∃ v', i < n → w.cell? ⟨L.blk, L.base + off + i, none⟩ = some v' ∧ (∀ v, x.cells[off + i]? = some v → VR ρ v v') := by
    intro i
    by_cases hi : i < n
    · have hlt : off + i < x.cells.length := by omega
      obtain ⟨v', h1, h2⟩ := hb (off + i) x.cells[off + i] (by simp [hlt])
      refine ⟨v', fun _ => ⟨by rw [Nat.add_assoc]; exact h1, fun v hv => ?_⟩⟩
      have : v = x.cells[off + i] := by simp [hlt] at hv; exact hv.symm
      rw [this]; exact h2
    · exact ⟨undef, fun h => absurd h hi⟩
  obtain ⟨f, hf⟩ := Classical.axiomOfChoice hex
  refine ⟨(List.range n).map f, ?_, ?_⟩
  · intro w1 hw1
    have := run_loadCells (P := P) (w := w1) ⟨L.blk, L.base + off, none⟩ n f (fun j hj => by rw [add_eq]; have := (hf j hj).1; unfold World.cell? at *; rw [hw1]; exact this)
    rw [this]
  · refine ⟨by simp; omega, fun i u u' hu hu' => ?_⟩
    have hi : i < n := by
      have := (List.getElem?_eq_some_iff.1 hu').1; simpa using this
    have e1 : u' = f i := by simp [hi] at hu'; exact hu'.symm
    rw [e1]
    refine (hf i hi).2 u ?_
    rw [List.getElem?_take, if_pos hi, List.getElem?_drop] at hu
    exact hu

/-- What a load needs: that its block is as the heap tells. -/
theorem load_sound {o : Oper} {k : XK} {v : Value} (hk : cK P o.op = some k) (hv : k.ld e h = some v)
    (hr : ∀ t ∈ k.rd, VR ρ (e t) (a.tmps.getD t undef)) (hb : ∀ b x, ldBlock e k = some b → h.bk b = some x → (∃ L, ρ b = some L) → BR ρ w b x) :
    ∃ v', VR ρ v v' ∧ (execOp a.eval o).run P w = .ok (.value v') w := by
  generalize hop : o.op = op at hk
  cases cK_inv hk <;> simp only [XK.ld, reduceCtorEq] at hv
  case load t x x' sz g hx hs hg hsg =>
    split at hv
    · rename_i ad hxe
      simp only [Option.bind_eq_some_iff] at hv
      obtain ⟨blk, hblk, hv⟩ := hv
      split at hv
      · rename_i hlen
        have hxv := cO_VR hx hr
        rw [hxe] at hxv
        obtain ⟨L, hL, hsp, hxa⟩ := hxv.ptr_inv
        obtain ⟨L', hL', hlt, hrw, hcell, _⟩ := hb ad.block blk (by simp [ldBlock, hxe]) hblk ⟨L, hL⟩
        rw [hL] at hL'; cases hL'
        cases g with
        | true =>
          simp at hv; subst hv
          obtain ⟨l, h1, h2⟩ := cells_run (P := P) hcell ad.off sz hlen
          exact ⟨_, VR.agg' h2, by simp [execOp, hop, Instr.loadAt, hxa, Instr.sureAddr, loadVar, run_isAgg' hg, run_sizeOf' hs, h1 w rfl]⟩
        | false =>
          simp at hv
          obtain ⟨v', h1, h2⟩ := hcell ad.off v hv
          exact ⟨v', h2, by simp [execOp, hop, Instr.loadAt, hxa, Instr.sureAddr, loadVar, run_isAgg' hg, h1]⟩
      · cases hv
    · cases hv

def upd (ρ : Ren) (n : Nat) (L : Loc) : Ren := fun b => if b = n then some L else ρ b

theorem upd_ext {n : Nat} {L : Loc} (hn : ρ n = none) : Ext ρ (upd ρ n L) := by
  intro b L' hb
  unfold upd
  split
  · rename_i hb'; subst hb'; rw [hn] at hb; cases hb
  · exact hb

theorem cell_push_old {o : Obj} {ad : Addr} (hl : ad.block < w.heap.size) : ({ w with heap := w.heap.push o } : World).cell? ad = w.cell? ad := by
  apply cell_of_heap
  simp [Array.getElem?_push, Nat.ne_of_lt hl]

theorem heap_push_old {o : Obj} {β : Nat} (hl : β < w.heap.size) : (w.heap.push o)[β]? = w.heap[β]? := by
  simp [Array.getElem?_push, Nat.ne_of_lt hl]

/-- A new block. -/
theorem make_eff {blk : Blk} {arr : List Value} (hn : ρ h.nx = none) (hl : LR ρ blk.cells arr) (hrw : blk.rw = true) (hx : h.bk h.nx = none ∨ True) :
    let w' : World := { w with heap := w.heap.push (.cells arr.toArray blk.elem) }
    let ρ' := upd ρ h.nx ⟨w.heap.size, 0, arr.length, true⟩
    BR ρ' w' h.nx blk ∧ Eff false ρ h w ρ' (h.new blk) w' ∧ True := by
  refine ⟨⟨_, by simp [upd]; rfl, by simp, hrw.symm, fun i v hv => ?_, fun _ => ⟨rfl, arr.toArray, (0, 0), by simp, by simp, Nat.le_refl _⟩⟩, ?_, trivial⟩
  · obtain ⟨v', h1, h2⟩ := hl.get hv
    refine ⟨v', ?_, h2.mono (upd_ext hn)⟩
    simp [World.cell?, h1]
  · refine ⟨upd_ext hn, fun b L hb => ?_, by simp, fun β hβ _ => heap_push_old hβ, ⟨rfl, rfl, rfl⟩, fun b x L h1 h3 => ?_⟩
    · unfold upd at hb
      split at hb
      · rename_i hb'; subst hb'; exact .inr ⟨Nat.le_refl _, by simp [Hp.new]⟩
      · exact .inl hb
    · unfold upd at h3
      split at h3
      · cases h3; exact .inl (Nat.le_refl _)
      · rename_i hb'
        simp [Hp.new, hb'] at h1
        exact .inr ⟨b, x, L, h1, id, h3, rfl⟩

theorem newRow_run (elem : TypeId) (cells : Array Value) : (newRow elem cells).run P w = .ok ⟨w.heap.size, 0, none⟩ { w with heap := w.heap.push (.cells cells elem) } := by
  simp [newRow]

theorem range_reps (z : Array Value) (n s : Nat) (hz : z.size = s) (hs : 0 < s) : (Array.range (n * s)).map (z[· % z.size]!) = (reps n z.toList).toArray := by
  have key : ∀ m, (List.range (m * s)).map (fun i => z[i % s]!) = reps m z.toList := by
    intro m
    induction m with
    | zero => simp [reps]
    | succ m ih =>
      have e1 : reps (m + 1) z.toList = reps m z.toList ++ z.toList := by
        unfold reps; rw [List.replicate_succ', List.flatten_append]; simp
      rw [e1, Nat.succ_mul, List.range_add, List.map_append, ih]
      congr 1
      apply List.ext_getElem?
      intro i
      by_cases hi : i < s
      · simp [hi, Nat.add_mod, Nat.mod_eq_of_lt hi, hz]
      · simp [hi]; omega
  apply Array.ext'
  simp only [hz, Array.toList_map, Array.toList_range]
  rw [key]

theorem cParts_fill {w0 : Nat} : ∀ {parts : List (Nat × Operand)} {ps : List (Nat × XO)} {cs cs' r : List Value}, cParts parts = some ps →
    (∀ t ∈ ps.flatMap fun q => q.2.rd, VR ρ (e t) (a.tmps.getD t undef)) → LR ρ cs cs' →
    rowFill w0 cs (ps.map fun (i, x) => (i, x.ev e)) = some r → ∃ r', LR ρ r r' ∧ Instr.fill (fun i => some (i * w0, w0)) cs'.toArray (parts.map fun (i, x) => (i, a.eval x)) = some r'.toArray
  | [], ps, cs, cs', r, hc, _, hcs, hf => by
    simp [cParts] at hc; subst hc
    simp [rowFill] at hf; subst hf
    exact ⟨cs', hcs, by simp [Instr.fill]⟩
  | (i, x) :: rest, ps, cs, cs', r, hc, hr, hcs, hf => by
    simp only [cParts, Option.bind_eq_some_iff, Option.map_eq_some_iff] at hc
    obtain ⟨x', hx, ps', hps, rfl⟩ := hc
    simp only [List.flatMap_cons, List.mem_append] at hr
    simp only [List.map_cons, rowFill] at hf
    split at hf
    · rename_i hl
      have hcl := (cO_VR hx fun t ht => hr t (.inl ht)).cells
      obtain ⟨r', h1, h2⟩ := cParts_fill hps (fun t ht => hr t (.inr ht)) (((hcs.take (i * w0)).append hcl).append (hcs.drop (i * w0 + w0))) hf
      refine ⟨r', h1, ?_⟩
      rw [List.map_cons, fill_step (cs := cs') (off := i * w0) (sz := w0) rfl (by rw [← hcl.1]; exact hl.1) (by rw [← hcs.1]; exact hl.2)]
      exact h2
    · cases hf

theorem info_size {t : TypeId} {i : TypeInfo} (hi : P.info? t = some i) : sizeT P t = some i.size := by simp [sizeT, hi]
theorem run_typeInfo' {t : TypeId} {i : TypeInfo} (hi : P.info? t = some i) (w : World) : (typeInfo t).run P w = .ok i w := by simp [typeInfo, hi]

theorem wrap_i64 {n : Int} (h0 : 0 ≤ n) (h1 : n ≤ 4611686018427387904) : IntKind.i64.wrap n = n := by
  have e : IntKind.i64.wrap n = if n % 18446744073709551616 ≥ 9223372036854775808 then n % 18446744073709551616 - 18446744073709551616 else n % 18446744073709551616 := by
    simp [IntKind.wrap, IntKind.signed, IntKind.bits]
  rw [e, Int.emod_eq_of_lt h0 (by omega), if_neg (by omega)]

theorem sameO_eval {x y : Operand} (hs : sameO x y = true) : a.eval x = a.eval y := by
  unfold sameO at hs
  split at hs
  · simp at hs; rw [hs]
  · simp at hs; obtain ⟨rfl, rfl⟩ := hs; rfl
  · cases hs

theorem rowFill_len {w0 : Nat} : ∀ (ps : List (Nat × Value)) (cs r : List Value), rowFill w0 cs ps = some r → r.length = cs.length
  | [], cs, r, h => by simp [rowFill] at h; rw [h]
  | (i, v) :: rest, cs, r, h => by
    simp only [rowFill] at h
    split at h
    · rename_i hl
      rw [rowFill_len rest _ r h]
      simp only [List.length_append, List.length_take, List.length_drop]
      omega
    · cases h

theorem mk_sound {o : Oper} {k : XK} {blk : Blk} {v : Value} (hk : cK P o.op = some k) (hv : k.mk e h.nx = some (blk, v))
    (hr : ∀ t ∈ k.rd, VR ρ (e t) (a.tmps.getD t undef)) (hn : ρ h.nx = none) :
    ∃ arr v', LR ρ blk.cells arr ∧ blk.rw = true ∧ VR (upd ρ h.nx ⟨w.heap.size, 0, arr.length, true⟩) v v' ∧
      (execOp a.eval o).run P w = .ok (.value v') (w.alloc (.cells arr.toArray blk.elem)) := by
  generalize hop : o.op = op at hk
  cases cK_inv hk <;> simp only [XK.mk, reduceCtorEq] at hv
  case alloc t z s hz hs =>
    split at hv
    · cases hv
      have hzv := constOk_VR ρ z (zeroT_ok hz)
      refine ⟨z.cells.toList, .pointer (some ⟨w.heap.size, 0, none⟩), hzv.cells, rfl, ?_, ?_⟩
      · exact VR.ptr (L := ⟨w.heap.size, 0, z.cells.toList.length, true⟩) (by simp [upd])
      · simp [execOp, hop, Instr.alloc, run_zero' hz, newVar, newRow_run]
    · cases hv
  case box t x x' s hx hs =>
    split at hv
    · cases hv
      have hxv := cO_VR hx hr
      refine ⟨(a.eval x).cells.toList, .pointer (some ⟨w.heap.size, 0, none⟩), hxv.cells, rfl, ?_, ?_⟩
      · exact VR.ptr (L := ⟨w.heap.size, 0, (a.eval x).cells.toList.length, true⟩) (by simp [upd])
      · simp [execOp, hop, Instr.box, newVar, newRow_run]
    · cases hv
  case mkrow t len parts elem s z ps ht hz hs hps hle hzs hs0 =>
    simp only [Option.bind_eq_some_iff] at hv
    obtain ⟨cs, hcs, hv⟩ := hv
    split at hv
    · cases hv
      have hzv := (constOk_VR ρ z (zeroT_ok hz)).cells
      obtain ⟨r', h1, h2⟩ := cParts_fill (a := a) hps hr (hzv.replicate len) hcs
      refine ⟨r', .slice (some ⟨w.heap.size, 0, none⟩) len len, h1, rfl, ?_, ?_⟩
      · have hlen : r'.length = len * s := by
          rw [← h1.1, rowFill_len _ _ _ hcs]; simp [reps, hzs]
        exact VR.slice (L := ⟨w.heap.size, 0, r'.length, true⟩) (b := h.nx) (o := 0) (by simp [upd]) (Nat.le_refl _) (fun _ => by simp [hlen])
      · have hrr := range_reps z.cells len s hzs hs0
        by_cases h0 : len * s = 0
        · have hl0 : len = 0 := by rcases Nat.mul_eq_zero.1 h0 with h | h; exact h; omega
          subst hl0
          simp [reps] at h2
          have hd : Array.map (fun _ => (default : Value)) (Array.range 0) = #[] := by apply Array.ext'; simp
          simp [execOp, hop, Instr.buildSlice, run_underlying' ht, run_sizeOf' hs, hd, h2, newRow_run]
        · simp only [execOp, hop, Instr.buildSlice, Sem.run_bind, run_underlying' ht, Result.andThen_ok, run_sizeOf' hs]
          rw [if_neg (by omega)]
          simp [h0, run_zero' hz, hrr, h2, newRow_run]
    · cases hv
  case make t l c elem i z n ht hi hz hl hsame hb hzs hs0 =>
    split at hv
    · rename_i k m hm
      split at hv
      · rename_i hrange
        cases hv
        have hnv := cO_VR hl hr
        rw [hm] at hnv
        have e1 := hnv.int_inv
        have e2 : a.eval c = .int k m := by rw [← sameO_eval hsame]; exact e1
        have hzv := (constOk_VR ρ z (zeroT_ok hz)).cells
        refine ⟨reps m.toNat z.cells.toList, .slice (some ⟨w.heap.size, 0, none⟩) m.toNat m.toNat, hzv.replicate _, rfl, ?_, ?_⟩
        · have hlen : (reps m.toNat z.cells.toList).length = m.toNat * i.size := by
            simp [reps, hzs]
          exact VR.slice (L := ⟨w.heap.size, 0, (reps m.toNat z.cells.toList).length, true⟩) (b := h.nx) (o := 0) (by simp [upd]) (Nat.le_refl _) (fun _ => by simp [hlen])
        · have hrr := range_reps z.cells m.toNat i.size hzs hs0
          have hw := wrap_i64 hrange.1 (by have := hrange.2; unfold sizeMax at this; omega)
          have hbig : ¬ ((i.bytes : Int) * m > 2 ^ 48) := by
            have h1 := hrange.2; unfold sizeMax at h1
            have h2 : (i.bytes : Int) * m ≤ 1024 * 4294967296 := Int.mul_le_mul (by omega) h1 hrange.1 (by omega)
            omega
          have hd : Array.map (fun _ => (default : Value)) (Array.range 0) = #[] := by apply Array.ext'; simp
          have hneg : ¬ (m < 0) := by omega
          simp only [execOp, hop, Instr.makeSlice, Sem.run_bind, run_underlying' ht, Result.andThen_ok, e1, e2, asInt, asIntOf_run, run_typeInfo' hi, hw, Sem.run_pure, decide_eq_false hneg, decide_eq_false hbig,
            Bool.or_self, Bool.false_eq_true, false_or, or_false, if_false, Sem.run_ite, run_askRoom, run_sizeOf' (info_size hi), hneg, Int.lt_irrefl, gt_iff_lt, or_self]
          by_cases h0 : m.toNat * i.size = 0
          · have hl0 : m.toNat = 0 := by rcases Nat.mul_eq_zero.1 h0 with h | h; exact h; omega
            simp [hl0, hd, newRow_run, reps]
          · simp [h0, run_zero' hz, hrr, newRow_run]
      · cases hv
    · cases hv

/-- Block β after some cells of it have been stored. -/
structure Stored (w w' : World) (β off : Nat) (vs : List Value) (arr arr' : Array Value) (elem : TypeId) (fr : Nat × Nat) : Prop where
  same : Same w w'
  size : w'.heap.size = w.heap.size
  here : w'.heap[β]? = some (.cells arr' elem fr)
  asize : arr'.size = arr.size
  cells : ∀ i, arr'[i]? = if off ≤ i ∧ i < off + vs.length then vs[i - off]? else arr[i]?
  other : ∀ γ, γ ≠ β → w'.heap[γ]? = w.heap[γ]?

theorem storeCells_run {β : Nat} {elem : TypeId} {fr : Nat × Nat} (hfr : fr.2 ≤ fr.1) : ∀ (vs : List Value) (w : World) (off j : Nat) (arr : Array Value), w.heap[β]? = some (.cells arr elem fr) →
    vs.all one = true → off + j + vs.length ≤ arr.size → ∃ w' arr', (storeCells ⟨β, off, none⟩ vs j).run P w = .ok () w' ∧ Stored w w' β (off + j) vs arr arr' elem fr
  | [], w, off, j, arr, hw, _, _ => ⟨w, arr, by simp [storeCells], Same.refl w, rfl, hw, rfl, fun i => by rw [if_neg (by simp)], fun _ _ => rfl⟩
  | v :: vs, w, off, j, arr, hw, ho, hl => by
    simp only [List.all_cons, Bool.and_eq_true] at ho
    have hv : v.oneCell' = true := by cases v <;> simp_all [one, Value.oneCell']
    have hlt : off + j < arr.size := by simp at hl; omega
    have hc : w.cell? ⟨β, off + j, none⟩ = some arr[off + j] := by simp [World.cell?, hw, hlt]
    have hf : w.frozen? ⟨β, off + j, none⟩ = false := by
      simp only [World.frozen?, hw]
      simp; omega
    have h1 : (w.setCell ⟨β, off + j, none⟩ v).heap[β]? = some (.cells (arr.setIfInBounds (off + j) v) elem fr) := by
      simp [World.setCell, Array.getElem?_modify, hw]
    obtain ⟨w', arr', hr, hs⟩ := storeCells_run hfr vs (w.setCell ⟨β, off + j, none⟩ v) off (j + 1) (arr.setIfInBounds (off + j) v) h1 ho.2 (by simp at hl ⊢; omega)
    refine ⟨w', arr', ?_, Same.trans ⟨rfl, rfl, rfl⟩ hs.same, by rw [hs.size]; simp [World.setCell], hs.here, by rw [hs.asize]; simp, fun i => ?_, fun γ hγ => ?_⟩
    · simp only [storeCells, Sem.run_bind, add_eq]
      rw [run_store P w _ v _ hv, hc]
      simp only [hf, Bool.false_eq_true, if_false, Result.andThen_ok]
      exact hr
    · rw [hs.cells]
      by_cases hi : i = off + j
      · subst hi
        rw [if_neg (by omega), if_pos (by simp)]
        simp [hlt]
      · by_cases hi2 : off + (j + 1) ≤ i ∧ i < off + (j + 1) + vs.length
        · rw [if_pos hi2, if_pos (by simp; omega)]
          have : i - (off + j) = (i - (off + (j + 1))) + 1 := by omega
          rw [this, List.getElem?_cons_succ]
        · rw [if_neg hi2, if_neg (by simp; omega)]
          rw [Array.getElem?_setIfInBounds_ne (by omega)]
    · rw [hs.other γ hγ]
      simp [World.setCell, Array.getElem?_modify, Ne.symm hγ]

/-- A block whose cells have been stored is again as the heap tells. -/
theorem splice_get (cs vs : List Value) (off i : Nat) (hl : off + vs.length ≤ cs.length) :
    (splice cs off vs)[i]? = if off ≤ i ∧ i < off + vs.length then vs[i - off]? else cs[i]? := by
  unfold splice
  by_cases h1 : i < off
  · rw [if_neg (by omega), List.append_assoc, List.getElem?_append_left (by simp; omega), List.getElem?_take, if_pos h1]
  · by_cases h2 : i < off + vs.length
    · rw [if_pos (by omega), List.append_assoc, List.getElem?_append_right (by simp; omega), List.getElem?_append_left (by simp; omega)]
      congr 1; simp; omega
    · rw [if_neg (by omega), List.getElem?_append_right (by simp; omega), List.getElem?_drop]
      congr 1; simp; omega

theorem splice_len (cs vs : List Value) (off : Nat) (hl : off + vs.length ≤ cs.length) : (splice cs off vs).length = cs.length := by
  unfold splice; simp; omega

/-- The heap after a store into a block that is the call's own. -/
theorem stored_HR {b : Nat} {x : Blk} {L : Loc} {off : Nat} {vs vs' : List Value} {w' : World} {arr arr' : Array Value} {fr : Nat × Nat} (hH : HR ρ (live h) w) (hb : h.bk b = some x)
    (hrw : x.rw = true) (hL : ρ b = some L) (hbase : L.base = 0) (harr : w.heap[L.blk]? = some (.cells arr x.elem fr)) (hfr : fr.2 ≤ fr.1) (hvs : LR ρ vs vs') (hone : vs.all one = true) (hlen : off + vs.length ≤ x.cells.length)
    (hs : Stored w w' L.blk off vs' arr arr' x.elem fr) :
    HR ρ (live (h.set b (some ⟨splice x.cells off vs, x.elem, true⟩))) w' ∧ Eff true ρ h w ρ (h.set b (some ⟨splice x.cells off vs, x.elem, true⟩)) w' := by
  obtain ⟨L0, hL0, hlt, hrw0, hcell, hown⟩ := hH.1 b x hb
  rw [hL] at hL0; cases hL0
  obtain ⟨_, arr0, fr0, harr0, hsz, _⟩ := hown hrw
  rw [harr] at harr0; cases harr0
  refine ⟨⟨fun c y hy => ?_, fun b1 x1 b2 x2 L1 L2 h1 h2 hr h3 h4 h5 => ?_, fun c y hy => ?_⟩, ?_⟩
  · unfold live Hp.set at hy
    simp only at hy
    split at hy
    · rename_i hcb; subst hcb
      cases hy
      refine ⟨L, hL, by rw [hs.size]; exact hlt, by rw [hrw0, hrw], fun i v hv => ?_, fun _ => ⟨hbase, arr', fr, hs.here, by rw [hs.asize, hsz], hfr⟩⟩
      simp only [World.cell?, hs.here, hbase, Nat.zero_add]
      simp only [Option.isSome_none, Bool.false_eq_true, if_false]
      rw [hs.cells, ← hvs.1]
      rw [splice_get _ _ _ _ hlen] at hv
      split at hv
      · rename_i hi
        rw [if_pos hi]
        exact hvs.get hv
      · rename_i hi
        rw [if_neg hi]
        obtain ⟨v', h1, h2⟩ := hcell i v hv
        simp only [World.cell?, harr, hbase, Nat.zero_add] at h1
        exact ⟨v', by simpa using h1, h2⟩
    · rename_i hcb
      have hBR := hH.1 c y hy
      refine hBR.keep (Ext.refl ρ) (Nat.le_of_eq hs.size.symm) fun L' hL' => hs.other _ fun hne => hcb ?_
      exact (hH.2.1 b x c y L L' hb hy hrw hL hL' hne.symm).symm
  · have hold : ∀ c y, live (h.set b (some ⟨splice x.cells off vs, x.elem, true⟩)) c y → ∃ y0, h.bk c = some y0 ∧ y0.rw = y.rw := by
      intro c y hy
      unfold live Hp.set at hy
      simp only at hy
      split at hy
      · rename_i hcb; subst hcb; cases hy; exact ⟨x, hb, hrw⟩
      · exact ⟨y, hy, rfl⟩
    obtain ⟨y1, g1, r1⟩ := hold _ _ h1
    obtain ⟨y2, g2, r2⟩ := hold _ _ h2
    exact hH.2.1 b1 y1 b2 y2 L1 L2 g1 g2 (by rw [r1]; exact hr) h3 h4 h5
  · unfold live Hp.set at hy
    simp only at hy
    split at hy
    · cases hy
      have h1 := hH.2.2 b x hb
      rw [List.all_eq_true] at *
      intro v hv
      unfold splice at hv
      simp only [List.mem_append] at hv
      rcases hv with (hv | hv) | hv
      · exact h1 v (List.mem_of_mem_take hv)
      · exact hone v hv
      · exact h1 v (List.mem_of_mem_drop hv)
    · exact hH.2.2 c y hy
  · refine ⟨Ext.refl ρ, fun _ _ e => .inl e, Nat.le_of_eq hs.size.symm, fun β hβ hn => hs.other β fun hne => hn rfl b x L hb hrw hL hne.symm, hs.same, fun c y L' h1 h3 => ?_⟩
    right
    unfold Hp.set at h1
    simp only at h1
    split at h1
    · rename_i hcb; subst hcb; exact ⟨c, x, L', hb, fun _ => hrw, h3, rfl⟩
    · exact ⟨c, y, L', h1, id, h3, rfl⟩

theorem store_sound {o : Oper} {sz : Nat} {x' v' : XO} {v : Value} {h' : Hp} {t : TypeId} {x u : Operand} (ho : o.op = .store t x u) (hx : cO x = some x') (hu : cO u = some v') (hs : sizeT P t = some sz)
    (hv : (XK.store sz x' v').eff e h = some (v, h')) (hr : ∀ t ∈ (XK.store sz x' v').rd, VR ρ (e t) (a.tmps.getD t undef)) (hH : HR ρ (live h) w) :
    ∃ w', HR ρ (live h') w' ∧ Eff true ρ h w ρ h' w' ∧ v = undef ∧ (execOp a.eval o).run P w = .ok .skip w' := by
  simp only [XK.eff] at hv
  split at hv
  · rename_i ad hxe
    simp only [Option.bind_eq_some_iff] at hv
    obtain ⟨blk, hblk, hv⟩ := hv
    split at hv
    · rename_i hc
      obtain ⟨hc1, hc2, hc3, hc4⟩ := hc
      cases hv
      simp only [XK.rd, List.mem_append] at hr
      have hxv := cO_VR hx fun t ht => hr t (.inl ht)
      have huv := (cO_VR hu fun t ht => hr t (.inr ht)).cells
      rw [hxe] at hxv
      obtain ⟨L, hL, hsp, hxa⟩ := hxv.ptr_inv
      obtain ⟨L0, hL0, hlt, hrw0, hcell, hown⟩ := hH.1 ad.block blk hblk
      rw [hL] at hL0; cases hL0
      obtain ⟨hbase, arr, fr, harr, hsz, hfr⟩ := hown hc4
      have hlen : blk.cells.length ≤ arr.size := by
        rcases Nat.lt_or_ge arr.size blk.cells.length with hlt2 | hge
        · obtain ⟨v', h1, _⟩ := hcell arr.size blk.cells[arr.size] (by simp [hlt2])
          simp [World.cell?, harr, hbase] at h1
        · exact hge
      obtain ⟨w', arr', hrun, hst⟩ := storeCells_run (P := P) hfr (a.eval u).cells.toList w ad.off 0 arr harr (huv.allOne hc2) (by rw [← huv.1]; omega)
      have := stored_HR (off := ad.off) hH hblk hc4 hL hbase harr hfr huv hc2 (by omega) hst
      refine ⟨w', this.1, this.2, rfl, ?_⟩
      have hsz2 : (a.eval u).cells.size = sz := by have := huv.1; simp at this hc1; omega
      have : (⟨L.blk, L.base + ad.off, none⟩ : Addr) = ⟨L.blk, ad.off, none⟩ := by rw [hbase, Nat.zero_add]
      simp [execOp, ho, Instr.storeAt, hxa, Instr.sureAddr, storeVar, run_sizeOf' hs, hsz2, this, hrun]
    · cases hv
  · cases hv

theorem cellsOf_run {w0 : Nat} {B : Option Addr} {m k : Nat} {xs : List Value} {xv : Value} (hx : VR ρ (.slice B m k) xv) (hc : h.cellsOf w0 (.slice B m k) = some xs) (hH : HR ρ (live h) w)
    : ∃ l : List Value, (∀ w1 : World, w1.heap = w.heap → (Builtin.firstCells w0 m xv).run P w1 = .ok l.toArray w1) ∧ LR ρ xs l ∧ l.length = m * w0 := by
  obtain ⟨A', c', rfl, hle, hnn, hh⟩ := hx.slice_inv
  cases B with
  | none =>
    have hm : m = 0 := by
      rcases hh with ⟨h0, _⟩ | ⟨b, o, L, hA, _⟩
      · exact h0
      · cases hA
    subst hm
    simp [Hp.cellsOf] at hc
    subst hc
    cases A' with
    | some a => simp at hnn
    | none => exact ⟨[], by simp [Builtin.firstCells], LR.nil ρ, by simp⟩
  | some ad =>
    simp only [Hp.cellsOf] at hc
    split at hc
    · rename_i hm
      subst hm
      cases hc
      cases A' with
      | none => simp at hnn
      | some a => exact ⟨[], by simp [Builtin.firstCells, loadCells, loadCellsFrom], LR.nil ρ, by simp⟩
    · rename_i hm
      simp only [Option.bind_eq_some_iff] at hc
      obtain ⟨blk, hblk, hc⟩ := hc
      split at hc
      · rename_i hlen
        cases hc
        rcases hh with ⟨h0, _⟩ | ⟨b, o, L, hA, hL, hA', _⟩
        · exact absurd h0 hm
        · cases hA; subst hA'
          obtain ⟨L0, hL0, _, _, hcell, _⟩ := hH.1 b blk hblk
          rw [hL] at hL0; cases hL0
          obtain ⟨l, h1, h2⟩ := cells_run (P := P) hcell o (m * w0) hlen
          refine ⟨l, fun w1 hw1 => by simp [Builtin.firstCells, h1 w1 hw1], h2, ?_⟩
          have hlen' : o + m * w0 ≤ blk.cells.length := hlen
          rw [← h2.1]; simp only [List.length_take, List.length_drop]; omega
      · cases hc

theorem growBy_le (newLen : Nat) : ∀ (r c : Nat), Builtin.growBy newLen r c ≤ c ∨ Builtin.growBy newLen r c ≤ newLen + (newLen + 768) / 4
  | 0, c => .inl (Nat.le_refl _)
  | r + 1, c => by
    unfold Builtin.growBy
    split
    · exact .inl (Nat.le_refl _)
    · rename_i hc
      rcases growBy_le newLen r (c + (c + 768) / 4) with h | h
      · right; omega
      · exact .inr h

theorem nextslicecap_le {newLen oldCap : Nat} (h : oldCap < newLen) : Builtin.nextslicecap newLen oldCap ≤ 2 * newLen + 768 := by
  unfold Builtin.nextslicecap
  split
  · omega
  · split
    · omega
    · rcases growBy_le newLen 4 oldCap with h1 | h1 <;> omega

theorem zeroCells_size (z : Array Value) (n : Nat) : (Builtin.zeroCells z n).size = n * z.size := by simp [Builtin.zeroCells]

/-- What append does in the model, on slices of one element type. -/
theorem append_run {t u elem : TypeId} {i : TypeInfo} {z : Value} {A' : Option Addr} {n c' m : Nat} {xv : Value} {l : List Value} (ty : TypeId) (ht : P.underlying t = some (.slice elem)) (hu : P.underlying u = some (.slice elem))
    (hi : P.info? elem = some i) (hz : zeroT P elem = some z) (hby : i.bytes ≤ 1024) (hxm : (Builtin.lenOf xv).run P w = .ok m w)
    (hl : ∀ w1 : World, w1.heap = w.heap → (Builtin.firstCells i.size m xv).run P w1 = .ok l.toArray w1) (hsz : n + m ≤ sizeMax) :
    (n + m ≤ c' → ∀ w', (match A' with | some a => (storeCells (a.add (n * i.size)) l).run P w = .ok () w' | none => w' = w) →
      (Builtin.append_ #[t, u] ty #[.slice A' n c', xv]).run P w = .ok (.slice A' (n + m) c') w') ∧
    (¬ n + m ≤ c' → ∀ old : List Value, (∀ w1 : World, w1.heap = w.heap → (Builtin.firstCells i.size n (.slice A' n c')).run P w1 = .ok old.toArray w1) → ∃ (newCap : Nat) (w1 : World), n + m ≤ newCap ∧ (w1.heap = w.heap ∧ Same w w1) ∧
      (Builtin.append_ #[t, u] ty #[.slice A' n c', xv]).run P w = .ok (.slice (some ⟨w.heap.size, 0, none⟩) (n + m) newCap)
        (w1.alloc (.cells (old.toArray ++ l.toArray ++ Builtin.zeroCells z.cells (newCap - (n + m))) elem))) := by
  refine ⟨fun hle w' hw' => ?_, fun hle old hold => ?_⟩
  · simp only [Builtin.append_, List.getElem?_toArray, List.getElem?_cons_zero, List.getElem?_cons_succ, Sem.run_bind, run_underlying' ht, run_underlying' hu, Result.andThen_ok, run_sizeOf' (info_size hi),
      Sem.run_pure, Bool.false_eq_true, if_false, hxm, if_pos hle, Bool.not_false, if_true, hl w rfl]
    cases A' with
    | none => simp only at hw'; subst hw'; simp
    | some ad => simp only at hw'; simp [hw']
  · have hcap : ¬ ((Builtin.nextslicecap (n + m) c' : Nat) * i.bytes > 2 ^ 48) := by
      have h1 := nextslicecap_le (newLen := n + m) (oldCap := c') (by omega)
      unfold sizeMax at hsz
      have h2 : Builtin.nextslicecap (n + m) c' * i.bytes ≤ (2 * (n + m) + 768) * 1024 := Nat.mul_le_mul h1 hby
      omega
    have hneed : ¬ (((n + m : Nat) : Int) > IntKind.i64.max ∧ (False ∨ i.bytes = 0)) := by
      have : IntKind.i64.max = 9223372036854775807 := by decide
      unfold sizeMax at hsz
      rw [this]; omega
    simp only [Builtin.append_, List.getElem?_toArray, List.getElem?_cons_zero, List.getElem?_cons_succ, Sem.run_bind, run_underlying' ht, run_underlying' hu, Result.andThen_ok, run_sizeOf' (info_size hi),
      Sem.run_pure, Bool.false_eq_true, if_false, hxm, if_neg hle, Bool.not_false, if_true, run_typeInfo' hi, if_neg hneed, if_neg hcap, run_choose, Question.forced]
    have hw1 : ({ w with drawn := w.drawn + 1 } : World).heap = w.heap := rfl
    refine ⟨(Question.appendCap (n + m) c' elem).cut (w.tape w.drawn (Question.appendCap (n + m) c' elem)), { w with drawn := w.drawn + 1 }, ?_, ⟨rfl, rfl, rfl, rfl⟩, ?_⟩
    · simp only [Question.cut]; omega
    · simp only [Result.andThen_ok, run_askRoom, hold _ hw1, hl _ hw1, run_zero' hz, newRow_run]
      rfl

theorem lenOf_run {B : Option Addr} {m k : Nat} {xv : Value} (hx : VR ρ (.slice B m k) xv) : (Builtin.lenOf xv).run P w = .ok m w := by
  obtain ⟨A', c', rfl, _⟩ := hx.slice_inv
  rfl

/-- The heap after a grown row: a new block, made of an old one or of nothing. -/
theorem grown_HR {kill : Option Nat} {blk : Blk} {arr : List Value} (hH : HR ρ (live h) w) (hn : ρ h.nx = none) (hnl : h.bk h.nx = none) (w1 : World) (hw1' : w1.heap = w.heap ∧ Same w w1) (rest : List Value)
    (hl : LR ρ blk.cells arr) (hrw : blk.rw = true) (hone : blk.cells.all one = true) (h0 : Hp) (h0nx : h0.nx = h.nx) (h0bk : ∀ b, h0.bk b = if some b = kill then none else h.bk b) :
    let w' := w1.alloc (.cells (arr ++ rest).toArray blk.elem)
    let ρ' := upd ρ h.nx ⟨w.heap.size, 0, (arr ++ rest).length, true⟩
    HR ρ' (live (h0.new blk)) w' ∧ Eff true ρ h w ρ' (h0.new blk) w' := by
  have hw1 := hw1'.1
  have hold : ∀ c y, live (h0.new blk) c y → c = h.nx ∧ y = blk ∨ c ≠ h.nx ∧ h.bk c = some y := by
    intro c y hy
    simp only [live, Hp.new, h0nx] at hy
    split at hy
    · rename_i hc; cases hy; exact .inl ⟨hc, rfl⟩
    · rename_i hc
      rw [h0bk] at hy
      split at hy
      · cases hy
      · exact .inr ⟨hc, hy⟩
  have hup : ∀ c, c ≠ h.nx → upd ρ h.nx ⟨w.heap.size, 0, (arr ++ rest).length, true⟩ c = ρ c := fun c hc => by simp [upd, hc]
  have hheap : ∀ β, β < w.heap.size → (w1.alloc (.cells (arr ++ rest).toArray blk.elem)).heap[β]? = w.heap[β]? := fun β hβ => by
    simp [World.alloc, hw1, Array.getElem?_push, Nat.ne_of_lt hβ]
  refine ⟨⟨fun c y hy => ?_, fun b1 x1 b2 x2 L1 L2 h1 h2 hr h3 h4 h5 => ?_, fun c y hy => ?_⟩, ?_⟩
  · rcases hold c y hy with ⟨rfl, rfl⟩ | ⟨hc, hy⟩
    · refine ⟨_, by simp [upd]; rfl, by simp [World.alloc, hw1], hrw.symm, fun i v hv => ?_, fun _ => ⟨rfl, (arr ++ rest).toArray, (0, 0), by simp [World.alloc, hw1], by simp, Nat.le_refl _⟩⟩
      obtain ⟨v', h1, h2⟩ := hl.get hv
      refine ⟨v', ?_, h2.mono (upd_ext hn)⟩
      have hi : i < arr.length := (List.getElem?_eq_some_iff.1 h1).1
      simp only [World.cell?, World.alloc, hw1, Array.getElem?_push_size, Option.isSome_none, Bool.false_eq_true, if_false, Nat.zero_add, List.getElem?_toArray]
      rw [List.getElem?_append_left hi]; exact h1
    · have hBR := hH.1 c y hy
      exact hBR.keep (upd_ext hn) (by simp [World.alloc, hw1]) fun L hL => by
        obtain ⟨L', hL', hlt, _⟩ := hBR
        rw [hL] at hL'; cases hL'
        exact hheap _ hlt
  · rcases hold b1 x1 h1 with ⟨rfl, rfl⟩ | ⟨hc1, g1⟩ <;> rcases hold b2 x2 h2 with ⟨rfl, rfl⟩ | ⟨hc2, g2⟩
    · rfl
    · exfalso
      obtain ⟨L', hL', hlt, _⟩ := hH.1 b2 x2 g2
      rw [hup b2 hc2] at h4
      rw [h4] at hL'; cases hL'
      simp [upd] at h3; subst h3; simp at h5; omega
    · exfalso
      obtain ⟨L', hL', hlt, _⟩ := hH.1 b1 x1 g1
      rw [hup b1 hc1] at h3
      rw [h3] at hL'; cases hL'
      simp [upd] at h4; subst h4; simp at h5; omega
    · rw [hup b1 hc1] at h3; rw [hup b2 hc2] at h4
      exact hH.2.1 b1 x1 b2 x2 L1 L2 g1 g2 hr h3 h4 h5
  · rcases hold c y hy with ⟨rfl, rfl⟩ | ⟨hc, hy⟩
    · exact hone
    · exact hH.2.2 c y hy
  · refine ⟨upd_ext hn, fun b L hb => ?_, by simp [World.alloc, hw1], fun β hβ _ => hheap β hβ, hw1'.2.trans ⟨rfl, rfl, rfl⟩, fun b x L h1 h3 => ?_⟩
    · unfold upd at hb
      split at hb
      · rename_i hb'; subst hb'; exact .inr ⟨Nat.le_refl _, by simp [Hp.new, h0nx]⟩
      · exact .inl hb
    · rcases hold b x h1 with ⟨rfl, rfl⟩ | ⟨hc, g⟩
      · simp [upd] at h3; subst h3; exact .inl (Nat.le_refl _)
      · rw [hup b hc] at h3; exact .inr ⟨b, x, L, g, id, h3, rfl⟩

/-- The heap after a row that has been lengthened in place. -/
theorem longer_HR {b : Nat} {x : Blk} {L : Loc} {vs vs' : List Value} {w' : World} {arr arr' : Array Value} {fr : Nat × Nat} (hH : HR ρ (live h) w) (hb : h.bk b = some x) (hn : ρ h.nx = none)
    (hrw : x.rw = true) (hL : ρ b = some L) (hbase : L.base = 0) (harr : w.heap[L.blk]? = some (.cells arr x.elem fr)) (hfr : fr.2 ≤ fr.1) (hvs : LR ρ vs vs') (hone : vs.all one = true)
    (hs : Stored w w' L.blk x.cells.length vs' arr arr' x.elem fr) (hroom : x.cells.length + vs.length ≤ arr.size) :
    HR (upd ρ h.nx L) (live ((h.set b none).new ⟨x.cells ++ vs, x.elem, true⟩)) w' ∧ Eff true ρ h w (upd ρ h.nx L) ((h.set b none).new ⟨x.cells ++ vs, x.elem, true⟩) w' := by
  obtain ⟨L0, hL0, hlt, hrw0, hcell, hown⟩ := hH.1 b x hb
  rw [hL] at hL0; cases hL0
  obtain ⟨_, arr0, fr0, harr0, hsz, _⟩ := hown hrw
  rw [harr] at harr0; cases harr0
  have hold : ∀ c y, live ((h.set b none).new ⟨x.cells ++ vs, x.elem, true⟩) c y → c = h.nx ∧ y = ⟨x.cells ++ vs, x.elem, true⟩ ∨ c ≠ h.nx ∧ c ≠ b ∧ h.bk c = some y := by
    intro c y hy
    have hy : (if c = h.nx then some ⟨x.cells ++ vs, x.elem, true⟩ else if c = b then none else h.bk c) = some y := hy
    by_cases hc : c = h.nx
    · rw [if_pos hc] at hy; cases hy; exact .inl ⟨hc, rfl⟩
    · rw [if_neg hc] at hy
      by_cases hc2 : c = b
      · rw [if_pos hc2] at hy; cases hy
      · rw [if_neg hc2] at hy; exact .inr ⟨hc, hc2, hy⟩
  have hup : ∀ c, c ≠ h.nx → upd ρ h.nx L c = ρ c := fun c hc => by simp [upd, hc]
  refine ⟨⟨fun c y hy => ?_, fun b1 x1 b2 x2 L1 L2 h1 h2 hr h3 h4 h5 => ?_, fun c y hy => ?_⟩, ?_⟩
  · rcases hold c y hy with ⟨rfl, rfl⟩ | ⟨hc, hcb, hy⟩
    · refine ⟨L, by simp [upd], by rw [hs.size]; exact hlt, by rw [hrw0, hrw], fun i v hv => ?_, fun _ => ⟨hbase, arr', fr, hs.here, by rw [hs.asize, hsz], hfr⟩⟩
      simp only [World.cell?, hs.here, hbase, Nat.zero_add, Option.isSome_none, Bool.false_eq_true, if_false]
      rw [hs.cells, ← hvs.1]
      simp only at hv
      by_cases hi : i < x.cells.length
      · rw [if_neg (by omega)]
        rw [List.getElem?_append_left hi] at hv
        obtain ⟨v', h1, h2⟩ := hcell i v hv
        simp only [World.cell?, harr, hbase, Nat.zero_add] at h1
        exact ⟨v', by simpa using h1, h2.mono (upd_ext hn)⟩
      · rw [List.getElem?_append_right (by omega)] at hv
        obtain ⟨v', h1, h2⟩ := hvs.get hv
        have := (List.getElem?_eq_some_iff.1 hv).1
        rw [if_pos (by omega)]
        exact ⟨v', h1, h2.mono (upd_ext hn)⟩
    · have hBR := hH.1 c y hy
      refine hBR.keep (upd_ext hn) (Nat.le_of_eq hs.size.symm) fun L' hL' => hs.other _ fun hne => hcb ?_
      exact (hH.2.1 b x c y L L' hb hy hrw hL hL' hne.symm).symm
  · rcases hold b1 x1 h1 with ⟨rfl, rfl⟩ | ⟨hc1, hb1, g1⟩ <;> rcases hold b2 x2 h2 with ⟨rfl, rfl⟩ | ⟨hc2, hb2, g2⟩
    · rfl
    · exfalso
      rw [hup b2 hc2] at h4
      simp [upd] at h3; subst h3
      exact hb2 (hH.2.1 b x b2 x2 L L2 hb g2 hrw hL h4 h5).symm
    · exfalso
      rw [hup b1 hc1] at h3
      simp [upd] at h4; subst h4
      exact hb1 (hH.2.1 b x b1 x1 L L1 hb g1 hrw hL h3 h5.symm).symm
    · rw [hup b1 hc1] at h3; rw [hup b2 hc2] at h4
      exact hH.2.1 b1 x1 b2 x2 L1 L2 g1 g2 hr h3 h4 h5
  · rcases hold c y hy with ⟨rfl, rfl⟩ | ⟨hc, hcb, hy⟩
    · simp only [List.all_append, Bool.and_eq_true]; exact ⟨hH.2.2 b x hb, hone⟩
    · exact hH.2.2 c y hy
  · refine ⟨upd_ext hn, fun c L' hc => ?_, Nat.le_of_eq hs.size.symm, fun β hβ hne => hs.other β fun he => hne rfl b x L hb hrw hL he.symm, hs.same, fun c y L' h1 h3 => ?_⟩
    · unfold upd at hc
      split at hc
      · rename_i hb'; subst hb'; exact .inr ⟨Nat.le_refl _, by simp [Hp.new, Hp.set]⟩
      · exact .inl hc
    · right
      rcases hold c y h1 with ⟨rfl, rfl⟩ | ⟨hc, _, g⟩
      · simp [upd] at h3; subst h3; exact ⟨b, x, L, hb, fun _ => hrw, hL, rfl⟩
      · rw [hup c hc] at h3; exact ⟨c, y, L', g, id, h3, rfl⟩

theorem BR.len {b : Nat} {x : Blk} {L : Loc} {arr : Array Value} {fr : Nat × Nat} (hB : BR ρ w b x) (hL : ρ b = some L) (hbase : L.base = 0) (harr : w.heap[L.blk]? = some (.cells arr x.elem fr)) : x.cells.length ≤ arr.size := by
  obtain ⟨L0, hL0, _, _, hcell, _⟩ := hB
  rw [hL] at hL0; cases hL0
  rcases Nat.lt_or_ge arr.size x.cells.length with hlt2 | hge
  · obtain ⟨v', h1, _⟩ := hcell arr.size x.cells[arr.size] (by simp [hlt2])
    simp [World.cell?, harr, hbase] at h1
  · exact hge

theorem cellsOf_len {w0 n k : Nat} {A : Option Addr} {xs : List Value} (hc : h.cellsOf w0 (.slice A n k) = some xs) : xs.length = n * w0 := by
  unfold Hp.cellsOf at hc
  split at hc
  · rename_i h1; cases h1; cases hc; simp
  · rename_i h1; cases h1
    split at hc
    · rename_i h0; cases hc; simp [h0]
    · simp only [Option.bind_eq_some_iff] at hc
      obtain ⟨b, _, hc⟩ := hc
      split at hc
      · cases hc; simp; omega
      · cases hc
  · cases hc

theorem cellsOf_one {w0 n k : Nat} {A : Option Addr} {xs : List Value} (hH : HR ρ (live h) w) (hc : h.cellsOf w0 (.slice A n k) = some xs) : xs.all one = true := by
  unfold Hp.cellsOf at hc
  split at hc
  · cases hc; rfl
  · split at hc
    · cases hc; rfl
    · simp only [Option.bind_eq_some_iff] at hc
      obtain ⟨b, hb, hc⟩ := hc
      split at hc
      · cases hc
        have h1 := hH.2.2 _ b hb
        rw [List.all_eq_true] at *
        intro v hv
        exact h1 v (List.mem_of_mem_drop (List.mem_of_mem_take hv))
      · cases hc
  · cases hc

theorem append_sound {o : Oper} {c : Call} {elem : TypeId} {i : TypeInfo} {z : Value} {s x : Operand} {s' x' : XO} {t u : TypeId} {v : Value} {h' : Hp}
    (ho : o.op = .call c) (hc : c.callee = .builtin .append) (ha : c.args.toList = [s, x]) (hat : c.argTypes.toList = [t, u]) (hs : cO s = some s') (hx : cO x = some x')
    (ht : P.underlying t = some (.slice elem)) (hu : P.underlying u = some (.slice elem)) (hi : P.info? elem = some i) (hz : zeroT P elem = some z) (hby : i.bytes ≤ 1024) (hzs : z.cells.size = i.size) (hs0 : 0 < i.size)
    (hv : (XK.append elem i.size i.bytes s' x').eff e h = some (v, h')) (hr : ∀ t ∈ (XK.append elem i.size i.bytes s' x').rd, VR ρ (e t) (a.tmps.getD t undef)) (hH : HR ρ (live h) w)
    (hn : h.nx < h'.nx → ρ h.nx = none) (hnl : h.bk h.nx = none) :
    ∃ w' ρ' v', HR ρ' (live h') w' ∧ Eff true ρ h w ρ' h' w' ∧ VR ρ' v v' ∧ (execOp a.eval o).run P w = .ok (.value v') w' := by
  simp only [XK.rd, List.mem_append] at hr
  have hsv := cO_VR hs fun t ht => hr t (.inl ht)
  have hxv := cO_VR hx fun t ht => hr t (.inr ht)
  have hrun : ∀ v' w', (Builtin.append_ #[t, u] o.type #[a.eval s, a.eval x]).run P w = .ok v' w' → (execOp a.eval o).run P w = .ok (.value v') w' := by
    intro v' w' hr
    simp [execOp, ho, resolve, hc, arr2 ha, arr2 hat, invoke, builtin, hr]
  simp only [XK.eff] at hv
  split at hv
  · rename_i c0 B m k es ex
    rw [es] at hsv; rw [ex] at hxv
    obtain ⟨A', c', eA, _, hnn, hh⟩ := hsv.slice_inv
    have hA' : A' = none := by cases A' with | none => rfl | some _ => simp at hnn
    subst hA'
    have hc' : c' = 0 := by
      rcases hh with ⟨_, h0⟩ | ⟨b, o, L, hA, _⟩
      · exact h0
      · cases hA
    subst hc'
    split at hv
    · rename_i hm
      subst hm
      cases hv
      refine ⟨w, ρ, .slice none 0 0, hH, Eff.refl _ _ _ _, .sliceZ rfl, hrun _ _ ?_⟩
      rw [eA]
      obtain ⟨B', c2, eB, _, _, _⟩ := hxv.slice_inv
      have hl : ∀ w1 : World, w1.heap = w.heap → (Builtin.firstCells i.size 0 (a.eval x)).run P w1 = .ok ([] : List Value).toArray w1 := by
        intro w1 _; rw [eB]; cases B' <;> simp [Builtin.firstCells, loadCells, loadCellsFrom]
      have := (append_run (P := P) (A' := none) (n := 0) (c' := 0) (l := []) o.type ht hu hi hz hby (lenOf_run (w := w) hxv) hl (by unfold sizeMax; omega)).1 (by omega) w rfl
      simpa using this
    · rename_i hm
      simp only [Option.bind_eq_some_iff] at hv
      obtain ⟨xs, hxs, hv⟩ := hv
      split at hv
      · rename_i hmx
        cases hv
        have hn' := hn (by simp [Hp.new])
        obtain ⟨l, hlall, hl2, hl3⟩ := cellsOf_run (P := P) hxv hxs hH
        obtain ⟨newCap, w1, hcap, hw1, hres⟩ := (append_run (P := P) (A' := none) (n := 0) (c' := 0) (l := l) o.type ht hu hi hz hby (lenOf_run (w := w) hxv) hlall (by omega)).2 (by omega) []
          (fun w1 _ => by simp [Builtin.firstCells])
        have hg := grown_HR (kill := none) (blk := ⟨xs, elem, true⟩) hH hn' hnl w1 hw1 (Builtin.zeroCells z.cells (newCap - m)).toList hl2 rfl (cellsOf_one hH hxs) h rfl (fun b => by simp)
        refine ⟨_, _, .slice (some ⟨w.heap.size, 0, none⟩) m newCap, hg.1, hg.2, ?_, hrun _ _ ?_⟩
        · refine VR.slice (L := ⟨w.heap.size, 0, _, true⟩) (b := h.nx) (o := 0) (by simp [upd]; rfl) (by omega) (fun _ => ?_)
          simp only [List.length_append, hl3, Array.length_toList, zeroCells_size, hzs]
          rw [← Nat.add_mul]; apply Nat.le_of_eq; rw [Nat.zero_add]; congr 1; omega
        · simp only [Nat.zero_add] at hres
          rw [eA, hres]
          congr 3
          apply Array.ext'; simp
      · cases hv
  · rename_i ad n c0 B m k es ex
    rw [es] at hsv; rw [ex] at hxv
    obtain ⟨A', c', eA, hle, hnn, hh⟩ := hsv.slice_inv
    split at hv
    · rename_i hcw
      subst hcw
      split at hv
      · rename_i hnm
        cases hv
        have hn0 : n = 0 := by omega
        have hm0 : m = 0 := by omega
        subst hn0; subst hm0
        have hvr : VR ρ (.slice (some ad) 0 i.size) (.slice A' 0 c') := by rw [← eA]; exact hsv
        refine ⟨w, ρ, .slice A' 0 c', hH, Eff.refl _ _ _ _, hvr, hrun _ _ ?_⟩
        rw [eA]
        obtain ⟨B', c2, eB, _, _, _⟩ := hxv.slice_inv
        have hl : ∀ w1 : World, w1.heap = w.heap → (Builtin.firstCells i.size 0 (a.eval x)).run P w1 = .ok ([] : List Value).toArray w1 := by
          intro w1 _; rw [eB]; cases B' <;> simp [Builtin.firstCells, loadCells, loadCellsFrom]
        have := (append_run (P := P) (A' := A') (n := 0) (c' := c') (l := []) o.type ht hu hi hz hby (lenOf_run (w := w) hxv) hl (by unfold sizeMax; omega)).1 (by omega) w (by cases A' <;> simp [storeCells])
        simpa using this
      · rename_i hnm
        simp only [Option.bind_eq_some_iff] at hv
        obtain ⟨xs, hxs, blk, hblk, hv⟩ := hv
        split at hv
        · rename_i hcond
          obtain ⟨hoff, hlen, hrw, rfl, hmax⟩ := hcond
          cases hv
          have hn' := hn (by simp [Hp.new, Hp.set])
          obtain ⟨l, hlall, hl2, hl3⟩ := cellsOf_run (P := P) hxv hxs hH
          have hxl := cellsOf_len hxs
          obtain ⟨L, hL, hLlt, hLrw, hcell, hown⟩ := hH.1 ad.block blk hblk
          obtain ⟨hbase, arr, fr, harr, hsz, hfr⟩ := hown hrw
          by_cases hfit : n + m ≤ c'
          · have hp : ∃ b o L', some ad = some (⟨b, o, none⟩ : Addr) ∧ ρ b = some L' ∧ A' = some ⟨L'.blk, L'.base + o, none⟩ ∧ (L'.rw = true → o + c' * i.size ≤ L'.size) := by
              rcases hh with ⟨_, h0⟩ | hh
              · omega
              · exact hh
            obtain ⟨b, of, L', hA, hL', hA', hroom⟩ := hp
            cases hA
            simp only at hoff hblk hL
            rw [hL] at hL'; cases hL'
            subst hoff
            subst hA'
            have hro := hroom (by rw [hLrw, hrw])
            have hfit2 : n * i.size + m * i.size ≤ L.size := by
              have : (n + m) * i.size ≤ c' * i.size := Nat.mul_le_mul_right _ hfit
              rw [Nat.add_mul] at this; omega
            have hlone : l.all one = true := hl2.allOne (cellsOf_one hH hxs)
            obtain ⟨w', arr', hrunS, hst⟩ := storeCells_run (P := P) hfr l w (n * i.size) 0 arr harr hlone (by rw [hl3, hsz]; omega)
            have hg := longer_HR (b := b) (x := blk) (L := L) (vs := xs) (vs' := l) (w' := w') (arr := arr) (arr' := arr') (fr := fr) hH hblk hn' hrw hL hbase harr hfr hl2 (cellsOf_one hH hxs) (by rw [hlen]; exact hst) (by rw [hlen, hxl, hsz]; exact hfit2)
            refine ⟨w', _, .slice (some ⟨L.blk, L.base + 0, none⟩) (n + m) c', hg.1, hg.2, VR.slice (by simp [upd]) hfit (fun hr => hroom hr), hrun _ _ ?_⟩
            rw [eA]
            exact (append_run (P := P) (A' := some ⟨L.blk, L.base + 0, none⟩) (n := n) (c' := c') (l := l) o.type ht hu hi hz hby (lenOf_run (w := w) hxv) hlall hmax).1 hfit w'
              (by simp only [hbase, add_eq, Nat.zero_add]; exact hrunS)
          · have holdx : h.cellsOf i.size (.slice (some ad) n i.size) = some blk.cells := by
              by_cases hn0 : n = 0
              · subst hn0
                have : blk.cells = [] := by apply List.eq_nil_of_length_eq_zero; simpa using hlen
                simp [Hp.cellsOf, this]
              · simp only [Hp.cellsOf, if_neg hn0, hblk, Option.bind_some, hoff]
                rw [if_pos (by omega)]
                simp [List.take_of_length_le (Nat.le_of_eq hlen)]
            obtain ⟨old, hold, ho2, ho3⟩ := cellsOf_run (P := P) hsv holdx hH
            rw [eA] at hold
            obtain ⟨newCap, w1, hcap, hw1, hres⟩ := (append_run (P := P) (A' := A') (n := n) (c' := c') (l := l) o.type ht hu hi hz hby (lenOf_run (w := w) hxv) hlall hmax).2 hfit old hold
            have hg := grown_HR (kill := some ad.block) (blk := ⟨blk.cells ++ xs, blk.elem, true⟩) hH hn' hnl w1 hw1 (Builtin.zeroCells z.cells (newCap - (n + m))).toList (ho2.append hl2) rfl (by simp only [List.all_append, Bool.and_eq_true]; exact ⟨hH.2.2 _ blk hblk, cellsOf_one hH hxs⟩) (h.set ad.block none) rfl
              (fun b => by simp only [Hp.set]; split <;> simp_all)
            refine ⟨_, _, .slice (some ⟨w.heap.size, 0, none⟩) (n + m) newCap, hg.1, hg.2, ?_, hrun _ _ ?_⟩
            · refine VR.slice (L := ⟨w.heap.size, 0, _, true⟩) (b := h.nx) (o := 0) (by simp [upd]; rfl) (by omega) (fun _ => ?_)
              simp only [List.length_append, hl3, ho3, Array.length_toList, zeroCells_size, hzs]
              rw [← Nat.add_mul, ← Nat.add_mul]; apply Nat.le_of_eq; rw [Nat.zero_add]; congr 1; omega
            · rw [eA, hres]
              congr 2
              simp
        · cases hv
    · cases hv
  · cases hv

theorem min_slice {w0 : Nat} {B : Option Addr} {m k r : Nat} {xv : Value} (hx : VR ρ (.slice B m k) xv) (hr : r ≤ m) : ∃ A' c', xv = .slice A' m c' ∧ VR ρ (.slice B r k) (.slice A' r c') := by
  cases hx with
  | sliceZ h =>
    have : r = 0 := by omega
    subst this
    exact ⟨_, _, rfl, .sliceZ h⟩
  | slice h1 h2 h3 => exact ⟨_, _, rfl, .slice h1 (by omega) h3⟩

theorem copy_sound {o : Oper} {c : Call} {elem : TypeId} {w0 : Nat} {d s : Operand} {d' s' : XO} {t u : TypeId} {v : Value} {h' : Hp}
    (ho : o.op = .call c) (hc : c.callee = .builtin .copy) (ha : c.args.toList = [d, s]) (hat : c.argTypes.toList = [t, u]) (hd : cO d = some d') (hs : cO s = some s')
    (ht : P.underlying t = some (.slice elem)) (hz : sizeT P elem = some w0)
    (hv : (XK.copy elem w0 d' s').eff e h = some (v, h')) (hr : ∀ t ∈ (XK.copy elem w0 d' s').rd, VR ρ (e t) (a.tmps.getD t undef)) (hH : HR ρ (live h) w) :
    ∃ w' v', HR ρ (live h') w' ∧ Eff true ρ h w ρ h' w' ∧ VR ρ v v' ∧ (execOp a.eval o).run P w = .ok (.value v') w' := by
  simp only [XK.rd, List.mem_append] at hr
  have hdv := cO_VR hd fun t ht => hr t (.inl ht)
  have hsv := cO_VR hs fun t ht => hr t (.inr ht)
  have hrun : ∀ v' w', (Builtin.copy_ #[t, u] o.type #[a.eval d, a.eval s]).run P w = .ok v' w' → (execOp a.eval o).run P w = .ok (.value v') w' := by
    intro v' w' hr
    simp [execOp, ho, resolve, hc, arr2 ha, arr2 hat, invoke, builtin, hr]
  simp only [XK.eff] at hv
  split at hv
  · rename_i A n c0 B m k ed es
    rw [ed] at hdv; rw [es] at hsv
    obtain ⟨D', dc, eD, hdle, hdn, hdh⟩ := hdv.slice_inv
    have hlen := lenOf_run (P := P) (w := w) hsv
    split at hv
    · rename_i h0
      cases hv
      refine ⟨w, .int .i64 0, hH, Eff.refl _ _ _ _, .int _ _, hrun _ _ ?_⟩
      obtain ⟨A', c', eB, hvr⟩ := min_slice (w0 := w0) hsv (Nat.min_le_left m n)
      rw [eB] at hlen ⊢
      have hf : (Builtin.firstCells w0 0 (.slice A' m c')).run P w = .ok ([] : List Value).toArray w := by
        cases A' <;> simp [Builtin.firstCells, loadCells, loadCellsFrom]
      have h0' : Nat.min m n = 0 := h0
      simp only [eD, Builtin.copy_, List.getElem?_toArray, List.getElem?_cons_zero, List.getElem?_cons_succ, Sem.run_bind, run_underlying' ht, Result.andThen_ok, run_sizeOf' hz, hlen, h0', hf]
      cases D' <;> simp [storeCells, goInt]
    · rename_i h0
      simp only [Option.bind_eq_some_iff] at hv
      obtain ⟨xs, hxs, hv⟩ := hv
      split at hv
      · cases hv
      · rename_i ad
        simp only [Option.bind_eq_some_iff] at hv
        obtain ⟨blk, hblk, hv⟩ := hv
        split at hv
        · rename_i hcond
          obtain ⟨hlen2, hrw, hel⟩ := hcond
          cases hv
          obtain ⟨A', c', eB, hvr⟩ := min_slice (w0 := w0) hsv (Nat.min_le_left m n)
          obtain ⟨l, hl1, hl2, hl3⟩ := cellsOf_run (P := P) hvr hxs hH
          have hxl := cellsOf_len hxs
          obtain ⟨L, hL, hLlt, hLrw, hcell, hown⟩ := hH.1 ad.block blk hblk
          obtain ⟨hbase, arr, fr, harr, hsz, hfr⟩ := hown hrw
          have hlea := BR.len (hH.1 ad.block blk hblk) hL hbase harr
          rcases hdh with ⟨hn0, _⟩ | ⟨b, of, L', hA, hL', hD', _⟩
          · exfalso; apply h0; omega
          cases hA
          simp only at hlen2 hblk hL
          rw [hL] at hL'; cases hL'
          subst hD'
          have hmn : min m n * w0 ≤ n * w0 := Nat.mul_le_mul_right _ (Nat.min_le_right m n)
          obtain ⟨w', arr', hrunS, hst⟩ := storeCells_run (P := P) hfr l w of 0 arr harr (hl2.allOne (cellsOf_one hH hxs)) (by rw [hl3]; omega)
          have hg := stored_HR (off := of) hH hblk hrw hL hbase harr hfr hl2 (cellsOf_one hH hxs) (by rw [hxl]; omega) hst
          refine ⟨w', .int .i64 (min m n : Nat), hg.1, hg.2, .int _ _, hrun _ _ ?_⟩
          have hf := hl1 w rfl
          have hf' : (Builtin.firstCells w0 (Nat.min m n) (.slice A' m c')).run P w = .ok l.toArray w := by
            have : (Builtin.firstCells w0 (Nat.min m n) (.slice A' m c')) = (Builtin.firstCells w0 (min m n) (.slice A' (min m n) c')) := by cases A' <;> rfl
            rw [this]; exact hf
          rw [eB] at hlen ⊢
          simp only [eD, Builtin.copy_, List.getElem?_toArray, List.getElem?_cons_zero, List.getElem?_cons_succ, Sem.run_bind, run_underlying' ht, Result.andThen_ok, run_sizeOf' hz, hlen, hf', hbase, Nat.zero_add,
            hrunS, Sem.run_pure]
          rfl
        · cases hv
  · cases hv

theorem reps_one {z : List Value} (hz : z.all one = true) (n : Nat) : (reps n z).all one = true := by
  induction n with
  | zero => rfl
  | succ n ih =>
    have : reps (n + 1) z = z ++ reps n z := by simp [reps, List.replicate_succ]
    rw [this, List.all_append, hz, ih]; rfl

theorem mk_one {o : Oper} {k : XK} {blk : Blk} {v : Value} {nx : Nat} (hk : cK P o.op = some k) (hv : k.mk e nx = some (blk, v)) : blk.cells.all one = true ∧ blk.rw = true := by
  generalize hop : o.op = op at hk
  cases cK_inv hk <;> simp only [XK.mk, reduceCtorEq] at hv
  case alloc => split at hv <;> cases hv; rename_i h; exact ⟨h.2, rfl⟩
  case box => split at hv <;> cases hv; rename_i h; exact ⟨h.2, rfl⟩
  case mkrow =>
    simp only [Option.bind_eq_some_iff] at hv
    obtain ⟨cs, hcs, hv⟩ := hv
    split at hv <;> cases hv
    exact ⟨by assumption, rfl⟩
  case make hz _ _ _ _ _ =>
    split at hv
    · split at hv <;> cases hv
      exact ⟨reps_one (zeroT_one hz) _, rfl⟩
    · cases hv

end
end XM

/- One operation: the abstract machine's step and the model's. -/
namespace XM
open Go

def WF (h : Hp) : Prop := ∀ b, h.nx ≤ b → h.bk b = none

section
variable {F : FuncId → Option XFunc}

theorem eff_wf {k : XK} {e : Env} {h h' : Hp} {v : Value} (hv : k.eff e h = some (v, h')) (hw : WF h) : WF h' ∧ h.nx ≤ h'.nx := by
  have set_wf : ∀ b x y, h.bk b = some y → WF (h.set b x) := by
    intro b x y hb c hc
    simp only [Hp.set] at hc ⊢
    split
    · rename_i hcb; subst hcb; rw [hw c hc] at hb; cases hb
    · exact hw c hc
  have new_wf : ∀ h0 : Hp, WF h0 → ∀ x, WF (h0.new x) := by
    intro h0 hw0 x c hc
    simp only [Hp.new] at hc ⊢
    rw [if_neg (by omega)]
    exact hw0 c (by omega)
  cases k <;> simp only [XK.eff, reduceCtorEq] at hv
  case store sz x v' =>
    split at hv
    · simp only [Option.bind_eq_some_iff] at hv
      obtain ⟨b, hb, hv⟩ := hv
      split at hv <;> cases hv
      exact ⟨set_wf _ _ _ hb, Nat.le_refl _⟩
    · cases hv
  case append elem w bytes s x =>
    split at hv
    · split at hv
      · cases hv; exact ⟨hw, Nat.le_refl _⟩
      · simp only [Option.bind_eq_some_iff] at hv
        obtain ⟨xs, hxs, hv⟩ := hv
        split at hv <;> cases hv
        exact ⟨new_wf _ hw _, by simp [Hp.new]⟩
    · split at hv
      · split at hv
        · cases hv; exact ⟨hw, Nat.le_refl _⟩
        · simp only [Option.bind_eq_some_iff] at hv
          obtain ⟨xs, hxs, b, hb, hv⟩ := hv
          split at hv <;> cases hv
          exact ⟨new_wf _ (set_wf _ _ _ hb) _, by simp [Hp.new, Hp.set]⟩
      · cases hv
    · cases hv
  case copy elem w d s =>
    split at hv
    · split at hv
      · cases hv; exact ⟨hw, Nat.le_refl _⟩
      · simp only [Option.bind_eq_some_iff] at hv
        obtain ⟨xs, hxs, hv⟩ := hv
        split at hv
        · cases hv
        · simp only [Option.bind_eq_some_iff] at hv
          obtain ⟨b, hb, hv⟩ := hv
          split at hv <;> cases hv
          exact ⟨set_wf _ _ _ hb, Nat.le_refl _⟩
    · cases hv

theorem eff_nx {k : XK} {e : Env} {h h' : Hp} {v : Value} (hv : k.eff e h = some (v, h')) : h.nx ≤ h'.nx := by
  cases k <;> simp only [XK.eff, reduceCtorEq] at hv
  case store sz x v' =>
    split at hv
    · simp only [Option.bind_eq_some_iff] at hv
      obtain ⟨b, hb, hv⟩ := hv
      split at hv <;> cases hv
      exact Nat.le_refl _
    · cases hv
  case append elem w bytes s x =>
    split at hv
    · split at hv
      · cases hv; exact Nat.le_refl _
      · simp only [Option.bind_eq_some_iff] at hv
        obtain ⟨xs, hxs, hv⟩ := hv
        split at hv <;> cases hv
        exact Nat.le_succ _
    · split at hv
      · split at hv
        · cases hv; exact Nat.le_refl _
        · simp only [Option.bind_eq_some_iff] at hv
          obtain ⟨xs, hxs, b, hb, hv⟩ := hv
          split at hv <;> cases hv
          exact Nat.le_succ _
      · cases hv
    · cases hv
  case copy elem w d s =>
    split at hv
    · split at hv
      · cases hv; exact Nat.le_refl _
      · simp only [Option.bind_eq_some_iff] at hv
        obtain ⟨xs, hxs, hv⟩ := hv
        split at hv
        · cases hv
        · simp only [Option.bind_eq_some_iff] at hv
          obtain ⟨b, hb, hv⟩ := hv
          split at hv <;> cases hv
          exact Nat.le_refl _
    · cases hv

/-- Runs keep heaps well formed, and their counts grow. -/
theorem Ev.wf {t : Task} {s s' : St} {e : Exit} (h : Ev F t s e s') : s.h.nx ≤ s'.h.nx ∧ (WF s.h → WF s'.h) := by
  induction h with
  | skip => exact ⟨Nat.le_refl _, id⟩
  | exit => exact ⟨Nat.le_refl _, id⟩
  | ret => exact ⟨Nat.le_refl _, id⟩
  | seqN _ _ ih1 ih2 => exact ⟨Nat.le_trans ih1.1 ih2.1, fun h => ih2.2 (ih1.2 h)⟩
  | seqX _ _ ih => exact ih
  | cond _ _ ih => exact ih
  | block _ ih => exact ih
  | loopN _ _ ih1 ih2 => exact ⟨Nat.le_trans ih1.1 ih2.1, fun h => ih2.2 (ih1.2 h)⟩
  | loopX _ _ ih => exact ih
  | @region held ops s σ h0 hs _ ih =>
    subst h0
    have key : ∀ n, n ≤ ops.length → (σ 0).h.nx ≤ (σ n).h.nx ∧ (WF (σ 0).h → WF (σ n).h) := by
      intro n
      induction n with
      | zero => intro _; exact ⟨Nat.le_refl _, id⟩
      | succ n ihn =>
        intro hn
        have h1 := ihn (by omega)
        have h2 := ih n ops[n] (by simp)
        exact ⟨Nat.le_trans h1.1 h2.1, fun h => h2.2 (h1.2 h)⟩
    exact key _ (Nat.le_refl _)
  | opSkip => exact ⟨Nat.le_refl _, id⟩
  | opPure => exact ⟨Nat.le_refl _, id⟩
  | opLoad => exact ⟨Nat.le_refl _, id⟩
  | opMake => exact ⟨by simp [Hp.new], fun hw b hb => by simp only [Hp.new] at hb ⊢; rw [if_neg (by omega)]; exact hw b (by omega)⟩
  | @opEff o s v h' _ hv =>
    exact ⟨eff_nx hv, fun hw => (eff_wf hv hw).1⟩
  | opCall _ _ _ _ ih => exact ih
  | call _ _ _ _ ih => exact ih

/-- What an operation's step has done, told without the model. -/
theorem Ev.op_facts {o : XOper} {s s' : St} {e : Exit} (h : Ev F (.op o) s e s') :
    e = .normal ∧ (∃ v, s'.env = put s.env o.dst v) ∧ (o.k.isEff = false → ∀ b, b < s.h.nx → s'.h.bk b = s.h.bk b) := by
  cases h with
  | opSkip _ => exact ⟨rfl, ⟨_, rfl⟩, fun _ _ _ => rfl⟩
  | opPure _ _ _ => exact ⟨rfl, ⟨_, rfl⟩, fun _ _ _ => rfl⟩
  | opLoad _ _ => exact ⟨rfl, ⟨_, rfl⟩, fun _ _ _ => rfl⟩
  | opMake _ _ => exact ⟨rfl, ⟨_, rfl⟩, fun _ b hb => by simp [Hp.new, Nat.ne_of_lt hb]⟩
  | opEff _ hv =>
    refine ⟨rfl, ⟨_, rfl⟩, fun hf => ?_⟩
    exfalso
    revert hv hf
    cases o.k <;> simp [XK.eff, XK.isEff]
  | opCall _ hk _ _ => exact ⟨rfl, ⟨_, rfl⟩, fun hf => by rw [hk] at hf; cases hf⟩

end

/-! ### soundness of one operation -/

/-- A function's abstract run comes to what the model's call comes to. -/
def CallGood (P : Program) (f : FuncId) (args : List Value) (v : Value) (h h' : Hp) : Prop :=
  (∃ fn xf, P.funcs[f]? = some fn ∧ cF P fn = some xf) ∧
  ∀ (ρ : Ren) (w : World) (args' : List Value), LR ρ args args' → HR ρ (live h) w → (∀ b, h.nx ≤ b → b < h'.nx → ρ b = none) → WF h →
    Calls P f args'.toArray w fun e1 w1 => ∃ v' ρ', e1 = .returned v' ∧ VR ρ' v v' ∧ HR ρ' (live h') w1 ∧ Eff true ρ h w ρ' h' w1

/-- What is told of an operation's end. -/
structure OpPost (o : XOper) (s s' : St) (ρ : Ren) (w : World) (ρ' : Ren) (w' : World) (v v' : Value) : Prop where
  env : s'.env = put s.env o.dst v
  val : VR ρ' v v'
  eff : Eff o.k.isEff ρ s.h w ρ' s'.h w'
  heap : o.k.isEff = true → HR ρ' (live s'.h) w'
  made : o.k.isEff = false → ∀ b x, s.h.nx ≤ b → s'.h.bk b = some x → BR ρ' w' b x ∧ x.cells.all one = true ∧ ∀ L, ρ' b = some L → w.heap.size ≤ L.blk

def OpGood (P : Program) (o : XOper) (s s' : St) : Prop :=
  ∀ (sz : Nat) (ops : Array Oper) (o' : Oper) (i : Nat), ops[i]? = some o' → cOp P sz ops o' = some { o with chk := false } →
  ∀ (ρ : Ren) (Lv : Nat → Blk → Prop) (a : Act) (w : World) (K : Act → World → Prop) (Q : Exit → Act → World → Prop),
    (∀ t ∈ o.rd, VR ρ (s.env t) (a.tmps.getD t undef)) → HR ρ Lv w →
    (∀ b x, (o.k.isEff = true ∨ (wanted s.env o.guard ∧ ldBlock s.env o.k = some b ∧ ∃ L, ρ b = some L)) → s.h.bk b = some x → Lv b x) →
    (∀ b, s.h.nx ≤ b → b < s'.h.nx → ρ b = none) → WF s.h →
    (∀ ρ' w' v v', OpPost o s s' ρ w ρ' w' v v' → K (a.put o.dst v') w') → wpOp P ops Q i K a w

section
variable {P : Program}

theorem yielded_eq {ops : Array Oper} {a : Act} {j d : Nat} {b : Bool} (hd : (ops[j]?).bind (·.dst) = some d) (hv : a.tmps.getD d undef = .bool b) : yielded ops a.tmps j = some b := by
  have hlt : d < a.tmps.size := by
    rcases Nat.lt_or_ge d a.tmps.size with h | h
    · exact h
    · simp [Array.getElem?_eq_none h, undef] at hv
  have h2 : a.tmps[d]? = some (.bool b) := by simpa [hlt] using hv
  simp [yielded, hd, h2]

theorem cOp_inv {sz : Nat} {ops : Array Oper} {o' : Oper} {o : XOper} (h : cOp P sz ops o' = some o) :
    dstOk sz o'.dst = true ∧ cK P o'.op = some o.k ∧ cGuard ops o'.guard = some o.guard ∧ o.dst = o'.dst ∧ o.chk = false := by
  unfold cOp at h
  split at h
  · simp only [Option.bind_eq_some_iff, Option.map_eq_some_iff] at h
    obtain ⟨k, hk, g, hg, rfl⟩ := h
    exact ⟨by assumption, hk, hg, rfl, rfl⟩
  · cases h

theorem guard_wanted {ρ : Ren} {env : Env} {a : Act} {ops : Array Oper} {g : Option (Nat × Bool)} {g' : Option (Nat × Bool)} {o' : Oper} (ho : o'.guard = g) (hg : cGuard ops g = some g') (hw : wanted env g')
    (hr : ∀ d b, g' = some (d, b) → VR ρ (env d) (a.tmps.getD d undef)) : Region.wanted o' (yielded ops a.tmps) = true := by
  cases g with
  | none => simp [Region.wanted, ho]
  | some q =>
    obtain ⟨j, b⟩ := q
    simp only [cGuard, Option.map_eq_some_iff] at hg
    obtain ⟨d, hd, rfl⟩ := hg
    have h1 := hr d b rfl
    have h2 : env d = .bool b := hw
    rw [h2] at h1
    have h3 := yielded_eq hd h1.bool_inv
    simp [Region.wanted, ho, h3]
theorem guard_unwanted {ρ : Ren} {env : Env} {a : Act} {ops : Array Oper} {g : Option (Nat × Bool)} {g' : Option (Nat × Bool)} {o' : Oper} (ho : o'.guard = g) (hg : cGuard ops g = some g') (hw : unwanted env g')
    (hr : ∀ d b, g' = some (d, b) → VR ρ (env d) (a.tmps.getD d undef)) : Region.wanted o' (yielded ops a.tmps) = false := by
  cases g with
  | none => simp [cGuard] at hg; subst hg; exact absurd hw id
  | some q =>
    obtain ⟨j, b⟩ := q
    simp only [cGuard, Option.map_eq_some_iff] at hg
    obtain ⟨d, hd, rfl⟩ := hg
    have h1 := hr d b rfl
    have h2 : env d = .bool (!b) := hw
    rw [h2] at h1
    have h3 := yielded_eq hd h1.bool_inv
    simp [Region.wanted, ho, h3]

theorem callFunc_run {f : FuncId} {args : Array Value} {fn : Func} {xf : XFunc} (hf : P.funcs[f]? = some fn) (hx : cF P fn = some xf) (w : World) : (callFunc f args).run P w = .ok (.enter f args) w := by
  unfold cF at hx
  split at hx
  · cases hx
  · rename_i hn
    simp only [Option.bind_eq_some_iff] at hx
    obtain ⟨c, hc, _⟩ := hx
    simp [callFunc, hf, show ¬ fn.name = "runtime.NumGoroutine" from by simpa using hn, hc]

theorem op_good_skip {o : XOper} {s : St} (hw : unwanted s.env o.guard) : OpGood P o s ⟨put s.env o.dst undef, s.h⟩ := by
  intro sz ops o' i hi hc ρ Lv a w K Q hrd hH hneed hfresh hwf hK
  obtain ⟨hdst, hk, hg, hd, _⟩ := cOp_inv hc
  simp only at hk hg hd
  have hrk : ∀ t ∈ o.k.rd, VR ρ (s.env t) (a.tmps.getD t undef) := fun t ht => hrd t (by simp [XOper.rd, ht])
  have hrg : ∀ d b, o.guard = some (d, b) → VR ρ (s.env d) (a.tmps.getD d undef) := fun d b hgd => hrd d (by simp [XOper.rd, hgd])
  unfold wpOp
  simp only [hi]
  rw [if_neg (by rw [guard_unwanted rfl hg hw hrg]; simp)]
  rw [← hd]
  exact hK ρ w undef undef ⟨rfl, VR.undef ρ, Eff.refl _ _ _ _, fun he => ⟨fun b x hb => hH.1 b x (hneed b x (.inl he) hb), fun b1 x1 b2 x2 L1 L2 h1 h2 => hH.2.1 b1 x1 b2 x2 L1 L2 (hneed _ _ (.inl he) h1) (hneed _ _ (.inl he) h2), fun b x hb => hH.2.2 b x (hneed b x (.inl he) hb)⟩,
    fun _ b x hb hx => by rw [hwf b hb] at hx; cases hx⟩

theorem op_good_pure {o : XOper} {s : St} {p : XP} {v : Value} (hw : wanted s.env o.guard) (hp : o.k = .p p) (hv : p.ev s.env = some v) : OpGood P o s ⟨put s.env o.dst v, s.h⟩ := by
  intro sz ops o' i hi hc ρ Lv a w K Q hrd hH hneed hfresh hwf hK
  obtain ⟨hdst, hk, hg, hd, _⟩ := cOp_inv hc
  simp only at hk hg hd
  have hrk : ∀ t ∈ o.k.rd, VR ρ (s.env t) (a.tmps.getD t undef) := fun t ht => hrd t (by simp [XOper.rd, ht])
  have hrg : ∀ d b, o.guard = some (d, b) → VR ρ (s.env d) (a.tmps.getD d undef) := fun d b hgd => hrd d (by simp [XOper.rd, hgd])
  unfold wpOp
  simp only [hi]
  rw [if_pos (guard_wanted rfl hg hw hrg)]
  rw [hp] at hk
  obtain ⟨v', h1, h2⟩ := plain_sound hk hv (fun t ht => hrk t (by rw [hp]; exact ht))
  refine .inl ?_
  simp only [Oper.wp, h2 w, Oper.upon]
  rw [← hd]
  refine hK ρ w _ v' ⟨rfl, h1, Eff.refl _ _ _ _, fun he => ?_, fun _ b x hb hx => by rw [hwf b hb] at hx; cases hx⟩
  rw [hp] at he; cases he

theorem op_good_load {o : XOper} {s : St} {v : Value} (hw : wanted s.env o.guard) (hv : o.k.ld s.env s.h = some v) : OpGood P o s ⟨put s.env o.dst v, s.h⟩ := by
  intro sz ops o' i hi hc ρ Lv a w K Q hrd hH hneed hfresh hwf hK
  obtain ⟨hdst, hk, hg, hd, _⟩ := cOp_inv hc
  simp only at hk hg hd
  have hrk : ∀ t ∈ o.k.rd, VR ρ (s.env t) (a.tmps.getD t undef) := fun t ht => hrd t (by simp [XOper.rd, ht])
  have hrg : ∀ d b, o.guard = some (d, b) → VR ρ (s.env d) (a.tmps.getD d undef) := fun d b hgd => hrd d (by simp [XOper.rd, hgd])
  unfold wpOp
  simp only [hi]
  rw [if_pos (guard_wanted rfl hg hw hrg)]
  obtain ⟨v', h1, h2⟩ := load_sound (ρ := ρ) (w := w) hk hv hrk (fun b x hb hx hL => hH.1 b x (hneed b x (.inr ⟨hw, hb, hL⟩) hx))
  refine .inl ?_
  simp only [Oper.wp, h2, Oper.upon]
  rw [← hd]
  refine hK ρ w _ v' ⟨rfl, h1, Eff.refl _ _ _ _, fun he => ?_, fun _ b x hb hx => by rw [hwf b hb] at hx; cases hx⟩
  exfalso; revert hv he; cases o.k <;> simp [XK.ld, XK.isEff]

theorem op_good_make {o : XOper} {s : St} {blk : Blk} {v : Value} (hw : wanted s.env o.guard) (hv : o.k.mk s.env s.h.nx = some (blk, v)) : OpGood P o s ⟨put s.env o.dst v, s.h.new blk⟩ := by
  intro sz ops o' i hi hc ρ Lv a w K Q hrd hH hneed hfresh hwf hK
  obtain ⟨hdst, hk, hg, hd, _⟩ := cOp_inv hc
  simp only at hk hg hd
  have hrk : ∀ t ∈ o.k.rd, VR ρ (s.env t) (a.tmps.getD t undef) := fun t ht => hrd t (by simp [XOper.rd, ht])
  have hrg : ∀ d b, o.guard = some (d, b) → VR ρ (s.env d) (a.tmps.getD d undef) := fun d b hgd => hrd d (by simp [XOper.rd, hgd])
  unfold wpOp
  simp only [hi]
  rw [if_pos (guard_wanted rfl hg hw hrg)]
  have hn : ρ s.h.nx = none := hfresh _ (Nat.le_refl _) (by simp [Hp.new])
  obtain ⟨arr, v', h1, h2, h3, h4⟩ := mk_sound (ρ := ρ) (w := w) hk hv hrk hn
  have hone := (mk_one hk hv).1
  have hne : o.k.isEff = false := by revert hv; cases o.k <;> simp [XK.mk, XK.isEff]
  refine .inl ?_
  simp only [Oper.wp, h4, Oper.upon]
  rw [← hd]
  obtain ⟨hb1, hb2, _⟩ := make_eff (w := w) (h := s.h) (blk := blk) hn h1 h2 (.inr trivial)
  refine hK _ _ _ v' ⟨rfl, h3, by rw [hne]; exact hb2, fun he => (by rw [hne] at he; cases he), fun _ b x hb hx => ?_⟩
  simp only [Hp.new] at hx
  split at hx
  · rename_i hbn; subst hbn; cases hx
    refine ⟨hb1, hone, fun L hL => ?_⟩
    simp [upd] at hL; subst hL; exact Nat.le_refl _
  · rw [hwf b hb] at hx; cases hx

theorem op_good_eff {o : XOper} {s : St} {v : Value} {h' : Hp} (hw : wanted s.env o.guard) (hv : o.k.eff s.env s.h = some (v, h')) : OpGood P o s ⟨put s.env o.dst v, h'⟩ := by
  intro sz ops o' i hi hc ρ Lv a w K Q hrd hH hneed hfresh hwf hK
  obtain ⟨hdst, hk, hg, hd, _⟩ := cOp_inv hc
  simp only at hk hg hd
  have hrk : ∀ t ∈ o.k.rd, VR ρ (s.env t) (a.tmps.getD t undef) := fun t ht => hrd t (by simp [XOper.rd, ht])
  have hrg : ∀ d b, o.guard = some (d, b) → VR ρ (s.env d) (a.tmps.getD d undef) := fun d b hgd => hrd d (by simp [XOper.rd, hgd])
  unfold wpOp
  simp only [hi]
  rw [if_pos (guard_wanted rfl hg hw hrg)]
  have he : o.k.isEff = true := by revert hv; cases o.k <;> simp [XK.eff, XK.isEff]
  have hHl : HR ρ (live s.h) w := ⟨fun b x hb => hH.1 b x (hneed b x (.inl he) hb), fun b1 x1 b2 x2 L1 L2 h1 h2 => hH.2.1 b1 x1 b2 x2 L1 L2 (hneed _ _ (.inl he) h1) (hneed _ _ (.inl he) h2), fun b x hb => hH.2.2 b x (hneed b x (.inl he) hb)⟩
  refine .inl ?_
  have hmade : o.k.isEff = false → ∀ (b : Nat) (x : Blk), s.h.nx ≤ b → h'.bk b = some x → BR ρ w b x ∧ x.cells.all one = true ∧ ∀ L, ρ b = some L → w.heap.size ≤ L.blk := fun hf => by rw [he] at hf; cases hf
  generalize hop : o'.op = op at hk
  generalize hkk : o.k = k at hk hv he hrk
  cases cK_inv hk <;> (try (simp only [XK.eff, reduceCtorEq] at hv; done))
  case store hx hu hs =>
    obtain ⟨w', h1, h2, h3, h4⟩ := store_sound (ρ := ρ) (w := w) hop hx hu hs hv hrk hHl
    simp only [Oper.wp, h4, Oper.upon]
    rw [← hd]
    exact hK ρ w' v undef ⟨rfl, by rw [h3]; exact VR.undef ρ, by rw [hkk]; exact h2, fun _ => h1, fun hf => by rw [hkk] at hf; cases hf⟩
  case append hc ha hat hs hx ht hu hi hz hby hzs hs0 =>
    obtain ⟨w', ρ', v', h1, h2, h3, h4⟩ := append_sound (ρ := ρ) (w := w) hop hc ha hat hs hx ht hu hi hz hby hzs hs0 hv hrk hHl (fun hlt => hfresh _ (Nat.le_refl _) hlt) (hwf _ (Nat.le_refl _))
    simp only [Oper.wp, h4, Oper.upon]
    rw [← hd]
    exact hK ρ' w' v v' ⟨rfl, h3, by rw [hkk]; exact h2, fun _ => h1, fun hf => by rw [hkk] at hf; cases hf⟩
  case copy hc ha hat hds hs ht hu hz hw0 =>
    obtain ⟨w', v', h1, h2, h3, h4⟩ := copy_sound (ρ := ρ) (w := w) hop hc ha hat hds hs ht hz hv hrk hHl
    simp only [Oper.wp, h4, Oper.upon]
    rw [← hd]
    exact hK ρ w' v v' ⟨rfl, h3, by rw [hkk]; exact h2, fun _ => h1, fun hf => by rw [hkk] at hf; cases hf⟩

theorem op_good_call {o : XOper} {s : St} {f : XO} {args : List XO} {g : FuncId} {first caps : Array Value} {v : Value} {h' : Hp} (hw : wanted s.env o.guard) (hkk : o.k = .call f args) (hf : f.ev s.env = .func (.func g) first caps)
    (ih : CallGood P g (first.toList ++ args.map (·.ev s.env) ++ caps.toList) v s.h h') : OpGood P o s ⟨put s.env o.dst v, h'⟩ := by
  intro sz ops o' i hi hc ρ Lv a w K Q hrd hH hneed hfresh hwf hK
  obtain ⟨hdst, hk, hg, hd, _⟩ := cOp_inv hc
  simp only at hk hg hd
  have hrk : ∀ t ∈ o.k.rd, VR ρ (s.env t) (a.tmps.getD t undef) := fun t ht => hrd t (by simp [XOper.rd, ht])
  have hrg : ∀ d b, o.guard = some (d, b) → VR ρ (s.env d) (a.tmps.getD d undef) := fun d b hgd => hrd d (by simp [XOper.rd, hgd])
  unfold wpOp
  simp only [hi]
  rw [if_pos (guard_wanted rfl hg hw hrg)]
  have he : o.k.isEff = true := by rw [hkk]; rfl
  have hHl : HR ρ (live s.h) w := ⟨fun b x hb => hH.1 b x (hneed b x (.inl he) hb), fun b1 x1 b2 x2 L1 L2 h1 h2 => hH.2.1 b1 x1 b2 x2 L1 L2 (hneed _ _ (.inl he) h1) (hneed _ _ (.inl he) h2), fun b x hb => hH.2.2 b x (hneed b x (.inl he) hb)⟩
  refine .inl ?_
  obtain ⟨⟨fn, xf, hfn, hxf⟩, hgood⟩ := ih
  rw [hkk] at hk hrk
  generalize hop : o'.op = op at hk
  cases cK_inv hk with
  | @call c f0 _ _ hcal hcf hcs =>
    simp only [XK.rd, List.mem_append] at hrk
    have hfv := cO_VR hcf fun t ht => hrk t (.inl ht)
    have hav := cOs_LR hcs fun t ht => hrk t (.inr ht)
    rw [hf] at hfv
    obtain ⟨x', y', hfe, hx', hy'⟩ := hfv.func_inv
    have hrun : (execOp a.eval o').run P w = .ok (.enter g (x'.toList ++ c.args.toList.map a.eval ++ y'.toList).toArray) w := by
      have hm : c.args.map a.eval = (c.args.toList.map a.eval).toArray := by apply Array.ext'; simp
      have := callFunc_run (args := (x'.toList ++ c.args.toList.map a.eval ++ y'.toList).toArray) hfn hxf w
      simp only [execOp, hop, resolve, hcal, hfe, Deferred.ofValue, Sem.run_bind, Sem.run_pure, Result.andThen_ok, invoke]
      rw [← this]
      congr 2
      apply Array.ext'; simp
    simp only [Oper.wp, hrun, Oper.upon]
    refine (hgood ρ w _ ((hx'.append hav).append hy') hHl hfresh hwf).mono fun e1 w1 hp => ?_
    obtain ⟨v', ρ', rfl, h1, h2, h3⟩ := hp
    simp only
    rw [← hd]
    exact hK ρ' w1 v v' ⟨rfl, h1, by rw [he]; exact h3, fun _ => h2, fun hf => by rw [he] at hf; cases hf⟩

end
end XM

/- Regions: in the order of the text, and in whatever order the edges allow. -/
namespace XM
open Go

theorem Eff.weaken {t : Bool} {ρ ρ' : Ren} {h h' : Hp} {w w' : World} (e : Eff t ρ h w ρ' h' w') : Eff true ρ h w ρ' h' w' :=
  ⟨e.ext, e.dom, e.size, fun β hβ hn => e.frame β hβ fun ht => hn rfl, e.same, e.img⟩

theorem Ev.op_nx {F : FuncId → Option XFunc} {o : XOper} {s s' : St} {e : Exit} (h : Ev F (.op o) s e s') (hf : o.k.isEff = false) : s'.h.nx ≤ s.h.nx + 1 := by
  cases h with
  | opSkip _ => exact Nat.le_succ _
  | opPure _ _ _ => exact Nat.le_succ _
  | opLoad _ _ => exact Nat.le_succ _
  | opMake _ _ => exact Nat.le_refl _
  | opEff _ hv => exfalso; revert hv hf; cases o.k <;> simp [XK.eff, XK.isEff]
  | opCall _ hk _ _ => rw [hk] at hf; cases hf

def EnvR (ρ : Ren) (env : Env) (a : Act) (sz : Nat) : Prop := sz ≤ a.tmps.size ∧ a.defers = [] ∧ ∀ t, VR ρ (env t) (a.tmps.getD t undef)

theorem put_getD {a : Act} {d t : Nat} {v : Value} (hd : d < a.tmps.size) : (a.put (some d) v).tmps.getD t undef = if t = d then v else a.tmps.getD t undef := by
  simp only [Act.put]
  by_cases h : t = d
  · subst h; simp [hd]
  · rw [if_neg h]; simp [Array.getElem?_setIfInBounds_ne (Ne.symm h)]

theorem EnvR.put {ρ ρ' : Ren} {env : Env} {a : Act} {sz : Nat} {dst : Option Nat} {v v' : Value} (h : EnvR ρ env a sz) (hx : Ext ρ ρ') (hd : dstOk sz dst = true) (hv : VR ρ' v v') :
    EnvR ρ' (XM.put env dst v) (a.put dst v') sz := by
  obtain ⟨h1, h2, h3⟩ := h
  cases dst with
  | none => exact ⟨h1, h2, fun t => (h3 t).mono hx⟩
  | some d =>
    simp [dstOk] at hd
    refine ⟨by simp [Act.put, h1], h2, fun t => ?_⟩
    rw [put_getD (by omega)]
    simp only [XM.put]
    split
    · exact hv
    · exact (h3 t).mono hx

/-- The heap behind an operation, from the heap ahead of it. -/
theorem OpPost.hr {F : FuncId → Option XFunc} {o : XOper} {s s' : St} {e : Exit} {ρ ρ' : Ren} {w w' : World} {v v' : Value} (h : Ev F (.op o) s e s') (hp : OpPost o s s' ρ w ρ' w' v v')
    (hH : HR ρ (live s.h) w) (hwf : WF s.h) : HR ρ' (live s'.h) w' := by
  cases he : o.k.isEff with
  | true => exact hp.heap he
  | false =>
    have hnx := h.op_nx he
    have hwf' := h.wf.2 hwf
    have hold := (h.op_facts).2.2 he
    have hlt : ∀ b x, s'.h.bk b = some x → b < s'.h.nx := fun b x hx => by
      rcases Nat.lt_or_ge b s'.h.nx with h1 | h1
      · exact h1
      · rw [hwf' b h1] at hx; cases hx
    have hE := hp.eff
    rw [he] at hE
    have hfr : ∀ β, β < w.heap.size → w'.heap[β]? = w.heap[β]? := fun β hβ => hE.frame β hβ (fun hc => by cases hc)
    refine ⟨fun b x hx => ?_, fun b1 x1 b2 x2 L1 L2 h1 h2 hr h3 h4 h5 => ?_, fun b x hx => ?_⟩
    · by_cases hb : b < s.h.nx
      · have hB := hH.1 b x (by rw [live, ← hold b hb]; exact hx)
        refine hB.keep hE.ext hE.size fun L hL => hfr _ ?_
        obtain ⟨L', hL', hlt', _⟩ := hB
        rw [hL] at hL'; cases hL'; exact hlt'
      · exact (hp.made he b x (by omega) hx).1
    · have key : ∀ b x L, live s'.h b x → ρ' b = some L → (b < s.h.nx ∧ live s.h b x ∧ ρ b = some L ∧ L.blk < w.heap.size) ∨ (b = s.h.nx ∧ w.heap.size ≤ L.blk) := by
        intro b x L hx hL
        by_cases hb : b < s.h.nx
        · have hx' : live s.h b x := by rw [live, ← hold b hb]; exact hx
          obtain ⟨L', hL', hlt', _⟩ := hH.1 b x hx'
          have := hE.ext _ _ hL'
          rw [hL] at this; cases this
          exact .inl ⟨hb, hx', hL', hlt'⟩
        · have := hlt b x hx
          exact .inr ⟨by omega, (hp.made he b x (by omega) hx).2.2 L hL⟩
      rcases key b1 x1 L1 h1 h3 with ⟨a1, a2, a3, a4⟩ | ⟨a1, a2⟩ <;> rcases key b2 x2 L2 h2 h4 with ⟨c1, c2, c3, c4⟩ | ⟨c1, c2⟩
      · exact hH.2.1 b1 x1 b2 x2 L1 L2 a2 c2 hr a3 c3 h5
      · omega
      · omega
      · omega
    · by_cases hb : b < s.h.nx
      · exact hH.2.2 b x (by rw [live, ← hold b hb]; exact hx)
      · exact (hp.made he b x (by omega) hx).2.1

/-- What a region's parts have in common. -/
structure Reg (P : Program) (F : FuncId → Option XFunc) (sz : Nat) (ops : Array Oper) (xs : List XOper) (σ : Nat → St) : Prop where
  len : xs.length = ops.size
  comp : ∀ (i : Nat) (o' : Oper), ops[i]? = some o' → ∃ o : XOper, xs[i]? = some o ∧ cOp P sz ops o' = some { o with chk := false }
  ev : ∀ (i : Nat) (o : XOper), xs[i]? = some o → Ev F (.op o) (σ i) .normal (σ (i + 1))
  good : ∀ (i : Nat) (o : XOper), xs[i]? = some o → OpGood P o (σ i) (σ (i + 1))
  wf : WF (σ 0).h

section
variable {P : Program} {F : FuncId → Option XFunc} {sz : Nat} {ops : Array Oper} {xs : List XOper} {σ : Nat → St}

theorem Reg.at (R : Reg P F sz ops xs σ) {i : Nat} (hi : i < ops.size) : ∃ (o' : Oper) (o : XOper), ops[i]? = some o' ∧ xs[i]? = some o ∧ cOp P sz ops o' = some { o with chk := false } := by
  obtain ⟨o, h1, h2⟩ := R.comp i ops[i] (by simp [hi])
  exact ⟨_, o, by simp [hi], h1, h2⟩

theorem Reg.nx (R : Reg P F sz ops xs σ) : ∀ {i j : Nat}, i ≤ j → j ≤ ops.size → (σ i).h.nx ≤ (σ j).h.nx := by
  intro i j hij hj
  induction j with
  | zero => have : i = 0 := by omega
            subst this; exact Nat.le_refl _
  | succ j ih =>
    by_cases h : i = j + 1
    · subst h; exact Nat.le_refl _
    · obtain ⟨_, o, _, ho, _⟩ := R.at (i := j) (by omega)
      exact Nat.le_trans (ih (by omega) (by omega)) (R.ev j o ho).wf.1

theorem Reg.wfs (R : Reg P F sz ops xs σ) : ∀ {j : Nat}, j ≤ ops.size → WF (σ j).h := by
  intro j hj
  induction j with
  | zero => exact R.wf
  | succ j ih =>
    obtain ⟨_, o, _, ho, _⟩ := R.at (i := j) (by omega)
    exact (R.ev j o ho).wf.2 (ih (by omega))

def RegPost (ρ : Ren) (w : World) (sz : Nat) (s s' : St) : Exit → Act → World → Prop := fun e a' w' =>
  e = .normal ∧ ∃ ρ', EnvR ρ' s'.env a' sz ∧ HR ρ' (live s'.h) w' ∧ Eff true ρ s.h w ρ' s'.h w'

theorem region_seq (R : Reg P F sz ops xs σ) {id : Nat} {ρ : Ren} {a : Act} {w : World} (hE : EnvR ρ (σ 0).env a sz) (hH : HR ρ (live (σ 0).h) w)
    (hfr : ∀ b, (σ 0).h.nx ≤ b → b < (σ ops.size).h.nx → ρ b = none) : (Code.region id ops false).wp P (RegPost ρ w sz (σ 0) (σ ops.size)) a w := by
  apply wp_region
  rw [List.range_eq_range']
  have key : ∀ m k, k + m = ops.size → ∀ ρk a w1, EnvR ρk (σ k).env a sz → HR ρk (live (σ k).h) w1 → Eff true ρ (σ 0).h w ρk (σ k).h w1 →
      wpOps P ops (RegPost ρ w sz (σ 0) (σ ops.size)) (List.range' k m) a w1 := by
    intro m
    induction m with
    | zero =>
      intro k hk ρk a w1 hE hH hF
      have : k = ops.size := by omega
      subst this
      exact ⟨rfl, ρk, hE, hH, hF⟩
    | succ m ih =>
      intro k hk ρk a w1 hE hH hF
      obtain ⟨o', o, ho', ho, hc⟩ := R.at (i := k) (by omega)
      rw [List.range'_succ, wpOps_cons]
      refine R.good k o ho sz ops o' k ho' hc ρk (live (σ k).h) a w1 _ _ (fun t _ => hE.2.2 t) hH (fun b x _ hx => hx) (fun b h1 h2 => ?_) (R.wfs (by omega)) (fun ρ' w' v v' hp => ?_)
      · -- what is new here is named by nobody yet
        have hn1 := R.nx (i := 0) (j := k) (by omega) (by omega)
        have hn2 := R.nx (i := k + 1) (j := ops.size) (by omega) (by omega)
        cases hb : ρk b with
        | none => rfl
        | some L =>
          rcases hF.dom b L hb with h3 | ⟨_, h4⟩
          · rw [hfr b (by omega) (by omega)] at h3; cases h3
          · omega
      · have hn1 := R.nx (i := 0) (j := k) (by omega) (by omega)
        have hn2 := R.nx (i := k) (j := k + 1) (by omega) (by omega)
        have hdo := (cOp_inv hc).1
        have hde := (cOp_inv hc).2.2.2.1
        simp only at hde
        have hEp := hE.put (dst := o.dst) hp.eff.ext (by rw [hde]; exact hdo) hp.val
        rw [← hp.env] at hEp
        exact ih (k + 1) (by omega) ρ' _ w' hEp (hp.hr (R.ev k o ho) hH (R.wfs (by omega))) (hF.trans hp.eff.weaken hn1 hn2)
  exact key ops.size 0 (by omega) ρ a w hE hH (Eff.refl _ _ _ _)

end
end XM

/- A region whose order is drawn: whatever order the edges allow, the run comes to what the text's order comes to. -/
namespace XM
open Go

def Closed (ops : Array Oper) (S : Nat → Prop) : Prop := ∀ (k : Nat) (ok : Oper), ops[k]? = some ok → S k → ∀ e ∈ ok.after, Region.binds .any e = true → S e.on
def ReadyAt (ops : Array Oper) (S : Nat → Prop) (j : Nat) : Prop := ∃ oj, ops[j]? = some oj ∧ ∀ e ∈ oj.after, Region.binds .any e = true → S e.on
def Pre (ops : Array Oper) (i j : Nat) : Prop := ∀ S, Closed ops S → ReadyAt ops S j → S i

theorem fold_bits (acc : Array Nat) (i : Nat) : ∀ (l : List Edge) (s0 : Nat), (l.foldl (fun s e => if Region.binds .any e then s ||| 2 ^ e.on ||| acc.getD e.on 0 else s) s0).testBit i = true →
    s0.testBit i = true ∨ ∃ e ∈ l, Region.binds .any e = true ∧ (i = e.on ∨ (acc.getD e.on 0).testBit i = true)
  | [], s0, h => .inl h
  | e :: l, s0, h => by
    rw [List.foldl_cons] at h
    rcases fold_bits acc i l _ h with h | ⟨e', he, hb, hi⟩
    · split at h
      · rename_i hb
        simp only [Nat.testBit_or, Bool.or_eq_true, Nat.testBit_two_pow, decide_eq_true_eq] at h
        rcases h with (h | h) | h
        · exact .inl h
        · exact .inr ⟨e, by simp, hb, .inl h.symm⟩
        · exact .inr ⟨e, by simp, hb, .inr h⟩
      · exact .inl h
    · exact .inr ⟨e', by simp [he], hb, hi⟩

theorem before_go (ops : Array Oper) : ∀ (l : List Oper) (acc : Array Nat), (∀ k o, l[k]? = some o → ops[acc.size + k]? = some o) →
    (∀ j i, (acc.getD j 0).testBit i = true → Pre ops i j) →
    ∀ j i, ((l.foldl (fun acc o => acc.push (o.after.foldl (fun s e => if Region.binds .any e then s ||| 2 ^ e.on ||| acc.getD e.on 0 else s) 0)) acc).getD j 0).testBit i = true → Pre ops i j
  | [], acc, _, h, j, i, hb => h j i hb
  | o :: l, acc, hl, h, j, i, hb => by
    rw [List.foldl_cons] at hb
    refine before_go ops l _ (fun k o' hk => ?_) (fun j i hb => ?_) j i hb
    · have := hl (k + 1) o' (by simpa using hk)
      simp only [Array.size_push]
      rw [← this]; congr 1; omega
    · by_cases hj : j = acc.size
      · subst hj
        simp only [Array.getD_eq_getD_getElem?, Array.getElem?_push_size, Option.getD_some] at hb
        rw [← Array.foldl_toList] at hb
        have ho := hl 0 o (by simp)
        simp only [Nat.add_zero] at ho
        rcases fold_bits acc i o.after.toList 0 (by simpa [Array.getD_eq_getD_getElem?] using hb) with h0 | ⟨e, he, hbd, hi⟩
        · simp at h0
        · intro S hS hR
          obtain ⟨oj, hoj, hall⟩ := hR
          rw [ho] at hoj; cases hoj
          have hSe := hall e (by simpa using he) hbd
          rcases hi with rfl | hi
          · exact hSe
          · have hlt : e.on < acc.size := by
              rcases Nat.lt_or_ge e.on acc.size with h1 | h1
              · exact h1
              · simp [Array.getElem?_eq_none h1] at hi
            have hlt2 : e.on < ops.size := by
              have := (Array.getElem?_eq_some_iff.1 ho).1; omega
            exact h e.on i hi S hS ⟨ops[e.on], by simp [hlt2], hS e.on _ (by simp [hlt2]) hSe⟩
      · refine h j i ?_
        rw [Array.getD_eq_getD_getElem?, Array.getElem?_push] at hb
        rw [Array.getD_eq_getD_getElem?]
        simpa [hj] using hb

theorem before_pre {ops : Array Oper} {j i : Nat} (h : ((Region.before ops).getD j 0).testBit i = true) : Pre ops i j := by
  unfold Region.before at h
  rw [← Array.foldl_toList] at h
  refine before_go ops ops.toList #[] (fun k o hk => by simpa using hk) (fun j i hb => ?_) j i h
  simp at hb

/-- What the static tests tell of a region whose order is drawn. -/
structure Drw (ops : Array Oper) (ys : List XOper) : Prop where
  back : ∀ (i : Nat) (o : Oper), ops[i]? = some o → ∀ e ∈ o.after, Region.binds .any e = true → e.on < i
  loose : ∀ (i j : Nat) (x y : XOper), i < j → ys[i]? = some x → ys[j]? = some y →
    Pre ops i j ∨ (freeTmp x y = true ∧ freeHeap x y = true ∧ (loadEff x y = true → x.chk = true ∧ y.chk = true))

section
variable {P : Program} {F : FuncId → Option XFunc} {sz : Nat} {ops : Array Oper} {ys : List XOper} {σ : Nat → St}

theorem Ev.op_nx0 {o : XOper} {s s' : St} {e : Exit} (h : Ev F (.op o) s e s') (hf : o.k.isEff = false) (hm : o.k.isMk = false) : s'.h.nx = s.h.nx := by
  cases h with
  | opSkip _ => rfl
  | opPure _ _ _ => rfl
  | opLoad _ _ => rfl
  | opMake _ hv => exfalso; revert hv hm; cases o.k <;> simp [XK.mk, XK.isMk]
  | opEff _ hv => exfalso; revert hv hf; cases o.k <;> simp [XK.eff, XK.isEff]
  | opCall _ hk _ _ => rw [hk] at hf; cases hf

theorem Reg.lt_size (R : Reg P F sz ops ys σ) {i : Nat} {o : XOper} (h : ys[i]? = some o) : i < ops.size := by
  rw [← R.len]; exact (List.getElem?_eq_some_iff.1 h).1

theorem Reg.env_same (R : Reg P F sz ops ys σ) {t p q : Nat} (hpq : p ≤ q) (hq : q ≤ ops.size) (hw : ∀ j o, p ≤ j → j < q → ys[j]? = some o → o.dst ≠ some t) : (σ q).env t = (σ p).env t := by
  induction q with
  | zero => have : p = 0 := by omega
            subst this; rfl
  | succ q ih =>
    by_cases h : p = q + 1
    · subst h; rfl
    · obtain ⟨_, o, _, ho, _⟩ := R.at (i := q) (by omega)
      obtain ⟨_, ⟨v, hv⟩, _⟩ := (R.ev q o ho).op_facts
      rw [hv]
      have hne := hw q o (by omega) (by omega) ho
      have : put (σ q).env o.dst v t = (σ q).env t := by
        unfold put
        cases hd : o.dst with
        | none => rfl
        | some d => simp only; rw [if_neg (fun e => hne (by rw [hd, e]))]
      rw [this]
      exact ih (by omega) (by omega) (fun j o' h1 h2 => hw j o' h1 (by omega))

theorem Reg.bk_same (R : Reg P F sz ops ys σ) {b p q : Nat} (hpq : p ≤ q) (hq : q ≤ ops.size) (hb : b < (σ p).h.nx)
    (hw : ∀ j o, p ≤ j → j < q → ys[j]? = some o → o.k.isEff = true → (σ (j + 1)).h.bk b = (σ j).h.bk b) : (σ q).h.bk b = (σ p).h.bk b := by
  induction q with
  | zero => have : p = 0 := by omega
            subst this; rfl
  | succ q ih =>
    by_cases h : p = q + 1
    · subst h; rfl
    · obtain ⟨_, o, _, ho, _⟩ := R.at (i := q) (by omega)
      have h1 := ih (by omega) (by omega) (fun j o' h1 h2 => hw j o' h1 (by omega))
      rw [← h1]
      cases he : o.k.isEff with
      | true => exact hw q o (by omega) (by omega) ho he
      | false => exact ((R.ev q o ho).op_facts).2.2 he b (Nat.lt_of_lt_of_le hb (R.nx (by omega) (by omega)))

/-- Where a block was made. -/
theorem Reg.born (R : Reg P F sz ops ys σ) {b q : Nat} (hq : q ≤ ops.size) (hb : b < (σ q).h.nx) :
    b < (σ 0).h.nx ∨ ∃ j o, j < q ∧ ys[j]? = some o ∧ (σ j).h.nx ≤ b ∧ b < (σ (j + 1)).h.nx ∧ (o.k.isEff = true ∨ o.k.isMk = true) := by
  induction q with
  | zero => exact .inl hb
  | succ q ih =>
    by_cases h : b < (σ q).h.nx
    · rcases ih (by omega) h with h | ⟨j, o, h1, h2⟩
      · exact .inl h
      · exact .inr ⟨j, o, by omega, h2⟩
    · obtain ⟨_, o, _, ho, _⟩ := R.at (i := q) (by omega)
      refine .inr ⟨q, o, by omega, ho, by omega, hb, ?_⟩
      cases he : o.k.isEff with
      | true => exact .inl rfl
      | false =>
        cases hm : o.k.isMk with
        | true => exact .inr rfl
        | false => have := (R.ev q o ho).op_nx0 he hm; omega

def S (listed : Array Bool) (i : Nat) : Prop := listed.getD i false = true

/-- The order that the edges ask for. -/
theorem pre_done {listed : Array Bool} {i j : Nat} (hc : Closed ops (S listed)) (hp : Pre ops i j) (hj : S listed j) (hlt : j < ops.size) : S listed i :=
  hp _ hc ⟨ops[j], by simp [hlt], hc j _ (by simp [hlt]) hj⟩

variable (D : Drw ops ys) (R : Reg P F sz ops ys σ)
include D R

omit R in
/-- Two operations of which one changes the heap stand in the order of the text, unless one reads. -/
theorem eff_order {i j : Nat} {x y : XOper} (hij : i < j) (hx : ys[i]? = some x) (hy : ys[j]? = some y) (h : (x.k.isEff = true ∨ x.k.isMk = true) ∧ y.k.isEff = true) : Pre ops i j := by
  rcases D.loose i j x y hij hx hy with h1 | ⟨_, h2, _⟩
  · exact h1
  · exfalso
    unfold freeHeap at h2
    rcases h.1 with he | hm
    · simp [he, h.2] at h2
    · simp [hm, h.2] at h2

/-- A place in the text at which just the listed ones among those that change the heap stand before. -/
theorem place {listed : Array Bool} (hc : Closed ops (S listed)) : ∃ q, q ≤ ops.size ∧ ∀ j o, ys[j]? = some o → o.k.isEff = true → (j < q ↔ S listed j) := by
  have key : ∀ m, m ≤ ops.size → (∀ j o, m ≤ j → ys[j]? = some o → o.k.isEff = true → ¬ S listed j) → ∃ q, q ≤ ops.size ∧ ∀ j o, ys[j]? = some o → o.k.isEff = true → (j < q ↔ S listed j) := by
    intro m
    induction m with
    | zero => intro _ h; exact ⟨0, by omega, fun j o h1 h2 => ⟨fun h3 => by omega, fun h3 => absurd h3 (h j o (by omega) h1 h2)⟩⟩
    | succ m ih =>
      intro hm h
      by_cases hl : ∃ o, ys[m]? = some o ∧ o.k.isEff = true ∧ S listed m
      · obtain ⟨om, h1, h2, h3⟩ := hl
        refine ⟨m + 1, hm, fun j o hj he => ⟨fun hlt => ?_, fun hs => ?_⟩⟩
        · by_cases hjm : j = m
          · subst hjm; exact h3
          · exact pre_done hc (eff_order D (by omega) hj h1 ⟨.inl he, h2⟩) h3 (by omega)
        · rcases Nat.lt_or_ge j (m + 1) with h4 | h4
          · exact h4
          · exact absurd hs (h j o h4 hj he)
      · refine ih (by omega) fun j o hj h1 h2 h3 => ?_
        by_cases hjm : j = m
        · subst hjm; exact hl ⟨o, h1, h2, h3⟩
        · exact h j o (by omega) h1 h2 h3
  exact key ops.size (Nat.le_refl _) fun j o h1 h2 _ _ => by have := R.lt_size h2; omega

omit D R in
/-- Is b a block that stood at the start, or that a listed operation has made? -/
def Present (ys : List XOper) (σ : Nat → St) (listed : Array Bool) (b : Nat) : Prop :=
  b < (σ 0).h.nx ∨ ∃ j o, ys[j]? = some o ∧ S listed j ∧ (σ j).h.nx ≤ b ∧ b < (σ (j + 1)).h.nx

omit D R in
/-- q is a place that fits b: of those that change the heap and could know b, just the listed ones stand before q. -/
def Fits (ys : List XOper) (σ : Nat → St) (listed : Array Bool) (b q : Nat) : Prop :=
  q ≤ ys.length ∧ b < (σ q).h.nx ∧ ∀ j o, ys[j]? = some o → o.k.isEff = true → b < (σ j).h.nx → (j < q ↔ S listed j)

omit D R in
/-- The blocks that are live once the listed ones have run, and what they hold. -/
def Lv (ys : List XOper) (σ : Nat → St) (listed : Array Bool) (b : Nat) (x : Blk) : Prop :=
  Present ys σ listed b ∧ ∃ q, Fits ys σ listed b q ∧ (σ q).h.bk b = some x

omit D R in
structure DInv (ops : Array Oper) (ys : List XOper) (σ : Nat → St) (sz : Nat) (ρ0 : Ren) (w0 : World) (listed : Array Bool) (ρ : Ren) (a : Act) (w : World) : Prop where
  size : listed.size = ops.size
  closed : Closed ops (S listed)
  tsize : sz ≤ a.tmps.size
  defers : a.defers = []
  env : ∀ t q, q ≤ ops.size → (∀ j o, ys[j]? = some o → o.dst = some t → (j < q ↔ S listed j)) → VR ρ ((σ q).env t) (a.tmps.getD t undef)
  heap : HR ρ (Lv ys σ listed) w
  ext : Ext ρ0 ρ
  dom : ∀ b L, ρ b = some L → ρ0 b = some L ∨ ∃ j o, ys[j]? = some o ∧ S listed j ∧ (σ j).h.nx ≤ b ∧ b < (σ (j + 1)).h.nx
  wsize : w0.heap.size ≤ w.heap.size
  frame : ∀ β, β < w0.heap.size → (∀ b x L, (σ 0).h.bk b = some x → x.rw = true → ρ0 b = some L → L.blk ≠ β) → w.heap[β]? = w0.heap[β]?
  same : Same w0 w
  img : ∀ b x L, Lv ys σ listed b x → ρ b = some L → w0.heap.size ≤ L.blk ∨ ∃ b0 x0 L0, (σ 0).h.bk b0 = some x0 ∧ (x.rw = true → x0.rw = true) ∧ ρ0 b0 = some L0 ∧ L0.blk = L.blk

omit D R in
theorem S_set {listed : Array Bool} {i j : Nat} (hi : i < listed.size) : S (listed.setIfInBounds i true) j ↔ j = i ∨ S listed j := by
  unfold S
  by_cases h : j = i
  · subst h; simp [hi]
  · rw [Array.getD_eq_getD_getElem?, Array.getElem?_setIfInBounds_ne (Ne.symm h)]; simp [h, Array.getD_eq_getD_getElem?]

/-- One operation more, in whatever order. -/
theorem draw_step (hK : HeldOk ys σ) {ρ0 : Ren} {w0 : World} (hfr0 : ∀ b, (σ 0).h.nx ≤ b → b < (σ ops.size).h.nx → ρ0 b = none) {listed : Array Bool} {ρ : Ren} {a : Act} {w : World}
    (I : DInv ops ys σ sz ρ0 w0 listed ρ a w) {i : Nat} (hi : i < ops.size) (hun : ¬ S listed i) (hR : ReadyAt ops (S listed) i) {K : Act → World → Prop} {Q : Exit → Act → World → Prop}
    (hnext : ∀ ρ' a' w', DInv ops ys σ sz ρ0 w0 (listed.setIfInBounds i true) ρ' a' w' → K a' w') : wpOp P ops Q i K a w := by
  obtain ⟨o', o, ho', ho, hc⟩ := R.at hi
  have hev := R.ev i o ho
  obtain ⟨hdo, _, _, hde, _⟩ := cOp_inv hc
  simp only at hde
  have hwfi := R.wfs (j := i) (by omega)
  have hwfi1 := R.wfs (j := i + 1) (by omega)
  have lt_of_live : ∀ {q b x}, q ≤ ops.size → (σ q).h.bk b = some x → b < (σ q).h.nx := by
    intro q b x hq hx
    rcases Nat.lt_or_ge b (σ q).h.nx with h1 | h1
    · exact h1
    · rw [R.wfs hq b h1] at hx; cases hx
  -- who stands before, and who behind
  have before_of_pre : ∀ {j}, Pre ops j i → S listed j := fun hp => hp _ I.closed hR
  have behind_of_pre : ∀ {j}, j < ops.size → Pre ops i j → ¬ S listed j := fun hj hp hs => hun (pre_done I.closed hp hs hj)
  have fits_i : ∀ b, b < (σ i).h.nx → (∀ j y, ys[j]? = some y → y.k.isEff = true → j ≠ i → (j < i → Pre ops j i) ∧ (i < j → Pre ops i j)) → Fits ys σ listed b i := by
    intro b hb h
    refine ⟨by rw [R.len]; omega, hb, fun j y hj he _ => ?_⟩
    by_cases hji : j = i
    · subst hji; exact ⟨fun h => by omega, fun h => absurd h hun⟩
    · have hjs := R.lt_size hj
      rcases Nat.lt_or_ge j i with h1 | h1
      · exact ⟨fun _ => before_of_pre ((h j y hj he hji).1 h1), fun _ => h1⟩
      · exact ⟨fun h2 => by omega, fun h2 => absurd h2 (behind_of_pre hjs ((h j y hj he hji).2 (by omega)))⟩
  have eff_cmp : o.k.isEff = true → ∀ j y, ys[j]? = some y → y.k.isEff = true → j ≠ i → (j < i → Pre ops j i) ∧ (i < j → Pre ops i j) := by
    intro he j y hj hje hji
    exact ⟨fun h => eff_order D h hj ho ⟨.inl hje, he⟩, fun h => eff_order D h ho hj ⟨.inl he, hje⟩⟩
  have eff_live : o.k.isEff = true → ∀ b x, (σ i).h.bk b = some x → Lv ys σ listed b x := by
    intro he b x hx
    have hb := lt_of_live (by omega) hx
    refine ⟨?_, i, fits_i b hb (eff_cmp he), hx⟩
    rcases R.born (by omega) hb with h | ⟨j, y, h1, h2, h3, h4, h5⟩
    · exact .inl h
    · exact .inr ⟨j, y, h2, before_of_pre (eff_order D h1 h2 ho ⟨h5, he⟩), h3, h4⟩
  refine R.good i o ho sz ops o' i ho' hc ρ (Lv ys σ listed) a w K Q (fun t ht => ?_) I.heap (fun b x hneed hx => ?_) (fun b h1 h2 => ?_) hwfi (fun ρ' w' v v' hp => ?_)
  · -- what it reads
    refine I.env t i (by omega) fun j y hj hdj => ?_
    have hjs := R.lt_size hj
    have hclash : clash y.dst o.rd = true := by rw [hdj]; simp [clash, ht]
    by_cases hji : j = i
    · subst hji; exact ⟨fun h => by omega, fun h => absurd h hun⟩
    · rcases Nat.lt_or_ge j i with h1 | h1
      · refine ⟨fun _ => ?_, fun _ => h1⟩
        rcases D.loose j i y o h1 hj ho with h3 | ⟨h3, _⟩
        · exact before_of_pre h3
        · simp [freeTmp, hclash] at h3
      · refine ⟨fun h2 => by omega, fun h2 => ?_⟩
        rcases D.loose i j o y (by omega) ho hj with h3 | ⟨h3, _⟩
        · exact absurd h2 (behind_of_pre hjs h3)
        · simp [freeTmp, hclash] at h3
  · -- the blocks that it needs
    rcases hneed with he | ⟨hw, hlb, L, hL⟩
    · exact eff_live he b x hx
    · have hb := lt_of_live (by omega) hx
      have hld : o.k.isLd = true := by revert hlb; cases o.k <;> simp [ldBlock, XK.isLd]
      have hpres : Present ys σ listed b := by
        by_cases hb0 : b < (σ 0).h.nx
        · exact .inl hb0
        · rcases I.dom b L hL with h | h
          · have := R.nx (i := i) (j := ops.size) (by omega) (by omega)
            rw [hfr0 b (by omega) (by omega)] at h; cases h
          · exact .inr h
      refine ⟨hpres, ?_⟩
      obtain ⟨q0, hq0, hq0s⟩ := place D R I.closed
      -- a place that fits b
      have ⟨q, hfit⟩ : ∃ q, Fits ys σ listed b q := by
        rcases hpres with hb0 | ⟨j0, y0, hj0, hs0, hl0, hl1⟩
        · exact ⟨q0, by rw [R.len]; exact hq0, Nat.lt_of_lt_of_le hb0 (R.nx (by omega) hq0), fun j y hj he _ => hq0s j y hj he⟩
        · have hj0s := R.lt_size hj0
          by_cases hq : j0 + 1 ≤ q0
          · exact ⟨q0, by rw [R.len]; exact hq0, Nat.lt_of_lt_of_le hl1 (R.nx hq hq0), fun j y hj he _ => hq0s j y hj he⟩
          · refine ⟨j0 + 1, by rw [R.len]; omega, hl1, fun j y hj he hbj => ?_⟩
            have hjs := R.lt_size hj
            have hj0j : j0 < j := by
              rcases Nat.lt_or_ge j0 j with h | h
              · exact h
              · have := R.nx (i := j) (j := j0) h (by omega); omega
            exact ⟨fun h => by omega, fun h => by have := (hq0s j y hj he).2 h; omega⟩
      refine ⟨q, hfit, ?_⟩
      obtain ⟨hql, hbq, hqf⟩ := hfit
      rw [R.len] at hql
      obtain ⟨Kp, hKp0, hKp⟩ := hK
      -- those between leave b alone
      have loose_keep : ∀ j y, ys[j]? = some y → y.k.isEff = true → ((j < i ∧ ¬ Pre ops j i) ∨ (i < j ∧ ¬ Pre ops i j)) → (σ (j + 1)).h.bk b = (σ j).h.bk b := by
        intro j y hj he h
        have hchk : o.chk = true ∧ y.chk = true := by
          rcases h with ⟨h1, h2⟩ | ⟨h1, h2⟩
          · rcases D.loose j i y o h1 hj ho with h3 | ⟨_, _, h3⟩
            · exact absurd h3 h2
            · have := h3 (by simp [loadEff, he, hld]); exact ⟨this.2, this.1⟩
          · rcases D.loose i j o y h1 ho hj with h3 | ⟨_, _, h3⟩
            · exact absurd h3 h2
            · exact h3 (by simp [loadEff, he, hld])
        exact (hKp j y hj hchk.2).1 he b ((hKp i o ho hchk.1).2 b hw hlb)
      rcases Nat.le_total q i with hqi | hiq
      · rw [← hx]
        refine (R.bk_same hqi (by omega) hbq fun j y h1 h2 hj he => loose_keep j y hj he (.inl ⟨h2, fun hpre => ?_⟩)).symm
        have hbj : b < (σ j).h.nx := Nat.lt_of_lt_of_le hbq (R.nx h1 (by omega))
        have := (hqf j y hj he hbj).2 (before_of_pre hpre)
        omega
      · rw [← hx]
        refine R.bk_same hiq hql hb fun j y h1 h2 hj he => ?_
        have hbj : b < (σ j).h.nx := Nat.lt_of_lt_of_le hb (R.nx h1 (by omega))
        have hsj := (hqf j y hj he hbj).1 h2
        have hji : j ≠ i := fun e => hun (e ▸ hsj)
        exact loose_keep j y hj he (.inr ⟨by omega, fun hpre => behind_of_pre (R.lt_size hj) hpre hsj⟩)
  · -- new numbers are named by nobody
    cases hb : ρ b with
    | none => rfl
    | some L =>
      have n1 := R.nx (i := 0) (j := i) (by omega) (by omega)
      have n2 := R.nx (i := i + 1) (j := ops.size) (by omega) (by omega)
      rcases I.dom b L hb with h | ⟨j, y, hj, hs, h3, h4⟩
      · rw [hfr0 b (by omega) (by omega)] at h; cases h
      · have hji : j = i := by
          have hjs := R.lt_size hj
          rcases Nat.lt_trichotomy j i with h5 | h5 | h5
          · have := R.nx (i := j + 1) (j := i) (by omega) (by omega); omega
          · exact h5
          · have := R.nx (i := i + 1) (j := j) (by omega) (by omega); omega
        subst hji; exact absurd hs hun
  · -- the invariant behind it
    refine hnext ρ' _ w' ?_
    have hil : i < listed.size := by rw [I.size]; exact hi
    have hS : ∀ j, S (listed.setIfInBounds i true) j ↔ j = i ∨ S listed j := fun j => S_set hil
    have hSne : ∀ j, j ≠ i → (S (listed.setIfInBounds i true) j ↔ S listed j) := fun j hj => by rw [hS]; simp [hj]
    have nxi : (σ i).h.nx ≤ (σ (i + 1)).h.nx := R.nx (by omega) (by omega)
    -- no other change of the heap that could know a block of i stands, listed, behind i
    have none_behind : (o.k.isEff = true ∨ o.k.isMk = true) → ∀ j y, i < j → ys[j]? = some y → y.k.isEff = true → ¬ S (listed.setIfInBounds i true) j := by
      intro hk j y hij hj he hs
      rw [hSne j (by omega)] at hs
      exact behind_of_pre (R.lt_size hj) (eff_order D hij ho hj ⟨hk, he⟩) hs
    have made_by : ∀ {b}, (σ i).h.nx ≤ b → b < (σ (i + 1)).h.nx → o.k.isEff = true ∨ o.k.isMk = true := by
      intro b h1 h2
      cases he : o.k.isEff with
      | true => exact .inl rfl
      | false =>
        cases hm : o.k.isMk with
        | true => exact .inr rfl
        | false => have := hev.op_nx0 he hm; omega
    -- a block that is i's own, or one that i could change: its content is that right behind i
    have at_i : ∀ b q, Fits ys σ (listed.setIfInBounds i true) b q → b < (σ (i + 1)).h.nx → (o.k.isEff = true ∨ (σ i).h.nx ≤ b) → (σ q).h.bk b = (σ (i + 1)).h.bk b := by
      intro b q hf hb hk
      obtain ⟨hql, hbq, hqf⟩ := hf
      rw [R.len] at hql
      have hkk : o.k.isEff = true ∨ o.k.isMk = true := by
        rcases hk with h | h
        · exact .inl h
        · exact made_by h hb
      have hiq : i + 1 ≤ q := by
        rcases Nat.lt_or_ge i q with h | h
        · exact h
        · exfalso
          by_cases hbi : b < (σ i).h.nx
          · rcases hk with he | h2
            · have := (hqf i o ho he hbi).2 ((hS i).2 (.inl rfl)); omega
            · omega
          · have := R.nx (i := q) (j := i) h (by omega); omega
      refine R.bk_same hiq hql hb fun j y h1 h2 hj he => ?_
      have hbj : b < (σ j).h.nx := Nat.lt_of_lt_of_le hb (R.nx h1 (by omega))
      exact absurd ((hqf j y hj he hbj).1 h2) (none_behind hkk j y (by omega) hj he)
    -- any other block is as it was
    have old_lv : ∀ b x, Lv ys σ (listed.setIfInBounds i true) b x → ((o.k.isEff = false ∧ (b < (σ i).h.nx ∨ (σ (i + 1)).h.nx ≤ b)) ∨ (σ (i + 1)).h.nx ≤ b) → Lv ys σ listed b x := by
      rintro b x ⟨hpr, q, ⟨hql, hbq, hqf⟩, hx⟩ hcase
      have hnb : ¬ ((σ i).h.nx ≤ b ∧ b < (σ (i + 1)).h.nx) := by rcases hcase with ⟨_, h | h⟩ | h <;> omega
      refine ⟨?_, q, ⟨hql, hbq, fun j y hj he hbj => ?_⟩, hx⟩
      · rcases hpr with h | ⟨j, y, hj, hs, h1, h2⟩
        · exact .inl h
        · refine .inr ⟨j, y, hj, ?_, h1, h2⟩
          rcases (hS j).1 hs with rfl | hs
          · exact absurd ⟨h1, h2⟩ hnb
          · exact hs
      · have hji : j ≠ i := by
          rintro rfl
          rw [ho] at hj; cases hj
          rcases hcase with ⟨h, _⟩ | h
          · rw [he] at h; cases h
          · omega
        rw [← hSne j hji]; exact hqf j y hj he hbj
    have blk_lt : ∀ b x L, Lv ys σ listed b x → ρ b = some L → L.blk < w.heap.size ∧ ρ' b = some L := by
      intro b x L hl hL
      obtain ⟨L', hL', hlt, _⟩ := I.heap.1 b x hl
      rw [hL] at hL'; cases hL'
      exact ⟨hlt, hp.eff.ext b L hL⟩
    have lv_ren : ∀ b x, Lv ys σ listed b x → ∃ L, ρ b = some L ∧ ρ' b = some L ∧ L.blk < w.heap.size := by
      intro b x hl
      obtain ⟨L', hL', hlt, _⟩ := I.heap.1 b x hl
      exact ⟨L', hL', hp.eff.ext _ _ hL', hlt⟩
    have live_of : ∀ b x, Lv ys σ (listed.setIfInBounds i true) b x → b < (σ (i + 1)).h.nx → (o.k.isEff = true ∨ (σ i).h.nx ≤ b) → (σ (i + 1)).h.bk b = some x := by
      rintro b x ⟨_, q, hf, hx⟩ hb hk
      rw [← at_i b q hf hb hk]; exact hx
    -- what i leaves where it lies
    have touch : ∀ b x, Lv ys σ listed b x → ((o.k.isEff = true ∧ (σ (i + 1)).h.nx ≤ b) ∨ o.k.isEff = false) → ∀ L, ρ b = some L → w'.heap[L.blk]? = w.heap[L.blk]? := by
      intro b x hl hcase L hL
      refine hp.eff.frame _ (blk_lt b x L hl hL).1 fun he b' x' L' hx' hr' hL' heq => ?_
      rcases hcase with ⟨_, hb⟩ | hf
      · have h1 := I.heap.2.1 b' x' b x L' L (eff_live he b' x' hx') hl hr' hL' hL heq
        have := lt_of_live (by omega) hx'
        omega
      · rw [he] at hf; cases hf
    -- the blocks behind i, in two kinds: i's (or, where i changes the heap, all that it could know), and the others
    have kinds : ∀ b x, Lv ys σ (listed.setIfInBounds i true) b x →
        (b < (σ (i + 1)).h.nx ∧ (o.k.isEff = true ∨ (σ i).h.nx ≤ b) ∧ (σ (i + 1)).h.bk b = some x) ∨
        (Lv ys σ listed b x ∧ ((o.k.isEff = true ∧ (σ (i + 1)).h.nx ≤ b) ∨ (o.k.isEff = false ∧ (b < (σ i).h.nx ∨ (σ (i + 1)).h.nx ≤ b)))) := by
      intro b x hl
      cases he : o.k.isEff with
      | true =>
        by_cases hb : b < (σ (i + 1)).h.nx
        · exact .inl ⟨hb, .inl rfl, live_of b x hl hb (.inl he)⟩
        · exact .inr ⟨old_lv b x hl (.inr (by omega)), .inl ⟨rfl, by omega⟩⟩
      | false =>
        by_cases hb : (σ i).h.nx ≤ b ∧ b < (σ (i + 1)).h.nx
        · exact .inl ⟨hb.2, .inr hb.1, live_of b x hl hb.2 (.inr hb.1)⟩
        · exact .inr ⟨old_lv b x hl (.inl ⟨he, by omega⟩), .inr ⟨rfl, by omega⟩⟩
    have br_new : ∀ b x, b < (σ (i + 1)).h.nx → (o.k.isEff = true ∨ (σ i).h.nx ≤ b) → (σ (i + 1)).h.bk b = some x → BR ρ' w' b x ∧ x.cells.all one = true := by
      intro b x hb hk hx
      cases he : o.k.isEff with
      | true => exact ⟨(hp.heap he).1 b x hx, (hp.heap he).2.2 b x hx⟩
      | false =>
        have h2 : (σ i).h.nx ≤ b := hk.resolve_left (by rw [he]; simp)
        exact ⟨(hp.made he b x h2 hx).1, (hp.made he b x h2 hx).2.1⟩
    have side : ∀ b x, Lv ys σ listed b x → ((o.k.isEff = true ∧ (σ (i + 1)).h.nx ≤ b) ∨ (o.k.isEff = false ∧ (b < (σ i).h.nx ∨ (σ (i + 1)).h.nx ≤ b))) →
        ((o.k.isEff = true ∧ (σ (i + 1)).h.nx ≤ b) ∨ o.k.isEff = false) := by
      rintro b x _ (h | ⟨h, _⟩)
      · exact .inl h
      · exact .inr h
    have nxi1 : o.k.isEff = false → (σ (i + 1)).h.nx ≤ (σ i).h.nx + 1 := fun he => hev.op_nx he
    -- an image of a block of the first kind is no image of one of the second
    have apart : ∀ b x L b2 x2 L2, b < (σ (i + 1)).h.nx → (o.k.isEff = true ∨ (σ i).h.nx ≤ b) → (σ (i + 1)).h.bk b = some x → ρ' b = some L →
        Lv ys σ listed b2 x2 → ((o.k.isEff = true ∧ (σ (i + 1)).h.nx ≤ b2) ∨ (o.k.isEff = false ∧ (b2 < (σ i).h.nx ∨ (σ (i + 1)).h.nx ≤ b2))) → ρ' b2 = some L2 → (x.rw = true ∨ x2.rw = true) → L.blk ≠ L2.blk := by
      intro b x L b2 x2 L2 hb hk hx hL hl2 hs2 hL2 hrw heq
      obtain ⟨L2', e1, e2, e3⟩ := lv_ren b2 x2 hl2
      rw [hL2] at e2; cases e2
      cases he : o.k.isEff with
      | true =>
        have hb2 : (σ (i + 1)).h.nx ≤ b2 := by rcases hs2 with ⟨_, h⟩ | ⟨h, _⟩; exact h; rw [he] at h; cases h
        have hE := hp.eff
        rcases hE.img b x L hx hL with h | ⟨b0, x0, L0, h1, h2, h3, h4⟩
        · omega
        · have hl0 := eff_live he b0 x0 h1
          have hb0 := lt_of_live (by omega) h1
          have : b0 = b2 := by
            rcases hrw with hr | hr
            · exact I.heap.2.1 b0 x0 b2 x2 L0 L2 hl0 hl2 (h2 hr) h3 e1 (by omega)
            · exact (I.heap.2.1 b2 x2 b0 x0 L2 L0 hl2 hl0 hr e1 h3 (by omega)).symm
          omega
      | false =>
        have h2 : (σ i).h.nx ≤ b := hk.resolve_left (by rw [he]; simp)
        have := (hp.made he b x h2 hx).2.2 L hL
        omega
    refine ⟨by simp [I.size], ?_, ?_, ?_, ?_, ⟨?_, ?_, ?_⟩, I.ext.trans hp.eff.ext, ?_, Nat.le_trans I.wsize hp.eff.size, ?_, I.same.trans hp.eff.same, ?_⟩
    · -- closed
      intro k ok hk hs e he hb
      rw [hS] at hs ⊢
      rcases hs with rfl | hs
      · obtain ⟨oj, hoj, hall⟩ := hR
        rw [hk] at hoj; cases hoj
        exact .inr (hall e he hb)
      · exact .inr (I.closed k ok hk hs e he hb)
    · cases hd : o.dst <;> simp [Act.put, I.tsize]
    · cases hd : o.dst <;> simp [Act.put, I.defers]
    · -- the temporaries
      intro t q hq hqs
      by_cases hdt : o.dst = some t
      · have hiq : i < q := (hqs i o ho hdt).2 ((hS i).2 (.inl rfl))
        have hsame := R.env_same (t := t) (p := i + 1) (q := q) (by omega) hq fun j y h1 h2 hj hdj => by
          have hs := (hqs j y hj hdj).1 h2
          rw [hSne j (by omega)] at hs
          rcases D.loose i j o y (by omega) ho hj with h3 | ⟨h3, _⟩
          · exact behind_of_pre (R.lt_size hj) h3 hs
          · simp [freeTmp, clash, hdt, hdj] at h3
        rw [hsame, hp.env, hdt]
        have hlt : t < a.tmps.size := by
          have : dstOk sz (some t) = true := by rw [← hdt, hde]; exact hdo
          simp [dstOk] at this; exact Nat.lt_of_lt_of_le this I.tsize
        rw [put_getD hlt, if_pos rfl]
        have : put (σ i).env (some t) v t = v := by simp [put]
        rw [this]; exact hp.val
      · have hval : (a.put o.dst v').tmps.getD t undef = a.tmps.getD t undef := by
          cases hd : o.dst with
          | none => rfl
          | some d =>
            have hne : d ≠ t := fun e => hdt (by rw [hd, e])
            simp only [Act.put, Array.getD_eq_getD_getElem?, Array.getElem?_setIfInBounds_ne hne]
        rw [hval]
        refine (I.env t q hq fun j y hj hdj => ?_).mono hp.eff.ext
        have hji : j ≠ i := by
          rintro rfl
          rw [ho] at hj; cases hj; exact hdt hdj
        rw [← hSne j hji]; exact hqs j y hj hdj
    · -- the heap
      intro b x hl
      rcases kinds b x hl with ⟨h1, h2, h3⟩ | ⟨h1, h2⟩
      · exact (br_new b x h1 h2 h3).1
      · exact (I.heap.1 b x h1).keep hp.eff.ext hp.eff.size (touch b x h1 (side b x h1 h2))
    · intro b1 x1 b2 x2 L1 L2 hl1 hl2 hr h3 h4 h5
      rcases kinds b1 x1 hl1 with ⟨a1, a2, a3⟩ | ⟨a1, a2⟩ <;> rcases kinds b2 x2 hl2 with ⟨c1, c2, c3⟩ | ⟨c1, c2⟩
      · cases he : o.k.isEff with
        | true => exact (hp.heap he).2.1 b1 x1 b2 x2 L1 L2 a3 c3 hr h3 h4 h5
        | false =>
          have g1 : (σ i).h.nx ≤ b1 := a2.resolve_left (by rw [he]; simp)
          have g2 : (σ i).h.nx ≤ b2 := c2.resolve_left (by rw [he]; simp)
          have := nxi1 he
          omega
      · exact absurd h5 (apart b1 x1 L1 b2 x2 L2 a1 a2 a3 h3 c1 c2 h4 (.inl hr))
      · exact absurd h5.symm (apart b2 x2 L2 b1 x1 L1 c1 c2 c3 h4 a1 a2 h3 (.inr hr))
      · obtain ⟨L1', e1, e2, _⟩ := lv_ren b1 x1 a1
        obtain ⟨L2', f1, f2, _⟩ := lv_ren b2 x2 c1
        rw [h3] at e2; cases e2
        rw [h4] at f2; cases f2
        exact I.heap.2.1 b1 x1 b2 x2 L1 L2 a1 c1 hr e1 f1 h5
    · intro b x hl
      rcases kinds b x hl with ⟨h1, h2, h3⟩ | ⟨h1, h2⟩
      · exact (br_new b x h1 h2 h3).2
      · exact I.heap.2.2 b x h1
    · -- the names
      intro b L hb
      rcases hp.eff.dom b L hb with h | ⟨h1, h2⟩
      · rcases I.dom b L h with h | ⟨j, y, hj, hs, h1, h2⟩
        · exact .inl h
        · exact .inr ⟨j, y, hj, (hS j).2 (.inr hs), h1, h2⟩
      · exact .inr ⟨i, o, ho, (hS i).2 (.inl rfl), h1, h2⟩
    · -- what was there and is nobody's
      intro β hβ hn
      rw [hp.eff.frame β (Nat.lt_of_lt_of_le hβ I.wsize) ?_, I.frame β hβ hn]
      intro he b x L hx hr hL heq
      rcases I.img b x L (eff_live he b x hx) hL with h | ⟨b0, x0, L0, h1, h2, h3, h4⟩
      · omega
      · exact hn b0 x0 L0 h1 (h2 hr) h3 (h4.trans heq)
    · intro b x L hl hL
      rcases kinds b x hl with ⟨h1, h2, h3⟩ | ⟨h1, h2⟩
      · cases he : o.k.isEff with
        | true =>
          rcases hp.eff.img b x L h3 hL with h | ⟨b0, x0, L0, g1, g2, g3, g4⟩
          · exact .inl (Nat.le_trans I.wsize h)
          · rcases I.img b0 x0 L0 (eff_live he b0 x0 g1) g3 with h | ⟨b9, x9, L9, k1, k2, k3, k4⟩
            · exact .inl (by omega)
            · exact .inr ⟨b9, x9, L9, k1, fun hr => k2 (g2 hr), k3, k4.trans g4⟩
        | false =>
          have g1 : (σ i).h.nx ≤ b := h2.resolve_left (by rw [he]; simp)
          have := (hp.made he b x g1 h3).2.2 L hL
          have := I.wsize
          exact .inl (by omega)
      · obtain ⟨L', e1, e2, _⟩ := lv_ren b x h1
        rw [hL] at e2; cases e2
        exact I.img b x L h1 e1

end
end XM

/- What the abstract machine runs, the model runs. -/
namespace XM
open Go

theorem count_set : ∀ (l : List Bool) (i : Nat), l[i]? = some false → (l.set i true).count false + 1 = l.count false
  | [], i, h => by simp at h
  | b :: l, 0, h => by simp at h; subst h; simp
  | b :: l, i + 1, h => by
    simp only [List.getElem?_cons_succ] at h
    have := count_set l i h
    cases b <;> simp <;> omega

section
variable {P : Program} {F : FuncId → Option XFunc} {sz : Nat} {ops : Array Oper} {ys : List XOper} {σ : Nat → St}

theorem region_draw (D : Drw ops ys) (R : Reg P F sz ops ys σ) (hK : HeldOk ys σ) (hm : P.follows .mixedOrders = true) {id : Nat} {ρ : Ren} {a : Act} {w : World} (hE : EnvR ρ (σ 0).env a sz)
    (hH : HR ρ (live (σ 0).h) w) (hfr : ∀ b, (σ 0).h.nx ≤ b → b < (σ ops.size).h.nx → ρ b = none) :
    (Code.region id ops true).wp P (RegPost ρ w sz (σ 0) (σ ops.size)) a w := by
  apply wp_region_any hm
  have hlt : ∀ {q b x}, q ≤ ops.size → (σ q).h.bk b = some x → b < (σ q).h.nx := by
    intro q b x hq hx
    rcases Nat.lt_or_ge b (σ q).h.nx with h1 | h1
    · exact h1
    · rw [R.wfs hq b h1] at hx; cases hx
  -- the end
  have fin : ∀ listed ρ' a' w', DInv ops ys σ sz ρ w listed ρ' a' w' → (∀ i, i < ops.size → S listed i) → RegPost ρ w sz (σ 0) (σ ops.size) .normal a' w' := by
    intro listed ρ' a' w' I hall
    have hlv : ∀ b x, (σ ops.size).h.bk b = some x → Lv ys σ listed b x := by
      intro b x hx
      have hb := hlt (Nat.le_refl _) hx
      refine ⟨?_, ops.size, ⟨by rw [R.len]; exact Nat.le_refl _, hb, fun j y hj _ _ => ⟨fun h => hall j h, fun _ => R.lt_size hj⟩⟩, hx⟩
      rcases R.born (Nat.le_refl _) hb with h | ⟨j, y, h1, h2, h3, h4, _⟩
      · exact .inl h
      · exact .inr ⟨j, y, h2, hall j h1, h3, h4⟩
    refine ⟨rfl, ρ', ⟨I.tsize, I.defers, fun t => I.env t ops.size (Nat.le_refl _) fun j y hj _ => ⟨fun h => hall j h, fun _ => R.lt_size hj⟩⟩,
      ⟨fun b x hx => I.heap.1 b x (hlv b x hx), fun b1 x1 b2 x2 L1 L2 h1 h2 => I.heap.2.1 b1 x1 b2 x2 L1 L2 (hlv _ _ h1) (hlv _ _ h2), fun b x hx => I.heap.2.2 b x (hlv b x hx)⟩,
      ⟨I.ext, fun b L hb => ?_, I.wsize, fun β hβ hn => I.frame β hβ (hn rfl), I.same, fun b x L hx hL => I.img b x L (hlv b x hx) hL⟩⟩
    rcases I.dom b L hb with h | ⟨j, y, hj, hs, h1, h2⟩
    · exact .inl h
    · have hjs := R.lt_size hj
      have n1 := R.nx (i := 0) (j := j) (by omega) (by omega)
      have n2 := R.nx (i := j + 1) (j := ops.size) (by omega) (by omega)
      exact .inr ⟨by omega, by omega⟩
  have done : ∀ listed : Array Bool, listed.size = ops.size → Region.ready .any ops listed = [] → ∀ i, i < ops.size → S listed i := by
    intro listed hsz hr i
    induction i using Nat.strongRecOn with
    | _ i ih =>
      intro hi
      rcases Classical.em (S listed i) with hs | hs
      · exact hs
      · exfalso
        have : i ∈ Region.ready .any ops listed := by
          rw [mem_ready]
          refine ⟨?_, ops[i], by simp [hi], fun e he hb => ih e.on (D.back i _ (by simp [hi]) e he hb) (by have := D.back i _ (by simp [hi]) e he hb; omega)⟩
          unfold S at hs
          have h2 : i < listed.size := by omega
          simp only [Array.getD_eq_getD_getElem?, h2, Array.getElem?_eq_getElem, Option.getD_some] at hs ⊢
          simpa using hs
        rw [hr] at this; cases this
  have key : ∀ fuel listed ρ' a' w', DInv ops ys σ sz ρ w listed ρ' a' w' → listed.toList.count false ≤ fuel → wpAny P .any ops (RegPost ρ w sz (σ 0) (σ ops.size)) fuel listed a' w' := by
    intro fuel
    induction fuel with
    | zero =>
      intro listed ρ' a' w' I hc
      have hr : Region.ready .any ops listed = [] := by
        rcases hl : Region.ready .any ops listed with _ | ⟨i, r⟩
        · rfl
        · exfalso
          have hi : i ∈ Region.ready .any ops listed := by rw [hl]; simp
          rw [mem_ready] at hi
          obtain ⟨h0, o, ho, _⟩ := hi
          have hi2 : i < ops.size := (Array.getElem?_eq_some_iff.1 ho).1
          have h2 : i < listed.size := by rw [I.size]; exact hi2
          have hf : listed[i] = false := by simpa [h2] using h0
          have : false ∈ listed.toList := by rw [← hf]; simp
          have := List.count_pos_iff.2 this
          omega
      exact ⟨hr, fin listed ρ' a' w' I (done listed I.size hr)⟩
    | succ fuel ih =>
      intro listed ρ' a' w' I hc
      refine ⟨fun hr => fin listed ρ' a' w' I (done listed I.size hr), fun i hi => ?_⟩
      rw [mem_ready] at hi
      obtain ⟨h0, o, ho, hall⟩ := hi
      have hi2 : i < ops.size := (Array.getElem?_eq_some_iff.1 ho).1
      have h2 : i < listed.size := by rw [I.size]; exact hi2
      have hf : listed[i] = false := by simpa [h2] using h0
      refine draw_step D R hK hfr I hi2 (by unfold S; simp [h2, hf]) ⟨o, ho, hall⟩ fun ρ2 a2 w2 I2 => ih _ ρ2 a2 w2 I2 ?_
      have := count_set listed.toList i (by simp [h2, hf])
      simp only [Array.toList_setIfInBounds]
      omega
  refine key ops.size (Array.replicate ops.size false) ρ a _ ⟨by simp, fun k ok hk hs => ?_, hE.1, hE.2.1, fun t q hq hqs => ?_, ?_, Ext.refl ρ, fun b L h => .inl h, Nat.le_refl _, fun _ _ _ => rfl, ⟨rfl, rfl, rfl⟩, fun b x L hl hL => ?_⟩ ?_
  · exfalso; unfold S at hs; simp [Array.getD_eq_getD_getElem?, Array.getElem?_replicate] at hs; split at hs <;> simp at hs
  · have hns : ∀ j, ¬ S (Array.replicate ops.size false) j := by
      intro j hs; unfold S at hs; simp [Array.getD_eq_getD_getElem?, Array.getElem?_replicate] at hs; split at hs <;> simp at hs
    rw [R.env_same (t := t) (p := 0) (q := q) (by omega) hq fun j y _ h2 hj hd => hns j ((hqs j y hj hd).1 h2)]
    exact hE.2.2 t
  · have hns : ∀ j, ¬ S (Array.replicate ops.size false) j := by
      intro j hs; unfold S at hs; simp [Array.getD_eq_getD_getElem?, Array.getElem?_replicate] at hs; split at hs <;> simp at hs
    have h0 : ∀ b x, Lv ys σ (Array.replicate ops.size false) b x → live (σ 0).h b x := by
      rintro b x ⟨hpr, q, ⟨hql, hbq, hqf⟩, hx⟩
      have hb : b < (σ 0).h.nx := by
        rcases hpr with h | ⟨j, y, _, hs, _⟩
        · exact h
        · exact absurd hs (hns j)
      rw [R.len] at hql
      rw [live, ← R.bk_same (p := 0) (q := q) (by omega) hql hb fun j y _ h2 hj he => absurd ((hqf j y hj he (Nat.lt_of_lt_of_le hb (R.nx (by omega) (by omega)))).1 h2) (hns j)]
      exact hx
    have hH' : HR ρ (live (σ 0).h) { w with drawn := w.drawn + 1 } := hH.heap rfl
    exact ⟨fun b x hl => hH'.1 b x (h0 b x hl), fun b1 x1 b2 x2 L1 L2 h1 h2 => hH'.2.1 b1 x1 b2 x2 L1 L2 (h0 _ _ h1) (h0 _ _ h2), fun b x hl => hH'.2.2 b x (h0 b x hl)⟩
  · right
    have hns : ∀ j, ¬ S (Array.replicate ops.size false) j := by
      intro j hs; unfold S at hs; simp [Array.getD_eq_getD_getElem?, Array.getElem?_replicate] at hs; split at hs <;> simp at hs
    obtain ⟨hpr, q, ⟨hql, hbq, hqf⟩, hx⟩ := hl
    have hb : b < (σ 0).h.nx := by
      rcases hpr with h | ⟨j, y, _, hs, _⟩
      · exact h
      · exact absurd hs (hns j)
    rw [R.len] at hql
    refine ⟨b, x, L, ?_, fun h => h, hL, rfl⟩
    rw [← R.bk_same (p := 0) (q := q) (by omega) hql hb fun j y _ h2 hj he => absurd ((hqf j y hj he (Nat.lt_of_lt_of_le hb (R.nx (by omega) (by omega)))).1 h2) (hns j)]
    exact hx
  · have := List.count_le_length (a := false) (l := (Array.replicate ops.size false).toList)
    simp at this ⊢

end

/-! ### the translation's tests -/

section
variable {P : Program} {sz : Nat}

theorem cOps_get {ops : Array Oper} : ∀ {l : List Oper} {xs : List XOper}, cOps P sz ops l = some xs → xs.length = l.length ∧ ∀ (i : Nat) (o' : Oper), l[i]? = some o' → ∃ o : XOper, xs[i]? = some o ∧ cOp P sz ops o' = some o
  | [], xs, h => by simp [cOps] at h; subst h; simp
  | o :: l, xs, h => by
    simp only [cOps, Option.bind_eq_some_iff, Option.map_eq_some_iff] at h
    obtain ⟨x, hx, r, hr, rfl⟩ := h
    obtain ⟨h1, h2⟩ := cOps_get hr
    refine ⟨by simp [h1], fun i o' hi => ?_⟩
    cases i with
    | zero => simp at hi; subst hi; exact ⟨x, by simp, hx⟩
    | succ i => obtain ⟨o2, h3, h4⟩ := h2 i o' (by simpa using hi); exact ⟨o2, by simpa using h3, h4⟩

theorem markAll_get {ps : List (Nat × Nat)} {xs : List XOper} {i : Nat} {x : XOper} (h : xs[i]? = some x) : (markAll ps xs)[i]? = some { x with chk := chkOf ps xs.toArray i } := by
  unfold markAll
  simp [h]

theorem loose_mem {b : Array Nat} {n i j : Nat} (hij : i < j) (hj : j < n) (h : ¬ ((b.getD j 0).testBit i) = true) : (i, j) ∈ loosePairs b n := by
  unfold loosePairs
  rw [List.mem_flatMap]
  refine ⟨j, by simp [hj], ?_⟩
  rw [List.mem_map]
  exact ⟨i, by rw [List.mem_filter]; exact ⟨by simp [hij], by simpa using h⟩, rfl⟩

theorem cRegion_seq {ops : Array Oper} {c : XC} (h : cRegion P sz ops false = some c) : ∃ xs, c = .region false xs ∧ xs.length = ops.size ∧
    ∀ (i : Nat) (o' : Oper), ops[i]? = some o' → ∃ o : XOper, xs[i]? = some o ∧ cOp P sz ops o' = some { o with chk := false } := by
  simp only [cRegion, Option.bind_eq_some_iff, Bool.false_eq_true, if_false, Option.some.injEq] at h
  obtain ⟨xs, hxs, rfl⟩ := h
  obtain ⟨h1, h2⟩ := cOps_get hxs
  refine ⟨xs, rfl, by simpa using h1, fun i o' hi => ?_⟩
  obtain ⟨o, h3, h4⟩ := h2 i o' (by simpa using hi)
  refine ⟨o, h3, ?_⟩
  rw [h4]
  have := (cOp_inv h4).2.2.2.2
  cases o; simp at this; subst this; rfl

theorem cRegion_draw {ops : Array Oper} {c : XC} (h : cRegion P sz ops true = some c) : ∃ held ys, c = .region held ys ∧ ys.length = ops.size ∧ Drw ops ys ∧ (held = false → ∀ y ∈ ys, y.chk = false) ∧
    ∀ (i : Nat) (o' : Oper), ops[i]? = some o' → ∃ o : XOper, ys[i]? = some o ∧ cOp P sz ops o' = some { o with chk := false } := by
  simp only [cRegion, Option.bind_eq_some_iff, if_true] at h
  obtain ⟨xs, hxs, h⟩ := h
  split at h
  · rename_i hcond
    cases h
    simp only [Bool.and_eq_true] at hcond
    obtain ⟨hback, hloose⟩ := hcond
    obtain ⟨h1, h2⟩ := cOps_get hxs
    have hlen : xs.length = ops.size := by simpa using h1
    have hget : ∀ (i : Nat) (y : XOper), (markAll (loosePairs (Region.before ops) xs.length) xs)[i]? = some y → ∃ x, xs[i]? = some x ∧ y = { x with chk := chkOf (loosePairs (Region.before ops) xs.length) xs.toArray i } := by
      intro i y hy
      have hi : i < xs.length := by
        have := (List.getElem?_eq_some_iff.1 hy).1
        simpa [markAll] using this
      have hx : xs[i]? = some xs[i] := by simp [hi]
      rw [markAll_get hx] at hy
      exact ⟨xs[i], hx, by cases hy; rfl⟩
    refine ⟨_, _, rfl, by simp [markAll, hlen], ⟨fun i o hi e he hb => ?_, fun i j x y hij hx hy => ?_⟩, fun hh y hy => ?_, fun i o' hi => ?_⟩
    · unfold edgesBack at hback
      rw [List.all_eq_true] at hback
      have hm : (o, i) ∈ ops.toList.zipIdx := by
        rw [List.mem_zipIdx_iff_getElem?]; simpa using hi
      have := hback _ hm
      simp only [List.all_eq_true] at this
      have := this e (by simpa using he)
      simpa [hb] using this
    · obtain ⟨x0, hx0, rfl⟩ := hget i x hx
      obtain ⟨y0, hy0, rfl⟩ := hget j y hy
      have hj : j < xs.length := (List.getElem?_eq_some_iff.1 hy0).1
      by_cases hb : (((Region.before ops).getD j 0).testBit i) = true
      · exact .inl (before_pre hb)
      · right
        have hm := loose_mem hij hj hb
        unfold looseOk at hloose
        rw [List.all_eq_true] at hloose
        have h3 := hloose _ hm
        have ex : xs.toArray.getD i default = x0 := by simp [hx0]
        have ey : xs.toArray.getD j default = y0 := by simp [hy0]
        simp only [ex, ey, Bool.and_eq_true] at h3
        refine ⟨h3.1, h3.2, fun hl => ?_⟩
        have hl' : loadEff x0 y0 = true := hl
        constructor
        · simp only [chkOf, List.any_eq_true]
          exact ⟨_, hm, by simp only [ex, ey, hl']; simp⟩
        · simp only [chkOf, List.any_eq_true]
          exact ⟨_, hm, by simp only [ex, ey, hl']; simp⟩
    · rw [List.any_eq_false] at hh
      simpa using hh y hy
    · obtain ⟨o, h3, h4⟩ := h2 i o' (by simpa using hi)
      refine ⟨_, markAll_get h3, ?_⟩
      rw [h4]
      have := (cOp_inv h4).2.2.2.2
      cases o; simp at this; subst this; rfl
  · cases h
end

/-! ### the whole -/

def CPost (e : Exit) (ρ : Ren) (w : World) (sz : Nat) (s s' : St) : Exit → Act → World → Prop := fun e1 a1 w1 =>
  e1 = e ∧ ∃ ρ', EnvR ρ' s'.env a1 sz ∧ HR ρ' (live s'.h) w1 ∧ Eff true ρ s.h w ρ' s'.h w1

def CodeGood (P : Program) (s : St) (e : Exit) (s' : St) (T : (Exit → Act → World → Prop) → Act → World → Prop) (sz : Nat) : Prop :=
  ∀ ρ a w, EnvR ρ s.env a sz → HR ρ (live s.h) w → (∀ b, s.h.nx ≤ b → b < s'.h.nx → ρ b = none) → WF s.h → T (CPost e ρ w sz s s') a w

def Good (P : Program) : Task → St → Exit → St → Prop
  | .code c, s, e, s' => (∀ sz c', cC P sz c' = some c → CodeGood P s e s' (fun Q => c'.wp P Q) sz) ∧
      (∀ b, c = .loop b → ∃ n, ∀ sz b', cC P sz b' = some b → CodeGood P s e s' (fun Q => Code.rounds P b' Q n) sz)
  | .op o, s, _, s' => OpGood P o s s'
  | .call f args v, s, _, s' => CallGood P f args v s.h s'.h

theorem rounds_mono {P : Program} {c : Code} {Q Q' : Exit → Act → World → Prop} (hq : ∀ e a w, Q e a w → Q' e a w) : ∀ n a w, Code.rounds P c Q n a w → Code.rounds P c Q' n a w
  | 0, _, _, h => h
  | n + 1, a, w, h => Code.wp_mono (fun e a w he => by
      cases e <;> first | exact rounds_mono hq n a w he | exact hq _ _ _ he) h

theorem fresh_of {ρ ρ1 : Ren} {h h1 h2 : Hp} {w w1 : World} (e : Eff true ρ h w ρ1 h1 w1) (n1 : h.nx ≤ h1.nx) (hf : ∀ b, h.nx ≤ b → b < h2.nx → ρ b = none) : ∀ b, h1.nx ≤ b → b < h2.nx → ρ1 b = none := by
  intro b hb1 hb2
  cases hb : ρ1 b with
  | none => rfl
  | some L =>
    rcases e.dom b L hb with h3 | ⟨_, h4⟩
    · rw [hf b (by omega) hb2] at h3; cases h3
    · omega

theorem mapM_len {α β : Type} {f : α → Option β} : ∀ {l : List α} {r : List β}, l.mapM f = some r → r.length = l.length
  | [], r, h => by simp at h; subst h; rfl
  | x :: l, r, h => by
    simp only [List.mapM_cons, Option.bind_eq_bind, Option.bind_eq_some_iff, Option.pure_def, Option.some.injEq] at h
    obtain ⟨y, _, ys, hys, rfl⟩ := h
    simp [mapM_len hys]

theorem resV_run {P : Program} {fn : Func} {xf : XFunc} {ρ : Ren} {env : Env} {h : Hp} {a : Act} {w : World} {v : Value} (hx : cRes P fn.results.toList = some xf.res) (hv : resV env h xf.res = some v)
    (hE : ∀ t, VR ρ (env t) (a.tmps.getD t undef)) (hH : HR ρ (live h) w) : ∃ v', VR ρ v v' ∧ (results fn a.tmps).run P w = .ok v' w := by
  have one_run : ∀ (r : ResultVar) (x : XR) (rs : List ResultVar) (xs : List XR) (u : Value), cRes P (r :: rs) = some (x :: xs) → x.ev env h = some u →
      cRes P rs = some xs ∧ ∃ u', VR ρ u u' ∧ (match r with | .tmp t => pure (a.tmps.getD t undef) | .cell ad t => do loadVar t (← asAddr (a.tmps.getD ad undef)) : Sem Value).run P w = .ok u' w := by
    intro r x rs xs u hc hu
    cases r with
    | tmp t =>
      simp only [cRes, Option.map_eq_some_iff, List.cons.injEq] at hc
      obtain ⟨xs', hxs, rfl, rfl⟩ := hc
      simp [XR.ev] at hu; subst hu
      exact ⟨hxs, _, hE t, rfl⟩
    | cell ad ty =>
      simp only [cRes, Option.bind_eq_some_iff] at hc
      obtain ⟨s, hs, g, hg, hc⟩ := hc
      split at hc
      · rename_i hsg
        simp only [Option.map_eq_some_iff, List.cons.injEq] at hc
        obtain ⟨xs', hxs, rfl, rfl⟩ := hc
        refine ⟨hxs, ?_⟩
        simp only [XR.ev, XK.ld, XO.ev] at hu
        split at hu
        · rename_i p hp
          simp only [Option.bind_eq_some_iff] at hu
          obtain ⟨blk, hblk, hu⟩ := hu
          split at hu
          · rename_i hlen
            have hpv := hE ad
            rw [hp] at hpv
            obtain ⟨L, hL, _, hpe⟩ := hpv.ptr_inv
            obtain ⟨L', hL', _, _, hcell, _⟩ := hH.1 p.block blk hblk
            rw [hL] at hL'; cases hL'
            cases g with
            | true =>
              simp at hu; subst hu
              obtain ⟨l, h1, h2⟩ := cells_run (P := P) hcell p.off s hlen
              exact ⟨_, VR.agg' h2, by simp only [hpe, asAddr]; simp [loadVar, run_isAgg' hg, run_sizeOf' hs, h1 w rfl]⟩
            | false =>
              simp at hu
              obtain ⟨v', h1, h2⟩ := hcell p.off u hu
              exact ⟨v', h2, by simp only [hpe, asAddr]; simp [loadVar, run_isAgg' hg, h1]⟩
          · cases hu
        · cases hu
      · cases hc
  have many : ∀ (rs : List ResultVar) (xs : List XR) (us : List Value), cRes P rs = some xs → xs.mapM (fun r => XR.ev env h r) = some us → ∃ us', LR ρ us us' ∧
      (rs.mapM (fun | .tmp t => pure (a.tmps.getD t undef) | .cell ad t => do loadVar t (← asAddr (a.tmps.getD ad undef)) : ResultVar → Sem Value)).run P w = .ok us' w := by
    intro rs
    induction rs with
    | nil => intro xs us hc hm; simp [cRes] at hc; subst hc; simp at hm; subst hm; exact ⟨[], LR.nil ρ, rfl⟩
    | cons r rs ih =>
      intro xs us hc hm
      have ⟨x, xs', hxs⟩ : ∃ x xs', xs = x :: xs' := by
        cases xs with
        | cons x xs' => exact ⟨x, xs', rfl⟩
        | nil =>
          exfalso
          cases r <;> simp only [cRes, Option.map_eq_some_iff, Option.bind_eq_some_iff, reduceCtorEq, and_false, exists_false] at hc
          obtain ⟨_, _, _, _, hc⟩ := hc
          split at hc <;> simp at hc
      subst hxs
      simp only [List.mapM_cons, Option.bind_eq_bind, Option.bind_eq_some_iff, Option.pure_def, Option.some.injEq] at hm
      obtain ⟨u, hu, us', hus, rfl⟩ := hm
      obtain ⟨hc', u', hvr, hrun⟩ := one_run r x rs xs' u hc hu
      obtain ⟨us2, hlr, hrun2⟩ := ih xs' us' hc' hus
      refine ⟨u' :: us2, LR.cons hvr hlr, ?_⟩
      rw [List.mapM_cons]
      simp only [Sem.run_bind, hrun, Result.andThen_ok, hrun2, Sem.run_pure]
  have hmany : ∀ us, xf.res.mapM (fun r => XR.ev env h r) = some us → ∃ us', LR ρ us us' ∧ (results fn a.tmps).run P w = .ok (if h : us'.length = 1 then us'[0] else .tuple us'.toArray) w := by
    intro us hus
    obtain ⟨us', h1, h2⟩ := many _ _ _ hx hus
    refine ⟨us', h1, ?_⟩
    unfold results
    rw [Array.mapM_eq_mapM_toList]
    simp only [Sem.run_bind, Sem.run_map, Sem.run_pure]
    erw [h2]
    simp
  unfold resV at hv
  split at hv
  · rename_i r hr
    obtain ⟨us', h1, h2⟩ := hmany [v] (by rw [hr]; simp [hv])
    have hl : us'.length = 1 := by rw [← h1.1]; rfl
    match us', hl, h1, h2 with
    | [u'], _, h1, h2 => exact ⟨u', h1.2 0 v u' (by simp) (by simp), by simpa using h2⟩
  · rename_i hne
    simp only [Option.map_eq_some_iff] at hv
    obtain ⟨us, hus, rfl⟩ := hv
    obtain ⟨us', h1, h2⟩ := hmany us hus
    have hl : us'.length ≠ 1 := by
      rw [← h1.1]
      intro hl
      have := List.length_eq_one_iff.1 hl
      have hlen : us.length = xf.res.length := by
        have := mapM_len hus
        exact this
      rw [hl] at hlen
      obtain ⟨r, hr⟩ := List.length_eq_one_iff.1 hlen.symm
      exact hne r hr
    exact ⟨_, VR.tuple' h1, by simpa [hl] using h2⟩

end XM

/- The main theorem: an abstract run is a run of the model. -/
namespace XM
open Go

section
variable {P : Program}

theorem cpost_mono {e : Exit} {ρ ρ1 : Ren} {w w1 : World} {sz : Nat} {s s1 s2 : St} (hE : Eff true ρ s.h w ρ1 s1.h w1) (n1 : s.h.nx ≤ s1.h.nx) (n2 : s1.h.nx ≤ s2.h.nx) :
    ∀ e' a w', CPost e ρ1 w1 sz s1 s2 e' a w' → CPost e ρ w sz s s2 e' a w' := by
  rintro e' a w' ⟨h1, ρ', h2, h3, h4⟩
  exact ⟨h1, ρ', h2, h3, hE.trans h4 n1 n2⟩

theorem sound (hm : P.follows .mixedOrders = true) {t : Task} {s s' : St} {e : Exit} (h : Ev (compiled P) t s e s') : Good P t s e s' := by
  induction h with
  | @skip s =>
    refine ⟨fun sz c' hc ρ a w hE hH _ _ => ?_, fun b hb => by cases hb⟩
    have hq : CPost .normal ρ w sz s s .normal a w := ⟨rfl, ρ, hE, hH, Eff.refl _ _ _ _⟩
    cases c' <;> simp only [cC, Option.bind_eq_some_iff, Option.map_eq_some_iff, reduceCtorEq, and_false, exists_false, Option.some.injEq, XC.exit.injEq] at hc
    case skip => exact wp_skip hq
    case label => exact wp_label hq
    case region id ops d =>
      exfalso
      cases d with
      | true => obtain ⟨_, _, h, _⟩ := cRegion_draw hc; cases h
      | false => obtain ⟨_, h, _⟩ := cRegion_seq hc; cases h
  | @exit s id =>
    refine ⟨fun sz c' hc ρ a w hE hH _ _ => ?_, fun b hb => by cases hb⟩
    have hq : CPost (.exit id) ρ w sz s s (.exit id) a w := ⟨rfl, ρ, hE, hH, Eff.refl _ _ _ _⟩
    cases c' <;> simp only [cC, Option.bind_eq_some_iff, Option.map_eq_some_iff, reduceCtorEq, and_false, exists_false, Option.some.injEq, XC.exit.injEq] at hc
    case exit => subst hc; exact wp_exit hq
    case region ids ops d =>
      exfalso
      cases d with
      | true => obtain ⟨_, _, h, _⟩ := cRegion_draw hc; cases h
      | false => obtain ⟨_, h, _⟩ := cRegion_seq hc; cases h
  | @ret s =>
    refine ⟨fun sz c' hc ρ a w hE hH _ _ => ?_, fun b hb => by cases hb⟩
    have hq : CPost .ret ρ w sz s s .ret a w := ⟨rfl, ρ, hE, hH, Eff.refl _ _ _ _⟩
    cases c' <;> simp only [cC, Option.bind_eq_some_iff, Option.map_eq_some_iff, reduceCtorEq, and_false, exists_false, Option.some.injEq, XC.exit.injEq] at hc
    case ret => exact wp_ret hq
    case region id ops d =>
      exfalso
      cases d with
      | true => obtain ⟨_, _, h, _⟩ := cRegion_draw hc; cases h
      | false => obtain ⟨_, h, _⟩ := cRegion_seq hc; cases h
  | @seqN x y s s1 e s2 h1 h2 ih1 ih2 =>
    refine ⟨fun sz c' hc ρ a w hE hH hf hwf => ?_, fun b hb => by cases hb⟩
    cases c' <;> simp only [cC, Option.bind_eq_some_iff, Option.map_eq_some_iff, reduceCtorEq, and_false, exists_false, Option.some.injEq, XC.exit.injEq] at hc
    case region id ops d =>
      exfalso
      cases d with
      | true => obtain ⟨_, _, h, _⟩ := cRegion_draw hc; cases h
      | false => obtain ⟨_, h, _⟩ := cRegion_seq hc; cases h
    case seq x' y' =>
      obtain ⟨x0, hx, y0, hy, h0⟩ := hc
      cases h0
      refine wp_seq (Code.wp_mono ?_ (ih1.1 sz x' hx ρ a w hE hH (fun b hb1 hb2 => hf b hb1 (Nat.lt_of_lt_of_le hb2 h2.wf.1)) hwf))
      rintro e1 a1 w1 ⟨rfl, ρ1, hE1, hH1, hF1⟩
      exact Code.wp_mono (cpost_mono hF1 h1.wf.1 h2.wf.1) (ih2.1 sz y' hy ρ1 a1 w1 hE1 hH1 (fresh_of hF1 h1.wf.1 hf) (h1.wf.2 hwf))
  | @seqX x y s e s1 h1 hne ih =>
    refine ⟨fun sz c' hc ρ a w hE hH hf hwf => ?_, fun b hb => by cases hb⟩
    cases c' <;> simp only [cC, Option.bind_eq_some_iff, Option.map_eq_some_iff, reduceCtorEq, and_false, exists_false, Option.some.injEq, XC.exit.injEq] at hc
    case region id ops d =>
      exfalso
      cases d with
      | true => obtain ⟨_, _, h, _⟩ := cRegion_draw hc; cases h
      | false => obtain ⟨_, h, _⟩ := cRegion_seq hc; cases h
    case seq x' y' =>
      obtain ⟨x0, hx, y0, hy, h0⟩ := hc
      cases h0
      refine wp_seq (Code.wp_mono ?_ (ih.1 sz x' hx ρ a w hE hH hf hwf))
      rintro e1 a1 w1 hq
      have he := hq.1
      subst he
      cases e1 <;> first | exact absurd rfl hne | exact hq
  | @cond c x y s e s1 t hc h1 ih =>
    refine ⟨fun sz c' hcc ρ a w hE hH hf hwf => ?_, fun b hb => by cases hb⟩
    cases c' <;> simp only [cC, Option.bind_eq_some_iff, Option.map_eq_some_iff, reduceCtorEq, and_false, exists_false, Option.some.injEq] at hcc
    case region id ops d =>
      exfalso
      cases d with
      | true => obtain ⟨_, _, h, _⟩ := cRegion_draw hcc; cases h
      | false => obtain ⟨_, h, _⟩ := cRegion_seq hcc; cases h
    case cond c0 x' y' =>
      obtain ⟨c1, hc1, x0, hx, y0, hy, h0⟩ := hcc
      cases h0
      have hv := cO_VR (ρ := ρ) (a := a) hc1 (e := s.env) fun t _ => hE.2.2 t
      rw [hc] at hv
      refine wp_cond hv.bool_inv ?_
      cases t with
      | true => exact ih.1 sz x' hx ρ a w hE hH hf hwf
      | false => exact ih.1 sz y' hy ρ a w hE hH hf hwf
  | @block id b s e s1 h1 ih =>
    refine ⟨fun sz c' hc ρ a w hE hH hf hwf => ?_, fun b hb => by cases hb⟩
    cases c' <;> simp only [cC, Option.bind_eq_some_iff, Option.map_eq_some_iff, reduceCtorEq, and_false, exists_false, Option.some.injEq, XC.exit.injEq] at hc
    case region id ops d =>
      exfalso
      cases d with
      | true => obtain ⟨_, _, h, _⟩ := cRegion_draw hc; cases h
      | false => obtain ⟨_, h, _⟩ := cRegion_seq hc; cases h
    case block id' b' =>
      obtain ⟨b0, hb, h0⟩ := hc
      cases h0
      refine wp_block (Code.wp_mono ?_ (ih.1 sz b' hb ρ a w hE hH hf hwf))
      rintro e1 a1 w1 ⟨rfl, hq⟩
      cases e1 with
      | exit j =>
        simp only [Exit.inBlock, catchX]
        by_cases hj : j = id
        · rw [if_pos hj, if_pos hj]; exact ⟨rfl, hq⟩
        · rw [if_neg hj, if_neg hj]; exact ⟨rfl, hq⟩
      | _ => exact ⟨rfl, hq⟩
  | @loopN b s s1 e s2 h1 h2 ih1 ih2 =>
    have main : ∃ n, ∀ sz b', cC P sz b' = some b → CodeGood P s e s2 (fun Q => Code.rounds P b' Q n) sz := by
      obtain ⟨n, hn⟩ := ih2.2 b rfl
      refine ⟨n + 1, fun sz b' hb ρ a w hE hH hf hwf => ?_⟩
      change b'.wp P (Exit.then (Code.rounds P b' (CPost e ρ w sz s s2) n) (CPost e ρ w sz s s2)) a w
      refine Code.wp_mono ?_ (ih1.1 sz b' hb ρ a w hE hH (fun b hb1 hb2 => hf b hb1 (Nat.lt_of_lt_of_le hb2 h2.wf.1)) hwf)
      rintro e1 a1 w1 ⟨rfl, ρ1, hE1, hH1, hF1⟩
      exact rounds_mono (cpost_mono hF1 h1.wf.1 h2.wf.1) n a1 w1 (hn sz b' hb ρ1 a1 w1 hE1 hH1 (fresh_of hF1 h1.wf.1 hf) (h1.wf.2 hwf))
    refine ⟨fun sz c' hc ρ a w hE hH hf hwf => ?_, fun b' hb => by cases hb; exact main⟩
    cases c' <;> simp only [cC, Option.bind_eq_some_iff, Option.map_eq_some_iff, reduceCtorEq, and_false, exists_false, Option.some.injEq, XC.exit.injEq] at hc
    case region id ops d =>
      exfalso
      cases d with
      | true => obtain ⟨_, _, h, _⟩ := cRegion_draw hc; cases h
      | false => obtain ⟨_, h, _⟩ := cRegion_seq hc; cases h
    case loop b' =>
      obtain ⟨b0, hb, h0⟩ := hc
      cases h0
      obtain ⟨n, hn⟩ := main
      exact wp_loop_rounds n (hn sz b' hb ρ a w hE hH hf hwf)
  | @loopX b s e s1 h1 hne ih =>
    have main : ∃ n, ∀ sz b', cC P sz b' = some b → CodeGood P s e s1 (fun Q => Code.rounds P b' Q n) sz := by
      refine ⟨1, fun sz b' hb ρ a w hE hH hf hwf => ?_⟩
      change b'.wp P (Exit.then (Code.rounds P b' (CPost e ρ w sz s s1) 0) (CPost e ρ w sz s s1)) a w
      refine Code.wp_mono ?_ (ih.1 sz b' hb ρ a w hE hH hf hwf)
      rintro e1 a1 w1 hq
      have he := hq.1
      subst he
      cases e1 <;> first | exact absurd rfl hne | exact hq
    refine ⟨fun sz c' hc ρ a w hE hH hf hwf => ?_, fun b' hb => by cases hb; exact main⟩
    cases c' <;> simp only [cC, Option.bind_eq_some_iff, Option.map_eq_some_iff, reduceCtorEq, and_false, exists_false, Option.some.injEq, XC.exit.injEq] at hc
    case region id ops d =>
      exfalso
      cases d with
      | true => obtain ⟨_, _, h, _⟩ := cRegion_draw hc; cases h
      | false => obtain ⟨_, h, _⟩ := cRegion_seq hc; cases h
    case loop b' =>
      obtain ⟨b0, hb, h0⟩ := hc
      cases h0
      obtain ⟨n, hn⟩ := main
      exact wp_loop_rounds n (hn sz b' hb ρ a w hE hH hf hwf)
  | @region held xs s σ h0 hs hheld ih =>
    refine ⟨fun sz c' hc ρ a w hE hH hf hwf => ?_, fun b hb => by cases hb⟩
    subst h0
    cases c' <;> simp only [cC, Option.bind_eq_some_iff, Option.map_eq_some_iff, reduceCtorEq, and_false, exists_false, Option.some.injEq, XC.exit.injEq] at hc
    case region id ops d =>
      have reg : ∀ (h1 : xs.length = ops.size), (∀ (i : Nat) (o' : Oper), ops[i]? = some o' → ∃ o : XOper, xs[i]? = some o ∧ cOp P sz ops o' = some { o with chk := false }) → Reg P (compiled P) sz ops xs σ :=
        fun h1 h2 => ⟨h1, h2, hs, fun i o ho => ih i o ho, hwf⟩
      cases d with
      | false =>
        obtain ⟨ys, h1, h2, h3⟩ := cRegion_seq hc
        cases h1
        have := region_seq (reg h2 h3) (id := id) hE hH (by rw [← h2]; exact hf)
        rw [h2]; exact this
      | true =>
        obtain ⟨hd, ys, h1, h2, D, h3, h4⟩ := cRegion_draw hc
        cases h1
        have hK : HeldOk xs σ := by
          cases held with
          | true => exact hheld rfl
          | false => exact ⟨fun _ => False, fun _ h => h.elim, fun i o ho hch => by rw [h3 rfl o (List.mem_of_getElem? ho)] at hch; cases hch⟩
        have := region_draw D (reg h2 h4) hK hm (id := id) hE hH (by rw [← h2]; exact hf)
        rw [h2]; exact this
  | opSkip hu => exact op_good_skip hu
  | opPure h1 h2 h3 => exact op_good_pure h1 h2 h3
  | opLoad h1 h2 => exact op_good_load h1 h2
  | opMake h1 h2 => exact op_good_make h1 h2
  | opEff h1 h2 => exact op_good_eff h1 h2
  | opCall h1 h2 h3 h4 ih => exact op_good_call h1 h2 h3 ih
  | @call f args v ε h xf e s' hF hev he hv ih =>
    unfold compiled at hF
    simp only [Option.bind_eq_some_iff] at hF
    obtain ⟨fn, hfn, hxf⟩ := hF
    refine ⟨⟨fn, xf, hfn, hxf⟩, fun ρ w args' hargs hH hfr hwf => ?_⟩
    have hxf0 := hxf
    unfold cF at hxf
    split at hxf
    · cases hxf
    · simp only [Option.bind_eq_some_iff, Option.map_eq_some_iff] at hxf
      obtain ⟨c, hc, b, hb, r, hr, rfl⟩ := hxf
      refine calls_of_wp hfn hc ?_
      have hE0 : EnvR ρ (argEnv args) { tmps := args'.toArray ++ Array.replicate (fn.ntmps - args'.toArray.size) undef, defers := [] } fn.ntmps := by
        refine ⟨by simp; omega, rfl, fun t => ?_⟩
        have e1 : (args'.toArray ++ Array.replicate (fn.ntmps - args'.toArray.size) undef).getD t undef = (args'[t]?).getD undef := by
          rw [Array.getD_eq_getD_getElem?, Array.getElem?_append]
          by_cases ht : t < args'.length
          · simp [ht]
          · simp only [List.size_toArray, ht, if_false]
            rw [Array.getElem?_replicate, List.getElem?_eq_none (by omega)]
            split <;> rfl
        simp only [e1, argEnv]
        by_cases ht : t < args.length
        · have h1 : args[t]? = some args[t] := by simp [ht]
          obtain ⟨u, h2, h3⟩ := hargs.get h1
          rw [h1, h2]; exact h3
        · rw [List.getElem?_eq_none (by omega), List.getElem?_eq_none (by have := hargs.1; omega)]
          exact VR.undef ρ
      refine Code.wp_mono ?_ (ih.1 fn.ntmps c hb ρ _ w hE0 hH hfr hwf)
      rintro e1 a1 w1 ⟨rfl, ρ1, hE1, hH1, hF1⟩
      obtain ⟨v', hv1, hv2⟩ := resV_run (P := P) (xf := ⟨fn.ntmps, b, r⟩) hr hv hE1.2.2 hH1
      rcases he with rfl | rfl
      · exact ⟨hE1.2.1, v', hv2, v', ρ1, rfl, hv1, hH1, hF1⟩
      · exact ⟨hE1.2.1, v', hv2, v', ρ1, rfl, hv1, hH1, hF1⟩

/-- A call's abstract run is a call of the model. -/
theorem call_sound (hm : P.follows .mixedOrders = true) {f : FuncId} {args : List Value} {v : Value} {ε : Env} {h h' : Hp} (hev : Ev (compiled P) (.call f args v) ⟨ε, h⟩ .normal ⟨ε, h'⟩) :
    CallGood P f args v h h' := sound hm hev

end
end XM

/- Weakest preconditions of the abstract machine: what the proofs walk with. -/
namespace XM
open Go

section
variable (F : FuncId → Option XFunc)

/-- A call that comes to an answer with R. -/
def CallW (f : FuncId) (args : List Value) (h : Hp) (R : Value → Hp → Prop) : Prop :=
  ∃ v h', (∀ ε, Ev F (.call f args v) ⟨ε, h⟩ .normal ⟨ε, h'⟩) ∧ R v h'

def LoopW (b : XC) (Q : Exit → St → Prop) (s : St) : Prop := ∃ e s', Ev F (.code (.loop b)) s e s' ∧ Q e s'

def CallV (fv : Value) (args : List Value) (h : Hp) (R : Value → Hp → Prop) : Prop :=
  match fv with
  | .func (.func g) first caps => CallW F g (first.toList ++ args ++ caps.toList) h R
  | _ => False

def WK (k : XK) (d : Option Nat) (Q : St → Prop) (s : St) : Prop :=
  match k with
  | .p p => ∃ v, p.ev s.env = some v ∧ Q ⟨put s.env d v, s.h⟩
  | .load sz g x => ∃ v, (XK.load sz g x).ld s.env s.h = some v ∧ Q ⟨put s.env d v, s.h⟩
  | .box e w x => ∃ bv : Blk × Value, (XK.box e w x).mk s.env s.h.nx = some bv ∧ Q ⟨put s.env d bv.2, s.h.new bv.1⟩
  | .mkrow e w l z ps => ∃ bv : Blk × Value, (XK.mkrow e w l z ps).mk s.env s.h.nx = some bv ∧ Q ⟨put s.env d bv.2, s.h.new bv.1⟩
  | .make e w b z n => ∃ bv : Blk × Value, (XK.make e w b z n).mk s.env s.h.nx = some bv ∧ Q ⟨put s.env d bv.2, s.h.new bv.1⟩
  | .store sz x v => ∃ vh : Value × Hp, (XK.store sz x v).eff s.env s.h = some vh ∧ Q ⟨put s.env d vh.1, vh.2⟩
  | .append e w b t x => ∃ vh : Value × Hp, (XK.append e w b t x).eff s.env s.h = some vh ∧ Q ⟨put s.env d vh.1, vh.2⟩
  | .copy e w t x => ∃ vh : Value × Hp, (XK.copy e w t x).eff s.env s.h = some vh ∧ Q ⟨put s.env d vh.1, vh.2⟩
  | .call f args => CallV F (f.ev s.env) (args.map (·.ev s.env)) s.h fun v h' => Q ⟨put s.env d v, h'⟩

def WOp (o : XOper) (Q : St → Prop) (s : St) : Prop :=
  match o.guard with
  | none => WK F o.k o.dst Q s
  | some (g, b) => ∃ t : Bool, s.env g = .bool t ∧ if t = b then WK F o.k o.dst Q s else Q ⟨put s.env o.dst undef, s.h⟩

def WOps : List XOper → (St → Prop) → St → Prop
  | [], Q, s => Q s
  | o :: r, Q, s => WOp F o (fun s' => WOps r Q s') s

/-- As WOps, where the blocks of Kp stand still. -/
def WOpsK (Kp : Nat → Prop) : List XOper → (St → Prop) → St → Prop
  | [], Q, s => Q s
  | o :: r, Q, s => (o.chk = true → ∀ b, wanted s.env o.guard → ldBlock s.env o.k = some b → Kp b) ∧
      WOp F o (fun s' => (o.chk = true → o.k.isEff = true → ∀ b, Kp b → s'.h.bk b = s.h.bk b) ∧ WOpsK Kp r Q s') s

def thenW (K : St → Prop) (Q : Exit → St → Prop) : Exit → St → Prop
  | .normal, s => K s
  | e, s => Q e s

def W : XC → (Exit → St → Prop) → St → Prop
  | .skip, Q, s => Q .normal s
  | .region false ops, Q, s => WOps F ops (Q .normal) s
  | .region true ops, Q, s => ∃ Kp : Nat → Prop, (∀ b, Kp b → b < s.h.nx) ∧ WOpsK F Kp ops (Q .normal) s
  | .seq a b, Q, s => W a (thenW (W b Q) Q) s
  | .cond c a b, Q, s => ∃ t : Bool, c.ev s.env = .bool t ∧ if t = true then W a Q s else W b Q s
  | .block id b, Q, s => W b (fun e s' => Q (catchX id e) s') s
  | .loop b, Q, s => LoopW F b Q s
  | .exit id, Q, s => Q (.exit id) s
  | .ret, Q, s => Q .ret s
end

section
variable {F : FuncId → Option XFunc}

theorem CallW.mono {f : FuncId} {args : List Value} {h : Hp} {R R' : Value → Hp → Prop} (hc : CallW F f args h R) (hr : ∀ v h', R v h' → R' v h') : CallW F f args h R' := by
  obtain ⟨v, h', h1, h2⟩ := hc
  exact ⟨v, h', h1, hr v h' h2⟩

theorem WK_ev {k : XK} {d : Option Nat} {g : Option (Nat × Bool)} {c : Bool} {Q : St → Prop} {s : St} (hw : wanted s.env g) (h : WK F k d Q s) : ∃ s', Ev F (.op ⟨d, k, g, c⟩) s .normal s' ∧ Q s' := by
  cases k with
  | p p => obtain ⟨v, h1, h2⟩ := h; exact ⟨_, .opPure (o := ⟨d, _, g, c⟩) hw rfl h1, h2⟩
  | load sz gg x => obtain ⟨v, h1, h2⟩ := h; exact ⟨_, .opLoad (o := ⟨d, _, g, c⟩) hw h1, h2⟩
  | box e w x => obtain ⟨⟨b, v⟩, h1, h2⟩ := h; exact ⟨_, .opMake (o := ⟨d, _, g, c⟩) hw h1, h2⟩
  | mkrow e w l z ps => obtain ⟨⟨b, v⟩, h1, h2⟩ := h; exact ⟨_, .opMake (o := ⟨d, _, g, c⟩) hw h1, h2⟩
  | make e w b z n => obtain ⟨⟨b, v⟩, h1, h2⟩ := h; exact ⟨_, .opMake (o := ⟨d, _, g, c⟩) hw h1, h2⟩
  | store sz x v => obtain ⟨⟨b, v⟩, h1, h2⟩ := h; exact ⟨_, .opEff (o := ⟨d, _, g, c⟩) hw h1, h2⟩
  | append e w b t x => obtain ⟨⟨b, v⟩, h1, h2⟩ := h; exact ⟨_, .opEff (o := ⟨d, _, g, c⟩) hw h1, h2⟩
  | copy e w t x => obtain ⟨⟨b, v⟩, h1, h2⟩ := h; exact ⟨_, .opEff (o := ⟨d, _, g, c⟩) hw h1, h2⟩
  | call f args =>
    simp only [WK, CallV] at h
    split at h
    · rename_i gg first caps hf
      obtain ⟨v, h', h1, h2⟩ := h
      exact ⟨_, .opCall (o := ⟨d, _, g, c⟩) hw rfl hf (h1 s.env), h2⟩
    · exact h.elim

theorem WOp_ev {o : XOper} {Q : St → Prop} {s : St} (h : WOp F o Q s) : ∃ s', Ev F (.op o) s .normal s' ∧ Q s' := by
  obtain ⟨d, k, g, c⟩ := o
  unfold WOp at h
  cases g with
  | none => exact WK_ev (by exact trivial) h
  | some gb =>
    obtain ⟨g, b⟩ := gb
    simp only at h
    obtain ⟨t, ht, h⟩ := h
    split at h
    · rename_i htb; subst htb; exact WK_ev ht h
    · rename_i htb
      refine ⟨_, .opSkip (o := ⟨d, k, some (g, b), c⟩) ?_, h⟩
      simp only [unwanted, ht]
      cases t <;> cases b <;> simp_all

/-- The states of a region, one after the other. -/
def trace (s : St) (r : Nat → St) : Nat → St
  | 0 => s
  | n + 1 => r n

theorem WOps_ev {Q : St → Prop} : ∀ {ops : List XOper} {s : St}, WOps F ops Q s → ∃ σ : Nat → St, σ 0 = s ∧ (∀ (i : Nat) (o : XOper), ops[i]? = some o → Ev F (.op o) (σ i) .normal (σ (i + 1))) ∧ Q (σ ops.length)
  | [], s, h => ⟨fun _ => s, rfl, by simp, h⟩
  | o :: r, s, h => by
    obtain ⟨s1, h1, h2⟩ := WOp_ev h
    obtain ⟨σ, hs, hσ, hq⟩ := WOps_ev h2
    refine ⟨trace s σ, rfl, fun i x hi => ?_, hq⟩
    cases i with
    | zero => simp at hi; subst hi; simp only [trace]; rw [hs]; exact h1
    | succ i => exact hσ i x (by simpa using hi)

theorem WOpsK_ev {Kp : Nat → Prop} {Q : St → Prop} : ∀ {ops : List XOper} {s : St}, WOpsK F Kp ops Q s → ∃ σ : Nat → St, σ 0 = s ∧ (∀ (i : Nat) (o : XOper), ops[i]? = some o → Ev F (.op o) (σ i) .normal (σ (i + 1))) ∧
    (∀ (i : Nat) (o : XOper), ops[i]? = some o → o.chk = true →
      (o.k.isEff = true → ∀ b, Kp b → (σ (i + 1)).h.bk b = (σ i).h.bk b) ∧ (∀ b, wanted (σ i).env o.guard → ldBlock (σ i).env o.k = some b → Kp b)) ∧ Q (σ ops.length)
  | [], s, h => ⟨fun _ => s, rfl, by simp, by simp, h⟩
  | o :: r, s, h => by
    obtain ⟨h0, h⟩ := h
    obtain ⟨s1, h1, h3, h2⟩ := WOp_ev h
    obtain ⟨σ, hs, hσ, hk, hq⟩ := WOpsK_ev h2
    refine ⟨trace s σ, rfl, fun i x hi => ?_, fun i x hi hc => ?_, hq⟩
    · cases i with
      | zero => simp at hi; subst hi; simp only [trace]; rw [hs]; exact h1
      | succ i => exact hσ i x (by simpa using hi)
    · cases i with
      | zero => simp at hi; subst hi; simp only [trace]; rw [hs]; exact ⟨h3 hc, h0 hc⟩
      | succ i => exact hk i x (by simpa using hi) hc

theorem W_ev {c : XC} : ∀ {Q : Exit → St → Prop} {s : St}, W F c Q s → ∃ e s', Ev F (.code c) s e s' ∧ Q e s' := by
  induction c with
  | skip => intro Q s h; exact ⟨_, _, .skip, h⟩
  | region held ops =>
    intro Q s h
    cases held with
    | false =>
      obtain ⟨σ, h0, hσ, hq⟩ := WOps_ev h
      exact ⟨_, _, .region σ h0 hσ (fun hh => by cases hh), hq⟩
    | true =>
      obtain ⟨Kp, hKp, h⟩ := h
      obtain ⟨σ, h0, hσ, hk, hq⟩ := WOpsK_ev h
      exact ⟨_, _, .region σ h0 hσ (fun _ => ⟨Kp, by rw [h0]; exact hKp, hk⟩), hq⟩
  | seq a b iha ihb =>
    intro Q s h
    obtain ⟨e, s1, h1, h2⟩ := iha h
    cases e with
    | normal =>
      obtain ⟨e2, s2, h3, h4⟩ := ihb h2
      exact ⟨e2, s2, .seqN h1 h3, h4⟩
    | _ => exact ⟨_, s1, .seqX h1 (by simp), h2⟩
  | cond c a b iha ihb =>
    intro Q s h
    obtain ⟨t, ht, h⟩ := h
    cases t with
    | true => obtain ⟨e, s1, h1, h2⟩ := iha h; exact ⟨e, s1, .cond ht h1, h2⟩
    | false => obtain ⟨e, s1, h1, h2⟩ := ihb h; exact ⟨e, s1, .cond ht h1, h2⟩
  | block id b ih =>
    intro Q s h
    obtain ⟨e, s1, h1, h2⟩ := ih h
    exact ⟨_, s1, .block h1, h2⟩
  | loop b ih => intro Q s h; exact h
  | exit id => intro Q s h; exact ⟨_, _, .exit, h⟩
  | ret => intro Q s h; exact ⟨_, _, .ret, h⟩

/-- A loop, by what holds ahead of each round and a measure that falls. -/
theorem loopW {b : XC} {Q : Exit → St → Prop} {s : St} (I : St → Prop) (μ : St → Nat) (h0 : I s)
    (hr : ∀ s, I s → W F b (thenW (fun s' => I s' ∧ μ s' < μ s) Q) s) : LoopW F b Q s := by
  have key : ∀ n s, μ s = n → I s → LoopW F b Q s := by
    intro n
    induction n using Nat.strongRecOn with
    | _ n ih =>
      intro s hn hI
      obtain ⟨e, s1, h1, h2⟩ := W_ev (hr s hI)
      cases e with
      | normal =>
        obtain ⟨h3, h4⟩ := h2
        obtain ⟨e2, s2, h5, h6⟩ := ih (μ s1) (by omega) s1 rfl h3
        exact ⟨e2, s2, .loopN h1 h5, h6⟩
      | _ => exact ⟨_, s1, .loopX h1 (by simp), h2⟩
  exact key _ s rfl h0

/-- A loop whose rounds are counted by d. -/
theorem loopN {b : XC} {Q : Exit → St → Prop} (I : Nat → St → Prop)
    (hr : ∀ d s, I d s → W F b (thenW (fun s' => ∃ d', d' < d ∧ I d' s') Q) s) : ∀ d s, I d s → LoopW F b Q s := by
  intro d
  induction d using Nat.strongRecOn with
  | _ d ih =>
    intro s hI
    obtain ⟨e, s1, h1, h2⟩ := W_ev (hr d s hI)
    cases e with
    | normal =>
      obtain ⟨d', h3, h4⟩ := h2
      obtain ⟨e2, s2, h5, h6⟩ := ih d' h3 s1 h4
      exact ⟨e2, s2, .loopN h1 h5, h6⟩
    | _ => exact ⟨_, s1, .loopX h1 (by simp), h2⟩

/-- A function: its body, from its arguments to its answer. -/
theorem callW_of {f : FuncId} {args : List Value} {h : Hp} {R : Value → Hp → Prop} {xf : XFunc} (hf : F f = some xf)
    (hw : W F xf.body (fun e s => (e = .normal ∨ e = .ret) ∧ ∃ v, resV s.env s.h xf.res = some v ∧ R v s.h) ⟨argEnv args, h⟩) : CallW F f args h R := by
  obtain ⟨e, s, h1, he, v, hv, hR⟩ := W_ev hw
  exact ⟨v, s.h, fun ε => .call hf h1 he hv, hR⟩

theorem W_mono_loop {b : XC} {Q Q' : Exit → St → Prop} {s : St} (h : LoopW F b Q s) (hq : ∀ e s, Q e s → Q' e s) : LoopW F b Q' s := by
  obtain ⟨e, s', h1, h2⟩ := h; exact ⟨e, s', h1, hq e s' h2⟩

end
end XM

/- Rules by which simp walks through code of the abstract machine. -/
namespace XM
open Go

@[simp] theorem put_app (e : Env) (d : Nat) (v : Value) (t : Nat) : put e (some d) v t = if t = d then v else e t := rfl
@[simp] theorem put_none (e : Env) (v : Value) : put e none v = e := rfl
@[simp] theorem argEnv_zero (x : Value) (l : List Value) : argEnv (x :: l) 0 = x := rfl
@[simp] theorem argEnv_one (x y : Value) (l : List Value) : argEnv (x :: y :: l) 1 = y := rfl
@[simp] theorem argEnv_two (x y z : Value) (l : List Value) : argEnv (x :: y :: z :: l) 2 = z := rfl
@[simp] theorem argEnv_three (x y z u : Value) (l : List Value) : argEnv (x :: y :: z :: u :: l) 3 = u := rfl
@[simp] theorem argEnv_four (x y z u p : Value) (l : List Value) : argEnv (x :: y :: z :: u :: p :: l) 4 = p := rfl
@[simp] theorem argEnv_five (x y z u p q : Value) (l : List Value) : argEnv (x :: y :: z :: u :: p :: q :: l) 5 = q := rfl
@[simp] theorem argEnv_six (x y z u p q r : Value) (l : List Value) : argEnv (x :: y :: z :: u :: p :: q :: r :: l) 6 = r := rfl

@[simp] theorem new_bk (h : Hp) (x : Blk) (b : Nat) : (h.new x).bk b = if b = h.nx then some x else h.bk b := rfl
@[simp] theorem new_nx (h : Hp) (x : Blk) : (h.new x).nx = h.nx + 1 := rfl
@[simp] theorem set_bk (h : Hp) (c : Nat) (x : Option Blk) (b : Nat) : (h.set c x).bk b = if b = c then x else h.bk b := rfl
@[simp] theorem set_nx (h : Hp) (c : Nat) (x : Option Blk) : (h.set c x).nx = h.nx := rfl

@[simp] theorem ex_some {α : Type} {a : α} {p : α → Prop} : (∃ v, some a = some v ∧ p v) ↔ p a := by simp
@[simp] theorem ex_ite {α : Type} {c : Prop} [Decidable c] {a : α} {p : α → Prop} : (∃ v, (if c then some a else none) = some v ∧ p v) ↔ (c ∧ p a) := by
  by_cases h : c <;> simp [h]
@[simp] theorem ex_ite' {α : Type} {c : Prop} [Decidable c] {a : α} {p : α → Prop} : (∃ v, (if c then none else some a) = some v ∧ p v) ↔ (¬ c ∧ p a) := by
  by_cases h : c <;> simp [h]
@[simp] theorem ex_pair1 {β : Type} {c : Prop} {y : β} {q : β → Prop} : (∃ b, (c ∧ y = b) ∧ q b) ↔ (c ∧ q y) :=
  ⟨fun ⟨_, ⟨h1, h2⟩, h3⟩ => by subst h2; exact ⟨h1, h3⟩, fun h => ⟨_, ⟨h.1, rfl⟩, h.2⟩⟩
@[simp] theorem ex_bool {a : Bool} {p : Bool → Prop} : (∃ t : Bool, Value.bool a = Value.bool t ∧ p t) ↔ p a := by simp

/-- What holds of the value, if there is one. simp works on the value first, and goes on behind it once it is there. -/
def bindO {α : Type} (o : Option α) (K : α → Prop) : Prop :=
  match o with
  | some v => K v
  | none => False
@[congr] theorem bindO_congr {α : Type} {o o' : Option α} {K : α → Prop} (h : o = o') : bindO o K = bindO o' K := by rw [h]
@[simp ↓] theorem bindO_some {α : Type} (v : α) (K : α → Prop) : bindO (some v) K = K v := propext Iff.rfl
@[simp ↓] theorem bindO_ite {α : Type} (c : Prop) [Decidable c] (v : α) (K : α → Prop) : bindO (if c then some v else none) K = (c ∧ K v) := by by_cases h : c <;> simp [h, bindO]
@[simp ↓] theorem bindO_ite' {α : Type} (c : Prop) [Decidable c] (v : α) (K : α → Prop) : bindO (if c then none else some v) K = (¬ c ∧ K v) := by by_cases h : c <;> simp [h, bindO]
theorem ex_bindO {α : Type} {o : Option α} {K : α → Prop} : (∃ v, o = some v ∧ K v) = bindO o K := by cases o <;> simp [bindO]
/-- Two ways, by a bool. -/
def condV (v : Value) (A B : Prop) : Prop := ∃ t : Bool, v = .bool t ∧ if t = true then A else B
@[congr] theorem condV_congr {v v' : Value} {A B : Prop} (h : v = v') : condV v A B = condV v' A B := by rw [h]
@[simp ↓] theorem condV_true (A B : Prop) : condV (.bool true) A B = A := by simp [condV]
@[simp ↓] theorem condV_false (A B : Prop) : condV (.bool false) A B = B := by simp [condV]
@[simp ↓] theorem condV_dec (c : Prop) [Decidable c] (A B : Prop) : condV (.bool (decide c)) A B = if c then A else B := by by_cases h : c <;> simp [condV, h]
@[simp ↓] theorem condV_not (t : Bool) (A B : Prop) : condV (.bool (!t)) A B = condV (.bool t) B A := by cases t <;> simp [condV]
theorem condV_split {t : Bool} {A B : Prop} (h1 : t = true → A) (h2 : t = false → B) : condV (.bool t) A B := by cases t <;> simp_all [condV]

section
variable {F : FuncId → Option XFunc}
@[simp ↓] theorem W_skip (Q : Exit → St → Prop) (s : St) : W F .skip Q s = Q .normal s := rfl
@[simp ↓] theorem W_region (ops : List XOper) (Q : Exit → St → Prop) (s : St) : W F (.region false ops) Q s = WOps F ops (Q .normal) s := rfl
@[simp ↓] theorem W_seq (a b : XC) (Q : Exit → St → Prop) (s : St) : W F (.seq a b) Q s = W F a (thenW (W F b Q) Q) s := rfl
@[simp ↓] theorem W_cond (c : XO) (a b : XC) (Q : Exit → St → Prop) (s : St) : W F (.cond c a b) Q s = condV (c.ev s.env) (W F a Q s) (W F b Q s) := rfl
@[simp ↓] theorem W_block (id : Nat) (b : XC) (Q : Exit → St → Prop) (s : St) : W F (.block id b) Q s = W F b (fun e s' => Q (catchX id e) s') s := rfl
@[simp ↓] theorem W_loop (b : XC) (Q : Exit → St → Prop) (s : St) : W F (.loop b) Q s = LoopW F b Q s := rfl
@[simp ↓] theorem W_exit (id : Nat) (Q : Exit → St → Prop) (s : St) : W F (.exit id) Q s = Q (.exit id) s := rfl
@[simp ↓] theorem W_ret (Q : Exit → St → Prop) (s : St) : W F .ret Q s = Q .ret s := rfl
@[simp ↓] theorem WOps_nil (Q : St → Prop) (s : St) : WOps F [] Q s = Q s := rfl
@[simp ↓] theorem WOps_cons (d : Option Nat) (k : XK) (c : Bool) (r : List XOper) (Q : St → Prop) (s : St) : WOps F (⟨d, k, none, c⟩ :: r) Q s = WK F k d (fun s' => WOps F r Q s') s := rfl
@[simp ↓] theorem WOps_consg (d : Option Nat) (k : XK) (g : Nat) (b c : Bool) (r : List XOper) (Q : St → Prop) (s : St) :
    WOps F (⟨d, k, some (g, b), c⟩ :: r) Q s = condV (s.env g) (if b then WK F k d (fun s' => WOps F r Q s') s else WOps F r Q ⟨put s.env d undef, s.h⟩) (if b then WOps F r Q ⟨put s.env d undef, s.h⟩ else WK F k d (fun s' => WOps F r Q s') s) := by
  simp only [WOps, WOp, condV, eq_iff_iff]
  constructor <;> rintro ⟨t, h1, h2⟩ <;> refine ⟨t, h1, ?_⟩ <;> cases t <;> cases b <;> simpa using h2
@[simp ↓] theorem thenW_normal (K : St → Prop) (Q : Exit → St → Prop) (s : St) : thenW K Q .normal s = K s := rfl
@[simp ↓] theorem thenW_exit (K : St → Prop) (Q : Exit → St → Prop) (s : St) (i : Nat) : thenW K Q (.exit i) s = Q (.exit i) s := rfl
@[simp ↓] theorem thenW_ret (K : St → Prop) (Q : Exit → St → Prop) (s : St) : thenW K Q .ret s = Q .ret s := rfl
@[simp] theorem catchX_exit (i j : Nat) : catchX i (.exit j) = if j = i then .normal else .exit j := rfl
@[simp] theorem catchX_normal (i : Nat) : catchX i .normal = .normal := rfl
@[simp] theorem catchX_ret (i : Nat) : catchX i .ret = .ret := rfl

@[simp ↓] theorem WK_p (p : XP) (d : Option Nat) (Q : St → Prop) (s : St) : WK F (.p p) d Q s = bindO (p.ev s.env) fun v => Q ⟨put s.env d v, s.h⟩ := ex_bindO
/-- What stands at an address: sz cells. -/
def ldV (sz : Nat) (agg : Bool) (h : Hp) : Value → Option Value
  | .pointer (some a) => (h.bk a.block).bind fun b =>
      if a.off + sz ≤ b.cells.length then (if agg then some (.agg ((b.cells.drop a.off).take sz).toArray) else b.cells[a.off]?) else none
  | _ => none
@[simp ↓] theorem WK_load (sz : Nat) (g : Bool) (x : XO) (d : Option Nat) (Q : St → Prop) (s : St) : WK F (.load sz g x) d Q s = bindO (ldV sz g s.h (x.ev s.env)) fun v => Q ⟨put s.env d v, s.h⟩ := by
  rw [← ex_bindO]; unfold WK XK.ld ldV; rfl
@[simp ↓] theorem WK_box (e : TypeId) (w : Nat) (x : XO) (d : Option Nat) (Q : St → Prop) (s : St) : WK F (.box e w x) d Q s =
    (((x.ev s.env).cells.toList.length = w ∧ (x.ev s.env).cells.toList.all one = true) ∧ Q ⟨put s.env d (.pointer (some ⟨s.h.nx, 0, none⟩)), s.h.new ⟨(x.ev s.env).cells.toList, e, true⟩⟩) := by
  unfold WK XK.mk; simp only; rw [eq_iff_iff, ex_ite]
def makeV (e : TypeId) (w : Nat) (zero : List Value) (h : Hp) : Value → Option (Value × Hp)
  | .int _ i => if 0 ≤ i ∧ i ≤ sizeMax then some (.slice (some ⟨h.nx, 0, none⟩) i.toNat w, h.new ⟨reps i.toNat zero, e, true⟩) else none
  | _ => none
@[simp ↓] theorem WK_make (e : TypeId) (w by_ : Nat) (z : List Value) (n : XO) (d : Option Nat) (Q : St → Prop) (s : St) : WK F (.make e w by_ z n) d Q s =
    bindO (makeV e w z s.h (n.ev s.env)) fun vh => Q ⟨put s.env d vh.1, vh.2⟩ := by
  rw [← ex_bindO]; unfold WK XK.mk makeV; simp only
  generalize n.ev s.env = u
  cases u with
  | int k i =>
    simp only
    by_cases hc : 0 ≤ i ∧ i ≤ (sizeMax : Int)
    · simp only [if_pos hc, Option.some.injEq, eq_iff_iff]
      exact ⟨fun ⟨a, h1, h2⟩ => ⟨_, rfl, by rw [← h1] at h2; exact h2⟩, fun ⟨a, h1, h2⟩ => ⟨_, rfl, by rw [← h1] at h2; exact h2⟩⟩
    · simp [if_neg hc]
  | _ => simp
@[simp ↓] theorem WK_mkrow (e : TypeId) (w l : Nat) (z : List Value) (ps : List (Nat × XO)) (d : Option Nat) (Q : St → Prop) (s : St) : WK F (.mkrow e w l z ps) d Q s =
    bindO (rowFill w (reps l z) (ps.map fun q => (q.1, q.2.ev s.env))) fun cs => cs.all one = true ∧ Q ⟨put s.env d (.slice (some ⟨s.h.nx, 0, none⟩) l w), s.h.new ⟨cs, e, true⟩⟩ := by
  rw [← ex_bindO]; unfold WK XK.mk; simp only [Option.bind_eq_some_iff, eq_iff_iff]
  constructor
  · rintro ⟨bv, ⟨cs, h1, h2⟩, h3⟩
    split at h2
    · rename_i ho; cases h2; exact ⟨cs, h1, ho, h3⟩
    · cases h2
  · rintro ⟨cs, h1, ho, h3⟩
    exact ⟨_, ⟨cs, h1, by rw [if_pos ho]⟩, h3⟩
def storeV (sz : Nat) (h : Hp) (v : Value) : Value → Option Hp
  | .pointer (some a) => (h.bk a.block).bind fun b =>
      if v.cells.toList.length = sz ∧ v.cells.toList.all one ∧ a.off + sz ≤ b.cells.length ∧ b.rw then some (h.set a.block (some ⟨splice b.cells a.off v.cells.toList, b.elem, true⟩)) else none
  | _ => none
@[simp ↓] theorem WK_store (sz : Nat) (x v : XO) (d : Option Nat) (Q : St → Prop) (s : St) : WK F (.store sz x v) d Q s =
    bindO (storeV sz s.h (v.ev s.env) (x.ev s.env)) fun h' => Q ⟨put s.env d undef, h'⟩ := by
  rw [← ex_bindO]; unfold WK XK.eff storeV; simp only [eq_iff_iff]
  generalize x.ev s.env = u
  cases u <;> try simp
  rename_i A
  cases A <;> try simp
  rename_i ad
  cases hb : s.h.bk ad.block <;> try simp
  rename_i b
  by_cases hc : (v.ev s.env).cells.size = sz ∧ (∀ (i : Nat) (x : i < (v.ev s.env).cells.size), one (v.ev s.env).cells[i] = true) ∧ ad.off + sz ≤ b.cells.length ∧ b.rw = true
  · simp [hc]
  · simp [hc]
def appendV (elem : TypeId) (w : Nat) (h : Hp) (sv xv : Value) : Option (Value × Hp) :=
  XK.eff (fun t => if t = 0 then sv else xv) h (.append elem w 0 (.t 0) (.t 1))
@[simp ↓] theorem WK_append (e : TypeId) (w b : Nat) (t x : XO) (d : Option Nat) (Q : St → Prop) (s : St) : WK F (.append e w b t x) d Q s =
    bindO (appendV e w s.h (t.ev s.env) (x.ev s.env)) fun vh => Q ⟨put s.env d vh.1, vh.2⟩ := ex_bindO
def copyV (elem : TypeId) (w : Nat) (h : Hp) (dv sv : Value) : Option (Value × Hp) :=
  XK.eff (fun t => if t = 0 then dv else sv) h (.copy elem w (.t 0) (.t 1))
@[simp ↓] theorem WK_copy (e : TypeId) (w : Nat) (t x : XO) (d : Option Nat) (Q : St → Prop) (s : St) : WK F (.copy e w t x) d Q s =
    bindO (copyV e w s.h (t.ev s.env) (x.ev s.env)) fun vh => Q ⟨put s.env d vh.1, vh.2⟩ := ex_bindO
@[simp ↓] theorem WK_call (f : XO) (args : List XO) (d : Option Nat) (Q : St → Prop) (s : St) : WK F (.call f args) d Q s =
    CallV F (f.ev s.env) (args.map (·.ev s.env)) s.h fun v h' => Q ⟨put s.env d v, h'⟩ := rfl
@[simp ↓] theorem CallV_func (g : FuncId) (first caps : Array Value) (args : List Value) (h : Hp) (R : Value → Hp → Prop) :
    CallV F (.func (.func g) first caps) args h R = CallW F g (first.toList ++ args ++ caps.toList) h R := rfl
end

/-- simp leaves what follows a call alone. -/
@[congr] theorem CallW_congr {F : FuncId → Option XFunc} {f : FuncId} {a a' : List Value} {h h' : Hp} {R : Value → Hp → Prop} (ha : a = a') (hh : h = h') : CallW F f a h R = CallW F f a' h' R := by rw [ha, hh]
@[congr] theorem CallV_congr {F : FuncId → Option XFunc} {f f' : Value} {a a' : List Value} {h h' : Hp} {R : Value → Hp → Prop} (hf : f = f') (ha : a = a') (hh : h = h') : CallV F f a h R = CallV F f' a' h' R := by rw [hf, ha, hh]
@[congr] theorem LoopW_congr {F : FuncId → Option XFunc} {b : XC} {Q : Exit → St → Prop} {s s' : St} (hs : s = s') : LoopW F b Q s = LoopW F b Q s' := by rw [hs]

/-! operands -/
@[simp] theorem XO_t (e : Env) (n : Nat) : (XO.t n).ev e = e n := rfl
@[simp] theorem XO_c (e : Env) (v : Value) : (XO.c v).ev e = v := rfl
section
variable (e : Env) (x y z : XO)
@[simp] theorem ev_move : (XP.move x).ev e = some (x.ev e) := rfl
@[simp] theorem ev_pick : (XP.pick x y z).ev e = pickV (x.ev e) (y.ev e) (z.ev e) := rfl
@[simp] theorem ev_bin (op : BinOp) : (XP.bin op x y).ev e = binV op (x.ev e) (y.ev e) := rfl
@[simp] theorem ev_binB (n : Bool) : (XP.binB n x y).ev e = binBV n (x.ev e) (y.ev e) := rfl
@[simp] theorem ev_isNil (n : Bool) : (XP.isNil n x).ev e = isNilV n (x.ev e) := rfl
@[simp] theorem ev_un (op : UnOp) : (XP.un op x).ev e = unV op (x.ev e) := rfl
@[simp] theorem ev_conv (k : IntKind) : (XP.conv k x).ev e = convV k (x.ev e) := rfl
@[simp] theorem ev_field (o s : Nat) (g : Bool) : (XP.field o s g x).ev e = fieldV o s g (x.ev e) := rfl
@[simp] theorem ev_fieldAddr (o : Nat) : (XP.fieldAddr o x).ev e = fieldAddrV o (x.ev e) := rfl
@[simp] theorem ev_indexAddr (w : Nat) : (XP.indexAddr w x y).ev e = indexAddrV w (x.ev e) (y.ev e) := rfl
@[simp] theorem ev_indexStr : (XP.indexStr x y).ev e = indexStrV (x.ev e) (y.ev e) := rfl
@[simp] theorem ev_slice (w : Nat) (lo hi : Option XO) : (XP.slice w x lo hi).ev e = sliceV w (lo.map (·.ev e)) (hi.map (·.ev e)) (x.ev e) := rfl
@[simp] theorem ev_sliceStr (lo hi : Option XO) : (XP.sliceStr x lo hi).ev e = sliceStrV (lo.map (·.ev e)) (hi.map (·.ev e)) (x.ev e) := rfl
@[simp] theorem ev_len : (XP.len x).ev e = lenV (x.ev e) := rfl
@[simp] theorem ev_lenStr : (XP.lenStr x).ev e = lenStrV (x.ev e) := rfl
@[simp] theorem ev_mx : (XP.mx x y).ev e = mxV (x.ev e) (y.ev e) := rfl
@[simp] theorem ev_mn : (XP.mn x y).ev e = mnV (x.ev e) (y.ev e) := rfl
@[simp] theorem ev_extract (i : Nat) : (XP.extract x i).ev e = extractV i (x.ev e) := rfl
@[simp] theorem ev_mkfunc (f : FuncId) (a b : List XO) : (XP.mkfunc f a b).ev e = some (.func (.func f) (a.map (·.ev e)).toArray (b.map (·.ev e)).toArray) := rfl
@[simp] theorem ev_build (zs : List Value) (ps : List (Nat × Nat × XO)) : (XP.build zs ps).ev e = (fillX zs (ps.map fun q => (q.1, q.2.1, q.2.2.ev e))).map fun cs => .agg cs.toArray := rfl
@[simp] theorem ev_nilCheck : (XP.nilCheck x).ev e = nilCheckV (x.ev e) := rfl
end

/-! values -/
section
variable (k : IntKind) (a b : Int) (p q : Bool)
@[simp] theorem bin_add : binV .add (.int k a) (.int k b) = some (.int k (k.wrap (a + b))) := by simp [binV, isShift, binInt]
@[simp] theorem bin_sub : binV .sub (.int k a) (.int k b) = some (.int k (k.wrap (a - b))) := by simp [binV, isShift, binInt]
@[simp] theorem bin_mul : binV .mul (.int k a) (.int k b) = some (.int k (k.wrap (a * b))) := by simp [binV, isShift, binInt]
@[simp] theorem bin_quo : binV .quo (.int k a) (.int k b) = if b = 0 then none else some (.int k (k.wrap (a.tdiv b))) := by simp [binV, isShift, binInt]
@[simp] theorem bin_rem : binV .rem (.int k a) (.int k b) = if b = 0 then none else some (.int k (a.tmod b)) := by simp [binV, isShift, binInt]
@[simp] theorem bin_eql : binV .eql (.int k a) (.int k b) = some (.bool (decide (a = b))) := by simp [binV, isShift, binInt]; rfl
@[simp] theorem bin_neq : binV .neq (.int k a) (.int k b) = some (.bool (!decide (a = b))) := by simp [binV, isShift, binInt]; rfl
@[simp] theorem bin_lss : binV .lss (.int k a) (.int k b) = some (.bool (decide (a < b))) := by simp [binV, isShift, binInt]
@[simp] theorem bin_leq : binV .leq (.int k a) (.int k b) = some (.bool (decide (a ≤ b))) := by simp [binV, isShift, binInt]
@[simp] theorem bin_gtr : binV .gtr (.int k a) (.int k b) = some (.bool (decide (b < a))) := by simp [binV, isShift, binInt]
@[simp] theorem bin_geq : binV .geq (.int k a) (.int k b) = some (.bool (decide (b ≤ a))) := by simp [binV, isShift, binInt]
@[simp] theorem binB_eq : binBV false (.bool p) (.bool q) = some (.bool (p == q)) := rfl
@[simp] theorem binB_ne : binBV true (.bool p) (.bool q) = some (.bool (!(p == q))) := rfl
@[simp] theorem un_neg : unV .neg (.int k a) = some (.int k (k.wrap (0 - a))) := rfl
@[simp] theorem un_not : unV .not (.bool p) = some (.bool !p) := rfl
@[simp] theorem conv_int (j : IntKind) : convV j (.int k a) = some (.int j (j.wrap a)) := rfl
@[simp] theorem pick_bool (x y : Value) : pickV (.bool p) x y = some (if p = true then x else y) := rfl
@[simp] theorem mx_int : mxV (.int k a) (.int k b) = some (.int k (if b > a then b else a)) := rfl
@[simp] theorem mn_int : mnV (.int k a) (.int k b) = some (.int k (if b < a then b else a)) := rfl
@[simp] theorem len_slice (A : Option Addr) (n c : Nat) : lenV (.slice A n c) = some (.int .i64 n) := rfl
@[simp] theorem fieldAddr_ptr (bl o n : Nat) : fieldAddrV n (.pointer (some ⟨bl, o, none⟩)) = some (.pointer (some ⟨bl, o + n, none⟩)) := rfl
@[simp] theorem nilCheck_ptr (A : Addr) : nilCheckV (.pointer (some A)) = some (.pointer (some A)) := rfl
@[simp] theorem nilCheck_func (f : FuncId) (x y : Array Value) : nilCheckV (.func (.func f) x y) = some (.func (.func f) x y) := rfl
@[simp] theorem extract_0 (x : Value) (l : List Value) : extractV 0 (.tuple (x :: l).toArray) = some x := by simp [extractV]
@[simp] theorem extract_1 (x y : Value) (l : List Value) : extractV 1 (.tuple (x :: y :: l).toArray) = some y := by simp [extractV]
@[simp] theorem extract_2 (x y z : Value) (l : List Value) : extractV 2 (.tuple (x :: y :: z :: l).toArray) = some z := by simp [extractV]
@[simp] theorem isNil_none (n : Bool) (m c : Nat) : isNilV n (.slice none m c) = some (.bool (!n)) := rfl
@[simp] theorem isNil_some (n : Bool) (A : Addr) (m c : Nat) : isNilV n (.slice (some A) m c) = some (.bool n) := rfl
@[simp] theorem cells_agg (cs : Array Value) : (Value.agg cs).cells = cs := rfl
@[simp] theorem cells_int : (Value.int k a).cells = #[.int k a] := rfl
@[simp] theorem cells_bool : (Value.bool p).cells = #[.bool p] := rfl
@[simp] theorem cells_slice (A : Option Addr) (n c : Nat) : (Value.slice A n c).cells = #[.slice A n c] := rfl
@[simp] theorem cells_ptr (A : Option Addr) : (Value.pointer A).cells = #[.pointer A] := rfl
@[simp] theorem cells_func (f : Fn) (x y : Array Value) : (Value.func f x y).cells = #[.func f x y] := rfl
@[simp] theorem one_int : one (.int k a) = true := rfl
@[simp] theorem one_bool : one (.bool p) = true := rfl
@[simp] theorem one_slice (A : Option Addr) (n c : Nat) : one (.slice A n c) = true := rfl
@[simp] theorem one_ptr (A : Option Addr) : one (.pointer A) = true := rfl
@[simp] theorem one_func (f : Fn) (x y : Array Value) : one (.func f x y) = true := rfl
end
theorem ldV_ptr (sz : Nat) (g : Bool) (h : Hp) (b o : Nat) : ldV sz g h (.pointer (some ⟨b, o, none⟩)) = (h.bk b).bind fun x =>
    if o + sz ≤ x.cells.length then (if g then some (.agg ((x.cells.drop o).take sz).toArray) else x.cells[o]?) else none := rfl
theorem storeV_ptr (sz : Nat) (h : Hp) (v : Value) (b o : Nat) : storeV sz h v (.pointer (some ⟨b, o, none⟩)) = (h.bk b).bind fun x =>
    if v.cells.toList.length = sz ∧ v.cells.toList.all one ∧ o + sz ≤ x.cells.length ∧ x.rw then some (h.set b (some ⟨splice x.cells o v.cells.toList, x.elem, true⟩)) else none := rfl
/-- A function's end. -/
def finQ (res : List XR) (R : Value → Hp → Prop) (e : Exit) (s : St) : Prop := (e = .normal ∨ e = .ret) ∧ bindO (resV s.env s.h res) fun v => R v s.h
@[simp ↓] theorem finQ_ret (res : List XR) (R : Value → Hp → Prop) (s : St) : finQ res R .ret s = bindO (resV s.env s.h res) fun v => R v s.h := by simp [finQ]
@[simp ↓] theorem finQ_normal (res : List XR) (R : Value → Hp → Prop) (s : St) : finQ res R .normal s = bindO (resV s.env s.h res) fun v => R v s.h := by simp [finQ]
theorem callW_fin {F : FuncId → Option XFunc} {f : FuncId} {args : List Value} {h : Hp} {R : Value → Hp → Prop} {xf : XFunc} (hf : F f = some xf)
    (hw : W F xf.body (finQ xf.res R) ⟨argEnv args, h⟩) : CallW F f args h R := by
  obtain ⟨e, s, h1, he, hb⟩ := W_ev hw
  rw [← ex_bindO] at hb
  obtain ⟨v, hv, hR⟩ := hb
  exact ⟨v, s.h, fun ε => .call hf h1 he hv, hR⟩
@[simp] theorem resV_tmp (e : Env) (h : Hp) (t : Nat) : resV e h [.tmp t] = some (e t) := rfl
@[simp] theorem resV_cell (e : Env) (h : Hp) (t sz : Nat) (g : Bool) : resV e h [.cell t sz g] = ldV sz g h (e t) := rfl
@[simp] theorem resV_tt (e : Env) (h : Hp) (t u : Nat) : resV e h [.tmp t, .tmp u] = some (.tuple #[e t, e u]) := rfl

theorem wrapI {n : Int} (h0 : -9223372036854775808 ≤ n) (h1 : n < 9223372036854775808) : IntKind.i64.wrap n = n := by
  have e : IntKind.i64.wrap n = if n % 18446744073709551616 ≥ 9223372036854775808 then n % 18446744073709551616 - 18446744073709551616 else n % 18446744073709551616 := by
    simp [IntKind.wrap, IntKind.signed, IntKind.bits]
  rw [e]; split <;> omega
end XM
