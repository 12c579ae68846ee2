/- A small interpreter of the model's code over abstract values: slices are immutable lists, objects are lists of cells. Definitions alone. -/
import GoSem.Step
set_option linter.unusedVariables false
namespace Go.Ev
open Go

/-- Immutable data. `sl full sz rows`: a slice that is not nil (`full`: its capacity is its length), of elements of `sz` cells. `imm`: a pointer to immutable cells. -/
inductive D where
  | bool (b : Bool)
  | int (k : IntKind) (n : Int)
  | str (s : List UInt8)
  | nils
  | nilp
  | nilm
  | nilf
  | sl (full : Bool) (sz : Nat) (rows : List (List D))
  | imm (cells : List D)
  | fn (f : Nat) (caps : List D)
  | mp (es : List (List UInt8 × Bool × List D))
  deriving Inhabited

/-- A cell: data; a slice with the right to be appended to in place; a pointer to an object; a local map. -/
inductive C where
  | d (d : D)
  | own (sz : Nat) (rows : List (List D))
  | ptr (id off : Nat)
  | loc (k off : Nat)
  | ml (k : Nat)
  | junk
  deriving Inhabited

inductive W where
  | c (c : C)
  | a (cs : List D)
  deriving Inhabited

inductive V where
  | w (w : W)
  | t (ws : List W)
  deriving Inhabited

@[match_pattern] abbrev vD (x : D) : V := .w (.c (.d x))
@[match_pattern] abbrev vC (x : C) : V := .w (.c x)
@[match_pattern] abbrev vA (x : List D) : V := .w (.a x)
@[match_pattern] abbrev vB (b : Bool) : V := .w (.c (.d (.bool b)))
@[match_pattern] abbrev vI (k : IntKind) (n : Int) : V := .w (.c (.d (.int k n)))
@[match_pattern] abbrev vS (s : List UInt8) : V := .w (.c (.d (.str s)))
abbrev vJ : V := .w (.c .junk)

inductive Ob where
  | cells (l : List C)
  | map (es : List (List UInt8 × Bool × List D))
  deriving Inhabited

inductive Ty where
  | bool | int (k : IntKind) | str | ptr | fn
  | sl (e : Nat) | arr (n e : Nat) | st (fs : List (Nat × Nat)) | mp (k e : Nat)
  deriving Inhabited

/-- What is known of a type: its shape, its cells, its zero value's cells. -/
structure TI where
  ty : Ty
  size : Nat
  zero : List D
  eq : Bool := false
  deriving Inhabited

def TI.agg (t : TI) : Bool := match t.ty with | .st _ | .arr _ _ => true | _ => false

inductive Sp where
  | pure (g : List V → Option V)
  | eff (g : List V → List (Option Ob) → Option (V × List (Option Ob)))

structure St where
  tm : List V
  H : List (Option Ob)
  L : List (Option Ob)

abbrev Tabl := Nat → Option TI
abbrev Sig := Nat → Option Sp

def C.er : C → C
  | .own sz rows => .d (.sl false sz rows)
  | c => c
def C.toD : C → Option D
  | .d x => some x
  | .own sz rows => some (.sl false sz rows)
  | _ => none
def W.er : W → W
  | .c x => .c x.er
  | w => w
def V.er : V → V
  | .w x => .w x.er
  | .t ws => .t (ws.map W.er)

def ofVal : Value → V
  | .bool b => vB b
  | .int k n => vI k n
  | .string s => vS s.data.toList
  | .pointer none => vD .nilp
  | .slice none 0 0 => vD .nils
  | .map none => vD .nilm
  | .nilFunc => vD .nilf
  | _ => vJ

def opd (tm : List V) : Operand → V
  | .tmp t => tm.getD t vJ
  | .const v => ofVal v
  | .func f => vD (.fn f [])
  | .global _ => vJ

def seqD : List C → Option (List D)
  | [] => some []
  | c :: r => match c.toD, seqD r with
    | some d, some ds => some (d :: ds)
    | _, _ => none

/-- What is read of an object. -/
def ldOb (o : Option Ob) (off n : Nat) (agg : Bool) : Option V :=
  match o with
  | some (.cells l) =>
    if agg then (if off + n ≤ l.length then (seqD ((l.drop off).take n)).map vA else none)
    else (l[off]?).map fun c => vC c.er
  | _ => none

/-- The cells of a value. -/
def V.cells : V → Option (List C)
  | .w (.c c) => some [c]
  | .w (.a ds) => some (ds.map .d)
  | .t _ => none
def V.dcells : V → Option (List D)
  | .w (.c c) => c.toD.map (fun d => [d])
  | .w (.a ds) => some ds
  | .t _ => none

def intBin (op : BinOp) (k : IntKind) (a b : Int) : Option D :=
  match op with
  | .add => some (.int k (k.wrap (a + b)))
  | .sub => some (.int k (k.wrap (a - b)))
  | .mul => some (.int k (k.wrap (a * b)))
  | .eql => some (.bool (a == b))
  | .neq => some (.bool (a != b))
  | .lss => some (.bool (decide (a < b)))
  | .leq => some (.bool (decide (a ≤ b)))
  | .gtr => some (.bool (decide (a > b)))
  | .geq => some (.bool (decide (a ≥ b)))
  | .rem => if b = 0 then none else some (.int k (a.tmod b))
  | .quo => if b = 0 then none else some (.int k (k.wrap (a.tdiv b)))
  | .and => some (.int k (k.wrap (BitVec.ofInt k.bits a &&& BitVec.ofInt k.bits b).toNat))
  | .or => some (.int k (k.wrap (BitVec.ofInt k.bits a ||| BitVec.ofInt k.bits b).toNat))
  | .shl => if b < 0 then none else some (.int k (k.wrap (a * 2 ^ (min b.toNat k.bits))))
  | .shr => if b < 0 then none else some (.int k (a.fdiv (2 ^ (min b.toNat k.bits))))
  | _ => none

/-- `==` of cells of whole numbers, bools and strings. -/
def deq : List D → List D → Option Bool
  | [], [] => some true
  | .int k a :: r, .int k' b :: r' => if k = k' then (deq r r').map fun e => a == b && e else none
  | .str a :: r, .str b :: r' => (deq r r').map fun e => a == b && e
  | .bool a :: r, .bool b :: r' => (deq r r').map fun e => a == b && e
  | _, _ => none

/-- Cells of the same kinds. -/
def skinds : List D → List D → Bool
  | [], [] => true
  | .int k _ :: r, .int k' _ :: r' => k == k' && skinds r r'
  | .str _ :: r, .str _ :: r' => skinds r r'
  | .bool _ :: r, .bool _ :: r' => skinds r r'
  | _, _ => false

def binV (T : Tabl) (op : BinOp) (t : Nat) (x y : V) : Option V :=
  match x, y with
  | vI k a, vI k' b => match op with
    | .shl | .shr => (intBin op k a b).map vD
    | _ => if k = k' then (intBin op k a b).map vD else none
  | vS a, vS b => match op with
    | .eql => some (vB (a == b))
    | .neq => some (vB (!(a == b)))
    | .add => if a.length + b.length ≤ 1099511627776 then some (vS (a ++ b)) else none
    | _ => none
  | vD .nils, vD .nils => match op, (T t).map TI.ty with
    | .eql, some (.sl _) => some (vB true)
    | .neq, some (.sl _) => some (vB false)
    | _, _ => none
  | vD (.sl _ _ _), vD .nils => match op, (T t).map TI.ty with
    | .eql, some (.sl _) => some (vB false)
    | .neq, some (.sl _) => some (vB true)
    | _, _ => none
  | vD .nilp, vD .nilp => match op, (T t).map TI.ty with
    | .eql, some .ptr => some (vB true)
    | .neq, some .ptr => some (vB false)
    | _, _ => none
  | vC (.ptr _ _), vD .nilp | vC (.loc _ _), vD .nilp => match op, (T t).map TI.ty with
    | .eql, some .ptr => some (vB false)
    | .neq, some .ptr => some (vB true)
    | _, _ => none
  | vA p, vA q => match T t with
    | some ti => if ti.eq && skinds ti.zero p then (match op with
      | .eql => (deq p q).map vB
      | .neq => (deq p q).map fun e => vB (!e)
      | _ => none) else none
    | none => none
  | _, _ => none

def bytesD (s : List UInt8) : List (List D) := s.map fun b => [.int .u8 b.toNat]

def convV (T : Tabl) (src dst : Nat) (x : V) : Option V :=
  match x with
  | vI _ n => match (T src).map TI.ty, (T dst).map TI.ty with
    | some (.int _), some (.int k) => some (vI k (k.wrap n))
    | _, _ => none
  | vS s => match (T src).map TI.ty, (T dst).map TI.ty with
    | some .str, some (.sl e) => match (T e).map TI.ty with
      | some (.int .u8) => if s.length ≤ 1099511627776 then some (vD (.sl false 1 (bytesD s))) else none
      | _ => none
    | _, _ => none
  | _ => none

def fieldV (T : Tabl) (t : Nat) (x : V) (f : Nat) : Option V :=
  match x, (T t).map TI.ty with
  | vA cs, some (.st fs) => match fs[f]? with
    | some (off, ft) => match T ft with
      | some i => if i.agg then (if off + i.size ≤ cs.length then some (vA ((cs.drop off).take i.size)) else none) else (cs[off]?).map vD
      | none => none
    | none => none
  | _, _ => none

def fieldAddrV (T : Tabl) (t : Nat) (x : V) (f : Nat) : Option V :=
  match (T t).map TI.ty with
  | some (.st fs) => match fs[f]? with
    | some (off, ft) => match T ft with
      | some i => if i.size = 0 then none else match x with
        | vC (.ptr id o) => some (vC (.ptr id (o + off)))
        | vC (.loc k o) => some (vC (.loc k (o + off)))
        | vD (.imm cs) => if off ≤ cs.length then some (vD (.imm (cs.drop off))) else none
        | _ => none
      | none => none
    | none => none
  | _ => none

def indexV (T : Tabl) (t : Nat) (x ix : V) : Option V :=
  match x, ix, (T t).map TI.ty with
  | vS s, vI _ i, some .str => if 0 ≤ i then (s[i.toNat]?).map fun b => vI .u8 b.toNat else none
  | vA cs, vI _ i, some (.arr n e) => match T e with
    | some ti => if 0 ≤ i ∧ i < n then (if ti.agg then (if i.toNat * ti.size + ti.size ≤ cs.length then some (vA ((cs.drop (i.toNat * ti.size)).take ti.size)) else none) else (cs[i.toNat * ti.size]?).map vD) else none
    | none => none
  | _, _, _ => none

def indexAddrV (T : Tabl) (t : Nat) (x ix : V) : Option V :=
  match ix, (T t).map TI.ty with
  | vI _ i, some (.sl e) => match x, T e with
    | vD (.sl _ sz rows), some ti => if 0 ≤ i ∧ sz = ti.size then (rows[i.toNat]?).map fun r => vD (.imm r) else none
    | _, _ => none
  | vI _ i, some (.arr n e) => match T e with
    | some ti => if 0 ≤ i ∧ i < n then match x with
      | vC (.ptr id o) => some (vC (.ptr id (o + i.toNat * ti.size)))
      | vC (.loc k o) => some (vC (.loc k (o + i.toNat * ti.size)))
      | _ => none else none
    | none => none
  | _, _ => none

def bnd (x : Option V) (dflt : Nat) : Option Nat :=
  match x with
  | none => some dflt
  | some (vI _ i) => if 0 ≤ i then some i.toNat else none
  | _ => none

def sliceV (T : Tabl) (t : Nat) (x : V) (lo hi mx : Option V) : Option V :=
  match x, (T t).map TI.ty with
  | vS s, some .str => match bnd lo 0, bnd hi s.length, mx with
    | some l, some h, none => if l ≤ h ∧ h ≤ s.length then some (vS ((s.take h).drop l)) else none
    | _, _, _ => none
  | vD .nils, some (.sl e) => match T e, bnd lo 0, bnd hi 0, bnd mx 0 with
    | some _, some 0, some 0, some 0 => if mx.isSome && hi.isNone then none else some (vD .nils)
    | _, _, _, _ => none
  | vD (.sl full sz rows), some (.sl e) => match T e with
    | some ti => if sz = ti.size then (match bnd lo 0, bnd hi rows.length, bnd mx rows.length with
      | some l, some h, some m => if l ≤ h ∧ h ≤ m ∧ m ≤ rows.length then
          (if mx.isSome then (if hi.isSome then some (vD (.sl (h == m) sz ((rows.take h).drop l))) else none)
           else some (vD (.sl (full && h == rows.length) sz ((rows.take h).drop l)))) else none
      | _, _, _ => none) else none
    | none => none
  | _, _ => none

def lenV (T : Tabl) (t : Nat) (x : V) : Option V :=
  match x, (T t).map TI.ty with
  | vS s, some .str => some (vI .i64 s.length)
  | vD .nils, some (.sl _) => some (vI .i64 0)
  | vD (.sl _ _ rows), some (.sl _) => some (vI .i64 rows.length)
  | _, _ => none

def overlay (base : List D) (off : Nat) (v : List D) : List D := base.take off ++ v ++ base.drop (off + v.length)

def fillD (place : Nat → Option (Nat × Nat)) : List D → List (Nat × Option (List D)) → Option (List D)
  | cs, [] => some cs
  | cs, (i, v) :: r => match place i, v with
    | some (off, n), some ds => if ds.length = n ∧ off + n ≤ cs.length then fillD place (overlay cs off ds) r else none
    | _, _ => none

def stPlace (T : Tabl) (fs : List (Nat × Nat)) (i : Nat) : Option (Nat × Nat) :=
  match fs[i]? with
  | some (off, ft) => (T ft).map fun ti => (off, ti.size)
  | none => none

def buildV (T : Tabl) (t : Nat) (ps : List (Nat × Option (List D))) : Option V :=
  match T t with
  | some ti => match ti.ty with
    | .st fs => (fillD (stPlace T fs) ti.zero ps).map vA
    | .arr _ e => match T e with
      | some te => (fillD (fun i => some (i * te.size, te.size)) ti.zero ps).map vA
      | none => none
    | _ => none
  | none => none

def chunk (sz : Nat) : Nat → List D → List (List D)
  | 0, _ => []
  | n + 1, l => l.take sz :: chunk sz n (l.drop sz)

def buildSliceV (T : Tabl) (t len : Nat) (ps : List (Nat × Option (List D))) : Option V :=
  match (T t).map TI.ty with
  | some (.sl e) => match T e with
    | some te => if len * te.size ≤ 16777216 ∧ te.zero.length = te.size then
        (fillD (fun i => some (i * te.size, te.size)) (List.replicate len te.zero).flatten ps).map fun cs => vC (.own te.size (chunk te.size len cs)) else none
    | none => none
  | _ => none

def lookV (T : Tabl) (t : Nat) (es : List (List UInt8 × Bool × List D)) (k : V) (ok : Bool) : Option V :=
  match (T t).map TI.ty, k with
  | some (.mp _ e), vS s => match T e with
    | some te =>
      let r := (es.find? (fun x => x.1 == s)).map (·.2)
      let (ag, cs) := r.getD (te.agg, te.zero)
      let v : Option W := if ag then some (.a cs) else match cs with | [d] => some (.c (.d d)) | _ => none
      v.map fun v => if ok then .t [v, .c (.d (.bool r.isSome))] else .w v
    | none => none
  | _, _ => none

def updM : List (List UInt8 × Bool × List D) → List UInt8 → Bool × List D → List (List UInt8 × Bool × List D)
  | [], k, v => [(k, v)]
  | x :: r, k, v => if x.1 == k then (k, v) :: r else x :: updM r k v

/-- Reads: `lim` bounds the local objects that may be read. -/
def ld (S : St) (lim : Nat) (p : V) (n : Nat) (agg : Bool) : Option V :=
  match p with
  | vD (.imm cs) => if agg then (if n ≤ cs.length then some (vA (cs.take n)) else none) else (cs[0]?).map vD
  | vC (.ptr id off) => ldOb (S.H.getD id none) off n agg
  | vC (.loc k off) => if k < lim then ldOb (S.L.getD k none) off n agg else none
  | _ => none

def mapOf (S : St) (lim : Nat) : V → Option (List (List UInt8 × Bool × List D))
  | vD (.mp es) => some es
  | vC (.ml k) => if k < lim then (match S.L.getD k none with | some (.map es) => some es | _ => none) else none
  | _ => none

def dataV : V → Bool
  | .w (.c (.d _)) | .w (.a _) => true
  | _ => false

def pureCall (Sg : Sig) (f : Nat) (args : List V) : Option V :=
  match Sg f with
  | some (.pure g) => if args.all dataV then g args else none
  | _ => none

/-- The value of an operation that changes nothing. -/
def sv (T : Tabl) (Sg : Sig) (lim : Nat) (o : Oper) (ρ : Operand → V) (S : St) : Option V :=
  match o.op with
  | .move x | .assign x => some (ρ x)
  | .pick c a b => match ρ c with
    | vB true => some (ρ a)
    | vB false => some (ρ b)
    | _ => none
  | .nilCheck x => match ρ x with
    | vC (.ptr id o) => some (vC (.ptr id o))
    | vC (.loc k o) => some (vC (.loc k o))
    | vD (.imm cs) => some (vD (.imm cs))
    | vD (.fn f cs) => some (vD (.fn f cs))
    | _ => none
  | .binOp op t x y _ => binV T op t (ρ x) (ρ y)
  | .unOp .not _ x => match ρ x with
    | vB b => some (vB (!b))
    | _ => none
  | .convert s d x => convV T s d (ρ x)
  | .extract x i => match ρ x with
    | .t ws => (ws[i]?).map .w
    | _ => none
  | .fieldAddr t x f => fieldAddrV T t (ρ x) f
  | .field t x f => fieldV T t (ρ x) f
  | .index t x i => indexV T t (ρ x) (ρ i)
  | .indexAddr t x i => indexAddrV T t (ρ x) (ρ i)
  | .slice t x lo hi mx => sliceV T t (ρ x) (lo.map ρ) (hi.map ρ) (mx.map ρ)
  | .load t p => match T t with
    | some ti => ld S lim (ρ p) ti.size ti.agg
    | none => none
  | .build t ps => buildV T t (ps.toList.map fun p => (p.1, (ρ p.2).dcells))
  | .buildSlice t n ps => buildSliceV T t n (ps.toList.map fun p => (p.1, (ρ p.2).dcells))
  | .lookup t x k ok => match mapOf S lim (ρ x) with
    | some es => lookV T t es (ρ k) ok
    | none => none
  | .call c => match c.callee with
    | .builtin .len => match c.args.toList, c.argTypes.toList with
      | [x], t :: _ => lenV T t (ρ x)
      | _, _ => none
    | .value f => match ρ f with
      | vD (.fn f caps) => pureCall Sg f (c.args.toList.map ρ ++ caps.map vD)
      | _ => none
    | _ => none
  | _ => none

def isAggV : V → Bool
  | .w (.a _) => true
  | _ => false

def setL {α : Type} (l : List α) (i : Nat) (x : α) : List α := l.set i x

def clrTm (S : St) (t : Nat) : St := { S with tm := S.tm.set t (S.tm.getD t vJ).er }

/-- Taking: the right to append goes with the value. -/
def takeTm (S : St) : Operand → Option (V × St)
  | .tmp t => match S.tm.getD t vJ with
    | vC (.own sz rows) => some (vC (.own sz rows), clrTm S t)
    | .t ws => some (.t ws, clrTm S t)
    | v => some (v, S)
  | x => some (opd S.tm x, S)

def takeEx (S : St) (t i : Nat) : Option (V × St) :=
  match S.tm.getD t vJ with
  | .t ws => match ws[i]? with
    | some w => some (.w w, { S with tm := S.tm.set t (.t (ws.set i w.er)) })
    | none => none
  | _ => none

def erAt (l : List C) (off : Nat) : List C := match l[off]? with | some c => l.set off c.er | none => l

def takeOb (o : Option Ob) (off : Nat) : Option (V × Option Ob) :=
  match o with
  | some (.cells l) => (l[off]?).map fun c => (vC c, some (.cells (erAt l off)))
  | _ => none

def takeLd (S : St) (lim : Nat) (p : V) : Option (V × St) :=
  match p with
  | vC (.ptr id off) => (takeOb (S.H.getD id none) off).map fun (v, o) => (v, { S with H := S.H.set id o })
  | vC (.loc k off) => if k < lim then (takeOb (S.L.getD k none) off).map fun (v, o) => (v, { S with L := S.L.set k o }) else none
  | p => (ld S lim p 1 false).map (·, S)

def rowsOf (x : V) (sz : Nat) : Option (List (List D)) :=
  match x with
  | vD .nils => some []
  | vD (.sl _ sz' rows) => if sz' = sz then some rows else none
  | vD (.str s) => if sz = 1 then some (bytesD s) else none
  | _ => none

def isRow (t : Option TI) : Bool := match t.map TI.ty with
  | some (.sl _) | some .str => true
  | _ => false

def appendV (sz : Nat) (s : V) (ys : List (List D)) : Option V :=
  match s with
  | vD .nils => if ys.isEmpty then some (vD .nils) else if ys.length ≤ 17179869184 then some (vC (.own sz ys)) else none
  | vD (.sl true sz' rows) => if sz' = sz then (if ys.isEmpty then some (vD (.sl true sz rows)) else if rows.length + ys.length ≤ 17179869184 then some (vC (.own sz (rows ++ ys))) else none) else none
  | vC (.own sz' rows) => if sz' = sz ∧ rows.length + ys.length ≤ 17179869184 then some (vC (.own sz (rows ++ ys))) else none
  | _ => none

def storeOb (o : Option Ob) (off : Nat) (cs : List C) : Option (Option Ob) :=
  match o with
  | some (.cells l) => if off + cs.length ≤ l.length then some (some (.cells (l.take off ++ cs ++ l.drop (off + cs.length)))) else none
  | _ => none

def storeTo (S : St) (p : V) (cs : List C) : Option St :=
  match p with
  | vC (.ptr id off) => (storeOb (S.H.getD id none) off cs).map fun o => { S with H := S.H.set id o }
  | vC (.loc k off) => (storeOb (S.L.getD k none) off cs).map fun o => { S with L := S.L.set k o }
  | _ => none

/-- May a cell lie in an object? -/
def C.plain : C → Bool
  | .d _ | .own _ _ => true
  | _ => false

def pushL (S : St) (o : Ob) : St := { S with L := S.L ++ [some o] }

/-- Captured values: data stays; a local object of whole cells is frozen for good. -/
def capture (S : St) : List V → Option (List D × St)
  | [] => some ([], S)
  | v :: r => match v.er with
    | vD x => (capture S r).map fun (ds, S') => (x :: ds, S')
    | vC (.loc k 0) => match S.L.getD k none with
      | some (.cells l) => match seqD l with
        | some ds => (capture { S with L := S.L.set k none } r).map fun (xs, S') => (.imm ds :: xs, S')
        | none => none
      | _ => none
    | _ => none

/-- May a value be handed on, together with the outer objects? -/
def handV : V → Bool
  | .w (.c (.d _)) | .w (.a _) | .w (.c (.ptr _ _)) => true
  | _ => false

def hasLoc (l : List V) : Bool := l.any fun | vC (.loc _ _) => true | _ => false

def upW (n : Nat) : W → W
  | .c (.loc k off) => .c (.ptr (n + k) off)
  | .c (.ml _) => .c .junk
  | v => v
def upV (n : Nat) : V → V
  | .w x => .w (upW n x)
  | .t ws => .t (ws.map (upW n))

def plainW : W → Bool
  | .c c => c.plain
  | .a _ => true
def plainV : V → Bool
  | .w w => plainW w
  | .t ws => ws.all plainW

/-- A call that may write: without pointers to local objects it sees the outer objects alone. -/
def effCall (S : St) (g : List V → List (Option Ob) → Option (V × List (Option Ob))) (args : List V) : Option (V × St) :=
  if hasLoc args then
    if (args.map (upV S.H.length)).all handV then
      match g (args.map (upV S.H.length)) (S.H ++ S.L) with
      | some (v, H') => if H'.length = S.H.length + S.L.length ∧ plainV v = true then some (v, { S with H := H'.take S.H.length, L := H'.drop S.H.length }) else none
      | none => none
    else none
  else if args.all handV then (g args S.H).map fun (v, H') => (v, { S with H := H' }) else none

/-- One operation: `tk`: it takes the right to append along. -/
def opStep (T : Tabl) (Sg : Sig) (lim : Nat) (tk : Bool) (o : Oper) (S : St) : Option (V × St) :=
  let ρ := fun x => (opd S.tm x).er
  let still := (sv T Sg lim o ρ S).map fun v => (v, S)
  match o.op with
  | .move x => if tk then takeTm S x else still
  | .assign x => takeTm S x
  | .extract (.tmp t) i => if tk then takeEx S t i else still
  | .load t p => if tk then (match T t with | some ti => if ti.agg then still else takeLd S lim (ρ p) | none => none) else still
  | .alloc t => match T t with
    | some ti => some (vC (.loc S.L.length 0), pushL S (.cells (ti.zero.map C.d)))
    | none => none
  | .box _ x => match (ρ x).dcells with
    | some ds => some (vC (.loc S.L.length 0), pushL S (.cells (ds.map C.d)))
    | none => none
  | .store t p x => match T t with
    | some ti => match takeTm S x with
      | some (v, S') => match v.cells with
        | some cs => if cs.length = ti.size ∧ cs.all C.plain = true then (storeTo S' (ρ p) cs).map fun S'' => (.t [], S'') else none
        | none => none
      | none => none
    | none => none
  | .makeMap t none => some (vC (.ml S.L.length), pushL S (.map []))
  | .insert t m k x | .mapUpdate t m k x => match (T t).map TI.ty, ρ m, ρ k, (ρ x).dcells with
    | some (.mp _ e), vC (.ml j), vS key, some ds => match S.L.getD j none, T e with
      | some (.map es), some te => if ds.length = te.size then some (.t [], { S with L := S.L.set j (some (.map (updM es key (isAggV (ρ x), ds)))) }) else none
      | _, _ => none
    | _, _, _, _ => none
  | .makeFunc (.func f) first caps => if first.isEmpty then
      (capture S (caps.toList.map (opd S.tm))).map fun (ds, S') => (vD (.fn f ds), S') else none
  | .call c => match c.callee with
    | .builtin .append => match c.args.toList, c.argTypes.toList with
      | [s, x], [t, tx] => match (T t).map TI.ty with
        | some (.sl e) => match T e with
          | some te => match takeTm S s with
            | some (v, S') => match rowsOf (ρ x) te.size with
              | some ys => if isRow (T tx) then (appendV te.size v ys).map fun r => (r, S') else none
              | none => none
            | none => none
          | none => none
        | _ => none
      | _, _ => none
    | .value (.func f) => match Sg f with
      | some (.eff g) => effCall S g (c.args.toList.map ρ)
      | _ => still
    | _ => still
  | _ => still

def St.put (S : St) (d : Option Nat) (v : V) : St :=
  match d with
  | some t => { S with tm := S.tm.set t v }
  | none => S

/-- Is an operation carried out? none: it can't be told. -/
def wants (ops : Array Oper) (tm : List V) (o : Oper) : Option Bool :=
  match o.guard with
  | none => some true
  | some (j, want) => match (ops[j]?).bind (·.dst) with
    | some d => match tm.getD d vJ with
      | vB b => some (b == want)
      | .t _ => some false
      | _ => none
    | none => none

def step (T : Tabl) (Sg : Sig) (lim : Nat) (tks : Nat → Bool) (ops : Array Oper) (i : Nat) (S : St) : Option St :=
  match ops[i]? with
  | none => none
  | some o => match wants ops S.tm o with
    | some true => (opStep T Sg lim (tks i) o S).map fun (v, S') => S'.put o.dst v
    | some false => some (S.put o.dst (.t []))
    | none => none

def steps (T : Tabl) (Sg : Sig) (lim : Nat) (tks : Nat → Bool) (ops : Array Oper) : List Nat → St → Option St
  | [], S => some S
  | i :: r, S => match step T Sg lim tks ops i S with
    | some S' => steps T Sg lim tks ops r S'
    | none => none

def feeds (ops : Array Oper) (d : Option Nat) : Bool :=
  ops.any fun o => match o.op with
    | .call { callee := .builtin .append, args, .. } => (match args.toList, d with | Operand.tmp t :: _, some d => t == d | _, _ => false)
    | _ => false
def feedsAssign (ops : Array Oper) (d : Option Nat) : Bool :=
  ops.any fun o => match o.op, d with
    | .assign (.tmp t), some d => t == d
    | _, _ => false
def definedIn (ops : Array Oper) (t : Nat) : Bool := ops.any fun o => o.dst == some t

def takes (draw : Bool) (ops : Array Oper) (i : Nat) : Bool :=
  match ops[i]? with
  | some o => match o.op with
    | .assign _ => true
    | .move (.tmp x) => feeds ops o.dst || (!draw && (definedIn ops x || feedsAssign ops o.dst))
    | .extract (.tmp x) _ => !draw && definedIn ops x
    | .load _ _ => feeds ops o.dst
    | _ => false
  | none => false

/-- An operation's class: 0: it changes nothing; 1: it moves the right to append, or makes something; 2: it may write. -/
def cls (eff : Nat → Bool) (tk : Bool) (o : Oper) : Nat :=
  match o.op with
  | .move _ | .load _ _ => if tk then 1 else 0
  | .assign _ | .alloc _ => 1
  | .pick .. | .nilCheck _ | .binOp .. | .unOp .. | .convert .. | .fieldAddr .. | .field .. | .index .. | .indexAddr .. | .slice .. | .build .. | .buildSlice .. | .lookup .. => 0
  | .extract _ _ => if tk then 2 else 0
  | .call c => match c.callee with
    | .builtin .len => 0
    | .builtin .append => 1
    | .value (.func f) => if eff f then 2 else 0
    | .value (.tmp _) => 0
    | _ => 2
  | _ => 2

/-- Does it read objects? -/
def _root_.Go.Op.reads : Op → Bool
  | .load _ _ | .lookup .. => true
  | _ => false

def tmpsOf (l : List Operand) : List Nat := l.filterMap fun | .tmp t => some t | _ => none

/-- The temporaries that an operation looks at. -/
def looks (ops : Array Oper) (o : Oper) : List Nat :=
  (match o.guard with | some (j, _) => ((ops[j]?).bind (·.dst)).toList | none => []) ++ tmpsOf o.op.operands.toList

/-- What must lie ahead of one operation, when it is known for the elder ones. -/
def ancOne (o : Oper) (acc : List (List Nat)) : List Nat := (o.after.toList.filter (fun e => Region.binds .any e)).flatMap fun e => e.on :: acc.getD e.on []

/-- The operations that must lie ahead of each: `(ancs ops []).getD j []`. -/
def ancs : List Oper → List (List Nat) → List (List Nat)
  | [], acc => acc
  | o :: r, acc => ancs r (acc ++ [ancOne o acc])

def apartOk (ops : Array Oper) (x y : Oper) : Bool :=
  (match x.dst with | some d => !(looks ops y).contains d && y.dst != some d | none => true) &&
  (match y.dst with | some d => !(looks ops x).contains d | none => true)

def commOk (eff : Nat → Bool) (ops : Array Oper) (tks : Nat → Bool) (i k : Nat) : Bool :=
  match ops[i]?, ops[k]? with
  | some x, some y =>
    let cx := cls eff (tks i) x
    let cy := cls eff (tks k) y
    ((decide (cx ≤ 1) && decide (cy ≤ 1) && (cx == 0 || cy == 0)) || (cx == 0 && !x.op.reads) || (cy == 0 && !y.op.reads)) && apartOk ops x y
  | _, _ => false

/-- The test on a region that draws its order. -/
def drawOk (eff : Nat → Bool) (ops : Array Oper) : Bool :=
  let n := ops.size
  let an := ancs ops.toList []
  (List.range n).all fun k =>
    (match ops[k]? with | some o => o.after.all (fun e => !Region.binds .any e || decide (e.on < k)) | none => false) &&
    (List.range k).all fun i => (an.getD k []).contains i || commOk eff ops (takes true ops) i k

inductive X where
  | norm | ex (id : Nat) | ret
  deriving Inhabited

def dropLocW (n : Nat) : W → W
  | .c (.loc k off) => if k < n then .c (.loc k off) else .c .junk
  | .c (.ml k) => if k < n then .c (.ml k) else .c .junk
  | v => v
def dropLoc (n : Nat) : V → V
  | .w x => .w (dropLocW n x)
  | .t ws => .t (ws.map (dropLocW n))

/-- What a round may know: the slots of `K`, the local objects that were there ahead of the loop. -/
def forget (K : List Nat) (n : Nat) (S : St) : St :=
  { S with tm := S.tm.mapIdx (fun i v => if K.contains i then dropLoc n v else vJ), L := S.L.take n }

def rounds (f : St → Option (X × St)) (fg : St → St) : Nat → St → Option (X × St)
  | 0, _ => none
  | k + 1, S => match f (fg S) with
    | some (.norm, S') => rounds f fg k S'
    | r => r

/-- `okDraw`: the test on a region that draws its order. -/
def ev (T : Tabl) (Sg : Sig) (okDraw : Array Oper → Bool) (K : List Nat) (n : Nat) : Code → St → Option (X × St)
  | .skip, S => some (.norm, S)
  | .label _, S => some (.norm, S)
  | .region _ ops draw, S =>
    if draw then (if okDraw ops then (steps T Sg S.L.length (takes true ops) ops (List.range ops.size) S).map fun S' => (.norm, S') else none)
    else (steps T Sg 1099511627776 (takes false ops) ops (List.range ops.size) S).map fun S' => (.norm, S')
  | .seq a b, S => match ev T Sg okDraw K n a S with
    | some (.norm, S') => ev T Sg okDraw K n b S'
    | r => r
  | .cond c a b, S => match (opd S.tm c).er with
    | vB true => ev T Sg okDraw K n a S
    | vB false => ev T Sg okDraw K n b S
    | _ => none
  | .block id c, S => match ev T Sg okDraw K n c S with
    | some (.ex j, S') => if j = id then some (.norm, S') else some (.ex j, S')
    | r => r
  | .loop c, S => rounds (ev T Sg okDraw K n c) (forget K S.L.length) n S
  | .scope c, S => ev T Sg okDraw K n c S
  | .exit id, S => some (.ex id, S)
  | .ret, S => some (.ret, S)
  | _, _ => none

def resOf (T : Tabl) (S : St) : ResultVar → Option V
  | .tmp t => some (S.tm.getD t vJ)
  | .cell a t => match T t with
    | some ti => ld S 1099511627776 (opd S.tm (.tmp a)).er ti.size ti.agg
    | none => none

def toW : V → Option W
  | .w w => some w
  | .t _ => none

def resAll (T : Tabl) (S : St) : List ResultVar → Option (List W)
  | [] => some []
  | r :: rs => match (resOf T S r).bind toW, resAll T S rs with
    | some w, some ws => some (w :: ws)
    | _, _ => none

/-- What leaves the function: data and rights; one pointer to a new object, which then is the outer object `n`; a local map, frozen. -/
def leave (S : St) (n : Nat) (ws : List W) : Option (V × List (Option Ob)) :=
  match ws with
  | [.c (.ml k)] => match S.L.getD k none with
    | some (.map es) => some (vD (.mp es), S.H.take n)
    | _ => none
  | .c (.loc k 0) :: r => match S.L.getD k none with
    | some (.cells l) => if l.all C.plain && r.all plainW then some (if r.isEmpty then vC (.ptr n 0) else .t (.c (.ptr n 0) :: r), S.H.take n ++ [some (.cells l)]) else none
    | _ => none
  | .c (.ptr id 0) :: r => match S.H.getD id none with
    | some (.cells l) => if n ≤ id && l.all C.plain && r.all plainW then some (if r.isEmpty then vC (.ptr n 0) else .t (.c (.ptr n 0) :: r), S.H.take n ++ [some (.cells l)]) else none
    | _ => none
  | [w] => if plainW w then some (.w w, S.H.take n) else none
  | ws => if ws.all plainW then some (.t ws, S.H.take n) else none

/-- No result variable twice. -/
def resApart : List ResultVar → List Nat → Bool
  | [], _ => true
  | .tmp t :: r, seen => !seen.contains t && resApart r (t :: seen)
  | .cell _ _ :: r, seen => resApart r seen

def fnEv (T : Tabl) (Sg : Sig) (okDraw : Array Oper → Bool) (K : List Nat) (n : Nat) (fn : Func) (args : List V) (H : List (Option Ob)) : Option (V × List (Option Ob)) :=
  match fn.body with
  | none => none
  | some c => match ev T Sg okDraw K n c ⟨args ++ List.replicate (fn.ntmps - args.length) vJ, H, []⟩ with
    | some (.norm, S) | some (.ret, S) => if resApart fn.results.toList [] then (resAll T S fn.results.toList).bind (leave S H.length) else none
    | _ => none

end Go.Ev
