/- The evaluator once more, over states whose temporaries are a function, and over code without what the evaluation does not look at. -/
import Derived.Test.YtdpldomjhelfkaaDoorEvCore
set_option linter.unusedVariables false
namespace Go.Ev
open Go

/-- An operand, resolved. -/
inductive O where
  | t (i : Nat)
  | k (v : V)
  deriving Inhabited

def opdO : Operand → O
  | .tmp t => .t t
  | .const v => .k (ofVal v)
  | .func f => .k (vD (.fn f []))
  | .global _ => .k vJ

structure SF where
  f : Nat → V
  H : List (Option Ob)
  L : List (Option Ob)

def upd (f : Nat → V) (i : Nat) (v : V) : Nat → V := fun j => if j = i then v else f j
def SF.st (F : SF) : St := ⟨[], F.H, F.L⟩
def SF.of (F : SF) (S : St) : SF := ⟨F.f, S.H, S.L⟩
def O.rd (f : Nat → V) : O → V
  | .t i => f i
  | .k v => v
def O.re (f : Nat → V) (o : O) : V := (o.rd f).er
def orl (f : Nat → V) : List O → List V
  | [] => []
  | o :: r => o.re f :: orl f r

/-- An operation, resolved. -/
inductive L1 where
  | mov (x : O)
  | take (x : O)
  | takeEx (t i : Nat)
  | ext (x : O) (i : Nat)
  | pick (c a b : O)
  | nilc (x : O)
  | bin (op : BinOp) (ti : Option TI) (x y : O)
  | not (x : O)
  | conv (k : IntKind) (x : O)
  | convB (x : O)
  | faddr (off : Nat) (x : O)
  | fld (off size : Nat) (agg : Bool) (x : O)
  | idxS (x i : O)
  | idxA (n size : Nat) (agg : Bool) (x i : O)
  | iaS (size : Nat) (x i : O)
  | iaA (n size : Nat) (x i : O)
  | slS (x : O) (lo hi : Option O)
  | slL (size : Nat) (x : O) (lo hi mx : Option O)
  | load (size : Nat) (agg : Bool) (p : O)
  | takeLd (p : O)
  | build (zero : List D) (ps : List (Nat × Nat × O))
  | bslice (size : Nat) (zero : List D) (n : Nat) (ps : List (Nat × O))
  | look (agg : Bool) (zero : List D) (m k : O) (ok : Bool)
  | lenS (x : O)
  | lenL (x : O)
  | callF (f : Nat) (args : List O)
  | callV (x : O) (args : List O)
  | app (size : Nat) (s x : O)
  | alloc (zero : List D)
  | box (x : O)
  | store (size : Nat) (p x : O)
  | mkmap
  | ins (size : Nat) (m k x : O)
  | mkfn (f : Nat) (caps : List O)
  | bad
  deriving Inhabited

def fldF (off size : Nat) (agg : Bool) : V → Option V
  | vA cs => if agg then (if off + size ≤ cs.length then some (vA ((cs.drop off).take size)) else none) else (cs[off]?).map vD
  | _ => none
def faddrF (off : Nat) : V → Option V
  | vC (.ptr id o) => some (vC (.ptr id (o + off)))
  | vC (.loc k o) => some (vC (.loc k (o + off)))
  | vD (.imm cs) => if off ≤ cs.length then some (vD (.imm (cs.drop off))) else none
  | _ => none
def idxSF : V → V → Option V
  | vS s, vI _ i => if 0 ≤ i then (s[i.toNat]?).map fun b => vI .u8 b.toNat else none
  | _, _ => none
def idxAF (n size : Nat) (agg : Bool) : V → V → Option V
  | vA cs, vI _ i => if 0 ≤ i ∧ i < n then (if agg then (if i.toNat * size + size ≤ cs.length then some (vA ((cs.drop (i.toNat * size)).take size)) else none) else (cs[i.toNat * size]?).map vD) else none
  | _, _ => none
def iaSF (size : Nat) : V → V → Option V
  | vD (.sl _ sz rows), vI _ i => if 0 ≤ i ∧ sz = size then (rows[i.toNat]?).map fun r => vD (.imm r) else none
  | _, _ => none
def iaAF (n size : Nat) : V → V → Option V
  | vC (.ptr id o), vI _ i => if 0 ≤ i ∧ i < n then some (vC (.ptr id (o + i.toNat * size))) else none
  | vC (.loc k o), vI _ i => if 0 ≤ i ∧ i < n then some (vC (.loc k (o + i.toNat * size))) else none
  | _, _ => none
def slSF (x : V) (lo hi : Option V) : Option V :=
  match x with
  | vS s => match bnd lo 0, bnd hi s.length with
    | some l, some h => if l ≤ h ∧ h ≤ s.length then some (vS ((s.take h).drop l)) else none
    | _, _ => none
  | _ => none
def slLF (size : Nat) (x : V) (lo hi mx : Option V) : Option V :=
  match x with
  | vD .nils => match bnd lo 0, bnd hi 0, bnd mx 0 with
    | some 0, some 0, some 0 => if mx.isSome && hi.isNone then none else some (vD .nils)
    | _, _, _ => none
  | vD (.sl full sz rows) => if sz = size then (match bnd lo 0, bnd hi rows.length, bnd mx rows.length with
      | some l, some h, some m => if l ≤ h ∧ h ≤ m ∧ m ≤ rows.length then
          (if mx.isSome then (if hi.isSome then some (vD (.sl (h == m) sz ((rows.take h).drop l))) else none)
           else some (vD (.sl (full && h == rows.length) sz ((rows.take h).drop l)))) else none
      | _, _, _ => none) else none
  | _ => none
def bsliceF (size : Nat) (zero : List D) (len : Nat) (ps : List (Nat × Option (List D))) : Option V :=
  if len * size ≤ 16777216 ∧ zero.length = size then
    (fillD (fun i => some (i * size, size)) (List.replicate len zero).flatten ps).map fun cs => vC (.own size (chunk size len cs)) else none
def buildF (zero : List D) : List (Nat × Nat × Option (List D)) → Option (List D)
  | [] => some zero
  | (off, n, v) :: r => match v with
    | some ds => if ds.length = n ∧ off + n ≤ zero.length then buildF (overlay zero off ds) r else none
    | none => none
def lookF (agg : Bool) (zero : List D) (es : List (List UInt8 × Bool × List D)) (k : V) (ok : Bool) : Option V :=
  match k with
  | vS s =>
    let r := (es.find? (fun x => x.1 == s)).map (·.2)
    let (ag, cs) := r.getD (agg, zero)
    let v : Option W := if ag then some (.a cs) else match cs with | [d] => some (.c (.d d)) | _ => none
    v.map fun v => if ok then .t [v, .c (.d (.bool r.isSome))] else .w v
  | _ => none
def lenSF : V → Option V
  | vS s => some (vI .i64 s.length)
  | _ => none
def lenLF : V → Option V
  | vD .nils => some (vI .i64 0)
  | vD (.sl _ _ rows) => some (vI .i64 rows.length)
  | _ => none
def nilcF : V → Option V
  | vC (.ptr id o) => some (vC (.ptr id o))
  | vC (.loc k o) => some (vC (.loc k o))
  | vD (.imm cs) => some (vD (.imm cs))
  | vD (.fn f cs) => some (vD (.fn f cs))
  | _ => none
def pickF (c a b : V) : Option V :=
  match c with
  | vB true => some a
  | vB false => some b
  | _ => none
def notF : V → Option V
  | vB b => some (vB (!b))
  | _ => none
def convF (k : IntKind) : V → Option V
  | vI _ n => some (vI k (k.wrap n))
  | _ => none
def convBF : V → Option V
  | vS s => if s.length ≤ 1099511627776 then some (vD (.sl false 1 (bytesD s))) else none
  | _ => none
def extF (i : Nat) : V → Option V
  | .t ws => (ws[i]?).map .w
  | _ => none

def takeF (F : SF) : O → V × SF
  | .t t => match F.f t with
    | vC (.own sz rows) => (vC (.own sz rows), { F with f := upd F.f t (vD (.sl false sz rows)) })
    | .t ws => (.t ws, { F with f := upd F.f t (.t (ws.map W.er)) })
    | v => (v, F)
  | .k v => (v, F)

/-- Pieces of a state that are no temporaries: what a function over `St` makes of them. -/
def SF.by (F : SF) {α : Type} (r : Option (α × St)) : Option (α × SF) := r.map fun (a, S) => (a, F.of S)
def SF.by1 (F : SF) (r : Option St) : Option (V × SF) := r.map fun S => (.t [], F.of S)

def opF (Sg : Sig) (lim : Nat) : L1 → SF → Option (V × SF)
  | .mov x, F => some (x.re F.f, F)
  | .take x, F => some (takeF F x)
  | .takeEx t i, F => match F.f t with
    | .t ws => match ws[i]? with
      | some w => some (.w w, { F with f := upd F.f t (.t (ws.set i w.er)) })
      | none => none
    | _ => none
  | .ext x i, F => (extF i (x.re F.f)).map (·, F)
  | .pick c a b, F => (pickF (c.re F.f) (a.re F.f) (b.re F.f)).map (·, F)
  | .nilc x, F => (nilcF (x.re F.f)).map (·, F)
  | .bin op ti x y, F => (binV (fun _ => ti) op 0 (x.re F.f) (y.re F.f)).map (·, F)
  | .not x, F => (notF (x.re F.f)).map (·, F)
  | .conv k x, F => (convF k (x.re F.f)).map (·, F)
  | .convB x, F => (convBF (x.re F.f)).map (·, F)
  | .faddr off x, F => (faddrF off (x.re F.f)).map (·, F)
  | .fld off size agg x, F => (fldF off size agg (x.re F.f)).map (·, F)
  | .idxS x i, F => (idxSF (x.re F.f) (i.re F.f)).map (·, F)
  | .idxA n size agg x i, F => (idxAF n size agg (x.re F.f) (i.re F.f)).map (·, F)
  | .iaS size x i, F => (iaSF size (x.re F.f) (i.re F.f)).map (·, F)
  | .iaA n size x i, F => (iaAF n size (x.re F.f) (i.re F.f)).map (·, F)
  | .slS x lo hi, F => (slSF (x.re F.f) (lo.map (·.re F.f)) (hi.map (·.re F.f))).map (·, F)
  | .slL size x lo hi mx, F => (slLF size (x.re F.f) (lo.map (·.re F.f)) (hi.map (·.re F.f)) (mx.map (·.re F.f))).map (·, F)
  | .load size agg p, F => (ld F.st lim (p.re F.f) size agg).map (·, F)
  | .takeLd p, F => F.by (takeLd F.st lim (p.re F.f))
  | .build zero ps, F => (buildF zero (ps.map fun p => (p.1, p.2.1, (p.2.2.re F.f).dcells))).map fun cs => (vA cs, F)
  | .bslice size zero n ps, F => (bsliceF size zero n (ps.map fun p => (p.1, (p.2.re F.f).dcells))).map (·, F)
  | .look agg zero m k ok, F => match mapOf F.st lim (m.re F.f) with
    | some es => (lookF agg zero es (k.re F.f) ok).map (·, F)
    | none => none
  | .lenS x, F => (lenSF (x.re F.f)).map (·, F)
  | .lenL x, F => (lenLF (x.re F.f)).map (·, F)
  | .callF f args, F => match Sg f with
    | some (.eff g) => F.by (effCall F.st g (orl F.f args))
    | some (.pure g) => if (orl F.f args).all dataV then (g (orl F.f args)).map (·, F) else none
    | none => none
  | .callV x args, F => match x.re F.f with
    | vD (.fn f caps) => (pureCall Sg f (orl F.f args ++ caps.map vD)).map (·, F)
    | _ => none
  | .app size s x, F => match takeF F s with
    | (v, F') => match rowsOf (x.re F.f) size with
      | some ys => (appendV size v ys).map fun r => (r, F')
      | none => none
  | .alloc zero, F => some (vC (.loc F.L.length 0), { F with L := F.L ++ [some (.cells (zero.map C.d))] })
  | .box x, F => match (x.re F.f).dcells with
    | some ds => some (vC (.loc F.L.length 0), { F with L := F.L ++ [some (.cells (ds.map C.d))] })
    | none => none
  | .store size p x, F => match takeF F x with
    | (v, F') => match v.cells with
      | some cs => if cs.length = size ∧ cs.all C.plain = true then F'.by1 (storeTo F'.st (p.re F.f) cs) else none
      | none => none
  | .mkmap, F => some (vC (.ml F.L.length), { F with L := F.L ++ [some (.map [])] })
  | .ins size m k x, F => match m.re F.f, k.re F.f, (x.re F.f).dcells with
    | vC (.ml j), vS key, some ds => match F.L.getD j none with
      | some (.map es) => if ds.length = size then some (.t [], { F with L := F.L.set j (some (.map (updM es key (isAggV (x.re F.f), ds)))) }) else none
      | _ => none
    | _, _, _ => none
  | .mkfn f caps, F => F.by ((capture F.st (caps.map (·.rd F.f))).map fun (ds, S') => (vD (.fn f ds), S'))
  | .bad, _ => none

/-- An operation with its place and its guard. -/
structure L2 where
  dst : Option Nat
  guard : Option (Nat × Bool)
  op : L1
  deriving Inhabited

def SF.put (F : SF) (d : Option Nat) (v : V) : SF :=
  match d with
  | some t => { F with f := upd F.f t v }
  | none => F

def stepsF (Sg : Sig) (lim : Nat) : List L2 → SF → Option SF
  | [], F => some F
  | ⟨d, none, op⟩ :: r, F => match opF Sg lim op F with
    | some (v, F') => stepsF Sg lim r (F'.put d v)
    | none => none
  | ⟨d, some (t, want), op⟩ :: r, F => match F.f t with
    | vB b => if b = want then (match opF Sg lim op F with
        | some (v, F') => stepsF Sg lim r (F'.put d v)
        | none => none) else stepsF Sg lim r (F.put d (.t []))
    | .t _ => stepsF Sg lim r (F.put d (.t []))
    | _ => none

inductive LC where
  | skip
  | reg (draw : Bool) (ops : List L2)
  | seq (a b : LC)
  | cond (c : O) (a b : LC)
  | block (id : Nat) (c : LC)
  | loop (c : LC)
  | exit (id : Nat)
  | ret
  | bad
  deriving Inhabited

def forgetF (K : List Nat) (n : Nat) (F : SF) : SF := ⟨fun i => if K.contains i then dropLoc n (F.f i) else vJ, F.H, F.L.take n⟩

def roundsF (f : SF → Option (X × SF)) (fg : SF → SF) : Nat → SF → Option (X × SF)
  | 0, _ => none
  | k + 1, F => match f (fg F) with
    | some (.norm, F') => roundsF f fg k F'
    | r => r

def evF (Sg : Sig) (K : List Nat) (n : Nat) : LC → SF → Option (X × SF)
  | .skip, F => some (.norm, F)
  | .reg draw ops, F => (stepsF Sg (if draw then F.L.length else 1099511627776) ops F).map fun F' => (.norm, F')
  | .seq a b, F => match evF Sg K n a F with
    | some (.norm, F') => evF Sg K n b F'
    | r => r
  | .cond c a b, F => match c.re F.f with
    | vB true => evF Sg K n a F
    | vB false => evF Sg K n b F
    | _ => none
  | .block id c, F => match evF Sg K n c F with
    | some (.ex j, F') => if j = id then some (.norm, F') else some (.ex j, F')
    | r => r
  | .loop c, F => roundsF (evF Sg K n c) (forgetF K F.L.length) n F
  | .exit id, F => some (.ex id, F)
  | .ret, F => some (.ret, F)
  | .bad, _ => none

/-! ### From the model's code -/
def isZ (ti : TI) : Bool := ti.size == 0

def fsPlace (T : Tabl) (fs : List (Nat × Nat)) : List (Nat × Operand) → Option (List (Nat × Nat × O))
  | [] => some []
  | (i, x) :: r => match stPlace T fs i, fsPlace T fs r with
    | some (off, n), some l => some ((off, n, opdO x) :: l)
    | _, _ => none
def arPlace (sz : Nat) : List (Nat × Operand) → List (Nat × Nat × O)
  | [] => []
  | (i, x) :: r => (i * sz, sz, opdO x) :: arPlace sz r

def compOp (T : Tabl) (tk : Bool) : Op → L1
  | .move x => if tk then .take (opdO x) else .mov (opdO x)
  | .assign x => .take (opdO x)
  | .pick c a b => .pick (opdO c) (opdO a) (opdO b)
  | .nilCheck x => .nilc (opdO x)
  | .binOp op t x y _ => .bin op (T t) (opdO x) (opdO y)
  | .unOp .not _ x => .not (opdO x)
  | .convert s d x => match (T s).map TI.ty, (T d).map TI.ty with
    | some (.int _), some (.int k) => .conv k (opdO x)
    | some .str, some (.sl e) => match (T e).map TI.ty with
      | some (.int .u8) => .convB (opdO x)
      | _ => .bad
    | _, _ => .bad
  | .extract (.tmp t) i => if tk then .takeEx t i else .ext (.t t) i
  | .extract x i => .ext (opdO x) i
  | .fieldAddr t x f => match (T t).map TI.ty with
    | some (.st fs) => match fs[f]? with
      | some (off, ft) => match T ft with
        | some i => if i.size = 0 then .bad else .faddr off (opdO x)
        | none => .bad
      | none => .bad
    | _ => .bad
  | .field t x f => match (T t).map TI.ty with
    | some (.st fs) => match fs[f]? with
      | some (off, ft) => match T ft with
        | some i => .fld off i.size i.agg (opdO x)
        | none => .bad
      | none => .bad
    | _ => .bad
  | .index t x i => match (T t).map TI.ty with
    | some .str => .idxS (opdO x) (opdO i)
    | some (.arr n e) => match T e with
      | some ti => .idxA n ti.size ti.agg (opdO x) (opdO i)
      | none => .bad
    | _ => .bad
  | .indexAddr t x i => match (T t).map TI.ty with
    | some (.sl e) => match T e with
      | some ti => .iaS ti.size (opdO x) (opdO i)
      | none => .bad
    | some (.arr n e) => match T e with
      | some ti => .iaA n ti.size (opdO x) (opdO i)
      | none => .bad
    | _ => .bad
  | .slice t x lo hi mx => match (T t).map TI.ty with
    | some .str => match mx with
      | none => .slS (opdO x) (lo.map opdO) (hi.map opdO)
      | some _ => .bad
    | some (.sl e) => match T e with
      | some ti => .slL ti.size (opdO x) (lo.map opdO) (hi.map opdO) (mx.map opdO)
      | none => .bad
    | _ => .bad
  | .load t p => match T t with
    | some ti => if tk && !ti.agg then .takeLd (opdO p) else .load ti.size ti.agg (opdO p)
    | none => .bad
  | .build t ps => match T t with
    | some ti => match ti.ty with
      | .st fs => match fsPlace T fs ps.toList with
        | some l => .build ti.zero l
        | none => .bad
      | .arr _ e => match T e with
        | some te => .build ti.zero (arPlace te.size ps.toList)
        | none => .bad
      | _ => .bad
    | none => .bad
  | .buildSlice t n ps => match (T t).map TI.ty with
    | some (.sl e) => match T e with
      | some te => .bslice te.size te.zero n (ps.toList.map fun p => (p.1, opdO p.2))
      | none => .bad
    | _ => .bad
  | .lookup t x k ok => match (T t).map TI.ty with
    | some (.mp _ e) => match T e with
      | some te => .look te.agg te.zero (opdO x) (opdO k) ok
      | none => .bad
    | _ => .bad
  | .alloc t => match T t with
    | some ti => .alloc ti.zero
    | none => .bad
  | .box _ x => .box (opdO x)
  | .store t p x => match T t with
    | some ti => .store ti.size (opdO p) (opdO x)
    | none => .bad
  | .makeMap _ none => .mkmap
  | .insert t m k x | .mapUpdate t m k x => match (T t).map TI.ty with
    | some (.mp _ e) => match T e with
      | some te => .ins te.size (opdO m) (opdO k) (opdO x)
      | none => .bad
    | _ => .bad
  | .makeFunc (.func f) first caps => if first.isEmpty then .mkfn f (caps.toList.map opdO) else .bad
  | .call c => match c.callee with
    | .builtin .len => match c.args.toList, c.argTypes.toList with
      | [x], t :: _ => match (T t).map TI.ty with
        | some .str => .lenS (opdO x)
        | some (.sl _) => .lenL (opdO x)
        | _ => .bad
      | _, _ => .bad
    | .builtin .append => match c.args.toList, c.argTypes.toList with
      | [s, x], [t, tx] => match (T t).map TI.ty with
        | some (.sl e) => match T e with
          | some te => if isRow (T tx) then .app te.size (opdO s) (opdO x) else .bad
          | none => .bad
        | _ => .bad
      | _, _ => .bad
    | .value (.func f) => .callF f (c.args.toList.map opdO)
    | .value (.tmp x) => .callV (.t x) (c.args.toList.map opdO)
    | _ => .bad
  | _ => .bad

def dstOk (N : Nat) : Option Nat → Bool
  | some d => decide (d < N)
  | none => true

def compStep (T : Tabl) (N : Nat) (tks : Nat → Bool) (ops : Array Oper) (i : Nat) : L2 :=
  match ops[i]? with
  | some o => if dstOk N o.dst then (match o.guard with
      | none => ⟨o.dst, none, compOp T (tks i) o.op⟩
      | some (j, want) => match (ops[j]?).bind (·.dst) with
        | some d => ⟨o.dst, some (d, want), compOp T (tks i) o.op⟩
        | none => ⟨none, none, .bad⟩) else ⟨none, none, .bad⟩
  | none => ⟨none, none, .bad⟩

def comp (T : Tabl) (okDraw : Array Oper → Bool) (N : Nat) : Code → LC
  | .skip => .skip
  | .label _ => .skip
  | .region _ ops draw => if draw then (if okDraw ops then .reg true ((List.range ops.size).map (compStep T N (takes true ops) ops)) else .bad)
    else .reg false ((List.range ops.size).map (compStep T N (takes false ops) ops))
  | .seq a b => .seq (comp T okDraw N a) (comp T okDraw N b)
  | .cond c a b => .cond (opdO c) (comp T okDraw N a) (comp T okDraw N b)
  | .block id c => .block id (comp T okDraw N c)
  | .loop c => .loop (comp T okDraw N c)
  | .scope c => comp T okDraw N c
  | .exit id => .exit id
  | .ret => .ret
  | _ => .bad

end Go.Ev
