/- How abstract values stand for values in a world; what a step keeps; the relation between abstract and concrete states. -/
import Derived.Test.YtdpldomjhelfkaaDoorEvCore
import Derived.Calls
import Derived.Laws.AppendOwn
set_option linter.unusedVariables false
namespace Go.Ev
open Go

/-- What is known of memory: of a block's cells the first so many never change; a map that never changes. -/
structure M where
  im : Nat → Option Nat
  mp : Nat → Bool

def cellsVal (a : Bool) (n : Nat) (f : Nat → Value) : Value := if a then .agg (Array.ofFn fun (j : Fin n) => f j.1) else f 0

inductive DRep (m : M) (w : World) : D → Value → Prop
  | bool (b : Bool) : DRep m w (.bool b) (.bool b)
  | int (k : IntKind) (n : Int) : DRep m w (.int k n) (.int k n)
  | str (s : List UInt8) : DRep m w (.str s) (.string ⟨s.toArray⟩)
  | nils : DRep m w .nils (.slice none 0 0)
  | nilp : DRep m w .nilp (.pointer none)
  | nilm : DRep m w .nilm (.map none)
  | nilf : DRep m w .nilf .nilFunc
  | sl (full : Bool) (sz : Nat) (rows : List (List D)) (b off cap lim : Nat) (arr : Array Value) (e : TypeId) (fr : Nat × Nat) (val : Nat → Nat → Value)
      (him : m.im b = some lim) (hlim : off + rows.length * sz ≤ lim) (hb : w.heap[b]? = some (.cells arr e fr))
      (hcap : rows.length ≤ cap) (hfull : full = true → cap = rows.length)
      (hsz : ∀ (i : Nat) (r : List D), rows[i]? = some r → r.length = sz)
      (hval : ∀ (i j : Nat) (r : List D) (c : D), rows[i]? = some r → r[j]? = some c → arr[off + i * sz + j]? = some (val i j))
      (hrep : ∀ (i j : Nat) (r : List D) (c : D), rows[i]? = some r → r[j]? = some c → DRep m w c (val i j)) :
      DRep m w (.sl full sz rows) (.slice (some ⟨b, off, none⟩) rows.length cap)
  /-- An empty slice without room, wherever it points. -/
  | sl0 (full : Bool) (sz : Nat) (a : Addr) : DRep m w (.sl full sz []) (.slice (some a) 0 0)
  | imm (cells : List D) (b off lim : Nat) (arr : Array Value) (e : TypeId) (fr : Nat × Nat) (val : Nat → Value)
      (him : m.im b = some lim) (hlim : off + cells.length ≤ lim) (hb : w.heap[b]? = some (.cells arr e fr))
      (hval : ∀ (j : Nat) (c : D), cells[j]? = some c → arr[off + j]? = some (val j))
      (hrep : ∀ (j : Nat) (c : D), cells[j]? = some c → DRep m w c (val j)) :
      DRep m w (.imm cells) (.pointer (some ⟨b, off, none⟩))
  | fn (f : Nat) (caps : List D) (vals : Array Value) (val : Nat → Value) (hs : vals.size = caps.length)
      (hval : ∀ (j : Nat) (c : D), caps[j]? = some c → vals[j]? = some (val j))
      (hrep : ∀ (j : Nat) (c : D), caps[j]? = some c → DRep m w c (val j)) :
      DRep m w (.fn f caps) (.func (.func f) #[] vals)
  | mp (es : List (List UInt8 × Bool × List D)) (b : Nat) (entries : Array MapEntry) (clock : Nat) (val : Nat → Nat → Value)
      (hm : m.mp b = true) (hb : w.heap[b]? = some (.map entries clock)) (hn : entries.size = es.length)
      (hone : ∀ (i : Nat) (k : List UInt8) (ds : List D), es[i]? = some (k, false, ds) → ds.length = 1)
      (hent : ∀ (i : Nat) (k : List UInt8) (a : Bool) (ds : List D), es[i]? = some (k, a, ds) → ∃ bn, entries[i]? = some { key := .string ⟨k.toArray⟩, val := cellsVal a ds.length (val i), born := bn })
      (hrep : ∀ (i : Nat) (k : List UInt8) (a : Bool) (ds : List D) (j : Nat) (c : D), es[i]? = some (k, a, ds) → ds[j]? = some c → DRep m w c (val i j)) :
      DRep m w (.mp es) (.map (some b))

/-- What never changed stays. -/
structure Ext (m : M) (w : World) (m' : M) (w' : World) : Prop where
  im : ∀ b lim, m.im b = some lim → ∃ lim', lim ≤ lim' ∧ m'.im b = some lim'
  cells : ∀ b lim arr e fr, m.im b = some lim → w.heap[b]? = some (.cells arr e fr) → ∃ arr' fr', w'.heap[b]? = some (.cells arr' e fr') ∧ arr'.size = arr.size ∧ ∀ i, i < lim → arr'[i]? = arr[i]?
  mp : ∀ b, m.mp b = true → m'.mp b = true
  maps : ∀ b, m.mp b = true → w'.heap[b]? = w.heap[b]?

theorem Ext.refl (m : M) (w : World) : Ext m w m w := ⟨fun b lim h => ⟨lim, Nat.le_refl _, h⟩, fun b lim arr e fr _ h => ⟨arr, fr, h, rfl, fun _ _ => rfl⟩, fun _ h => h, fun _ _ => rfl⟩

theorem Ext.trans {m m' m'' : M} {w w' w'' : World} (h : Ext m w m' w') (k : Ext m' w' m'' w'') : Ext m w m'' w'' := by
  refine ⟨fun b lim hb => ?_, fun b lim arr e fr hb hh => ?_, fun b hb => k.mp b (h.mp b hb), fun b hb => (k.maps b (h.mp b hb)).trans (h.maps b hb)⟩
  · obtain ⟨l1, h1, h2⟩ := h.im b lim hb
    obtain ⟨l2, h3, h4⟩ := k.im b l1 h2
    exact ⟨l2, by omega, h4⟩
  · obtain ⟨l1, h1, h2⟩ := h.im b lim hb
    obtain ⟨a1, f1, h3, h4, h5⟩ := h.cells b lim arr e fr hb hh
    obtain ⟨a2, f2, h6, h7, h8⟩ := k.cells b l1 a1 e f1 h2 h3
    exact ⟨a2, f2, h6, h7.trans h4, fun i hi => (h8 i (by omega)).trans (h5 i hi)⟩

theorem DRep.mono {m m' : M} {w w' : World} (x : Ext m w m' w') {d : D} {v : Value} (h : DRep m w d v) : DRep m' w' d v := by
  induction h with
  | bool b => exact .bool b
  | int k n => exact .int k n
  | str s => exact .str s
  | nils => exact .nils
  | nilp => exact .nilp
  | nilm => exact .nilm
  | nilf => exact .nilf
  | sl full sz rows b off cap lim arr e fr val him hlim hb hcap hfull hsz hval hrep ih =>
    obtain ⟨l1, h1, h2⟩ := x.im b lim him
    obtain ⟨a1, f1, h3, h4, h5⟩ := x.cells b lim arr e fr him hb
    refine .sl full sz rows b off cap l1 a1 e f1 val h2 (by omega) h3 hcap hfull hsz (fun i j r c hr hc => ?_) ih
    rw [h5 _ ?_]
    · exact hval i j r c hr hc
    · have hi : i < rows.length := (List.getElem?_eq_some_iff.1 hr).1
      have hj : j < r.length := (List.getElem?_eq_some_iff.1 hc).1
      have hs := hsz i r hr
      have : (i + 1) * sz ≤ rows.length * sz := Nat.mul_le_mul_right _ hi
      rw [Nat.add_mul, Nat.one_mul] at this
      omega
  | sl0 full sz a => exact .sl0 full sz a
  | imm cells b off lim arr e fr val him hlim hb hval hrep ih =>
    obtain ⟨l1, h1, h2⟩ := x.im b lim him
    obtain ⟨a1, f1, h3, h4, h5⟩ := x.cells b lim arr e fr him hb
    refine .imm cells b off l1 a1 e f1 val h2 (by omega) h3 (fun j c hc => ?_) ih
    rw [h5 _ ?_]
    · exact hval j c hc
    · have hj : j < cells.length := (List.getElem?_eq_some_iff.1 hc).1
      omega
  | fn f caps vals val hs hval hrep ih => exact .fn f caps vals val hs hval ih
  | mp es b entries clock val hm hb hn hone hent hrep ih => exact .mp es b entries clock val (x.mp b hm) ((x.maps b hm).trans hb) hn hone hent ih

structure Env where
  m : M
  ob : Nat → Option Nat
  lo : Nat → Option Nat

def CRep (E : Env) (w : World) : C → Value → Prop
  | .d x, v => DRep E.m w x v
  | .own sz rows, v => DRep E.m w (.sl false sz rows) v
  | .ptr id off, v => ∃ b, E.ob id = some b ∧ v = .pointer (some ⟨b, off, none⟩)
  | .loc k off, v => ∃ b, E.lo k = some b ∧ v = .pointer (some ⟨b, off, none⟩)
  | .ml k, v => ∃ b, E.lo k = some b ∧ v = .map (some b)
  | .junk, _ => True

def ARep (m : M) (w : World) (ds : List D) (vs : Array Value) : Prop := vs.size = ds.length ∧ ∀ (i : Nat) (d : D), ds[i]? = some d → ∃ x, vs[i]? = some x ∧ DRep m w d x

def WRep (E : Env) (w : World) : W → Value → Prop
  | .c c, v => CRep E w c v
  | .a ds, v => ∃ vs, v = .agg vs ∧ ARep E.m w ds vs

def VRep (E : Env) (w : World) : V → Value → Prop
  | .w x, v => WRep E w x v
  | .t ws, v => ∃ vs, v = .tuple vs ∧ vs.size = ws.length ∧ ∀ (i : Nat) (x : W), ws[i]? = some x → ∃ u, vs[i]? = some u ∧ WRep E w x u

/-- A cell of an object. -/
def PRep (m : M) (w : World) : C → Value → Prop
  | .d x, v => DRep m w x v
  | .own sz rows, v => DRep m w (.sl false sz rows) v
  | _, _ => False

def MRep (m : M) (w : World) (es : List (List UInt8 × Bool × List D)) (entries : Array MapEntry) : Prop :=
  entries.size = es.length ∧ (∀ (i : Nat) (k : List UInt8) (ds : List D), es[i]? = some (k, false, ds) → ds.length = 1) ∧
  ∀ (i : Nat) (k : List UInt8) (a : Bool) (ds : List D), es[i]? = some (k, a, ds) → ∃ bn val, entries[i]? = some { key := .string ⟨k.toArray⟩, val := cellsVal a ds.length val, born := bn } ∧
    ∀ (j : Nat) (c : D), ds[j]? = some c → DRep m w c (val j)

def ObRep (m : M) (w : World) (b : Nat) : Ob → Prop
  | .cells l => ∃ arr e, w.heap[b]? = some (.cells arr e (0, 0)) ∧ arr.size = l.length ∧ ∀ (i : Nat) (c : C), l[i]? = some c → ∃ x, arr[i]? = some x ∧ PRep m w c x
  | .map es => ∃ entries clock, w.heap[b]? = some (.map entries clock) ∧ MRep m w es entries

theorem ARep.mono {m m' : M} {w w' : World} (x : Ext m w m' w') {ds : List D} {vs : Array Value} (h : ARep m w ds vs) : ARep m' w' ds vs :=
  ⟨h.1, fun i d hd => let ⟨u, h1, h2⟩ := h.2 i d hd; ⟨u, h1, h2.mono x⟩⟩

theorem CRep.mono {E E' : Env} {w w' : World} (x : Ext E.m w E'.m w') {c : C} {v : Value}
    (hob : ∀ id off b, c = .ptr id off → E.ob id = some b → E'.ob id = some b) (hlo : ∀ k b, E.lo k = some b → E'.lo k = some b) (h : CRep E w c v) : CRep E' w' c v := by
  cases c with
  | d d => exact DRep.mono x h
  | own sz rows => exact DRep.mono x h
  | ptr id off => obtain ⟨b, h1, h2⟩ := h; exact ⟨b, hob id off b rfl h1, h2⟩
  | loc k off => obtain ⟨b, h1, h2⟩ := h; exact ⟨b, hlo k b h1, h2⟩
  | ml k => obtain ⟨b, h1, h2⟩ := h; exact ⟨b, hlo k b h1, h2⟩
  | junk => trivial

theorem WRep.mono {E E' : Env} {w w' : World} (x : Ext E.m w E'.m w') {c : W} {v : Value}
    (hob : ∀ id b, E.ob id = some b → E'.ob id = some b) (hlo : ∀ k b, E.lo k = some b → E'.lo k = some b) (h : WRep E w c v) : WRep E' w' c v := by
  cases c with
  | c c => exact CRep.mono x (fun id _ b _ => hob id b) hlo h
  | a ds => obtain ⟨vs, h1, h2⟩ := h; exact ⟨vs, h1, h2.mono x⟩

theorem VRep.mono {E E' : Env} {w w' : World} (x : Ext E.m w E'.m w') {c : V} {v : Value}
    (hob : ∀ id b, E.ob id = some b → E'.ob id = some b) (hlo : ∀ k b, E.lo k = some b → E'.lo k = some b) (h : VRep E w c v) : VRep E' w' c v := by
  cases c with
  | w c => exact WRep.mono x hob hlo h
  | t ws => obtain ⟨vs, h1, h2, h3⟩ := h; exact ⟨vs, h1, h2, fun i x' hx => let ⟨u, h4, h5⟩ := h3 i x' hx; ⟨u, h4, h5.mono x hob hlo⟩⟩

theorem PRep.mono {m m' : M} {w w' : World} (x : Ext m w m' w') {c : C} {v : Value} (h : PRep m w c v) : PRep m' w' c v := by
  cases c <;> first | exact DRep.mono x h | exact h.elim

theorem MRep.mono {m m' : M} {w w' : World} (x : Ext m w m' w') {es : List (List UInt8 × Bool × List D)} {en : Array MapEntry} (h : MRep m w es en) : MRep m' w' es en :=
  ⟨h.1, h.2.1, fun i k a ds hd => let ⟨bn, val, h1, h2⟩ := h.2.2 i k a ds hd; ⟨bn, val, h1, fun j c hc => (h2 j c hc).mono x⟩⟩

theorem ObRep.mono {m m' : M} {w w' : World} (x : Ext m w m' w') {b : Nat} {o : Ob} (hb : w'.heap[b]? = w.heap[b]?) (h : ObRep m w b o) : ObRep m' w' b o := by
  cases o with
  | cells l => obtain ⟨arr, e, h1, h2, h3⟩ := h; exact ⟨arr, e, hb.trans h1, h2, fun i c hc => let ⟨u, h4, h5⟩ := h3 i c hc; ⟨u, h4, h5.mono x⟩⟩
  | map es => obtain ⟨en, cl, h1, h2⟩ := h; exact ⟨en, cl, hb.trans h1, h2.mono x⟩

/-! ### The right to append: where it lies -/
inductive FL where
  | t (i : Nat) | tt (i j : Nat) | h (id off : Nat) | l (k off : Nat)

def St.at (S : St) : FL → Option C
  | .t i => match S.tm[i]? with | some (.w (.c c)) => some c | _ => none
  | .tt i j => match S.tm[i]? with | some (.t ws) => (match ws[j]? with | some (.c c) => some c | _ => none) | _ => none
  | .h id off => match S.H[id]? with | some (some (.cells l)) => l[off]? | _ => none
  | .l k off => match S.L[k]? with | some (some (.cells l)) => l[off]? | _ => none

def conc (E : Env) (tmps : Array Value) (w : World) : FL → Option Value
  | .t i => tmps[i]?
  | .tt i j => match tmps[i]? with | some (.tuple vs) => vs[j]? | _ => none
  | .h id off => (E.ob id).bind fun b => w.cell? ⟨b, off, none⟩
  | .l k off => (E.lo k).bind fun b => w.cell? ⟨b, off, none⟩

/-- The slice value `v` of elements of `sz` cells may be appended to in place. -/
structure RowOk (m : M) (w : World) (sz : Nat) (v : Value) (b : Nat) : Prop where
  mk ::
  ex : ∃ off n cap arr e, v = .slice (some ⟨b, off, none⟩) n cap ∧ m.im b = some (off + n * sz) ∧ w.heap[b]? = some (.cells arr e (0, 0)) ∧ arr.size = off + cap * sz ∧ n ≤ cap

def Owned (S : St) (E : Env) (tmps : Array Value) (w : World) (ℓ : FL) (sz : Nat) (v : Value) : Prop := (∃ rows, S.at ℓ = some (.own sz rows)) ∧ conc E tmps w ℓ = some v

def blk : Value → Option Nat
  | .slice (some a) _ _ => some a.block
  | _ => none

/-- Since a function began (in the world `w0`, `m0` known): what it may write of what was there: the blocks of `T`. -/
structure Base where
  w0 : World
  m0 : M
  T : Nat → Prop
  /-- Blocks that hold what they hold for good. -/
  pin : Nat → Option Obj
  good : ∀ b o, pin b = some o → w0.heap[b]? = some o ∧ ¬ T b

structure Kept (B : Base) (m : M) (w : World) : Prop where
  size : B.w0.heap.size ≤ w.heap.size
  os : w.os = B.w0.os
  tape : w.tape = B.w0.tape
  output : w.output = B.w0.output
  same : ∀ b, b < B.w0.heap.size → ¬ B.T b → w.heap[b]? = B.w0.heap[b]? ∧ m.im b = B.m0.im b ∧ m.mp b = B.m0.mp b
  ext : Ext B.m0 B.w0 m w

def Base.may (B : Base) (b : Nat) : Prop := B.T b ∨ B.w0.heap.size ≤ b

def liveH (S : St) (id : Nat) : Prop := ∃ o, S.H[id]? = some (some o)
def liveL (S : St) (k : Nat) : Prop := ∃ o, S.L[k]? = some (some o)

structure Rel (B : Base) (E : Env) (S : St) (tmps : Array Value) (w : World) : Prop where
  len : tmps.size = S.tm.length
  tr : ∀ (i : Nat) (v : V), S.tm[i]? = some v → ∃ x, tmps[i]? = some x ∧ VRep E w v x
  hr : ∀ (id : Nat) (o : Ob), S.H[id]? = some (some o) → ∃ b, E.ob id = some b ∧ ObRep E.m w b o ∧ E.m.im b = none ∧ E.m.mp b = false ∧ B.may b
  lr : ∀ (k : Nat) (o : Ob), S.L[k]? = some (some o) → ∃ b, E.lo k = some b ∧ ObRep E.m w b o ∧ E.m.im b = none ∧ E.m.mp b = false ∧ B.may b
  hh : ∀ i j b, liveH S i → liveH S j → E.ob i = some b → E.ob j = some b → i = j
  ll : ∀ i j b, liveL S i → liveL S j → E.lo i = some b → E.lo j = some b → i = j
  hl : ∀ i j b, liveH S i → liveL S j → E.ob i = some b → E.lo j = some b → False
  obl : ∀ id b, E.ob id = some b → id < S.H.length
  lol : ∀ k b, E.lo k = some b → k < S.L.length
  own : ∀ ℓ sz v, Owned S E tmps w ℓ sz v → ∃ b, RowOk E.m w sz v b ∧ B.may b
  own1 : ∀ ℓ ℓ' sz sz' v v' b, Owned S E tmps w ℓ sz v → Owned S E tmps w ℓ' sz' v' → blk v = some b → blk v' = some b → ℓ = ℓ'
  imw : ∀ b n, E.m.im b = some n → ∃ arr e fr, w.heap[b]? = some (.cells arr e fr) ∧ n ≤ arr.size
  mpw : ∀ b, E.m.mp b = true → ∃ es c, w.heap[b]? = some (.map es c)
  kept : Kept B E.m w

end Go.Ev
