/- Tables of callees, level by level. -/
import Derived.Test.YtdpldomjhelfkaaDoorEvTab
set_option linter.unusedVariables false
set_option linter.unusedSimpArgs false
namespace Go.Ev
open Go

/-- A function of the program: does it write what its arguments point to; what its loops keep. -/
structure Fe where
  fn : Func
  eff : Bool
  keep : List Nat

/-- What a function without effect gives. -/
def pureOf (r : Option (V × List (Option Ob))) : Option V :=
  match r with
  | some (v, []) => some v
  | _ => none

def feSp (T : Tabl) (Sg : Sig) (okDraw : Array Oper → Bool) (e : Fe) : Sp :=
  if e.eff then .eff (fnEv T Sg okDraw e.keep 1099511627776 e.fn) else .pure fun args => pureOf (fnEv T Sg okDraw e.keep 1099511627776 e.fn args [])

/-- `lib`: contracts of their own, over the callees below. -/
def sigK (T : Tabl) (okDraw : Array Oper → Bool) (lib : Sig → Sig) (tbl : Nat → Option Fe) : Nat → Sig
  | 0 => fun _ => none
  | k + 1 => fun f => match lib (sigK T okDraw lib tbl k) f with
    | some s => some s
    | none => (tbl f).map (feSp T (sigK T okDraw lib tbl k) okDraw)

section
variable {P : Program} {T : Tabl} {pin : Nat → Option Obj} {okDraw : Array Oper → Bool} {lib : Sig → Sig} {tbl : Nat → Option Fe}

theorem SoundE.pure {f : Nat} {g : List V → List (Option Ob) → Option (V × List (Option Ob))} (h : SoundE P pin f g) : SoundE P pin f (asEff fun args => pureOf (g args [])) := by
  intro args H v H' hg
  unfold asEff at hg
  split at hg
  · obtain ⟨u, h1, h2⟩ := Option.map_eq_some_iff.1 hg
    cases h2
    simp only [pureOf] at h1
    split at h1
    · rename_i v' hv
      cases h1
      exact h args [] v [] hv
    · cases h1
  · cases hg

/-- What is asked of the whole. -/
structure Whole (P : Program) (pin : Nat → Option Obj) (T : Tabl) (okDraw : Array Oper → Bool) (lib : Sig → Sig) (tbl : Nat → Option Fe) (eff : Nat → Bool) : Prop where
  tab : TabOk P T
  eq : EqOk P T
  mixed : P.follows .mixedOrders = true
  draw : ∀ ops, okDraw ops = true → drawOk eff ops = true
  tblOk : ∀ f e, tbl f = some e → P.funcs[f]? = some e.fn ∧ Callable P f ∧ (e.eff = true → eff f = true)
  libOk : ∀ Sg, World7 P pin T Sg okDraw → SigOk P pin (lib Sg) ∧ ∀ f g, lib Sg f = some (.eff g) → eff f = true

theorem sigK_ok {eff : Nat → Bool} (hW : Whole P pin T okDraw lib tbl eff) : ∀ k, World7 P pin T (sigK T okDraw lib tbl k) okDraw
  | 0 => ⟨hW.tab, hW.eq, fun f sp h => (by cases h), hW.mixed, eff, fun f g h => (by cases h), hW.draw⟩
  | k + 1 => by
    have ih := sigK_ok hW k
    obtain ⟨l1, l2⟩ := hW.libOk _ ih
    refine ⟨hW.tab, hW.eq, fun f sp h => ?_, hW.mixed, eff, fun f g h => ?_, hW.draw⟩
    · simp only [sigK] at h
      split at h
      · rename_i s hs
        cases h
        exact l1 f _ hs
      · obtain ⟨e, he, rfl⟩ := Option.map_eq_some_iff.1 h
        obtain ⟨t1, t2, t3⟩ := hW.tblOk f e he
        have hs := fnEv_sound ih t1 e.keep 1099511627776
        refine ⟨t2, ?_⟩
        cases hef : e.eff with
        | true => simp only [feSp, hef, if_true]; exact hs
        | false => simp only [feSp, hef, Bool.false_eq_true, if_false]; exact hs.pure
    · simp only [sigK] at h
      split at h
      · rename_i s hs
        cases h
        exact l2 f g hs
      · obtain ⟨e, he, h2⟩ := Option.map_eq_some_iff.1 h
        obtain ⟨t1, t2, t3⟩ := hW.tblOk f e he
        unfold feSp at h2
        split at h2
        · rename_i hef; exact t3 hef
        · cases h2

/-- The program's own functions: those of `use`; `effs`: those that write; `keeps`: what the loops keep. -/
def tblOf (P : Program) (use effs : List Nat) (keeps : List (Nat × List Nat)) (f : Nat) : Option Fe :=
  if use.contains f then (P.funcs[f]?).map fun fn => ⟨fn, effs.contains f, ((keeps.find? fun p => p.1 == f).map (·.2)).getD []⟩ else none

def callB (P : Program) (f : Nat) : Bool := match P.funcs[f]? with | some fn => !(fn.name == "runtime.NumGoroutine") && !fn.body.isNone | none => false

theorem callB_ok {f : Nat} (h : callB P f = true) : Callable P f := by
  unfold callB at h
  split at h
  · rename_i fn hf
    rw [Bool.and_eq_true, Bool.not_eq_true', Bool.not_eq_true'] at h
    exact ⟨fn, hf, h.1, h.2⟩
  · cases h

theorem tblOf_ok {use effs : List Nat} {keeps : List (Nat × List Nat)} (h : use.all (callB P) = true) (f : Nat) (e : Fe) (he : tblOf P use effs keeps f = some e) :
    P.funcs[f]? = some e.fn ∧ Callable P f ∧ (e.eff = true → effs.contains f = true) := by
  unfold tblOf at he
  split at he
  · rename_i hu
    obtain ⟨fn, h1, rfl⟩ := Option.map_eq_some_iff.1 he
    exact ⟨h1, callB_ok (List.all_eq_true.1 h f (List.contains_iff_mem.1 hu)), id⟩
  · cases he

end
end Go.Ev
