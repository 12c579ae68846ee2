/- Contracts out of the walks over resolved code. -/
import Derived.Test.YtdpldomjhelfkaaDoorEvLib
import Derived.Test.YtdpldomjhelfkaaDoorEvTbl
import Derived.Test.YtdpldomjhelfkaaDoorEvFS
set_option linter.unusedVariables false
namespace Go.Ev
open Go Go.Proofs

def effB (f : Nat) : Bool := effs.contains f
def okD : Array Oper → Bool := drawOk effB
theorem mixed : Tryd.prog.follows .mixedOrders = true := by kernel_rfl

/-- The world of a table of contracts. -/
theorem world {pin : Nat → Option Obj} (hE : EqOk Tryd.prog (tabOf tab)) {Sg : Sig} (hS : SigOk Tryd.prog pin Sg) (he : ∀ f g, Sg f = some (.eff g) → effB f = true) : World7 Tryd.prog pin (tabOf tab) Sg okD :=
  ⟨tab_ok, hE, hS, mixed, effB, he, fun _ h => h⟩

theorem sound_pure {pin : Nat → Option Obj} {Sg : Sig} (hW : World7 Tryd.prog pin (tabOf tab) Sg okD) {f : Nat} {fn : Func} {l : LF} {K : List Nat} {n : Nat} {sp : List V → Option V} (hf : Tryd.prog.funcs[f]? = some fn) (hb : callB Tryd.prog f = true)
    (hc : compF (tabOf tab) okD fn = some l) (h : ∀ args v, sp args = some v → args.length ≤ fn.ntmps ∧ runF Sg K n l args [] = some (v, [])) : Sound Tryd.prog pin f (.pure sp) := by
  refine ⟨callB_ok hb, fun args H v H' hg => ?_⟩
  unfold asEff at hg
  split at hg
  · obtain ⟨u, h1, h2⟩ := Option.map_eq_some_iff.1 hg
    cases h2
    obtain ⟨h3, h4⟩ := h args _ h1
    exact fnEv_sound hW hf K n args [] _ [] (runF_ok hc h3 h4)
  · cases hg

theorem sound_eff {pin : Nat → Option Obj} {Sg : Sig} (hW : World7 Tryd.prog pin (tabOf tab) Sg okD) {f : Nat} {fn : Func} {l : LF} {K : List Nat} {n : Nat} {sp : List V → List (Option Ob) → Option (V × List (Option Ob))} (hf : Tryd.prog.funcs[f]? = some fn) (hb : callB Tryd.prog f = true)
    (hc : compF (tabOf tab) okD fn = some l) (h : ∀ args H v H', sp args H = some (v, H') → args.length ≤ fn.ntmps ∧ runF Sg K n l args H = some (v, H')) : Sound Tryd.prog pin f (.eff sp) := by
  refine ⟨callB_ok hb, fun args H v H' hg => ?_⟩
  obtain ⟨h3, h4⟩ := h args H v H' hg
  exact fnEv_sound hW hf K n args H v H' (runF_ok hc h3 h4)

/-- One contract more. -/
def sgAdd (f : Nat) (sp : Sp) (Sg : Sig) : Sig := fun g => if g = f then some sp else Sg g
theorem sigOk_add {pin : Nat → Option Obj} {Sg : Sig} {f : Nat} {sp : Sp} (h : Sound Tryd.prog pin f sp) (hS : SigOk Tryd.prog pin Sg) : SigOk Tryd.prog pin (sgAdd f sp Sg) := by
  intro g s hg
  unfold sgAdd at hg
  split at hg
  · rename_i e; subst e; cases hg; exact h
  · exact hS g s hg
theorem sigOk_none {pin : Nat → Option Obj} : SigOk Tryd.prog pin (fun _ => none) := fun _ _ h => by cases h
theorem eff_add {Sg : Sig} {f : Nat} {sp : Sp} (h : ∀ g, sp = .eff g → effB f = true) (hS : ∀ f g, Sg f = some (.eff g) → effB f = true) : ∀ f' g, sgAdd f sp Sg f' = some (.eff g) → effB f' = true := by
  intro g s hg
  unfold sgAdd at hg
  split at hg
  · rename_i e; subst e; cases hg; exact h s rfl
  · exact hS g s hg
theorem eff_addP {Sg : Sig} {f : Nat} {sp : List V → Option V} (hS : ∀ f g, Sg f = some (.eff g) → effB f = true) : ∀ f' g, sgAdd f (.pure sp) Sg f' = some (.eff g) → effB f' = true := eff_add (fun g h => by cases h) hS

end Go.Ev
