/- sievelaw17.BalanceNames returns true: one closed run of the resolved code. No condition but the tied variables. -/
import Derived.Test.YtdpldomjhelfkaaDoorEvWorld
import Derived.Test.YtdpldomjhelfkaaDoorCards
import Derived.Test.YtdpldomjhelfkaaDoorTie
import Derived.ProofKit
import Derived.OpenShut
import Derived.Lay
import Derived.SevenTiedAt
set_option linter.unusedVariables false
set_option maxRecDepth 100000
namespace Go.Proofs.YtdpldomjhelfkaaDoor.names
open Go Go.Ev Go.Proofs Go.RowKit Go.ChangeShapes Go.WideShapes Go.ChangeAt

def keepsOf (f : Nat) : List Nat := ((keeps.find? fun p => p.1 == f).map (·.2)).getD []
noncomputable def top : Sig := sgAdd 5 (.pure livesSp) (fun _ => none)

theorem eqOk : EqOk Tryd.prog (tabOf tab) := by
  have h : (tab.all fun t => match t with | some ti => !ti.eq | none => true) = true := by kernel_rfl
  intro t ti ht he
  unfold tabOf at ht
  cases hq : tab[t]? with
  | none => simp [hq] at ht
  | some o =>
    have := List.all_eq_true.1 h o (List.mem_of_getElem? hq)
    cases o with
    | none => simp [hq] at ht
    | some ti' =>
      simp [hq] at ht
      subst ht
      simp [he] at this

theorem run : fnEv (tabOf tab) top okD (keepsOf 3) 1 Tryd.f3 [] [] = some (vB true, []) := by kernel_rfl

theorem calls {W : World} (hp : TabPin (pinAt W)) : Calls Tryd.prog 3 #[] W fun e w' => e = .returned (.bool true) ∧ Below W.heap.size W w' := by
  have hW : World7 Tryd.prog (pinAt W) (tabOf tab) top okD := world eqOk (sigOk_add (lives_sound hp eqOk) sigOk_none) (eff_addP (fun _ _ h => by cases h))
  exact law_calls (m := ⟨fun _ => none, fun _ => false⟩) (fnEv_sound hW Tryd.func3 _ 1) run (rel_start rfl (fun i v hv => by simp at hv) rfl (fun b n h => by cases h) (fun b h => by cases h))

theorem own : ownKnob Tryd.prog.godebug = none := by kernel_rfl

theorem asciiTab : Rows.laid_strings_asciiSpace = (Lib.tabData .u8 Lib.asciiSpaceTab : DataW Unit) := by kernel_rfl

theorem tabPin {W : World} (hL : laidMetH Tryd.prog Rows.balanceNamesRow.laid W) : TabPin (pinAt W) := by
  rw [MakeChecks.laidMetH_plain _ _ _ (by kernel_rfl)] at hL
  refine tabPin_of ?_
  obtain ⟨g, t, cs, fuel, p, h1, h2, h3, h4⟩ := Lib.laidMet.reads hL (n := "strings.asciiSpace") (d := Rows.laid_strings_asciiSpace) (.tail _ (.tail _ (.head _)))
  obtain rfl := Option.some.inj (gAscii.symm.trans h1)
  rw [asciiTab] at h4
  unfold Lib.TabIs
  have ht : (Tryd.prog.globals[0]?).map (·.type) = some 113 := by kernel_rfl
  obtain rfl := Option.some.inj (ht.symm.trans h2)
  rw [h3, ← Lib.cells_of_tab Tryd.underlying113 Tryd.underlying5 (by kernel_rfl) (by kernel_rfl) h4]

set_option maxRecDepth 100000 in
theorem lifted (os : Os) (started : os.Started) (H : Type) (enc : TypeId × Value → H) :
    ReturnsInHanded {} Tryd.checked os 3 .any (fun w args => (Rows.balanceNamesSpec.pre enc Tryd.prog Tryd.f3 [] false w args ∧ laidMetH Tryd.prog Rows.balanceNamesRow.laid w) ∧ sizedMet enc Tryd.prog Tryd.f3 (OpenSpec.ofChange Rows.balanceNamesSpec) false w args)
      (Rows.balanceNamesSpec.post enc Tryd.prog Tryd.f3 false true false false) := by
  refine returnsInHanded_of_change_and (C := Tryd.checked) (X := fun w _ => laidMetH Tryd.prog Rows.balanceNamesRow.laid w) (fun _ _ _ hh h => h.of_heap hh) own started (by kernel_rfl) Tryd.func3
    (ChangeSpec.witness_shaped (enc := enc) (C := Tryd.checked) (os := os) (X := fun w _ => laidMetH Tryd.prog Rows.balanceNamesRow.laid w) false (World.laidAll Tryd.prog os Rows.balanceNamesRow.laid) #[] 8 (World.laidAll_os _ _ _)
      (World.shaped_of_ZipB (by kernel_rfl) (by kernel_rfl)) (by kernel_rfl) (by kernel_rfl) (by kernel_rfl)
      (by rw [MakeChecks.laidMetH_plain _ _ _ (by kernel_rfl)]; exact laidMet_laidAll _ (by kernel_rfl) (by kernel_rfl))) ?_
  intro W base args ds gs before hval0 hW _ _ hL _
  have hW' := hW
  obtain ⟨p, q, hA0, hV, rfl, _, _⟩ := hW
  have hA : DataW.TrodAll enc Tryd.prog W 0 (fun _ => true) true Tryd.f3.params.toList args.toList ds p := hA0
  rw [Tryd.params3] at hA
  obtain ⟨ha, rfl, rfl⟩ := trodAll_nil hA
  obtain rfl : args = #[] := by cases args; simp_all
  obtain ⟨rfl, rfl⟩ := trodVars_none hV
  simp only [List.append_nil] at hW'
  refine (calls (tabPin hL)).mono fun e W' ⟨he, hb⟩ => ?_
  subst he
  exact ⟨_, rfl, _, _, _, [], [], [], hW', trodAll_mk1 (shut_bool Tryd.underlying4 _), trodAll_mk0, rfl, hb.frame _, fun h => by cases h⟩

theorem said : Rows.BalanceNamesSaid :=
  OpenClaim.holds_of_wide 3 Tryd.f3 rfl rfl rfl rfl rfl rfl rfl ⟨rfl, rfl, rfl, rfl, rfl⟩ rfl rfl rfl rfl rfl (by kernel_rfl) Tryd.func3 (by kernel_rfl)
    (of_decide_eq_true (by kernel_rfl)) (by unfold Func.isWrapper; first | (rw [if_pos (by decide +kernel)]; kernel_rfl) | (rw [if_neg (by decide +kernel)]; exact ⟨rfl, rfl⟩))
    (fun os started H enc _ => lifted os started H enc)

theorem plain (f : FuncId) (fn : Func) (hf : Tryd.pinned.checked.prog.funcNamed "sieve/sievelaw17.BalanceNames" = some f) (hfn : Tryd.pinned.checked.prog.funcs[f]? = some fn) :
    false = Tryd.pinned.checked.prog.looks [] ∧ ∀ (j : Nat) t, fn.params[j]? = some t → Tryd.pinned.checked.prog.wantsStandIn t = false := by
  obtain rfl : f = 3 := Option.some.inj ((show Tryd.prog.funcNamed "sieve/sievelaw17.BalanceNames" = some 3 by kernel_rfl).symm.trans hf) |>.symm
  obtain rfl : fn = Tryd.f3 := (Option.some.inj (Tryd.func3.symm.trans hfn)).symm
  refine ⟨by kernel_rfl, fun j t ht => ?_⟩
  rw [Tryd.params3] at ht
  simp at ht

/-- THE CARD. -/
theorem card : Rows.BalanceNamesCardSaid :=
  Claim7.holds_tied_plain_at .later [] _ _ _ _ said (fun _ h => by cases h) (by kernel_rfl) (fun _ h => by cases h) balanceNames_row_tie rfl ⟨rfl, rfl⟩ (by kernel_rfl) rfl plain (by kernel_rfl)
#print axioms card
end Go.Proofs.YtdpldomjhelfkaaDoor.names
