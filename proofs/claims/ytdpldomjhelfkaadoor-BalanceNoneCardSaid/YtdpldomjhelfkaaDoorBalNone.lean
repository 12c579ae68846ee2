/- sievelaw17.BalanceNone returns true for every token: the calls on balancers that no call made look at nothing of it. No condition but the tied variables. -/
import Derived.Test.YtdpldomjhelfkaaDoorEvArgs
import Derived.Test.YtdpldomjhelfkaaDoorCards
import Derived.Test.YtdpldomjhelfkaaDoorTie
import Derived.ProofKit
import Derived.OpenShut
import Derived.Lay
import Derived.SevenTiedAt
set_option linter.unusedVariables false
set_option maxRecDepth 100000
namespace Go.Proofs.YtdpldomjhelfkaaDoor.nones
open Go Go.Ev Go.Proofs Go.RowKit Go.ChangeShapes Go.WideShapes Go.ChangeAt

noncomputable def top : Sig := sgAdd 5 (.pure livesSp) (sg 3)

theorem eqOk : EqOk Tryd.prog (tabOf tab) := by
  have h : (tab.all fun t => match t with | some ti => !ti.eq | none => true) = true := by kernel_rfl
  intro t ti ht he
  unfold tabOf at ht
  cases hq : tab[t]? with
  | none => simp [hq] at ht
  | some o =>
    have := List.all_eq_true.1 h o (List.mem_of_getElem? hq)
    cases o with
    | none => simp [hq] at ht
    | some ti' =>
      simp [hq] at ht
      subst ht
      simp [he] at this

theorem run (d0 d1 d2 d3 d4 d5 d6 d7 : D) : fnEv (tabOf tab) top okD [] 1 Tryd.f4 [vA [d0, d1, d2, d3, d4, d5, d6, d7]] [] = some (vB true, []) := by kernel_rfl

theorem sgEff : ∀ f g, sg 3 f = some (.eff g) → effB f = true := by
  intro f g h
  unfold sg sigK at h
  split at h
  · rename_i s hs
    cases h
    unfold libS at hs
    repeat' (split at hs)
    all_goals cases hs
  · obtain ⟨e, he, h2⟩ := Option.map_eq_some_iff.1 h
    obtain ⟨t1, t2, t3⟩ := tblOf_ok use_checked f e he
    unfold feSp at h2
    split at h2
    · rename_i hef; exact t3 hef
    · cases h2

theorem calls {W : World} (hp : TabPin (pinAt W)) {ds : List D} {v : Value} (hl : ds.length = 8) (hv : VRep ⟨mAll W, fun _ => none, fun _ => none⟩ W (vA ds) v) :
    Calls Tryd.prog 4 #[v] W fun e w' => e = .returned (.bool true) ∧ Below W.heap.size W w' := by
  have hW : World7 Tryd.prog (pinAt W) (tabOf tab) top okD := world eqOk (sigOk_add (lives_sound hp eqOk) (sg_world hp eqOk 3).sig) (eff_addP sgEff)
  match ds, hl with
  | [d0, d1, d2, d3, d4, d5, d6, d7], _ =>
    refine law_calls (m := mAll W) (fnEv_sound hW Tryd.func4 _ 1) (run d0 d1 d2 d3 d4 d5 d6 d7) (rel_start rfl (fun i x hx => ?_) rfl (fun b n h => mAll_im h) (fun b h => by cases h))
    cases i with
    | zero => simp at hx; subst hx; exact ⟨v, rfl, hv⟩
    | succ i => simp at hx

theorem own : ownKnob Tryd.prog.godebug = none := by kernel_rfl

theorem asciiTab : Rows.laid_strings_asciiSpace = (Lib.tabData .u8 Lib.asciiSpaceTab : DataW Unit) := by kernel_rfl

theorem tabPin {W : World} (hL : laidMetH Tryd.prog Rows.balanceNoneRow.laid W) : TabPin (pinAt W) := by
  rw [MakeChecks.laidMetH_plain _ _ _ (by kernel_rfl)] at hL
  refine tabPin_of ?_
  obtain ⟨g, t, cs, fuel, p, h1, h2, h3, h4⟩ := Lib.laidMet.reads hL (n := "strings.asciiSpace") (d := Rows.laid_strings_asciiSpace) (.tail _ (.tail _ (.head _)))
  obtain rfl := Option.some.inj (gAscii.symm.trans h1)
  rw [asciiTab] at h4
  unfold Lib.TabIs
  have ht : (Tryd.prog.globals[0]?).map (·.type) = some 113 := by kernel_rfl
  obtain rfl := Option.some.inj (ht.symm.trans h2)
  rw [h3, ← Lib.cells_of_tab Tryd.underlying113 Tryd.underlying5 (by kernel_rfl) (by kernel_rfl) h4]

/-- The types that a token is made of. -/
def tokS : List Nat := [28, 23, 9, 24, 81, 4, 26, 3]
theorem tokS_closed : closedB (tabOf tab) tokS = true := by kernel_rfl

set_option maxRecDepth 100000 in
theorem lifted (os : Os) (started : os.Started) (H : Type) (enc : TypeId × Value → H) :
    ReturnsInHanded {} Tryd.checked os 4 .any (fun w args => (Rows.balanceNoneSpec.pre enc Tryd.prog Tryd.f4 [] false w args ∧ laidMetH Tryd.prog Rows.balanceNoneRow.laid w) ∧ sizedMet enc Tryd.prog Tryd.f4 (OpenSpec.ofChange Rows.balanceNoneSpec) false w args)
      (Rows.balanceNoneSpec.post enc Tryd.prog Tryd.f4 false true false false) := by
  refine returnsInHanded_of_change_and (C := Tryd.checked) (X := fun w _ => laidMetH Tryd.prog Rows.balanceNoneRow.laid w) (fun _ _ _ hh h => h.of_heap hh) own started (by kernel_rfl) Tryd.func4
    (ChangeSpec.witness_shaped (enc := enc) (C := Tryd.checked) (os := os) (X := fun w _ => laidMetH Tryd.prog Rows.balanceNoneRow.laid w) false (World.laidAll Tryd.prog os Rows.balanceNoneRow.laid)
      #[.agg #[.int .i64 0, .string ByteArray.empty, .string ByteArray.empty, .slice none 0 0, .bool false, .int .i64 0, .int .i64 0, .int .i64 0]] 8 (World.laidAll_os _ _ _)
      (World.shaped_of_ZipB (by kernel_rfl) (by kernel_rfl)) (by kernel_rfl) (by kernel_rfl) (by kernel_rfl)
      (by rw [MakeChecks.laidMetH_plain _ _ _ (by kernel_rfl)]; exact laidMet_laidAll _ (by kernel_rfl) (by kernel_rfl))) ?_
  intro W base args ds gs before hval0 hW _ _ hL _
  have hval : ∀ (j : Nat) t v, Tryd.f4.params[j]? = some t → args[j]? = some v → Value.okWide Tryd.prog W .any base t v := hval0
  have hW' := hW
  obtain ⟨p, q, hA0, hV, rfl, _, _⟩ := hW
  have hA : DataW.TrodAll enc Tryd.prog W 0 (fun _ => true) true Tryd.f4.params.toList args.toList ds p := hA0
  rw [Tryd.params4] at hA hval
  obtain ⟨v0, d0, rfl, rfl, h0⟩ := trodAll_one hA
  obtain ⟨rfl, rfl⟩ := trodVars_none hV
  simp only [List.append_nil] at hW'
  obtain ⟨n, dd, cs, hcs, _, hlen, hv⟩ := arg_struct tokS_closed Tryd.underlying28 (by kernel_rfl) (hval 0 28 v0 rfl rfl) h0
  have hlen8 : dd.length = 8 := hlen.trans (by kernel_rfl)
  refine (calls (tabPin hL) hlen8 hv).mono fun e W' ⟨he, hb⟩ => ?_
  subst he
  have hlt := DataW.TrodAll.lt hA
  have hA' : DataW.TrodAll enc Tryd.prog W' 0 (fun b => decide (b < W.heap.size)) true [28] [v0] [d0] p := trodAll_below hb (by
    intro t ht
    simp at ht
    subst ht
    exact of_decide_eq_true (by kernel_rfl)) hA _ (fun q hq => by simpa using hlt q hq)
  exact ⟨_, rfl, _, _, _, [], p, [], hW', trodAll_mk1 (shut_bool Tryd.underlying4 _), hA', rfl, hb.frame _, fun h => by cases h⟩

theorem said : Rows.BalanceNoneSaid :=
  OpenClaim.holds_of_wide 4 Tryd.f4 rfl rfl rfl rfl rfl rfl rfl ⟨rfl, rfl, rfl, rfl, rfl⟩ rfl rfl rfl rfl rfl (by kernel_rfl) Tryd.func4 (by kernel_rfl)
    (of_decide_eq_true (by kernel_rfl)) (by unfold Func.isWrapper; first | (rw [if_pos (by decide +kernel)]; kernel_rfl) | (rw [if_neg (by decide +kernel)]; exact ⟨rfl, rfl⟩))
    (fun os started H enc _ => lifted os started H enc)

theorem plain (f : FuncId) (fn : Func) (hf : Tryd.pinned.checked.prog.funcNamed "sieve/sievelaw17.BalanceNone" = some f) (hfn : Tryd.pinned.checked.prog.funcs[f]? = some fn) :
    false = Tryd.pinned.checked.prog.looks [] ∧ ∀ (j : Nat) t, fn.params[j]? = some t → Tryd.pinned.checked.prog.wantsStandIn t = false := by
  obtain rfl : f = 4 := Option.some.inj ((show Tryd.prog.funcNamed "sieve/sievelaw17.BalanceNone" = some 4 by kernel_rfl).symm.trans hf) |>.symm
  obtain rfl : fn = Tryd.f4 := (Option.some.inj (Tryd.func4.symm.trans hfn)).symm
  refine ⟨by kernel_rfl, fun j t ht => ?_⟩
  rw [Tryd.params4] at ht
  have hm : t ∈ [28] := by simpa using Array.mem_of_getElem? ht
  simp at hm
  subst hm
  exact (show Tryd.prog.wantsStandIn 28 = false by kernel_rfl)

/-- THE CARD. -/
theorem card : Rows.BalanceNoneCardSaid :=
  Claim7.holds_tied_plain_at .later [] _ _ _ _ said (fun _ h => by cases h) (by kernel_rfl) (fun _ h => by cases h) balanceNone_row_tie rfl ⟨rfl, rfl⟩ (by kernel_rfl) rfl plain (by kernel_rfl)
#print axioms card
end Go.Proofs.YtdpldomjhelfkaaDoor.nones
