/- Seat D: the contracts, level by level; the closed runs. -/
import Derived.Test.YtdpldomjhelfkaaDoorEvNames
set_option linter.unusedVariables false
set_option maxRecDepth 100000
namespace Go.Ev
open Go Go.Proofs

def libS (Sg : Sig) : Sig := fun f =>
  if f = 26 then some (.pure inSp)
  else if f = 39 then some (.pure fieldsSp)
  else if f = 29 then some (.pure trimLeftSp)
  else if f = 31 then some (.pure trimSp)
  else if f = 56 then some (.pure (topSp Sg))
  else none
noncomputable def sg (k : Nat) : Sig := sigK (tabOf tab) okD libS tbl k

theorem whole {pin : Nat → Option Obj} (hp : TabPin pin) (hE : EqOk Tryd.prog (tabOf tab)) : Whole Tryd.prog pin (tabOf tab) okD libS tbl effB where
  tab := tab_ok
  eq := hE
  mixed := mixed
  draw := fun _ h => h
  tblOk := fun f e h => tblOf_ok use_checked f e h
  libOk := fun Sg hW => by
    have key : ∀ f sp, libS Sg f = some sp → Sound Tryd.prog pin f sp ∧ ∃ g, sp = .pure g := by
      intro f sp h
      unfold libS at h
      split at h
      · rename_i hf; subst hf; cases h; exact ⟨in_sound hp hE, _, rfl⟩
      · split at h
        · rename_i hf; subst hf; cases h; exact ⟨fields_sound hp, _, rfl⟩
        · split at h
          · rename_i hf; subst hf; cases h; exact ⟨trimLeft_sound, _, rfl⟩
          · split at h
            · rename_i hf; subst hf; cases h; exact ⟨trim_sound, _, rfl⟩
            · split at h
              · rename_i hf; subst hf; cases h; exact ⟨topmost_sound hW.sig, _, rfl⟩
              · cases h
    exact ⟨fun f sp h => (key f sp h).1, fun f g h => by obtain ⟨g', hg⟩ := (key f _ h).2; cases hg⟩

theorem sg_world {pin : Nat → Option Obj} (hp : TabPin pin) (hE : EqOk Tryd.prog (tabOf tab)) (k : Nat) : World7 Tryd.prog pin (tabOf tab) (sg k) okD := sigK_ok (whole hp hE) k

def runP (o : Option Sp) (args : List V) : Option V := match o with | some (.pure g) => g args | _ => none

/-- The document's examples are as it says: one closed run. -/
theorem lives_run : runP (sg 24 5) [] = some (vB true) := by kernel_rfl
def livesSp : List V → Option V
  | [] => some (vB true)
  | _ => none
theorem lives_sound {pin : Nat → Option Obj} (hp : TabPin pin) (hE : EqOk Tryd.prog (tabOf tab)) : Sound Tryd.prog pin 5 (.pure livesSp) := by
  have hr := lives_run
  have hW := (sg_world hp hE 24).sig
  cases hs : sg 24 5 with
  | none => rw [hs] at hr; cases hr
  | some sp =>
    cases sp with
    | eff g => rw [hs] at hr; cases hr
    | pure g =>
      rw [hs] at hr
      have hr' : g [] = some (vB true) := hr
      obtain ⟨h1, h2⟩ := hW _ _ hs
      refine ⟨h1, fun args H v H' hg B E argv w hpin h => h2 args H v H' ?_ B E argv w hpin h⟩
      unfold asEff at hg ⊢
      split at hg
      · unfold livesSp at hg
        split at hg
        · simpa [hr'] using hg
        · cases hg
      · cases hg

end Go.Ev
