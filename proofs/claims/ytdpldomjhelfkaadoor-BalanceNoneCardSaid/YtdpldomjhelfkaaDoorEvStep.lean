/- The operations of a region, one after another. -/
import Derived.Test.YtdpldomjhelfkaaDoorEvOp2
import Derived.Orders
set_option linter.unusedVariables false
set_option linter.unusedSimpArgs false
namespace Go.Ev
open Go

section
variable {P : Program} {T : Tabl} {Sg : Sig} {B : Base} {E F : Env} {S S' : St} {act : Act} {w w' : World} {o : Oper} {Q : Exit → Act → World → Prop}

theorem wants_sound (h : Rel B E S act.tmps w) {ops : Array Oper} {b : Bool} (hw : wants ops S.tm o = some b) : Region.wanted o (yielded ops act.tmps) = b := by
  unfold wants at hw
  unfold Region.wanted
  split at hw
  · rename_i hg
    cases hw
    rw [hg]
  · rename_i j want hg
    rw [hg]
    simp only [yielded]
    split at hw
    · rename_i d hd
      rw [hd]
      simp only [Option.bind_some]
      have some_of : ∀ u, S.tm.getD d vJ = u → u ≠ vJ → ∃ y, act.tmps[d]? = some y ∧ VRep E w u y := by
        intro u hu hne
        rw [List.getD_eq_getElem?_getD] at hu
        cases hq : S.tm[d]? with
        | none => rw [hq] at hu; exact absurd hu.symm hne
        | some y =>
          rw [hq] at hu
          simp only [Option.getD_some] at hu
          subst hu
          exact h.tr d y hq
      split at hw
      · rename_i c hc
        cases hw
        obtain ⟨y, h1, h2⟩ := some_of _ hc (by simp [vJ])
        cases h2
        rw [h1]
        cases c <;> cases want <;> rfl
      · rename_i ws hc
        cases hw
        obtain ⟨y, h1, vs, rfl, _⟩ := some_of _ hc (by simp [vJ])
        rw [h1]
        rfl
      · cases hw
    · cases hw

theorem put_sound {v : V} {z : Value} (h : Rel B E { S with tm := S.tm ++ [v] } (act.tmps.push z) w) (d : Option Nat) : Rel B E (S.put d v) (act.put d z).tmps w := by
  cases d with
  | none => exact h.drop
  | some d => exact h.putLast d

theorem put_H (S : St) (d : Option Nat) (v : V) : (S.put d v).H = S.H ∧ (S.put d v).L = S.L := by cases d <;> exact ⟨rfl, rfl⟩
theorem put_defers (a : Act) (d : Option Nat) (v : Value) : (a.put d v).defers = a.defers := by cases d <;> rfl

/-- What holds behind a step. -/
def Behind (B : Base) (S : St) (E : Env) (act : Act) (S' : St) (act' : Act) (w' : World) : Prop := ∃ E', Agree S E S' E' ∧ act'.defers = act.defers ∧ Rel B E' S' act'.tmps w'

theorem step_sound (hT : TabOk P T) (hE : EqOk P T) (hS : SigOk P B.pin Sg) (h : Rel B E S act.tmps w) {lim i : Nat} {tks : Nat → Bool} {ops : Array Oper} {K : Act → World → Prop} (hs : step T Sg lim tks ops i S = some S')
    (hK : ∀ act' w' , Behind B S E act S' act' w' → K act' w') : wpOp P ops Q i K act w := by
  unfold step at hs
  unfold wpOp
  split at hs
  · cases hs
  · rename_i o ho
    rw [ho]
    simp only
    split at hs
    · rename_i hw
      rw [wants_sound h hw, if_pos rfl]
      obtain ⟨⟨v, S1⟩, h1, h2⟩ := Option.map_eq_some_iff.1 hs
      simp only at h2
      subst h2
      refine .inl (op_sound hT hE hS h h1 fun z w' E' ha hr => hK _ _ ⟨E', ?_, put_defers _ _ _, put_sound hr o.dst⟩)
      exact ⟨by rw [(put_H _ _ _).1]; exact ha.1, ha.2⟩
    · rename_i hw
      rw [wants_sound h hw, if_neg (by simp)]
      cases hs
      refine hK _ _ ⟨E, ⟨by rw [(put_H _ _ _).1]; exact Nat.le_refl _, fun _ _ => rfl⟩, put_defers _ _ _, put_sound (h.push undef_rep .undef) o.dst⟩
    · cases hs

theorem steps_sound (hT : TabOk P T) (hE : EqOk P T) (hS : SigOk P B.pin Sg) {lim : Nat} {tks : Nat → Bool} {ops : Array Oper} : ∀ (l : List Nat) {E : Env} {S S' : St} {act : Act} {w : World}, Rel B E S act.tmps w → steps T Sg lim tks ops l S = some S' →
    (∀ act' w', Behind B S E act S' act' w' → Q .normal act' w') → wpOps P ops Q l act w
  | [], E, S, S', act, w, h, hs, hQ => by
    cases hs
    exact hQ act w ⟨E, Agree.refl _ _, rfl, h⟩
  | i :: r, E, S, S', act, w, h, hs, hQ => by
    rw [wpOps_cons]
    unfold steps at hs
    split at hs
    · rename_i S1 h1
      refine step_sound hT hE hS h h1 fun act1 w1 hb => ?_
      obtain ⟨E1, ha, hd, hr⟩ := hb
      exact steps_sound hT hE hS r hr hs fun act' w' hb' => by
        obtain ⟨E2, ha2, hd2, hr2⟩ := hb'
        exact hQ act' w' ⟨E2, ha.trans ha2, hd2.trans hd, hr2⟩
    · cases hs

end
end Go.Ev
