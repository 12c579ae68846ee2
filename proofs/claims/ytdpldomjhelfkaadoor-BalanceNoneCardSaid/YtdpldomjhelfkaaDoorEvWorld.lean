/- From a world to the contracts: the base, the table of blanks, what a law's call leaves. -/
import Derived.Test.YtdpldomjhelfkaaDoorEvSeat
import Derived.Lib.LaidU8
import Derived.Lib.LaidTab
set_option linter.unusedVariables false
namespace Go.Ev
open Go Go.Proofs Go.RowKit

/-- The base at a world: nothing may be written. -/
def baseAt (W : World) (m : M) : Base := ⟨W, m, fun _ => False, fun b => if b = 0 then W.heap[b]? else none, fun b o h => ⟨(by split at h <;> first | exact h | cases h), id⟩⟩
def pinAt (W : World) : Nat → Option Obj := fun b => if b = 0 then W.heap[b]? else none

theorem gAscii : Tryd.prog.globalNamed "strings.asciiSpace" = some 0 := by kernel_rfl

theorem tabPin_of {W : World} (h : Lib.TabIs Tryd.prog W "strings.asciiSpace" .u8 Lib.asciiSpaceTab) : TabPin (pinAt W) := by
  have hc : ∀ c, c < 256 → W.cell? ⟨0, c, none⟩ = some (.int .u8 (if Lib.isSp (UInt8.ofNat c) then 1 else 0)) := fun c hc => by
    rw [h.cell gAscii c (by rw [Lib.asciiSpaceTab_length]; exact hc), Lib.asciiSpaceTab_at c hc]
  have h0 := hc 0 (by omega)
  unfold World.cell? at h0
  simp only at h0
  cases hq : W.heap[0]? with
  | none => rw [hq] at h0; cases h0
  | some o =>
    rw [hq] at h0
    cases o with
    | cells arr e fr =>
      refine ⟨arr, e, fr, by simp only [pinAt, if_true]; exact hq, fun c hc' => ?_⟩
      have := hc c hc'
      simpa [World.cell?, hq] using this
    | _ => cases h0

/-- A law's call: it returns true, and what was there is as it was. -/
theorem law_calls {W : World} {m : M} {f : Nat} {g : List V → List (Option Ob) → Option (V × List (Option Ob))} {args : List V} {argv : Array Value} (hs : SoundE Tryd.prog (pinAt W) f g) (hg : g args [] = some (vB true, []))
    (h : Rel (baseAt W m) ⟨m, fun _ => none, fun _ => none⟩ ⟨args, [], []⟩ argv W) : Calls Tryd.prog f argv W fun e w' => e = .returned (.bool true) ∧ Below W.heap.size W w' := by
  refine (hs args [] _ _ hg (baseAt W m) _ argv W rfl h).mono ?_
  rintro e w' ⟨r, E', rfl, _, _, h1⟩
  obtain ⟨x, h2, h3⟩ := h1.tr 0 _ rfl
  cases h3
  have hk := h1.kept
  refine ⟨by simp at h2; rw [h2], hk.os, hk.tape, hk.output, hk.size, fun b hb => (hk.same b hb id).1⟩

theorem rel_start {W : World} {m : M} {args : List V} {argv : Array Value} (hlen : argv.size = args.length) (htr : ∀ (i : Nat) (v : V), args[i]? = some v → ∃ x, argv[i]? = some x ∧ VRep ⟨m, fun _ => none, fun _ => none⟩ W v x) (hd : args.all dataV = true)
    (him : ∀ b n, m.im b = some n → ∃ arr e fr, W.heap[b]? = some (.cells arr e fr) ∧ n ≤ arr.size) (hmp : ∀ b, m.mp b = true → ∃ es c, W.heap[b]? = some (.map es c)) :
    Rel (baseAt W m) ⟨m, fun _ => none, fun _ => none⟩ ⟨args, [], []⟩ argv W := by
  have h0 : Rel (baseAt W m) ⟨m, fun _ => none, fun _ => none⟩ ⟨[], [], []⟩ #[] W := {
    len := rfl
    tr := fun i v hv => by simp at hv
    hr := fun id o ho => by simp at ho
    lr := fun k o ho => by simp at ho
    hh := fun i j b hi => by obtain ⟨o, ho⟩ := hi; simp at ho
    ll := fun i j b hi => by obtain ⟨o, ho⟩ := hi; simp at ho
    hl := fun i j b hi => by obtain ⟨o, ho⟩ := hi; simp at ho
    obl := fun k b hb => by cases hb
    lol := fun k b hb => by cases hb
    own := fun ℓ sz v ho => by
      obtain ⟨⟨rows, h1⟩, _⟩ := ho
      cases ℓ <;> simp [St.at] at h1
    own1 := fun ℓ ℓ' sz sz' v v' b h1 => by
      obtain ⟨⟨rows, h1⟩, _⟩ := h1
      cases ℓ <;> simp [St.at] at h1
    imw := him
    mpw := hmp
    kept := ⟨Nat.le_refl _, rfl, rfl, rfl, fun _ _ _ => ⟨rfl, rfl, rfl⟩, Ext.refl _ _⟩ }
  exact h0.forPure (args := args) (argv := argv) ⟨hlen, htr⟩ hd

end Go.Ev
