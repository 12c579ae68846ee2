/- New blocks, and rights to append that are new. -/
import Derived.Test.YtdpldomjhelfkaaDoorEvLoad
import Derived.Laws.Tables
import Derived.Laws.AppendOwn
set_option linter.unusedVariables false
set_option linter.unusedSimpArgs false
namespace Go.Ev
open Go

/-- One block more. -/
structure Grow (w w' : World) (o : Obj) : Prop where
  heap : w'.heap = w.heap.push o
  os : w'.os = w.os
  tape : w'.tape = w.tape
  output : w'.output = w.output

theorem Grow.alloc (w : World) (o : Obj) : Grow w (w.alloc o) o := ⟨rfl, rfl, rfl, rfl⟩
theorem Grow.drewAlloc (w : World) (o : Obj) : Grow w (w.drew.alloc o) o := ⟨rfl, rfl, rfl, rfl⟩

theorem Grow.old {w w' : World} {o : Obj} (g : Grow w w' o) {b : Nat} (h : b < w.heap.size) : w'.heap[b]? = w.heap[b]? := by
  rw [g.heap, Array.getElem?_push, if_neg (by omega)]
theorem Grow.new {w w' : World} {o : Obj} (g : Grow w w' o) : w'.heap[w.heap.size]? = some o := by
  rw [g.heap, Array.getElem?_push, if_pos rfl]
theorem Grow.size {w w' : World} {o : Obj} (g : Grow w w' o) : w'.heap.size = w.heap.size + 1 := by rw [g.heap]; simp

def M.add (m : M) (b : Nat) (im : Option Nat) (mp : Bool) : M := ⟨fun i => if i = b then im else m.im i, fun i => if i = b then mp else m.mp i⟩

theorem lt_of_heap {w : World} {b : Nat} {o : Obj} (h : w.heap[b]? = some o) : b < w.heap.size := (Array.getElem?_eq_some_iff.1 h).1

theorem cell_of_heap {w w' : World} {b o : Nat} (h : w'.heap[b]? = w.heap[b]?) : w'.cell? ⟨b, o, none⟩ = w.cell? ⟨b, o, none⟩ := by simp [World.cell?, h]

section
variable {P : Program} {T : Tabl} {B : Base} {E : Env} {S : St} {a : Array Value} {w w' : World}

theorem Rel.im_lt (h : Rel B E S a w) {b n : Nat} (hb : E.m.im b = some n) : b < w.heap.size := by
  obtain ⟨arr, e, fr, h1, _⟩ := h.imw b n hb
  exact lt_of_heap h1
theorem Rel.mp_lt (h : Rel B E S a w) {b : Nat} (hb : E.m.mp b = true) : b < w.heap.size := by
  obtain ⟨es, c, h1⟩ := h.mpw b hb
  exact lt_of_heap h1

theorem ObRep.lt {m : M} {b : Nat} {o : Ob} (h : ObRep m w b o) : b < w.heap.size := by
  cases o with
  | cells l => obtain ⟨arr, e, h1, _⟩ := h; exact lt_of_heap h1
  | map es => obtain ⟨en, c, h1, _⟩ := h; exact lt_of_heap h1

theorem Rel.owned_lt (h : Rel B E S a w) {ℓ : FL} {sz : Nat} {v : Value} (ho : Owned S E a w ℓ sz v) {b : Nat} (hb : blk v = some b) : b < w.heap.size := by
  obtain ⟨b', ⟨off, n, cap, arr, e, rfl, h1, h2, _⟩, _⟩ := h.own ℓ sz v ho
  simp [blk] at hb
  subst hb
  exact lt_of_heap h2

/-- Where a right lies in an object, the object is there. -/
theorem Rel.at_obj (h : Rel B E S a w) : (∀ id off c, S.at (.h id off) = some c → ∃ b, E.ob id = some b ∧ b < w.heap.size ∧ E.m.im b = none ∧ liveH S id ∧ B.may b) ∧
    (∀ k off c, S.at (.l k off) = some c → ∃ b, E.lo k = some b ∧ b < w.heap.size ∧ E.m.im b = none ∧ liveL S k ∧ B.may b) := by
  constructor
  · intro id off c hc
    simp only [St.at] at hc
    split at hc
    · rename_i l hl
      obtain ⟨b, h1, h2, h3, _, h5⟩ := h.hr id _ hl
      exact ⟨b, h1, h2.lt, h3, ⟨_, hl⟩, h5⟩
    · cases hc
  · intro id off c hc
    simp only [St.at] at hc
    split at hc
    · rename_i l hl
      obtain ⟨b, h1, h2, h3, _, h5⟩ := h.lr id _ hl
      exact ⟨b, h1, h2.lt, h3, ⟨_, hl⟩, h5⟩
    · cases hc

/-- What is owned stays owned, at the same place, while the blocks of the objects and of the owned rows stand. -/
theorem Rel.owned_back (h : Rel B E S a w) {E' : Env} (hob : E'.ob = E.ob) (hlo : ∀ k, k < S.L.length → E'.lo k = E.lo k) (hb : ∀ b, b < w.heap.size → w'.heap[b]? = w.heap[b]?) {ℓ : FL} {sz : Nat} {v : Value}
    (ho : Owned S E' a w' ℓ sz v) : Owned S E a w ℓ sz v := by
  obtain ⟨⟨rows, h1⟩, h2⟩ := ho
  refine ⟨⟨rows, h1⟩, ?_⟩
  cases ℓ with
  | t i => exact h2
  | tt i j => exact h2
  | h id off =>
    obtain ⟨b, h3, h4, _⟩ := h.at_obj.1 id off _ h1
    simp only [conc, hob, h3, Option.bind_some] at h2 ⊢
    rw [← cell_of_heap (hb b h4)]; exact h2
  | l k off =>
    obtain ⟨b, h3, h4, _⟩ := h.at_obj.2 k off _ h1
    have hk := h.lol k b h3
    simp only [conc, hlo k hk, h3, Option.bind_some] at h2 ⊢
    rw [← cell_of_heap (hb b h4)]; exact h2

/-- A new block. -/
theorem Rel.newBlock (h : Rel B E S a w) {o : Obj} (g : Grow w w' o) (im : Option Nat) (mp : Bool)
    (him : ∀ n, im = some n → ∃ arr e fr, o = .cells arr e fr ∧ n ≤ arr.size) (hmp : mp = true → ∃ es c, o = .map es c) :
    Rel B ⟨E.m.add w.heap.size im mp, E.ob, E.lo⟩ S a w' ∧ Ext E.m w (E.m.add w.heap.size im mp) w' := by
  have himo : ∀ b, b < w.heap.size → (E.m.add w.heap.size im mp).im b = E.m.im b := fun b hb => by simp [M.add]; omega
  have hmpo : ∀ b, b < w.heap.size → (E.m.add w.heap.size im mp).mp b = E.m.mp b := fun b hb => by simp [M.add]; omega
  have ext : Ext E.m w (E.m.add w.heap.size im mp) w' := by
    refine ⟨fun b lim hb => ⟨lim, Nat.le_refl _, by rw [himo b (h.im_lt hb)]; exact hb⟩, fun b lim arr e fr hb hh => ⟨arr, fr, by rw [g.old (h.im_lt hb)]; exact hh, rfl, fun _ _ => rfl⟩,
      fun b hb => by rw [hmpo b (h.mp_lt hb)]; exact hb, fun b hb => g.old (h.mp_lt hb)⟩
  refine ⟨?_, ext⟩
  have back : ∀ ℓ sz v, Owned S ⟨E.m.add w.heap.size im mp, E.ob, E.lo⟩ a w' ℓ sz v → Owned S E a w ℓ sz v := fun ℓ sz v ho => h.owned_back rfl (fun _ _ => rfl) (fun b hb => g.old hb) ho
  exact {
    len := h.len
    tr := fun i v hv => let ⟨x, h1, h2⟩ := h.tr i v hv; ⟨x, h1, h2.mono (E' := ⟨E.m.add w.heap.size im mp, E.ob, E.lo⟩) ext (fun _ _ h => h) (fun _ _ h => h)⟩
    hr := fun id ob hob => let ⟨b, h1, h2, h3, h4, h5⟩ := h.hr id ob hob; ⟨b, h1, h2.mono ext (g.old h2.lt), by rw [himo b h2.lt]; exact h3, by rw [hmpo b h2.lt]; exact h4, h5⟩
    lr := fun id ob hob => let ⟨b, h1, h2, h3, h4, h5⟩ := h.lr id ob hob; ⟨b, h1, h2.mono ext (g.old h2.lt), by rw [himo b h2.lt]; exact h3, by rw [hmpo b h2.lt]; exact h4, h5⟩
    hh := h.hh
    ll := h.ll
    hl := h.hl
    obl := h.obl
    lol := h.lol
    own := fun ℓ sz v ho => by
      obtain ⟨b, ⟨off, n, cap, arr, e, h1, h2, h3, h4⟩, h5⟩ := h.own ℓ sz v (back ℓ sz v ho)
      exact ⟨b, ⟨off, n, cap, arr, e, h1, by rw [himo b (h.im_lt h2)]; exact h2, by rw [g.old (h.im_lt h2)]; exact h3, h4⟩, h5⟩
    own1 := fun ℓ ℓ' sz sz' v v' b h1 h2 h3 h4 => h.own1 ℓ ℓ' sz sz' v v' b (back _ _ _ h1) (back _ _ _ h2) h3 h4
    imw := fun b n hb => by
      by_cases e : b = w.heap.size
      · subst e
        simp only [M.add, if_true] at hb
        obtain ⟨arr, e, fr, h1, h2⟩ := him n hb
        exact ⟨arr, e, fr, by rw [g.new, h1], h2⟩
      · have hb' : E.m.im b = some n := by simpa [M.add, e] using hb
        obtain ⟨arr, e, fr, h1, h2⟩ := h.imw b n hb'
        exact ⟨arr, e, fr, by rw [g.old (h.im_lt hb')]; exact h1, h2⟩
    mpw := fun b hb => by
      by_cases e : b = w.heap.size
      · subst e
        simp only [M.add, if_true] at hb
        obtain ⟨es, c, h1⟩ := hmp hb
        exact ⟨es, c, by rw [g.new, h1]⟩
      · have hb' : E.m.mp b = true := by simpa [M.add, e] using hb
        obtain ⟨es, c, h1⟩ := h.mpw b hb'
        exact ⟨es, c, by rw [g.old (h.mp_lt hb')]; exact h1⟩
    kept := by
      have hk := h.kept
      have hs := hk.size
      refine ⟨by rw [g.size]; omega, g.os.trans hk.os, g.tape.trans hk.tape, g.output.trans hk.output, fun b hb ht => ?_, hk.ext.trans ext⟩
      obtain ⟨h1, h2, h3⟩ := hk.same b hb ht
      exact ⟨(g.old (by omega)).trans h1, (himo b (by omega)).trans h2, (hmpo b (by omega)).trans h3⟩ }

/-- A right to append that is none of the elder ones. -/
theorem Rel.pushOwn (h : Rel B E S a w) {sz : Nat} {rows : List (List D)} {x : Value} {b : Nat} (hx : DRep E.m w (.sl false sz rows) x) (hr : RowOk E.m w sz x b) (hmay : B.may b)
    (hnew : ∀ ℓ sz' v, Owned S E a w ℓ sz' v → blk v ≠ some b) : Rel B E { S with tm := S.tm ++ [vC (.own sz rows)] } (a.push x) w := by
  have hlen := h.len
  have hbx : blk x = some b := by obtain ⟨off, n, cap, arr, e, rfl, _⟩ := hr.ex; rfl
  -- an owned place is an elder one, or the new one
  have key : ∀ ℓ sz' u, Owned { S with tm := S.tm ++ [vC (.own sz rows)] } E (a.push x) w ℓ sz' u → Owned S E a w ℓ sz' u ∨ (ℓ = .t S.tm.length ∧ sz' = sz ∧ u = x) := by
    intro ℓ sz' u ho
    cases ℓ with
    | h id off => exact .inl ho
    | l k off => exact .inl ho
    | t i =>
      obtain ⟨⟨rows', h1⟩, h2⟩ := ho
      simp only [at_t] at h1
      rcases Nat.lt_trichotomy i S.tm.length with hi | hi | hi
      · rw [List.getElem?_append_left hi] at h1
        refine .inl ⟨⟨rows', h1⟩, ?_⟩
        simp only [conc] at h2 ⊢
        rw [Array.getElem?_push, if_neg (by omega)] at h2
        exact h2
      · subst hi
        rw [List.getElem?_append_right (Nat.le_refl _), Nat.sub_self, List.getElem?_cons_zero] at h1
        simp at h1
        simp only [conc] at h2
        rw [Array.getElem?_push, if_pos hlen.symm] at h2
        exact .inr ⟨rfl, h1.1.symm, by cases h2; rfl⟩
      · rw [List.getElem?_eq_none (by simp; omega)] at h1
        cases h1
    | tt i j =>
      obtain ⟨⟨rows', h1⟩, h2⟩ := ho
      simp only [at_tt] at h1
      rcases Nat.lt_trichotomy i S.tm.length with hi | hi | hi
      · rw [List.getElem?_append_left hi] at h1
        refine .inl ⟨⟨rows', h1⟩, ?_⟩
        simp only [conc] at h2 ⊢
        rw [Array.getElem?_push, if_neg (by omega)] at h2
        exact h2
      · subst hi
        rw [List.getElem?_append_right (Nat.le_refl _), Nat.sub_self, List.getElem?_cons_zero] at h1
        simp at h1
      · rw [List.getElem?_eq_none (by simp; omega)] at h1
        cases h1
  exact {
    len := by simp [hlen]
    tr := fun i u hu => by
      rcases Nat.lt_trichotomy i S.tm.length with hi | hi | hi
      · rw [List.getElem?_append_left hi] at hu
        obtain ⟨y, h1, h2⟩ := h.tr i u hu
        exact ⟨y, by rw [Array.getElem?_push, if_neg (by omega)]; exact h1, h2⟩
      · subst hi
        rw [List.getElem?_append_right (Nat.le_refl _), Nat.sub_self, List.getElem?_cons_zero] at hu
        cases hu
        exact ⟨x, by rw [Array.getElem?_push, if_pos hlen.symm], hx⟩
      · rw [List.getElem?_eq_none (by simp; omega)] at hu
        cases hu
    hr := h.hr
    lr := h.lr
    hh := h.hh
    ll := h.ll
    hl := h.hl
    obl := h.obl
    lol := h.lol
    own := fun ℓ sz' u ho => by
      rcases key ℓ sz' u ho with h1 | ⟨_, rfl, rfl⟩
      · exact h.own ℓ sz' u h1
      · exact ⟨b, hr, hmay⟩
    own1 := fun ℓ ℓ' sz1 sz2 u u' c h1 h2 h3 h4 => by
      rcases key ℓ sz1 u h1 with k1 | ⟨rfl, rfl, rfl⟩ <;> rcases key ℓ' sz2 u' h2 with k2 | ⟨rfl, rfl, rfl⟩
      · exact h.own1 ℓ ℓ' sz1 sz2 u u' c k1 k2 h3 h4
      · rw [hbx] at h4; cases h4; exact absurd h3 (hnew _ _ _ k1)
      · rw [hbx] at h3; cases h3; exact absurd h4 (hnew _ _ _ k2)
      · rfl
    imw := h.imw
    mpw := h.mpw
    kept := h.kept }

end
end Go.Ev
