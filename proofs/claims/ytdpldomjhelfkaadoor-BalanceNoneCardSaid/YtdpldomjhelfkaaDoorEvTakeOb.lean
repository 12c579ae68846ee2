/- Taking a cell of an object together with the right to append to it. -/
import Derived.Test.YtdpldomjhelfkaaDoorEvTake
set_option linter.unusedVariables false
set_option linter.unusedSimpArgs false
namespace Go.Ev
open Go

section
variable {P : Program} {T : Tabl} {B : Base} {E : Env} {S : St} {a : Array Value} {w w' : World}

theorem Rel.takeH (h : Rel B E S a w) {id off b : Nat} {l : List C} {c : C} {x : Value} (hid : S.H[id]? = some (some (.cells l))) (hc : l[off]? = some c) (hb : E.ob id = some b)
    (hx : w.cell? ⟨b, off, none⟩ = some x) (hp : PRep E.m w c x) : Rel B E { S with tm := S.tm ++ [vC c], H := S.H.set id (some (.cells (l.set off c.er))) } (a.push x) w := by
  have hlen := h.len
  have hil : id < S.H.length := (List.getElem?_eq_some_iff.1 hid).1
  have hol : off < l.length := (List.getElem?_eq_some_iff.1 hc).1
  have hself : (S.H.set id (some (Ob.cells (l.set off c.er))))[id]? = some (some (.cells (l.set off c.er))) := List.getElem?_set_self hil
  have hlast : (S.tm ++ [vC c])[S.tm.length]? = some (vC c) := by simp
  have hain : ∀ k, k < S.tm.length → (a.push x)[k]? = a[k]? := fun k hk => by rw [Array.getElem?_push, if_neg (by omega)]
  have halast : (a.push x)[S.tm.length]? = some x := by rw [Array.getElem?_push, if_pos hlen.symm]
  have hgone : ∀ k, S.tm.length < k → (S.tm ++ [vC c])[k]? = none := fun k hk => List.getElem?_eq_none (by simp; omega)
  have hin : ∀ k, k < S.tm.length → (S.tm ++ [vC c])[k]? = S.tm[k]? := fun k hk => List.getElem?_append_left hk
  have hcr : CRep E w c x := by cases c <;> first | exact hp | exact hp.elim
  have key : ∀ ℓ sz v, Owned { S with tm := S.tm ++ [vC c], H := S.H.set id (some (.cells (l.set off c.er))) } E (a.push x) w ℓ sz v →
      Owned S E a w (lastL S.tm.length (.h id off) (fun j => .tt S.tm.length j) ℓ) sz v ∧ ℓ ≠ .h id off ∧ (∀ j, ℓ ≠ .tt S.tm.length j) := by
    intro ℓ sz v ho
    obtain ⟨⟨rows, h1⟩, h2⟩ := ho
    cases ℓ with
    | l k o => exact ⟨⟨⟨rows, h1⟩, h2⟩, by simp, by simp⟩
    | h k o =>
      have hne : ¬ (k = id ∧ o = off) := by
        rintro ⟨rfl, rfl⟩
        simp only [St.at, hself] at h1
        rw [List.getElem?_set_self hol] at h1
        exact C.er_ne c sz rows (Option.some.inj h1)
      refine ⟨⟨⟨rows, ?_⟩, h2⟩, by simp; exact fun e f => hne ⟨e, f⟩, by simp⟩
      by_cases e : k = id
      · subst e
        simp only [St.at, hself] at h1
        simp only [lastL, St.at, hid]
        rw [List.getElem?_set_ne (fun f => hne ⟨rfl, f.symm⟩)] at h1
        exact h1
      · simp only [St.at, List.getElem?_set_ne (Ne.symm e)] at h1
        exact h1
    | t k =>
      rcases Nat.lt_trichotomy k S.tm.length with hk | hk | hk
      · refine ⟨?_, by simp, by simp⟩
        simp only [lastL, if_neg (show k ≠ S.tm.length by omega)]
        simp only [at_t] at h1
        rw [hin k hk] at h1
        simp only [conc] at h2
        rw [hain k hk] at h2
        exact ⟨⟨rows, h1⟩, h2⟩
      · subst hk
        simp only [lastL, if_true]
        simp only [at_t] at h1
        rw [hlast] at h1
        simp only [conc] at h2
        rw [halast] at h2
        refine ⟨⟨⟨rows, ?_⟩, ?_⟩, by simp, by simp⟩
        · simp only [St.at, hid, hc]; exact h1
        · simp only [conc, hb, Option.bind_some, hx]; exact h2
      · simp only [at_t] at h1
        rw [hgone k hk] at h1
        cases h1
    | tt k j =>
      rcases Nat.lt_trichotomy k S.tm.length with hk | hk | hk
      · refine ⟨?_, by simp, by simp; intro e; omega⟩
        simp only [lastL, if_neg (show k ≠ S.tm.length by omega)]
        simp only [at_tt] at h1
        rw [hin k hk] at h1
        simp only [conc] at h2
        rw [hain k hk] at h2
        exact ⟨⟨rows, h1⟩, h2⟩
      · subst hk
        simp only [at_tt] at h1
        rw [hlast] at h1
        simp at h1
      · simp only [at_tt] at h1
        rw [hgone k hk] at h1
        cases h1
  refine h.sub { S with tm := S.tm ++ [vC c], H := S.H.set id (some (.cells (l.set off c.er))) } _ (by simp [hlen]) (fun k v hv => ?_) (by simp) (by simp) ?chg ?same (lastL S.tm.length (.h id off) (fun j => .tt S.tm.length j)) (fun ℓ sz v ho => (key ℓ sz v ho).1) ?_
  · rcases Nat.lt_trichotomy k S.tm.length with hk | hk | hk
    · rw [hain k hk]
      rw [hin k hk] at hv
      exact h.tr k v hv
    · subst hk
      rw [hlast] at hv
      cases hv
      exact ⟨x, halast, hcr⟩
    · rw [hgone k hk] at hv; cases hv
  case chg =>
    intro k o2 ho
    by_cases e : k = id
    · subst e
      rw [hself] at ho
      cases ho
      refine ⟨_, hid, fun b' hob => ?_⟩
      obtain ⟨arr, e, h1, h2, h3⟩ := hob
      refine ⟨arr, e, h1, by simpa using h2, fun i d hd => ?_⟩
      by_cases ei : i = off
      · subst ei
        rw [List.getElem?_set_self hol] at hd
        cases hd
        obtain ⟨y, h4, h5⟩ := h3 i c hc
        exact ⟨y, h4, by cases c <;> exact h5⟩
      · rw [List.getElem?_set_ne (Ne.symm ei)] at hd
        exact h3 i d hd
    · rw [List.getElem?_set_ne (Ne.symm e)] at ho
      exact ⟨o2, ho, fun _ h => h⟩
  case same => exact fun id o ho => ⟨o, ho, fun _ h => h⟩
  · intro ℓ ℓ' sz sz' v v' h1 h2 he
    obtain ⟨k1, k2, k3⟩ := key ℓ sz v h1
    obtain ⟨l1, l2, l3⟩ := key ℓ' sz' v' h2
    cases ℓ <;> cases ℓ' <;> simp only [lastL] at he <;> (repeat' split at he) <;> simp_all

theorem Rel.takeL (h : Rel B E S a w) {id off b : Nat} {l : List C} {c : C} {x : Value} (hid : S.L[id]? = some (some (.cells l))) (hc : l[off]? = some c) (hb : E.lo id = some b)
    (hx : w.cell? ⟨b, off, none⟩ = some x) (hp : PRep E.m w c x) : Rel B E { S with tm := S.tm ++ [vC c], L := S.L.set id (some (.cells (l.set off c.er))) } (a.push x) w := by
  have hlen := h.len
  have hil : id < S.L.length := (List.getElem?_eq_some_iff.1 hid).1
  have hol : off < l.length := (List.getElem?_eq_some_iff.1 hc).1
  have hself : (S.L.set id (some (Ob.cells (l.set off c.er))))[id]? = some (some (.cells (l.set off c.er))) := List.getElem?_set_self hil
  have hlast : (S.tm ++ [vC c])[S.tm.length]? = some (vC c) := by simp
  have hain : ∀ k, k < S.tm.length → (a.push x)[k]? = a[k]? := fun k hk => by rw [Array.getElem?_push, if_neg (by omega)]
  have halast : (a.push x)[S.tm.length]? = some x := by rw [Array.getElem?_push, if_pos hlen.symm]
  have hgone : ∀ k, S.tm.length < k → (S.tm ++ [vC c])[k]? = none := fun k hk => List.getElem?_eq_none (by simp; omega)
  have hin : ∀ k, k < S.tm.length → (S.tm ++ [vC c])[k]? = S.tm[k]? := fun k hk => List.getElem?_append_left hk
  have hcr : CRep E w c x := by cases c <;> first | exact hp | exact hp.elim
  have key : ∀ ℓ sz v, Owned { S with tm := S.tm ++ [vC c], L := S.L.set id (some (.cells (l.set off c.er))) } E (a.push x) w ℓ sz v →
      Owned S E a w (lastL S.tm.length (.l id off) (fun j => .tt S.tm.length j) ℓ) sz v ∧ ℓ ≠ .l id off ∧ (∀ j, ℓ ≠ .tt S.tm.length j) := by
    intro ℓ sz v ho
    obtain ⟨⟨rows, h1⟩, h2⟩ := ho
    cases ℓ with
    | h k o => exact ⟨⟨⟨rows, h1⟩, h2⟩, by simp, by simp⟩
    | l k o =>
      have hne : ¬ (k = id ∧ o = off) := by
        rintro ⟨rfl, rfl⟩
        simp only [St.at, hself] at h1
        rw [List.getElem?_set_self hol] at h1
        exact C.er_ne c sz rows (Option.some.inj h1)
      refine ⟨⟨⟨rows, ?_⟩, h2⟩, by simp; exact fun e f => hne ⟨e, f⟩, by simp⟩
      by_cases e : k = id
      · subst e
        simp only [St.at, hself] at h1
        simp only [lastL, St.at, hid]
        rw [List.getElem?_set_ne (fun f => hne ⟨rfl, f.symm⟩)] at h1
        exact h1
      · simp only [St.at, List.getElem?_set_ne (Ne.symm e)] at h1
        exact h1
    | t k =>
      rcases Nat.lt_trichotomy k S.tm.length with hk | hk | hk
      · refine ⟨?_, by simp, by simp⟩
        simp only [lastL, if_neg (show k ≠ S.tm.length by omega)]
        simp only [at_t] at h1
        rw [hin k hk] at h1
        simp only [conc] at h2
        rw [hain k hk] at h2
        exact ⟨⟨rows, h1⟩, h2⟩
      · subst hk
        simp only [lastL, if_true]
        simp only [at_t] at h1
        rw [hlast] at h1
        simp only [conc] at h2
        rw [halast] at h2
        refine ⟨⟨⟨rows, ?_⟩, ?_⟩, by simp, by simp⟩
        · simp only [St.at, hid, hc]; exact h1
        · simp only [conc, hb, Option.bind_some, hx]; exact h2
      · simp only [at_t] at h1
        rw [hgone k hk] at h1
        cases h1
    | tt k j =>
      rcases Nat.lt_trichotomy k S.tm.length with hk | hk | hk
      · refine ⟨?_, by simp, by simp; intro e; omega⟩
        simp only [lastL, if_neg (show k ≠ S.tm.length by omega)]
        simp only [at_tt] at h1
        rw [hin k hk] at h1
        simp only [conc] at h2
        rw [hain k hk] at h2
        exact ⟨⟨rows, h1⟩, h2⟩
      · subst hk
        simp only [at_tt] at h1
        rw [hlast] at h1
        simp at h1
      · simp only [at_tt] at h1
        rw [hgone k hk] at h1
        cases h1
  refine h.sub { S with tm := S.tm ++ [vC c], L := S.L.set id (some (.cells (l.set off c.er))) } _ (by simp [hlen]) (fun k v hv => ?_) (by simp) (by simp) ?same ?chg (lastL S.tm.length (.l id off) (fun j => .tt S.tm.length j)) (fun ℓ sz v ho => (key ℓ sz v ho).1) ?_
  · rcases Nat.lt_trichotomy k S.tm.length with hk | hk | hk
    · rw [hain k hk]
      rw [hin k hk] at hv
      exact h.tr k v hv
    · subst hk
      rw [hlast] at hv
      cases hv
      exact ⟨x, halast, hcr⟩
    · rw [hgone k hk] at hv; cases hv
  case chg =>
    intro k o2 ho
    by_cases e : k = id
    · subst e
      rw [hself] at ho
      cases ho
      refine ⟨_, hid, fun b' hob => ?_⟩
      obtain ⟨arr, e, h1, h2, h3⟩ := hob
      refine ⟨arr, e, h1, by simpa using h2, fun i d hd => ?_⟩
      by_cases ei : i = off
      · subst ei
        rw [List.getElem?_set_self hol] at hd
        cases hd
        obtain ⟨y, h4, h5⟩ := h3 i c hc
        exact ⟨y, h4, by cases c <;> exact h5⟩
      · rw [List.getElem?_set_ne (Ne.symm ei)] at hd
        exact h3 i d hd
    · rw [List.getElem?_set_ne (Ne.symm e)] at ho
      exact ⟨o2, ho, fun _ h => h⟩
  case same => exact fun id o ho => ⟨o, ho, fun _ h => h⟩
  · intro ℓ ℓ' sz sz' v v' h1 h2 he
    obtain ⟨k1, k2, k3⟩ := key ℓ sz v h1
    obtain ⟨l1, l2, l3⟩ := key ℓ' sz' v' h2
    cases ℓ <;> cases ℓ' <;> simp only [lastL] at he <;> (repeat' split at he) <;> simp_all

theorem getD_some {α : Type} {l : List (Option α)} {i : Nat} {o : α} (h : l.getD i none = some o) : l[i]? = some (some o) := by
  rw [List.getD_eq_getElem?_getD] at h
  cases hq : l[i]? with
  | none => rw [hq] at h; cases h
  | some y => rw [hq] at h; simp only [Option.getD_some] at h; rw [h]

theorem takeLd_sound (hT : TabOk P T) {t lim : Nat} {ti : TI} (htt : T t = some ti) (hna : ti.agg = false) {X : Value} {p v : V} {S' : St} (h : Rel B E S a w) (hp : VRep E w p X) (ht : takeLd S lim p = some (v, S')) :
    ∃ z, (Instr.loadAt t X).run P w = .ok z w ∧ Rel B E { S' with tm := S'.tm ++ [v] } (a.push z) w ∧ S'.H.length = S.H.length ∧ S'.L.length = S.L.length ∧ S'.tm.length = S.tm.length := by
  have go : ∀ ad, X = .pointer (some ad) → (Instr.loadAt t X).run P w = (loadVar t ad).run P w := by
    intro ad e; subst e; simp [Instr.loadAt, Instr.sureAddr]
  have cellOf : ∀ (b : Nat) (l : List C) (off : Nat) (c : C), ObRep E.m w b (.cells l) → l[off]? = some c → ∃ x, w.cell? ⟨b, off, none⟩ = some x ∧ PRep E.m w c x := by
    intro b l off c ho hc
    obtain ⟨arr, e, h1, h2, h3⟩ := ho
    obtain ⟨x, h4, h5⟩ := h3 off c hc
    exact ⟨x, by rw [cell_of_row w b off arr e (0, 0) h1]; exact h4, h5⟩
  unfold takeLd at ht
  split at ht
  · rename_i id off
    obtain ⟨b, hb, rfl⟩ := hp
    rw [go _ rfl]
    obtain ⟨⟨v', o'⟩, h1, h2⟩ := Option.map_eq_some_iff.1 ht
    cases h2
    unfold takeOb at h1
    split at h1
    · rename_i l hl
      obtain ⟨c, h3, h4⟩ := Option.map_eq_some_iff.1 h1
      cases h4
      have hid := getD_some hl
      obtain ⟨b', h5, h6, _⟩ := h.hr id _ hid
      rw [hb] at h5
      cases h5
      obtain ⟨x, hx, hpx⟩ := cellOf b l off c h6 h3
      refine ⟨x, loadVar_one hT htt hna _ x hx, ?_, by simp, rfl, rfl⟩
      have := h.takeH hid h3 hb hx hpx
      simp only [erAt, h3]
      exact this
    · cases h1
  · rename_i k off
    obtain ⟨b, hb, rfl⟩ := hp
    rw [go _ rfl]
    split at ht
    · obtain ⟨⟨v', o'⟩, h1, h2⟩ := Option.map_eq_some_iff.1 ht
      cases h2
      unfold takeOb at h1
      split at h1
      · rename_i l hl
        obtain ⟨c, h3, h4⟩ := Option.map_eq_some_iff.1 h1
        cases h4
        have hid := getD_some hl
        obtain ⟨b', h5, h6, _⟩ := h.lr k _ hid
        rw [hb] at h5
        cases h5
        obtain ⟨x, hx, hpx⟩ := cellOf b l off c h6 h3
        refine ⟨x, loadVar_one hT htt hna _ x hx, ?_, rfl, by simp, rfl⟩
        have := h.takeL hid h3 hb hx hpx
        simp only [erAt, h3]
        exact this
      · cases h1
    · cases ht
  · obtain ⟨v', h1, h2⟩ := Option.map_eq_some_iff.1 ht
    cases h2
    have h1' : ld S lim p ti.size ti.agg = some v := by
      unfold ld at h1 ⊢
      rw [hna]
      split at h1
      · simpa using h1
      · unfold ldOb at h1 ⊢; simpa using h1
      · split at h1
        · rename_i hk; rw [if_pos hk]; unfold ldOb at h1 ⊢; simpa using h1
        · cases h1
      · cases h1
    obtain ⟨z, h3, h4, h5⟩ := ld_sound hT h htt hp h1'
    exact ⟨z, h3, h.push h4 h5, rfl, rfl, rfl⟩

end
end Go.Ev
