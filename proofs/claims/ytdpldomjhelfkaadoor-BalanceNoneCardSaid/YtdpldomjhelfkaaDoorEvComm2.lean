/- What an operation leaves as it was. -/
import Derived.Test.YtdpldomjhelfkaaDoorEvComm
set_option linter.unusedVariables false
set_option linter.unusedSimpArgs false
namespace Go.Ev
open Go

section
variable {T : Tabl} {Sg : Sig} {S S' : St} {o : Oper}

theorem C.er_er (c : C) : c.er.er = c.er := by cases c <;> rfl
theorem C.er_toD (c : C) : c.er.toD = c.toD := by cases c <;> rfl
theorem W.er_er (c : W) : c.er.er = c.er := by cases c <;> simp [W.er, C.er_er]
theorem V.er_er (v : V) : v.er.er = v.er := by
  cases v with
  | w x => simp [V.er, W.er_er]
  | t ws => simp [V.er, W.er_er]

def Soft (S S' : St) : Prop := (∀ t, (S'.tm.getD t vJ).er = (S.tm.getD t vJ).er) ∧ S.L.length ≤ S'.L.length

theorem Soft.refl (S : St) : Soft S S := ⟨fun _ => rfl, Nat.le_refl _⟩
theorem Soft.of (ht : S'.tm = S.tm) (hl : S.L.length ≤ S'.L.length) : Soft S S' := ⟨fun _ => by rw [ht], hl⟩
theorem Soft.trans {S1 S2 S3 : St} (h : Soft S1 S2) (k : Soft S2 S3) : Soft S1 S3 := ⟨fun t => (k.1 t).trans (h.1 t), Nat.le_trans h.2 k.2⟩

theorem set_er (tm : List V) (t : Nat) (u : V) (h : u.er = (tm.getD t vJ).er) (k : Nat) : ((tm.set t u).getD k vJ).er = (tm.getD k vJ).er := by
  by_cases e : k = t
  · subst e
    rcases Nat.lt_or_ge k tm.length with q | q
    · simp only [List.getD_eq_getElem?_getD, List.getElem?_set_self q, Option.getD_some]
      rw [h, List.getD_eq_getElem?_getD]
    · rw [List.set_eq_of_length_le q]
  · rw [getD_set_ne' tm u e]

theorem takeTm_soft {x : Operand} {v : V} (h : takeTm S x = some (v, S')) : Soft S S' ∧ S'.H = S.H ∧ S'.L = S.L := by
  have clr : ∀ t, Soft S (clrTm S t) := fun t => ⟨fun k => set_er _ _ _ (V.er_er _) k, Nat.le_refl _⟩
  unfold takeTm at h
  split at h
  · split at h
    · cases h; exact ⟨clr _, rfl, rfl⟩
    · cases h; exact ⟨clr _, rfl, rfl⟩
    · cases h; exact ⟨Soft.refl _, rfl, rfl⟩
  · cases h; exact ⟨Soft.refl _, rfl, rfl⟩

theorem takeEx_soft {t i : Nat} {v : V} (h : takeEx S t i = some (v, S')) : Soft S S' := by
  unfold takeEx at h
  split at h
  · rename_i ws hw
    split at h
    · rename_i w hi
      cases h
      refine ⟨fun k => set_er _ _ _ ?_ k, Nat.le_refl _⟩
      rw [hw]
      simp only [V.er, V.t.injEq, List.map_set, W.er_er]
      apply List.ext_getElem?
      intro j
      by_cases e : j = i
      · subst e
        have hl : j < ws.length := (List.getElem?_eq_some_iff.1 hi).1
        rw [List.getElem?_set_self (by simpa using hl), List.getElem?_map, hi]
        rfl
      · rw [List.getElem?_set_ne (Ne.symm e)]
    · cases h
  · cases h

theorem takeLd_soft {lim : Nat} {p v : V} (h : takeLd S lim p = some (v, S')) : Soft S S' := by
  unfold takeLd at h
  split at h
  · obtain ⟨q, _, h2⟩ := Option.map_eq_some_iff.1 h
    cases h2
    exact Soft.of rfl (Nat.le_refl _)
  · split at h
    · obtain ⟨q, _, h2⟩ := Option.map_eq_some_iff.1 h
      cases h2
      exact Soft.of rfl (by simp)
    · cases h
  · obtain ⟨q, _, h2⟩ := Option.map_eq_some_iff.1 h
    cases h2
    exact Soft.refl _

theorem storeTo_soft {p : V} {cs : List C} (h : storeTo S p cs = some S') : Soft S S' := by
  unfold storeTo at h
  split at h
  · obtain ⟨q, _, h2⟩ := Option.map_eq_some_iff.1 h
    cases h2
    exact Soft.of rfl (Nat.le_refl _)
  · obtain ⟨q, _, h2⟩ := Option.map_eq_some_iff.1 h
    cases h2
    exact Soft.of rfl (by simp)
  · cases h

theorem capture_soft : ∀ (vs : List V) {S S' : St} {ds : List D}, capture S vs = some (ds, S') → Soft S S'
  | [], S, S', ds, h => by cases h; exact Soft.refl _
  | v :: vs, S, S', ds, h => by
    unfold capture at h
    split at h
    · obtain ⟨⟨ds', S1⟩, h1, h2⟩ := Option.map_eq_some_iff.1 h
      cases h2
      exact capture_soft vs h1
    · split at h
      · split at h
        · obtain ⟨⟨ds', S1⟩, h1, h2⟩ := Option.map_eq_some_iff.1 h
          cases h2
          have h3 := capture_soft vs h1
          exact ⟨h3.1, Nat.le_trans (by simp) h3.2⟩
        · cases h
      · cases h
    · cases h

theorem effCall_soft {g : List V → List (Option Ob) → Option (V × List (Option Ob))} {args : List V} {v : V} (h : effCall S g args = some (v, S')) : Soft S S' := by
  unfold effCall at h
  split at h
  · split at h
    · split at h
      · split at h
        · rename_i hl
          cases h
          exact Soft.of rfl (by simp; omega)
        · cases h
      · cases h
    · cases h
  · split at h
    · obtain ⟨q, _, h2⟩ := Option.map_eq_some_iff.1 h
      cases h2
      exact Soft.of rfl (Nat.le_refl _)
    · cases h

theorem pushL_soft (S : St) (ob : Ob) : Soft S (pushL S ob) := Soft.of rfl (by simp [pushL])

theorem opStep_soft {lim : Nat} {tk : Bool} {v : V} (h : opStep T Sg lim tk o S = some (v, S')) : Soft S S' := by
  unfold opStep at h
  generalize (fun x => (opd S.tm x).er) = ρ at h
  have still : (sv T Sg lim o ρ S).map (fun v => (v, S)) = some (v, S') → Soft S S' := fun hq => by
    obtain ⟨v', h1, h2⟩ := Option.map_eq_some_iff.1 hq
    cases h2
    exact Soft.refl _
  simp only at h
  split at h
  · split at h
    · exact (takeTm_soft h).1
    · exact still h
  · exact (takeTm_soft h).1
  · split at h
    · exact takeEx_soft h
    · exact still h
  · split at h
    · split at h
      · split at h
        · exact still h
        · exact takeLd_soft h
      · cases h
    · exact still h
  · split at h
    · cases h; exact pushL_soft _ _
    · cases h
  · split at h
    · cases h; exact pushL_soft _ _
    · cases h
  · split at h
    · split at h
      · rename_i hq
        split at h
        · split at h
          · obtain ⟨S2, h6, h7⟩ := Option.map_eq_some_iff.1 h
            cases h7
            exact (takeTm_soft hq).1.trans (storeTo_soft h6)
          · cases h
        · cases h
      · cases h
    · cases h
  · cases h; exact pushL_soft _ _
  · split at h
    · split at h
      · split at h
        · cases h; exact Soft.of rfl (by simp)
        · cases h
      · cases h
    · cases h
  · split at h
    · split at h
      · split at h
        · cases h; exact Soft.of rfl (by simp)
        · cases h
      · cases h
    · cases h
  · split at h
    · obtain ⟨⟨ds, S1⟩, h1, h2⟩ := Option.map_eq_some_iff.1 h
      cases h2
      exact capture_soft _ h1
    · cases h
  · split at h
    · split at h
      · split at h
        · split at h
          · split at h
            · rename_i hq
              split at h
              · split at h
                · obtain ⟨r, h6, h7⟩ := Option.map_eq_some_iff.1 h
                  cases h7
                  exact (takeTm_soft hq).1
                · cases h
              · cases h
            · cases h
          · cases h
        · cases h
      · cases h
    · split at h
      · exact effCall_soft h
      · exact still h
    · exact still h
  · exact still h

theorem Same.refl (lim : Nat) (S : St) : Same lim S S := ⟨fun _ _ _ => rfl, fun _ => rfl⟩
theorem Same.of {lim : Nat} (hH : S'.H = S.H) (hL : S'.L = S.L) : Same lim S S' := ⟨fun p n agg => by unfold ld; rw [hH, hL], fun v => by unfold mapOf; rw [hL]⟩

theorem seqD_congr : ∀ (l l' : List C), l'.map C.toD = l.map C.toD → seqD l' = seqD l
  | [], [], _ => rfl
  | [], _ :: _, h => by simp at h
  | _ :: _, [], h => by simp at h
  | c :: r, c' :: r', h => by
    simp only [List.map_cons, List.cons.injEq] at h
    simp only [seqD, h.1, seqD_congr r r' h.2]

theorem ldOb_er {l : List C} {k : Nat} {c : C} (hc : l[k]? = some c) (off n : Nat) (agg : Bool) : ldOb (some (.cells (l.set k c.er))) off n agg = ldOb (some (.cells l)) off n agg := by
  have hm : (l.set k c.er).map C.toD = l.map C.toD := by
    apply List.ext_getElem?
    intro j
    by_cases e : j = k
    · subst e
      have hl : j < l.length := (List.getElem?_eq_some_iff.1 hc).1
      rw [List.getElem?_map, List.getElem?_set_self hl, List.getElem?_map, hc]
      simp [C.er_toD]
    · rw [List.getElem?_map, List.getElem?_set_ne (Ne.symm e), List.getElem?_map]
  unfold ldOb
  simp only [List.length_set]
  split
  · split
    · rw [seqD_congr (List.take n (List.drop off l)) (List.take n (List.drop off (l.set k c.er))) (by rw [List.map_take, List.map_drop, hm, List.map_take, List.map_drop])]
    · rfl
  · by_cases e : off = k
    · subst e
      have hl : off < l.length := (List.getElem?_eq_some_iff.1 hc).1
      simp [List.getElem?_set_self hl, hc, C.er_er]
    · simp [List.getElem?_set_ne (Ne.symm e)]

theorem takeOb_er {o o' : Option Ob} {off : Nat} {v : V} (h : takeOb o off = some (v, o')) : ∃ l c, o = some (.cells l) ∧ l[off]? = some c ∧ o' = some (.cells (l.set off c.er)) := by
  unfold takeOb at h
  split at h
  · rename_i l
    obtain ⟨c, h1, h2⟩ := Option.map_eq_some_iff.1 h
    cases h2
    exact ⟨l, c, rfl, h1, by simp [erAt, h1]⟩
  · cases h

theorem getD_set_opt {α : Type} (l : List (Option α)) (i k : Nat) (x : Option α) : (l.set i x).getD k none = if k = i ∧ i < l.length then x else l.getD k none := by
  by_cases e : k = i
  · subst e
    rcases Nat.lt_or_ge k l.length with q | q
    · rw [if_pos ⟨rfl, q⟩]; simp [List.getD_eq_getElem?_getD, List.getElem?_set_self q]
    · rw [if_neg (by omega), List.set_eq_of_length_le q]
  · rw [if_neg (fun h => e h.1)]; simp [List.getD_eq_getElem?_getD, List.getElem?_set_ne (Ne.symm e)]

theorem takeLd_same {lim : Nat} {p v : V} (h : takeLd S lim p = some (v, S')) : Same lim S S' := by
  unfold takeLd at h
  split at h
  · rename_i id off
    obtain ⟨⟨v', o'⟩, h1, h2⟩ := Option.map_eq_some_iff.1 h
    cases h2
    obtain ⟨l, c, k1, k2, k3⟩ := takeOb_er h1
    refine ⟨fun p n agg => ?_, fun v => rfl⟩
    unfold ld
    split
    · rfl
    · rename_i id' off'
      rw [getD_set_opt]
      split
      · rename_i e
        rw [e.1, k1, k3]
        exact ldOb_er k2 _ _ _
      · rfl
    · rfl
    · rfl
  · rename_i id off
    split at h
    · obtain ⟨⟨v', o'⟩, h1, h2⟩ := Option.map_eq_some_iff.1 h
      cases h2
      obtain ⟨l, c, k1, k2, k3⟩ := takeOb_er h1
      refine ⟨fun p n agg => ?_, fun v => ?_⟩
      · unfold ld
        split
        · rfl
        · rfl
        · split
          · rw [getD_set_opt]
            split
            · rename_i e
              rw [e.1, k1, k3]
              exact ldOb_er k2 _ _ _
            · rfl
          · rfl
        · rfl
      · unfold mapOf
        split
        · rfl
        · split
          · rename_i k hk
            rw [getD_set_opt]
            by_cases e : k = id ∧ id < S.L.length
            · rw [if_pos e, e.1, k1, k3]
            · rw [if_neg e]
          · rfl
        · rfl
    · cases h
  · obtain ⟨q, _, h2⟩ := Option.map_eq_some_iff.1 h
    cases h2
    exact Same.refl _ _

theorem pushL_same {lim : Nat} (S : St) (ob : Ob) (h : lim ≤ S.L.length) : Same lim S (pushL S ob) := by
  have e : ∀ k, k < lim → (pushL S ob).L.getD k none = S.L.getD k none := fun k hk => by
    simp [pushL, List.getD_eq_getElem?_getD, List.getElem?_append_left (show k < S.L.length by omega)]
  refine ⟨fun p n agg => ?_, fun v => ?_⟩
  · unfold ld
    split
    · rfl
    · rfl
    · split
      · rename_i hk; rw [e _ hk]
      · rfl
    · rfl
  · unfold mapOf
    split
    · rfl
    · split
      · rename_i hk; rw [e _ hk]
      · rfl
    · rfl

/-- An operation of class 0 is its value. -/
theorem cls_still {eff : Nat → Bool} (hEff : ∀ f g, Sg f = some (.eff g) → eff f = true) {lim : Nat} {tk : Bool} (hc : cls eff tk o = 0) : opStep T Sg lim tk o S = (sv T Sg lim o (fun x => (opd S.tm x).er) S).map fun v => (v, S) := by
  unfold opStep
  unfold cls at hc
  simp only
  cases ho : o.op <;> simp only [ho] at hc ⊢ <;> try (first | rfl | (exact absurd hc (by decide)))
  case move x => split at hc; · cases hc
                 · rename_i h; simp [h]
  case load t p => split at hc; · cases hc
                   · rename_i h; simp [h]
  case extract x i =>
    split at hc
    · cases hc
    · rename_i h; cases x <;> simp [h]
  case call c =>
    cases hcc : c.callee with
    | invoke _ _ => rfl
    | builtin b => cases b <;> simp only [hcc] at hc ⊢ <;> cases hc
    | value f =>
      cases f <;> simp only [hcc] at hc ⊢
      split at hc
      · cases hc
      · rename_i f hf
        split
        · rename_i g hg
          exact absurd (hEff _ _ hg) hf
        · rfl

theorem cls_same {eff : Nat → Bool} (hEff : ∀ f g, Sg f = some (.eff g) → eff f = true) {lim : Nat} {tk : Bool} {v : V} (hc : cls eff tk o ≤ 1) (hl : lim ≤ S.L.length) (h : opStep T Sg lim tk o S = some (v, S')) : Same lim S S' := by
  rcases Nat.eq_zero_or_pos (cls eff tk o) with h0 | h0
  · rw [cls_still hEff h0] at h
    obtain ⟨v', h1, h2⟩ := Option.map_eq_some_iff.1 h
    cases h2
    exact Same.refl _ _
  · have h1 : cls eff tk o = 1 := by omega
    unfold cls at h1
    unfold opStep at h
    generalize (fun x => (opd S.tm x).er) = ρ at h
    have still : (sv T Sg lim o ρ S).map (fun v => (v, S)) = some (v, S') → Same lim S S' := fun hq => by
      obtain ⟨v', h1, h2⟩ := Option.map_eq_some_iff.1 hq
      cases h2
      exact Same.refl _ _
    simp only at h
    cases ho : o.op <;> simp only [ho] at h1 h <;> try (exact absurd h1 (by decide))
    case move x =>
      split at h
      · exact Same.of (takeTm_soft h).2.1 (takeTm_soft h).2.2
      · exact still h
    case assign x => exact Same.of (takeTm_soft h).2.1 (takeTm_soft h).2.2
    case alloc t =>
      split at h
      · cases h; exact pushL_same _ _ hl
      · cases h
    case load t p =>
      split at h
      · split at h
        · split at h
          · exact still h
          · exact takeLd_same h
        · cases h
      · exact still h
    case extract x i => split at h1 <;> cases h1
    case call c =>
      cases hcc : c.callee with
      | invoke _ _ => simp only [hcc] at h1; cases h1
      | builtin b =>
        cases b <;> simp only [hcc] at h1 h <;> try (cases h1; done)
        split at h
        · split at h
          · split at h
            · split at h
              · rename_i hq
                split at h
                · split at h
                  · obtain ⟨r, h6, h7⟩ := Option.map_eq_some_iff.1 h
                    cases h7
                    exact Same.of (takeTm_soft hq).2.1 (takeTm_soft hq).2.2
                  · cases h
                · cases h
              · cases h
            · cases h
          · cases h
        · cases h
      | value f =>
        cases f <;> simp only [hcc] at h1 h <;> try (cases h1; done)
        split at h1 <;> cases h1

end
end Go.Ev
