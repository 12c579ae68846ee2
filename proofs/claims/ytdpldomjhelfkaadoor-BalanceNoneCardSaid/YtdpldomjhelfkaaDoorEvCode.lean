/- Code: what the interpreter gives is what the code does. -/
import Derived.Test.YtdpldomjhelfkaaDoorEvDraw
import Derived.Scope
import Derived.LoopN
set_option linter.unusedVariables false
set_option linter.unusedSimpArgs false
namespace Go.Ev
open Go

section
variable {P : Program} {T : Tabl} {Sg : Sig} {B : Base} {E F : Env} {S S' : St} {a : Array Value} {act : Act} {w w' : World} {Q : Exit → Act → World → Prop}

theorem dropLocW_rep {n : Nat} {x : W} {v : Value} (h : WRep E w x v) : WRep ⟨E.m, E.ob, fun k => if k < n then E.lo k else none⟩ w (dropLocW n x) v := by
  cases x with
  | a ds => exact h
  | c c =>
    cases c with
    | d d => exact h
    | own sz rows => exact h
    | ptr id off => exact h
    | junk => trivial
    | loc k off =>
      obtain ⟨b, h1, h2⟩ := h
      simp only [dropLocW]
      split
      · rename_i hk; exact ⟨b, by show (if k < n then E.lo k else none) = _; rw [if_pos hk]; exact h1, h2⟩
      · trivial
    | ml k =>
      obtain ⟨b, h1, h2⟩ := h
      simp only [dropLocW]
      split
      · rename_i hk; exact ⟨b, by show (if k < n then E.lo k else none) = _; rw [if_pos hk]; exact h1, h2⟩
      · trivial

theorem dropLocW_own {n : Nat} {x : W} {sz : Nat} {rows : List (List D)} (h : dropLocW n x = .c (.own sz rows)) : x = .c (.own sz rows) := by
  cases x with
  | a ds => simp [dropLocW] at h
  | c c =>
    cases c <;> simp only [dropLocW] at h
    all_goals first
      | exact h
      | (split at h <;> cases h)
      | cases h

theorem dropLoc_rep {n : Nat} {x : V} {v : Value} (h : VRep E w x v) : VRep ⟨E.m, E.ob, fun k => if k < n then E.lo k else none⟩ w (dropLoc n x) v := by
  cases x with
  | w x => exact dropLocW_rep h
  | t ws =>
    obtain ⟨vs, h1, h2, h3⟩ := h
    refine ⟨vs, h1, by simpa using h2, fun i y hy => ?_⟩
    simp only [List.getElem?_map, Option.map_eq_some_iff] at hy
    obtain ⟨z, hz, rfl⟩ := hy
    obtain ⟨u, h4, h5⟩ := h3 i z hz
    exact ⟨u, h4, dropLocW_rep h5⟩

/-- A round knows less. -/
theorem Rel.forget (h : Rel B E S a w) (Kp : List Nat) (n : Nat) : Rel B ⟨E.m, E.ob, fun k => if k < n then E.lo k else none⟩ (Ev.forget Kp n S) a w := by
  have hlen := h.len
  have hget : ∀ (i : Nat) (v : V), (Ev.forget Kp n S).tm[i]? = some v → ∃ u, S.tm[i]? = some u ∧ v = if Kp.contains i then dropLoc n u else vJ := by
    intro i v hv
    simp only [Ev.forget, List.getElem?_mapIdx, Option.map_eq_some_iff] at hv
    obtain ⟨u, h1, h2⟩ := hv
    exact ⟨u, h1, h2.symm⟩
  have hL : ∀ (k : Nat) (o : Option Ob), (Ev.forget Kp n S).L[k]? = some o → k < n ∧ S.L[k]? = some o := by
    intro k o ho
    simp only [Ev.forget, List.getElem?_take] at ho
    split at ho
    · rename_i hk; exact ⟨hk, ho⟩
    · cases ho
  have hlo : ∀ k, k < n → (⟨E.m, E.ob, fun k => if k < n then E.lo k else none⟩ : Env).lo k = E.lo k := fun k hk => if_pos hk
  have key : ∀ ℓ sz v, Owned (Ev.forget Kp n S) ⟨E.m, E.ob, fun k => if k < n then E.lo k else none⟩ a w ℓ sz v → Owned S E a w ℓ sz v := by
    intro ℓ sz v ho
    obtain ⟨⟨rows, h1⟩, h2⟩ := ho
    cases ℓ with
    | h id off => exact ⟨⟨rows, h1⟩, h2⟩
    | t i =>
      refine ⟨⟨rows, ?_⟩, h2⟩
      simp only [at_t] at h1 ⊢
      split at h1
      · rename_i c hc
        obtain ⟨u, hu, he⟩ := hget i _ hc
        cases h1
        split at he
        · cases u with
          | t ws => simp [dropLoc] at he
          | w x =>
            simp only [dropLoc, V.w.injEq] at he
            rw [hu, dropLocW_own he.symm]
        · simp [vJ] at he
      · cases h1
    | tt i j =>
      refine ⟨⟨rows, ?_⟩, h2⟩
      simp only [at_tt] at h1 ⊢
      split at h1
      · rename_i ws hc
        obtain ⟨u, hu, he⟩ := hget i _ hc
        split at he
        · cases u with
          | w x => simp [dropLoc] at he
          | t us =>
            simp only [dropLoc, V.t.injEq] at he
            subst he
            rw [hu]
            simp only [List.getElem?_map] at h1
            cases hj : us[j]? with
            | none => rw [hj] at h1; simp at h1
            | some x =>
              rw [hj] at h1
              simp only [Option.map_some] at h1
              split at h1
              · rename_i c hx
                cases h1
                have hx' : dropLocW n x = .c (.own sz rows) := by simpa using hx
                rw [dropLocW_own hx'] at hj
                simp only [hj]
              · cases h1
        · simp [vJ] at he
      · cases h1
    | l k off =>
      simp only [St.at] at h1
      split at h1
      · rename_i l hl
        obtain ⟨hk, hl'⟩ := hL k _ hl
        refine ⟨⟨rows, by simp only [St.at, hl']; exact h1⟩, ?_⟩
        simp only [conc, if_pos hk] at h2 ⊢
        exact h2
      · cases h1
  have live : ∀ k, liveL (Ev.forget Kp n S) k → k < n ∧ liveL S k := fun k ⟨o, ho⟩ => let ⟨h1, h2⟩ := hL k _ ho; ⟨h1, o, h2⟩
  exact {
    len := by simp [Ev.forget, hlen]
    tr := fun i v hv => by
      obtain ⟨u, hu, rfl⟩ := hget i v hv
      obtain ⟨x, h1, h2⟩ := h.tr i u hu
      refine ⟨x, h1, ?_⟩
      split
      · exact dropLoc_rep h2
      · trivial
    hr := h.hr
    lr := fun k o ho => by
      obtain ⟨hk, ho'⟩ := hL k _ ho
      rw [hlo k hk]
      exact h.lr k o ho'
    hh := h.hh
    ll := fun i j b hi hj h1 h2 => by
      obtain ⟨i1, i2⟩ := live i hi
      obtain ⟨j1, j2⟩ := live j hj
      rw [hlo i i1] at h1
      rw [hlo j j1] at h2
      exact h.ll i j b i2 j2 h1 h2
    hl := fun i j b hi hj h1 h2 => by
      obtain ⟨j1, j2⟩ := live j hj
      rw [hlo j j1] at h2
      exact h.hl i j b hi j2 h1 h2
    obl := h.obl
    lol := fun k b hb => by
      by_cases hk : k < n
      · rw [hlo k hk] at hb
        have := h.lol k b hb
        simp only [Ev.forget, List.length_take]
        omega
      · simp only [if_neg hk] at hb; cases hb
    own := fun ℓ sz v ho => h.own ℓ sz v (key _ _ _ ho)
    own1 := fun ℓ ℓ' sz sz' v v' b h1 h2 => h.own1 ℓ ℓ' sz sz' v v' b (key _ _ _ h1) (key _ _ _ h2)
    imw := h.imw
    mpw := h.mpw
    kept := h.kept }

def X.out : X → Exit
  | .norm => .normal
  | .ex id => .exit id
  | .ret => .ret

/-- What is asked of a program, its types, its callees. -/
structure World7 (P : Program) (pin : Nat → Option Obj) (T : Tabl) (Sg : Sig) (okDraw : Array Oper → Bool) : Prop where
  tab : TabOk P T
  eq : EqOk P T
  sig : SigOk P pin Sg
  mixed : P.follows .mixedOrders = true
  draw : ∃ eff : Nat → Bool, (∀ f g, Sg f = some (.eff g) → eff f = true) ∧ ∀ ops, okDraw ops = true → drawOk eff ops = true

theorem ev_sound {okDraw : Array Oper → Bool} (hW : World7 P B.pin T Sg okDraw) (Kp : List Nat) (n : Nat) : ∀ (c : Code) {E : Env} {S S' : St} {act : Act} {w : World} {x : X} {Q : Exit → Act → World → Prop}, ev T Sg okDraw Kp n c S = some (x, S') → Rel B E S act.tmps w →
    (∀ act' w', Behind B S E act S' act' w' → Q x.out act' w') → c.wp P Q act w := by
  intro c
  induction c with
  | skip => intro E S S' act w x Q he h hQ; cases he; exact wp_skip (hQ _ _ ⟨E, Agree.refl _ _, rfl, h⟩)
  | label l => intro E S S' act w x Q he h hQ; cases he; exact wp_label (hQ _ _ ⟨E, Agree.refl _ _, rfl, h⟩)
  | exit id => intro E S S' act w x Q he h hQ; cases he; exact wp_exit (hQ _ _ ⟨E, Agree.refl _ _, rfl, h⟩)
  | ret => intro E S S' act w x Q he h hQ; cases he; exact wp_ret (hQ _ _ ⟨E, Agree.refl _ _, rfl, h⟩)
  | region id ops draw =>
    intro E S S' act w x Q he h hQ
    unfold ev at he
    cases draw with
    | true =>
      rw [if_pos rfl] at he
      split at he
      · rename_i hd
        obtain ⟨S1, h1, h2⟩ := Option.map_eq_some_iff.1 he
        cases h2
        obtain ⟨eff, e1, e2⟩ := hW.draw
        exact draw_sound hW.tab hW.eq hW.sig e1 hW.mixed (e2 ops hd) h h1 hQ
      · cases he
    | false =>
      rw [if_neg (by simp)] at he
      obtain ⟨S1, h1, h2⟩ := Option.map_eq_some_iff.1 he
      cases h2
      exact wp_region (steps_sound hW.tab hW.eq hW.sig _ h h1 hQ)
  | seq y z ihy ihz =>
    intro E S S' act w x Q he h hQ
    unfold ev at he
    split at he
    · rename_i S1 h1
      refine wp_seq (ihy h1 h fun act1 w1 hb => ?_)
      obtain ⟨E1, ha, hd, hr⟩ := hb
      exact ihz he hr fun act' w' hb' => by
        obtain ⟨E2, ha2, hd2, hr2⟩ := hb'
        exact hQ act' w' ⟨E2, ha.trans ha2, hd2.trans hd, hr2⟩
    · rename_i hne
      refine wp_seq (ihy he h fun act1 w1 hb => ?_)
      cases x with
      | norm => exact absurd he (hne S')
      | ex j => exact hQ act1 w1 hb
      | ret => exact hQ act1 w1 hb
  | cond c y z ihy ihz =>
    intro E S S' act w x Q he h hQ
    have hc := (h.opd c).er
    unfold ev at he
    split at he
    · rename_i hv
      rw [hv] at hc
      have : act.eval c = .bool true := by generalize act.eval c = cv at hc; cases hc; rfl
      exact wp_cond_true this (ihy he h hQ)
    · rename_i hv
      rw [hv] at hc
      have : act.eval c = .bool false := by generalize act.eval c = cv at hc; cases hc; rfl
      exact wp_cond_false this (ihz he h hQ)
    · cases he
  | block id c ih =>
    intro E S S' act w x Q he h hQ
    unfold ev at he
    split at he
    · rename_i j S1 h1
      split at he
      · rename_i hj
        cases he
        refine wp_block (ih h1 h fun act1 w1 hb => ?_)
        simp only [X.out, Exit.inBlock, if_pos hj]
        exact hQ act1 w1 hb
      · rename_i hj
        cases he
        refine wp_block (ih h1 h fun act1 w1 hb => ?_)
        simp only [X.out, Exit.inBlock, if_neg hj]
        exact hQ act1 w1 hb
    · rename_i hne
      refine wp_block (ih he h fun act1 w1 hb => ?_)
      cases x with
      | norm => exact hQ act1 w1 hb
      | ex j => exact absurd he (hne j S')
      | ret => exact hQ act1 w1 hb
  | scope c ih =>
    intro E S S' act w x Q he h hQ
    unfold ev at he
    refine wp_scope_straight (ih he h fun act1 w1 hb => ?_)
    cases x <;> exact hQ act1 w1 hb
  | loop c ih =>
    intro E S S' act w x Q he h hQ
    unfold ev at he
    have rnd : ∀ (m : Nat) {E1 : Env} {S1 : St} {act1 : Act} {w1 : World}, Agree S E S1 E1 → act1.defers = act.defers → Rel B E1 S1 act1.tmps w1 → rounds (ev T Sg okDraw Kp n c) (forget Kp S.L.length) m S1 = some (x, S') → Code.rounds P c Q m act1 w1 := by
      intro m
      induction m with
      | zero => intro E1 S1 act1 w1 _ _ _ hr; cases hr
      | succ m ihm =>
        intro E1 S1 act1 w1 ha hd hrel hr
        unfold rounds at hr
        have hf := hrel.forget Kp S.L.length
        rw [rounds_succ]
        split at hr
        · rename_i S2 h2
          refine ih h2 hf fun act2 w2 hb => ?_
          obtain ⟨E2, ha2, hd2, hr2⟩ := hb
          exact ihm (ha.trans ha2) (hd2.trans hd) hr2 hr
        · rename_i hne
          refine ih hr hf fun act2 w2 hb => ?_
          obtain ⟨E2, ha2, hd2, hr2⟩ := hb
          cases x with
          | norm => exact absurd hr (hne S')
          | ex j => exact hQ act2 w2 ⟨E2, ha.trans ha2, hd2.trans hd, hr2⟩
          | ret => exact hQ act2 w2 ⟨E2, ha.trans ha2, hd2.trans hd, hr2⟩
    exact wp_loop_rounds n (rnd n (Agree.refl S E) rfl h he)
  | _ => intro E S S' act w x Q he h hQ; unfold ev at he; cases he

end
end Go.Ev
