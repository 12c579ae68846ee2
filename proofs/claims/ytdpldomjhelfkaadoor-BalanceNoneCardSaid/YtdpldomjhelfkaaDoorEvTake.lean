/- Taking a value together with the right to append to it. -/
import Derived.Test.YtdpldomjhelfkaaDoorEvApp
import Derived.Calls
set_option linter.unusedVariables false
set_option linter.unusedSimpArgs false
namespace Go.Ev
open Go

section
variable {P : Program} {T : Tabl} {B : Base} {E : Env} {S : St} {a : Array Value} {w w' : World}

/-- The new last place stands for another one. -/
def lastL (n : Nat) (to : FL) (tot : Nat → FL) : FL → FL
  | .t i => if i = n then to else .t i
  | .tt i j => if i = n then tot j else .tt i j
  | ℓ => ℓ

theorem er_at_t {S2 : St} {i : Nat} {u : V} (hu : S2.tm[i]? = some u.er) (sz : Nat) (rows : List (List D)) : S2.at (.t i) ≠ some (.own sz rows) := by
  simp only [at_t, hu]
  cases u with
  | w x =>
    cases x with
    | c c => simp only [V.er, W.er, ne_eq, Option.some.injEq]; exact C.er_ne c sz rows
    | a _ => simp [V.er, W.er]
  | t ws => simp [V.er]

theorem er_at_tt {S2 : St} {i j : Nat} {u : V} (hu : S2.tm[i]? = some u.er) (sz : Nat) (rows : List (List D)) : S2.at (.tt i j) ≠ some (.own sz rows) := by
  simp only [at_tt, hu]
  cases u with
  | w x => simp [V.er]
  | t ws =>
    simp only [V.er, List.getElem?_map]
    cases hj : ws[j]? with
    | none => simp
    | some y =>
      cases y with
      | c c => simp only [Option.map_some, W.er, ne_eq, Option.some.injEq]; exact C.er_ne c sz rows
      | a _ => simp [W.er]

theorem Rel.take (h : Rel B E S a w) {t : Nat} {u : V} {x : Value} (hu : S.tm[t]? = some u) (hx : a[t]? = some x) :
    Rel B E { S with tm := S.tm.set t u.er ++ [u] } (a.push x) w := by
  have hlen := h.len
  have ht : t < S.tm.length := (List.getElem?_eq_some_iff.1 hu).1
  have hsl : (S.tm.set t u.er).length = S.tm.length := by simp
  have hux : VRep E w u x := by obtain ⟨y, h1, h2⟩ := h.tr t u hu; rw [hx] at h1; cases h1; exact h2
  have hat : (S.tm.set t u.er ++ [u])[t]? = some u.er := by rw [List.getElem?_append_left (by omega), List.getElem?_set_self ht]
  have hlast : (S.tm.set t u.er ++ [u])[S.tm.length]? = some u := by rw [List.getElem?_append_right (by omega)]; simp [hsl]
  have hoth : ∀ i, i ≠ t → i < S.tm.length → (S.tm.set t u.er ++ [u])[i]? = S.tm[i]? := fun i hi hl => by
    rw [List.getElem?_append_left (by omega), List.getElem?_set_ne (Ne.symm hi)]
  have hgone : ∀ i, S.tm.length < i → (S.tm.set t u.er ++ [u])[i]? = none := fun i hi => List.getElem?_eq_none (by simp; omega)
  have hain : ∀ i, i < S.tm.length → (a.push x)[i]? = a[i]? := fun i hi => by rw [Array.getElem?_push, if_neg (by omega)]
  have halast : (a.push x)[S.tm.length]? = some x := by rw [Array.getElem?_push, if_pos hlen.symm]
  have key : ∀ ℓ sz v, Owned { S with tm := S.tm.set t u.er ++ [u] } E (a.push x) w ℓ sz v →
      Owned S E a w (lastL S.tm.length (.t t) (fun j => .tt t j) ℓ) sz v ∧ ℓ ≠ .t t ∧ (∀ j, ℓ ≠ .tt t j) := by
    intro ℓ sz v ho
    obtain ⟨⟨rows, h1⟩, h2⟩ := ho
    cases ℓ with
    | h id off => exact ⟨⟨⟨rows, h1⟩, h2⟩, by simp, by simp⟩
    | l k off => exact ⟨⟨⟨rows, h1⟩, h2⟩, by simp, by simp⟩
    | t i =>
      rcases Nat.lt_trichotomy i S.tm.length with hi | hi | hi
      · by_cases e : i = t
        · subst e; exact absurd h1 (er_at_t (S2 := { S with tm := S.tm.set i u.er ++ [u] }) hat sz rows)
        · refine ⟨?_, by simpa using e, by simp⟩
          simp only [lastL, if_neg (show i ≠ S.tm.length by omega)]
          simp only [at_t] at h1
          rw [hoth i e hi] at h1
          simp only [conc] at h2
          rw [hain i hi] at h2
          exact ⟨⟨rows, h1⟩, h2⟩
      · subst hi
        simp only [lastL, if_true]
        simp only [at_t] at h1
        rw [hlast] at h1
        simp only [conc] at h2
        rw [halast] at h2
        refine ⟨⟨⟨rows, ?_⟩, ?_⟩, by simp; omega, by simp⟩
        · simp only [at_t]; rw [hu]; exact h1
        · simp only [conc]; rw [hx]; exact h2
      · simp only [at_t] at h1
        rw [hgone i hi] at h1
        cases h1
    | tt i j =>
      rcases Nat.lt_trichotomy i S.tm.length with hi | hi | hi
      · by_cases e : i = t
        · subst e; exact absurd h1 (er_at_tt (S2 := { S with tm := S.tm.set i u.er ++ [u] }) hat sz rows)
        · refine ⟨?_, by simp, by simp; exact fun h => absurd h e⟩
          simp only [lastL, if_neg (show i ≠ S.tm.length by omega)]
          simp only [at_tt] at h1
          rw [hoth i e hi] at h1
          simp only [conc] at h2
          rw [hain i hi] at h2
          exact ⟨⟨rows, h1⟩, h2⟩
      · subst hi
        simp only [lastL, if_true]
        simp only [at_tt] at h1
        rw [hlast] at h1
        simp only [conc] at h2
        rw [halast] at h2
        refine ⟨⟨⟨rows, ?_⟩, ?_⟩, by simp, by simp; intro e; omega⟩
        · simp only [at_tt]; rw [hu]; exact h1
        · simp only [conc]; rw [hx]; exact h2
      · simp only [at_tt] at h1
        rw [hgone i hi] at h1
        cases h1
  refine h.subTm _ _ (by simp [hlen]) (fun i v hv => ?_) (lastL S.tm.length (.t t) (fun j => .tt t j)) (fun ℓ sz v ho => (key ℓ sz v ho).1) ?_
  · rcases Nat.lt_trichotomy i S.tm.length with hi | hi | hi
    · rw [hain i hi]
      by_cases e : i = t
      · subst e
        rw [hat] at hv
        cases hv
        exact ⟨x, hx, hux.er⟩
      · rw [hoth i e hi] at hv
        exact h.tr i v hv
    · subst hi
      rw [hlast] at hv
      cases hv
      exact ⟨x, halast, hux⟩
    · rw [hgone i hi] at hv; cases hv
  · intro ℓ ℓ' sz sz' v v' h1 h2 he
    obtain ⟨k1, k2, k3⟩ := key ℓ sz v h1
    obtain ⟨l1, l2, l3⟩ := key ℓ' sz' v' h2
    cases ℓ <;> cases ℓ' <;> simp only [lastL] at he <;> (repeat' split at he) <;> simp_all

theorem ofVal_rep (v : Value) : VRep E w (ofVal v) v := by
  unfold ofVal
  split
  · exact DRep.bool _
  · exact DRep.int _ _
  · exact DRep.str _
  · exact DRep.nilp
  · exact DRep.nils
  · exact DRep.nilm
  · exact DRep.nilf
  · trivial
theorem ofVal_noOwn (v : Value) : NoOwn (ofVal v) := by
  unfold ofVal
  split <;> first | exact NoOwn.d _ | exact NoOwn.junk

theorem fn_rep (f : Nat) : VRep E w (vD (.fn f [])) (.func (.func f) #[] #[]) := DRep.fn f [] #[] (fun _ => undef) rfl (by simp) (by simp)

theorem Rel.opd {act : Act} (h : Rel B E S act.tmps w) (x : Operand) : VRep E w (opd S.tm x) (act.eval x) := by
  cases x with
  | tmp t =>
    simp only [Ev.opd, Act.eval, List.getD_eq_getElem?_getD, Array.getD_eq_getD_getElem?]
    cases ht : S.tm[t]? with
    | none => trivial
    | some u =>
      obtain ⟨y, h1, h2⟩ := h.tr t u ht
      rw [h1]
      exact h2
  | const v => exact ofVal_rep v
  | func f => exact fn_rep f
  | global g => trivial

theorem opd_noOwn_const {S : St} {x : Operand} (hx : ∀ t, x ≠ .tmp t) : NoOwn (Ev.opd S.tm x) := by
  cases x with
  | tmp t => exact absurd rfl (hx t)
  | const v => exact ofVal_noOwn v
  | func f => exact NoOwn.d _
  | global g => exact NoOwn.junk

theorem takeTm_sound {act : Act} (h : Rel B E S act.tmps w) {x : Operand} {v : V} {S' : St} (ht : takeTm S x = some (v, S')) :
    Rel B E { S' with tm := S'.tm ++ [v] } (act.tmps.push (act.eval x)) w ∧ S'.H = S.H ∧ S'.L = S.L ∧ S'.tm.length = S.tm.length ∧ VRep E w v (act.eval x) := by
  have ho := h.opd x
  unfold takeTm at ht
  split at ht
  · rename_i t
    simp only [Ev.opd] at ho
    have some_of : ∀ u, S.tm.getD t vJ = u → u ≠ vJ → S.tm[t]? = some u ∧ act.tmps[t]? = some (act.eval (.tmp t)) := by
      intro u hu hne
      rw [List.getD_eq_getElem?_getD] at hu
      cases hq : S.tm[t]? with
      | none => rw [hq] at hu; exact absurd hu.symm hne
      | some y =>
        rw [hq] at hu
        simp only [Option.getD_some] at hu
        subst hu
        obtain ⟨z, h1, _⟩ := h.tr t y hq
        exact ⟨rfl, by simp [Act.eval, Array.getD_eq_getD_getElem?, h1]⟩
    split at ht
    · rename_i sz rows hg
      cases ht
      obtain ⟨h1, h2⟩ := some_of _ hg (by simp [vJ])
      refine ⟨?_, rfl, rfl, by simp [clrTm], by rw [hg] at ho; exact ho⟩
      have := h.take h1 h2
      simp only [clrTm, hg]
      exact this
    · rename_i ws hg
      cases ht
      obtain ⟨h1, h2⟩ := some_of _ hg (by simp [vJ])
      refine ⟨?_, rfl, rfl, by simp [clrTm], by rw [hg] at ho; exact ho⟩
      have := h.take h1 h2
      simp only [clrTm, hg]
      exact this
    · rename_i hn1 hn2
      cases ht
      exact ⟨h.push ho ⟨hn1, fun ws hw => absurd hw (hn2 ws)⟩, rfl, rfl, rfl, ho⟩
  · rename_i hx
    cases ht
    exact ⟨h.push ho (opd_noOwn_const hx), rfl, rfl, rfl, ho⟩

theorem Rel.takeEx {t i : Nat} {ws : List W} {u : W} {vs : Array Value} {x : Value} (h : Rel B E S a w) (ht : S.tm[t]? = some (.t ws)) (hi : ws[i]? = some u) (ha : a[t]? = some (.tuple vs)) (hx : vs[i]? = some x) :
    Rel B E { S with tm := S.tm.set t (.t (ws.set i u.er)) ++ [.w u] } (a.push x) w := by
  have hlen := h.len
  have htl : t < S.tm.length := (List.getElem?_eq_some_iff.1 ht).1
  have hil : i < ws.length := (List.getElem?_eq_some_iff.1 hi).1
  obtain ⟨y, h1, vs', h2, h3, h4⟩ := h.tr t _ ht
  rw [ha] at h1
  cases h1
  cases h2
  have hux : WRep E w u x := by obtain ⟨z, h5, h6⟩ := h4 i u hi; rw [hx] at h5; cases h5; exact h6
  have hsl : (S.tm.set t (V.t (ws.set i u.er))).length = S.tm.length := by simp
  have hat : (S.tm.set t (V.t (ws.set i u.er)) ++ [V.w u])[t]? = some (.t (ws.set i u.er)) := by rw [List.getElem?_append_left (by omega), List.getElem?_set_self htl]
  have hlast : (S.tm.set t (V.t (ws.set i u.er)) ++ [V.w u])[S.tm.length]? = some (.w u) := by rw [List.getElem?_append_right (by omega)]; simp [hsl]
  have hoth : ∀ k, k ≠ t → k < S.tm.length → (S.tm.set t (V.t (ws.set i u.er)) ++ [V.w u])[k]? = S.tm[k]? := fun k hk hl => by
    rw [List.getElem?_append_left (by omega), List.getElem?_set_ne (Ne.symm hk)]
  have hgone : ∀ k, S.tm.length < k → (S.tm.set t (V.t (ws.set i u.er)) ++ [V.w u])[k]? = none := fun k hk => List.getElem?_eq_none (by simp; omega)
  have hain : ∀ k, k < S.tm.length → (a.push x)[k]? = a[k]? := fun k hk => by rw [Array.getElem?_push, if_neg (by omega)]
  have halast : (a.push x)[S.tm.length]? = some x := by rw [Array.getElem?_push, if_pos hlen.symm]
  have key : ∀ ℓ sz v, Owned { S with tm := S.tm.set t (.t (ws.set i u.er)) ++ [.w u] } E (a.push x) w ℓ sz v →
      Owned S E a w (lastL S.tm.length (.tt t i) (fun j => .tt S.tm.length j) ℓ) sz v ∧ ℓ ≠ .tt t i ∧ (∀ j, ℓ ≠ .tt S.tm.length j) := by
    intro ℓ sz v ho
    obtain ⟨⟨rows, h1⟩, h2⟩ := ho
    cases ℓ with
    | h id off => exact ⟨⟨⟨rows, h1⟩, h2⟩, by simp, by simp⟩
    | l k off => exact ⟨⟨⟨rows, h1⟩, h2⟩, by simp, by simp⟩
    | t k =>
      rcases Nat.lt_trichotomy k S.tm.length with hk | hk | hk
      · by_cases e : k = t
        · subst e; simp only [at_t] at h1; rw [hat] at h1; cases h1
        · refine ⟨?_, by simp, by simp⟩
          simp only [lastL, if_neg (show k ≠ S.tm.length by omega)]
          simp only [at_t] at h1
          rw [hoth k e hk] at h1
          simp only [conc] at h2
          rw [hain k hk] at h2
          exact ⟨⟨rows, h1⟩, h2⟩
      · subst hk
        simp only [lastL, if_true]
        simp only [at_t] at h1
        rw [hlast] at h1
        simp only [conc] at h2
        rw [halast] at h2
        cases u with
        | a _ => simp at h1
        | c c =>
          refine ⟨⟨⟨rows, ?_⟩, ?_⟩, by simp, by simp⟩
          · simp only [at_tt, ht, hi]; exact h1
          · simp only [conc, ha, hx]; exact h2
      · simp only [at_t] at h1
        rw [hgone k hk] at h1
        cases h1
    | tt k j =>
      rcases Nat.lt_trichotomy k S.tm.length with hk | hk | hk
      · by_cases e : k = t
        · subst e
          simp only [at_tt] at h1
          rw [hat] at h1
          simp only at h1
          by_cases ej : j = i
          · subst ej
            rw [List.getElem?_set_self hil] at h1
            cases u with
            | a _ => simp [W.er] at h1
            | c c => simp only [W.er, Option.some.injEq] at h1; exact absurd h1 (C.er_ne c sz rows)
          · rw [List.getElem?_set_ne (Ne.symm ej)] at h1
            refine ⟨?_, by simp [ej], by simp; intro e; omega⟩
            simp only [lastL, if_neg (show k ≠ S.tm.length by omega)]
            simp only [conc] at h2
            rw [hain k hk] at h2
            exact ⟨⟨rows, by simp only [at_tt, ht]; exact h1⟩, h2⟩
        · refine ⟨?_, by simp [e], by simp; intro e; omega⟩
          simp only [lastL, if_neg (show k ≠ S.tm.length by omega)]
          simp only [at_tt] at h1
          rw [hoth k e hk] at h1
          simp only [conc] at h2
          rw [hain k hk] at h2
          exact ⟨⟨rows, h1⟩, h2⟩
      · subst hk
        simp only [at_tt] at h1
        rw [hlast] at h1
        simp at h1
      · simp only [at_tt] at h1
        rw [hgone k hk] at h1
        cases h1
  refine h.subTm _ _ (by simp [hlen]) (fun k v hv => ?_) (lastL S.tm.length (.tt t i) (fun j => .tt S.tm.length j)) (fun ℓ sz v ho => (key ℓ sz v ho).1) ?_
  · rcases Nat.lt_trichotomy k S.tm.length with hk | hk | hk
    · rw [hain k hk]
      by_cases e : k = t
      · subst e
        rw [hat] at hv
        cases hv
        refine ⟨_, ha, vs, rfl, by simpa using h3, fun j y hy => ?_⟩
        by_cases ej : j = i
        · subst ej
          rw [List.getElem?_set_self hil] at hy
          cases hy
          exact ⟨x, hx, hux.er⟩
        · rw [List.getElem?_set_ne (Ne.symm ej)] at hy
          exact h4 j y hy
      · rw [hoth k e hk] at hv
        exact h.tr k v hv
    · subst hk
      rw [hlast] at hv
      cases hv
      exact ⟨x, halast, hux⟩
    · rw [hgone k hk] at hv; cases hv
  · intro ℓ ℓ' sz sz' v v' h1 h2 he
    obtain ⟨k1, k2, k3⟩ := key ℓ sz v h1
    obtain ⟨l1, l2, l3⟩ := key ℓ' sz' v' h2
    cases ℓ <;> cases ℓ' <;> simp only [lastL] at he <;> (repeat' split at he) <;> simp_all

theorem takeEx_sound {act : Act} (h : Rel B E S act.tmps w) {t i : Nat} {v : V} {S' : St} (ht : Ev.takeEx S t i = some (v, S')) :
    ∃ z, (Instr.extract (act.eval (.tmp t)) i).run P w = .ok z w ∧ Rel B E { S' with tm := S'.tm ++ [v] } (act.tmps.push z) w ∧ S'.H = S.H ∧ S'.L = S.L ∧ S'.tm.length = S.tm.length := by
  unfold Ev.takeEx at ht
  split at ht
  · rename_i ws hg
    split at ht
    · rename_i u hu
      cases ht
      have hq : S.tm[t]? = some (.t ws) := by
        rw [List.getD_eq_getElem?_getD] at hg
        cases hq : S.tm[t]? with
        | none => rw [hq] at hg; cases hg
        | some y => rw [hq] at hg; simp only [Option.getD_some] at hg; rw [hg]
      obtain ⟨y, h1, vs, rfl, h3, h4⟩ := h.tr t _ hq
      obtain ⟨x, hx, _⟩ := h4 i u hu
      refine ⟨x, ?_, h.takeEx hq hu h1 hx, rfl, rfl, by simp⟩
      simp [Act.eval, Array.getD_eq_getD_getElem?, h1, Instr.extract, hx]
    · cases ht
  · cases ht

end
end Go.Ev
