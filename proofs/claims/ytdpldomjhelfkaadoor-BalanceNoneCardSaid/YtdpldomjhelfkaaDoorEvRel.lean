/- The relation between abstract and concrete states under changes of the frame alone. -/
import Derived.Test.YtdpldomjhelfkaaDoorEvRep
set_option linter.unusedVariables false
set_option linter.unusedSimpArgs false
namespace Go.Ev
open Go

def NoOwn (v : V) : Prop := (∀ sz rows, v ≠ .w (.c (.own sz rows))) ∧ ∀ ws, v = .t ws → ∀ (j : Nat) sz rows, ws[j]? ≠ some (W.c (.own sz rows))

theorem NoOwn.d (x : D) : NoOwn (vD x) := ⟨fun _ _ h => by simp at h, fun _ h => by simp at h⟩
theorem NoOwn.a (x : List D) : NoOwn (vA x) := ⟨fun _ _ h => by simp at h, fun _ h => by simp at h⟩
theorem NoOwn.undef : NoOwn (.t []) := ⟨fun _ _ h => by simp at h, fun ws h => by cases h; simp⟩
theorem NoOwn.junk : NoOwn vJ := ⟨fun _ _ h => by simp at h, fun _ h => by simp at h⟩

theorem C.er_ne (c : C) (sz : Nat) (rows : List (List D)) : c.er ≠ .own sz rows := by cases c <;> simp [C.er]
theorem W.er_ne (c : W) (sz : Nat) (rows : List (List D)) : c.er ≠ .c (.own sz rows) := by
  cases c with
  | c c => simp only [W.er, ne_eq, W.c.injEq]; exact C.er_ne c sz rows
  | a _ => simp [W.er]
theorem V.er_noOwn (v : V) : NoOwn v.er := by
  cases v with
  | w x => exact ⟨fun sz rows h => W.er_ne x sz rows (by simpa [V.er] using h), fun ws h => by simp [V.er] at h⟩
  | t ws =>
    refine ⟨fun sz rows h => by simp [V.er] at h, fun ws' h j sz rows hj => ?_⟩
    simp only [V.er, V.t.injEq] at h
    subst h
    simp only [List.getElem?_map, Option.map_eq_some_iff] at hj
    obtain ⟨x, _, hx⟩ := hj
    exact W.er_ne x sz rows hx

theorem CRep.er {E : Env} {w : World} {c : C} {v : Value} (h : CRep E w c v) : CRep E w c.er v := by cases c <;> exact h
theorem WRep.er {E : Env} {w : World} {c : W} {v : Value} (h : WRep E w c v) : WRep E w c.er v := by
  cases c with
  | c c => exact CRep.er h
  | a _ => exact h
theorem VRep.er {E : Env} {w : World} {c : V} {v : Value} (h : VRep E w c v) : VRep E w c.er v := by
  cases c with
  | w c => exact WRep.er h
  | t ws =>
    obtain ⟨us, h1, h2, h3⟩ := h
    refine ⟨us, h1, by simpa using h2, fun i x hx => ?_⟩
    simp only [List.getElem?_map, Option.map_eq_some_iff] at hx
    obtain ⟨y, hy, rfl⟩ := hx
    obtain ⟨u, h4, h5⟩ := h3 i y hy
    exact ⟨u, h4, h5.er⟩

section
variable {B : Base} {E : Env} {S : St} {a : Array Value} {w : World}

/-- A state with other temporaries, and objects that say no more: where rights lie is where (by `σ`) they lay. -/
theorem Rel.sub (h : Rel B E S a w) (S2 : St) (a2 : Array Value) (hlen : a2.size = S2.tm.length)
    (htr : ∀ (i : Nat) (v : V), S2.tm[i]? = some v → ∃ x, a2[i]? = some x ∧ VRep E w v x)
    (hH : S2.H.length = S.H.length) (hL : S2.L.length = S.L.length)
    (hh : ∀ (id : Nat) (o2 : Ob), S2.H[id]? = some (some o2) → ∃ o, S.H[id]? = some (some o) ∧ ∀ b, ObRep E.m w b o → ObRep E.m w b o2)
    (hl : ∀ (k : Nat) (o2 : Ob), S2.L[k]? = some (some o2) → ∃ o, S.L[k]? = some (some o) ∧ ∀ b, ObRep E.m w b o → ObRep E.m w b o2)
    (σ : FL → FL) (hσ : ∀ ℓ sz v, Owned S2 E a2 w ℓ sz v → Owned S E a w (σ ℓ) sz v)
    (hinj : ∀ ℓ ℓ' sz sz' v v', Owned S2 E a2 w ℓ sz v → Owned S2 E a2 w ℓ' sz' v' → σ ℓ = σ ℓ' → ℓ = ℓ') : Rel B E S2 a2 w where
  len := hlen
  tr := htr
  hr id o2 ho := by
    obtain ⟨o, h1, h2⟩ := hh id o2 ho
    obtain ⟨b, h3, h4, h5⟩ := h.hr id o h1
    exact ⟨b, h3, h2 b h4, h5⟩
  lr k o2 ho := by
    obtain ⟨o, h1, h2⟩ := hl k o2 ho
    obtain ⟨b, h3, h4, h5⟩ := h.lr k o h1
    exact ⟨b, h3, h2 b h4, h5⟩
  hh i j b hi hj h1 h2 := by
    obtain ⟨oi, hi⟩ := hi; obtain ⟨oj, hj⟩ := hj
    obtain ⟨o, hi, _⟩ := hh i oi hi; obtain ⟨o', hj, _⟩ := hh j oj hj
    exact h.hh i j b ⟨_, hi⟩ ⟨_, hj⟩ h1 h2
  ll i j b hi hj h1 h2 := by
    obtain ⟨oi, hi⟩ := hi; obtain ⟨oj, hj⟩ := hj
    obtain ⟨o, hi, _⟩ := hl i oi hi; obtain ⟨o', hj, _⟩ := hl j oj hj
    exact h.ll i j b ⟨_, hi⟩ ⟨_, hj⟩ h1 h2
  hl i j b hi hj h1 h2 := by
    obtain ⟨oi, hi⟩ := hi; obtain ⟨oj, hj⟩ := hj
    obtain ⟨o, hi, _⟩ := hh i oi hi; obtain ⟨o', hj, _⟩ := hl j oj hj
    exact h.hl i j b ⟨_, hi⟩ ⟨_, hj⟩ h1 h2
  obl id b hb := by rw [hH]; exact h.obl id b hb
  lol id b hb := by rw [hL]; exact h.lol id b hb
  own ℓ sz v ho := h.own (σ ℓ) sz v (hσ ℓ sz v ho)
  own1 ℓ ℓ' sz sz' v v' b h1 h2 h3 h4 := hinj ℓ ℓ' sz sz' v v' h1 h2 (h.own1 (σ ℓ) (σ ℓ') sz sz' v v' b (hσ _ _ _ h1) (hσ _ _ _ h2) h3 h4)
  imw := h.imw
  mpw := h.mpw
  kept := h.kept

/-- The temporaries alone. -/
theorem Rel.subTm (h : Rel B E S a w) (tm2 : List V) (a2 : Array Value) (hlen : a2.size = tm2.length)
    (htr : ∀ (i : Nat) (v : V), tm2[i]? = some v → ∃ x, a2[i]? = some x ∧ VRep E w v x)
    (σ : FL → FL) (hσ : ∀ ℓ sz v, Owned { S with tm := tm2 } E a2 w ℓ sz v → Owned S E a w (σ ℓ) sz v)
    (hinj : ∀ ℓ ℓ' sz sz' v v', Owned { S with tm := tm2 } E a2 w ℓ sz v → Owned { S with tm := tm2 } E a2 w ℓ' sz' v' → σ ℓ = σ ℓ' → ℓ = ℓ') :
    Rel B E { S with tm := tm2 } a2 w :=
  h.sub { S with tm := tm2 } a2 hlen htr rfl rfl (fun id o ho => ⟨o, ho, fun _ h => h⟩) (fun id o ho => ⟨o, ho, fun _ h => h⟩) σ hσ hinj

/-- What is owned lies in `S` as it lay, or not in a temporary. -/
theorem owned_same {S S2 : St} {a a2 : Array Value} {ℓ : FL} {sz : Nat} {v : Value} (ho : Owned S2 E a2 w ℓ sz v) (hat : S.at ℓ = S2.at ℓ) (hc : conc E a w ℓ = conc E a2 w ℓ) : Owned S E a w ℓ sz v := by
  obtain ⟨⟨rows, h1⟩, h2⟩ := ho
  exact ⟨⟨rows, hat.trans h1⟩, hc.trans h2⟩

theorem at_t (S : St) (i : Nat) : S.at (.t i) = (match S.tm[i]? with | some (.w (.c c)) => some c | _ => none) := rfl
theorem at_tt (S : St) (i j : Nat) : S.at (.tt i j) = (match S.tm[i]? with | some (.t ws) => (match ws[j]? with | some (.c c) => some c | _ => none) | _ => none) := rfl

/-- A value without rights behind the temporaries. -/
theorem Rel.push (h : Rel B E S a w) {v : V} {x : Value} (hv : VRep E w v x) (hn : NoOwn v) : Rel B E { S with tm := S.tm ++ [v] } (a.push x) w := by
  have hlen := h.len
  have key : ∀ ℓ sz u, Owned { S with tm := S.tm ++ [v] } E (a.push x) w ℓ sz u → Owned S E a w ℓ sz u := by
    intro ℓ sz u ho
    cases ℓ with
    | h id off => exact ho
    | l k off => exact ho
    | t i =>
      obtain ⟨⟨rows, h1⟩, h2⟩ := ho
      simp only [at_t] at h1
      rcases Nat.lt_trichotomy i S.tm.length with hi | hi | hi
      · rw [List.getElem?_append_left hi] at h1
        refine ⟨⟨rows, h1⟩, ?_⟩
        simp only [conc] at h2 ⊢
        rw [Array.getElem?_push, if_neg (by omega)] at h2
        exact h2
      · subst hi
        rw [List.getElem?_append_right (Nat.le_refl _), Nat.sub_self, List.getElem?_cons_zero] at h1
        split at h1
        · rename_i c hc
          cases h1
          cases hc
          exact absurd rfl (hn.1 sz rows)
        · cases h1
      · rw [List.getElem?_eq_none (by simp; omega)] at h1
        cases h1
    | tt i j =>
      obtain ⟨⟨rows, h1⟩, h2⟩ := ho
      simp only [at_tt] at h1
      rcases Nat.lt_trichotomy i S.tm.length with hi | hi | hi
      · rw [List.getElem?_append_left hi] at h1
        refine ⟨⟨rows, h1⟩, ?_⟩
        simp only [conc] at h2 ⊢
        rw [Array.getElem?_push, if_neg (by omega)] at h2
        exact h2
      · subst hi
        rw [List.getElem?_append_right (Nat.le_refl _), Nat.sub_self, List.getElem?_cons_zero] at h1
        split at h1
        · rename_i ws hws
          cases hws
          split at h1
          · rename_i c hc
            cases h1
            exact absurd hc (hn.2 ws rfl j sz rows)
          · cases h1
        · cases h1
      · rw [List.getElem?_eq_none (by simp; omega)] at h1
        cases h1
  refine h.subTm (S.tm ++ [v]) (a.push x) (by simp [hlen]) (fun i u hu => ?_) id key (fun _ _ _ _ _ _ _ _ h => h)
  rcases Nat.lt_trichotomy i S.tm.length with hi | hi | hi
  · rw [List.getElem?_append_left hi] at hu
    obtain ⟨y, h1, h2⟩ := h.tr i u hu
    exact ⟨y, by rw [Array.getElem?_push, if_neg (by omega)]; exact h1, h2⟩
  · subst hi
    rw [List.getElem?_append_right (Nat.le_refl _), Nat.sub_self, List.getElem?_cons_zero] at hu
    cases hu
    exact ⟨x, by rw [Array.getElem?_push, if_pos hlen.symm], hv⟩
  · rw [List.getElem?_eq_none (by simp; omega)] at hu
    cases hu

def putL (n d : Nat) : FL → FL
  | .t i => if i = d then .t n else .t i
  | .tt i j => if i = d then .tt n j else .tt i j
  | ℓ => ℓ

def FL.below (n : Nat) : FL → Prop
  | .t i => i < n
  | .tt i _ => i < n
  | _ => True

theorem putL_inj (n d : Nat) (ℓ ℓ' : FL) (h : ℓ.below n) (h' : ℓ'.below n) (e : putL n d ℓ = putL n d ℓ') : ℓ = ℓ' := by
  have aux : ∀ i j : Nat, i < n → j < n → (if i = d then n else i) = (if j = d then n else j) → i = j := by
    intro i j hi hj he
    split at he <;> split at he <;> omega
  cases ℓ with
  | t i => cases ℓ' with
    | t j =>
      have : (if i = d then n else i) = (if j = d then n else j) := by simp only [putL] at e; split at e <;> split at e <;> cases e <;> simp_all
      rw [aux i j h h' this]
    | tt j k => simp only [putL] at e; split at e <;> split at e <;> cases e
    | h _ _ => simp only [putL] at e; split at e <;> cases e
    | l _ _ => simp only [putL] at e; split at e <;> cases e
  | tt i k => cases ℓ' with
    | t j => simp only [putL] at e; split at e <;> split at e <;> cases e
    | tt j k' =>
      have h1 : (if i = d then n else i) = (if j = d then n else j) := by simp only [putL] at e; split at e <;> split at e <;> cases e <;> simp_all
      have h2 : k = k' := by simp only [putL] at e; split at e <;> split at e <;> cases e <;> rfl
      rw [aux i j h h' h1, h2]
    | h _ _ => simp only [putL] at e; split at e <;> cases e
    | l _ _ => simp only [putL] at e; split at e <;> cases e
  | h _ _ => cases ℓ' <;> simp only [putL] at e <;> first | exact e | (split at e <;> cases e) | cases e
  | l _ _ => cases ℓ' <;> simp only [putL] at e <;> first | exact e | (split at e <;> cases e) | cases e

/-- The value behind the temporaries goes into one of them. -/
theorem Rel.putLast {v : V} {x : Value} (h : Rel B E { S with tm := S.tm ++ [v] } (a.push x) w) (d : Nat) :
    Rel B E { S with tm := S.tm.set d v } (a.setIfInBounds d x) w := by
  have hlen : a.size = S.tm.length := by have := h.len; simpa using this
  have hin : ∀ i, i < S.tm.length → (S.tm ++ [v])[i]? = S.tm[i]? := fun i hi => List.getElem?_append_left hi
  have hlast : (S.tm ++ [v])[S.tm.length]? = some v := by rw [List.getElem?_append_right (Nat.le_refl _), Nat.sub_self, List.getElem?_cons_zero]
  have hain : ∀ i, i < S.tm.length → (a.push x)[i]? = a[i]? := fun i hi => by rw [Array.getElem?_push, if_neg (by omega)]
  have halast : (a.push x)[S.tm.length]? = some x := by rw [Array.getElem?_push, if_pos hlen.symm]
  have hget : ∀ i u, (S.tm.set d v)[i]? = some u → i < S.tm.length ∧ ((i = d ∧ u = v) ∨ (i ≠ d ∧ S.tm[i]? = some u)) := by
    intro i u hu
    have hi : i < S.tm.length := by have := (List.getElem?_eq_some_iff.1 hu).1; simpa using this
    refine ⟨hi, ?_⟩
    by_cases e : i = d
    · subst e; rw [List.getElem?_set_self (by simpa using hi)] at hu; exact .inl ⟨rfl, by cases hu; rfl⟩
    · rw [List.getElem?_set_ne (Ne.symm e)] at hu; exact .inr ⟨e, hu⟩
  have haget : ∀ i, i < S.tm.length → (a.setIfInBounds d x)[i]? = if i = d then some x else a[i]? := by
    intro i hi
    by_cases e : i = d
    · subst e; simp [Array.getElem?_setIfInBounds_self, hlen, hi]
    · rw [if_neg e, Array.getElem?_setIfInBounds_ne (Ne.symm e)]
  have ht : ∀ i, (match (S.tm.set d v)[i]? with | some (V.w (W.c c)) => some c | _ => none : Option C) = none ∨ i < S.tm.length := by
    intro i
    by_cases hi : i < S.tm.length
    · exact .inr hi
    · left; rw [List.getElem?_eq_none (by simp; omega)]
  have key : ∀ ℓ sz u, Owned { S with tm := S.tm.set d v } E (a.setIfInBounds d x) w ℓ sz u → Owned { S with tm := S.tm ++ [v] } E (a.push x) w (putL S.tm.length d ℓ) sz u ∧ (∀ i, ℓ = .t i → i < S.tm.length) ∧ (∀ i j, ℓ = .tt i j → i < S.tm.length) := by
    intro ℓ sz u ho
    cases ℓ with
    | h id off => exact ⟨ho, by simp, by simp⟩
    | l k off => exact ⟨ho, by simp, by simp⟩
    | t i =>
      obtain ⟨⟨rows, h1⟩, h2⟩ := ho
      simp only [at_t] at h1
      cases hu : (S.tm.set d v)[i]? with
      | none => rw [hu] at h1; cases h1
      | some y =>
        obtain ⟨hi, hy⟩ := hget i y hu
        rw [hu] at h1
        simp only [conc] at h2
        rw [haget i hi] at h2
        refine ⟨?_, fun k hk => by cases hk; exact hi, by simp⟩
        rcases hy with ⟨rfl, rfl⟩ | ⟨hne, hy⟩
        · simp only [putL, if_true]
          rw [if_pos rfl] at h2
          exact ⟨⟨rows, by simp only [at_t]; rw [hlast]; exact h1⟩, by simp only [conc]; rw [halast]; exact h2⟩
        · simp only [putL, if_neg hne]
          rw [if_neg hne] at h2
          exact ⟨⟨rows, by simp only [at_t]; rw [hin i hi, hy]; exact h1⟩, by simp only [conc]; rw [hain i hi]; exact h2⟩
    | tt i j =>
      obtain ⟨⟨rows, h1⟩, h2⟩ := ho
      simp only [at_tt] at h1
      cases hu : (S.tm.set d v)[i]? with
      | none => rw [hu] at h1; cases h1
      | some y =>
        obtain ⟨hi, hy⟩ := hget i y hu
        rw [hu] at h1
        simp only [conc] at h2
        rw [haget i hi] at h2
        refine ⟨?_, by simp, fun k j' hk => by cases hk; exact hi⟩
        rcases hy with ⟨rfl, rfl⟩ | ⟨hne, hy⟩
        · simp only [putL, if_true]
          rw [if_pos rfl] at h2
          exact ⟨⟨rows, by simp only [at_tt]; rw [hlast]; exact h1⟩, by simp only [conc]; rw [halast]; exact h2⟩
        · simp only [putL, if_neg hne]
          rw [if_neg hne] at h2
          exact ⟨⟨rows, by simp only [at_tt]; rw [hin i hi, hy]; exact h1⟩, by simp only [conc]; rw [hain i hi]; exact h2⟩
  have := h.subTm (S.tm.set d v) (a.setIfInBounds d x) (by simp [hlen]) (fun i u hu => ?_) (putL S.tm.length d) (fun ℓ sz u ho => (key ℓ sz u ho).1) ?_
  · exact this
  · obtain ⟨hi, hy⟩ := hget i u hu
    rw [haget i hi]
    rcases hy with ⟨rfl, rfl⟩ | ⟨hne, hy⟩
    · rw [if_pos rfl]
      obtain ⟨y, h1, h2⟩ := h.tr S.tm.length u hlast
      rw [halast] at h1
      cases h1
      exact ⟨x, rfl, h2⟩
    · rw [if_neg hne]
      obtain ⟨y, h1, h2⟩ := h.tr i u (by rw [hin i hi]; exact hy)
      rw [hain i hi] at h1
      exact ⟨y, h1, h2⟩
  · intro ℓ ℓ' sz sz' u u' h1 h2 he
    have k1 := key ℓ sz u h1
    have k2 := key ℓ' sz' u' h2
    refine putL_inj S.tm.length d ℓ ℓ' ?_ ?_ he
    · cases ℓ with
      | t i => exact k1.2.1 i rfl
      | tt i j => exact k1.2.2 i j rfl
      | _ => trivial
    · cases ℓ' with
      | t i => exact k2.2.1 i rfl
      | tt i j => exact k2.2.2 i j rfl
      | _ => trivial

theorem Rel.drop {v : V} {x : Value} (h : Rel B E { S with tm := S.tm ++ [v] } (a.push x) w) : Rel B E S a w := by
  have := h.putLast S.tm.length
  have hlen : a.size = S.tm.length := by have := h.len; simpa using this
  rw [List.set_eq_of_length_le (Nat.le_refl _)] at this
  rwa [Array.setIfInBounds_eq_of_size_le (by omega)] at this

end
end Go.Ev
