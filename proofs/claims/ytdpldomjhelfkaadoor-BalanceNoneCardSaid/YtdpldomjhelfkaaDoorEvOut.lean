/- What leaves a function. -/
import Derived.Test.YtdpldomjhelfkaaDoorEvCode
set_option linter.unusedVariables false
set_option linter.unusedSimpArgs false
namespace Go.Ev
open Go

section
variable {P : Program} {T : Tabl} {Sg : Sig} {B : Base} {E F : Env} {S S' : St} {a : Array Value} {act : Act} {w w' : World} {Q : Exit → Act → World → Prop}

def outL (n : Nat) (src : Nat ⊕ Nat) (pos : Nat → Nat) : FL → FL
  | .t _ => .t (pos 0)
  | .tt _ j => .t (pos j)
  | .h id o => if id < n then .h id o else (match src with | .inl i => .h i o | .inr k => .l k o)
  | ℓ => ℓ

theorem Rel.out (h : Rel B E S a w) {n : Nat} (hn : n ≤ S.H.length) {v : V} {r : Value} {X : List (Option Ob)} {E2 : Env} (hm : E2.m = E.m) (hlo : ∀ k, E2.lo k = none) (hob : ∀ id, id < n → E2.ob id = E.ob id) (src : Nat ⊕ Nat)
    (hX : (X = [] ∧ ∀ id, n ≤ id → E2.ob id = none) ∨ ∃ o, X = [some o] ∧ (∀ id, n < id → E2.ob id = none) ∧ ((∃ k, src = .inr k ∧ S.L[k]? = some (some o) ∧ E.lo k = E2.ob n) ∨ ∃ i, src = .inl i ∧ n ≤ i ∧ S.H[i]? = some (some o) ∧ E.ob i = E2.ob n))
    (hv : VRep E2 w v r) (pos : Nat → Nat) (hs : ∀ sz rows, v = vC (.own sz rows) → S.tm[pos 0]? = some v ∧ a[pos 0]? = some r)
    (ht : ∀ ws vs (j sz : Nat) (rows : List (List D)), v = .t ws → r = .tuple vs → ws[j]? = some (.c (.own sz rows)) → S.tm[pos j]? = some (vC (.own sz rows)) ∧ a[pos j]? = vs[j]?)
    (hp : ∀ ws (i j sz sz' : Nat) (rows rows' : List (List D)), v = .t ws → ws[i]? = some (.c (.own sz rows)) → ws[j]? = some (.c (.own sz' rows')) → pos i = pos j → i = j) :
    Rel B E2 ⟨[v], S.H.take n ++ X, []⟩ #[r] w := by
  have hlen1 : (S.H.take n).length = n := by simp; omega
  have hH1 : ∀ id, id < n → (S.H.take n ++ X)[id]? = S.H[id]? := fun id hi => by rw [List.getElem?_append_left (by omega), List.getElem?_take, if_pos hi]
  have hH2 : ∀ (id : Nat), n ≤ id → (S.H.take n ++ X)[id]? = X[id - n]? := fun id hi => by rw [List.getElem?_append_right (by omega), hlen1]
  -- what is live, and whence
  have liveN : ∀ id o, (S.H.take n ++ X)[id]? = some (some o) → (id < n ∧ S.H[id]? = some (some o) ∧ E2.ob id = E.ob id) ∨ (id = n ∧ X = [some o] ∧ ((∃ k, src = .inr k ∧ S.L[k]? = some (some o) ∧ E.lo k = E2.ob n) ∨ ∃ i, src = .inl i ∧ n ≤ i ∧ S.H[i]? = some (some o) ∧ E.ob i = E2.ob n)) := by
    intro id o ho
    by_cases hi : id < n
    · rw [hH1 id hi] at ho; exact .inl ⟨hi, ho, hob id hi⟩
    · right
      rw [hH2 id (by omega)] at ho
      rcases hX with ⟨rfl, _⟩ | ⟨o', rfl, _, h3⟩
      · simp at ho
      · cases hq : id - n with
        | zero =>
          rw [hq] at ho
          simp at ho
          subst ho
          exact ⟨by omega, rfl, h3⟩
        | succ q => rw [hq] at ho; simp at ho
  have key : ∀ ℓ sz u, Owned ⟨[v], S.H.take n ++ X, []⟩ E2 #[r] w ℓ sz u → Owned S E a w (outL n src pos ℓ) sz u ∧
      ((ℓ = .t 0 ∧ ∃ rows, v = vC (.own sz rows)) ∨ (∃ j ws rows, ℓ = .tt 0 j ∧ v = .t ws ∧ ws[j]? = some (.c (.own sz rows))) ∨ (∃ id o, ℓ = .h id o ∧ id < n) ∨ (∃ o, ℓ = .h n o ∧ ((∃ k, src = .inr k) ∨ ∃ i, src = .inl i ∧ n ≤ i))) := by
    intro ℓ sz u ho
    obtain ⟨⟨rows, g1⟩, g2⟩ := ho
    cases ℓ with
    | l k o => simp [St.at] at g1
    | t i =>
      cases i with
      | succ i => simp [at_t] at g1
      | zero =>
        simp only [at_t, List.getElem?_cons_zero] at g1
        split at g1
        · rename_i c hc
          cases g1
          obtain rfl : v = vC (.own sz rows) := by simpa using hc
          obtain ⟨k1, k2⟩ := hs sz rows rfl
          simp only [conc] at g2
          simp at g2
          subst g2
          exact ⟨⟨⟨rows, by simp only [outL, at_t, k1]⟩, by simp only [outL, conc]; exact k2⟩, .inl ⟨rfl, rows, rfl⟩⟩
        · cases g1
    | tt i j =>
      cases i with
      | succ i => simp [at_tt] at g1
      | zero =>
        simp only [at_tt, List.getElem?_cons_zero] at g1
        split at g1
        · rename_i ws hc
          obtain rfl : v = .t ws := by simpa using hc
          split at g1
          · rename_i c hj
            cases g1
            obtain ⟨vs, rfl, h2, h3⟩ := hv
            obtain ⟨k1, k2⟩ := ht ws vs j sz rows rfl rfl hj
            simp only [conc] at g2
            simp only [List.getElem?_toArray, List.getElem?_cons_zero] at g2
            exact ⟨⟨⟨rows, by simp only [outL, at_t, k1]⟩, by simp only [outL, conc]; rw [k2]; exact g2⟩, .inr (.inl ⟨j, ws, rows, rfl, rfl, hj⟩)⟩
          · cases g1
        · cases g1
    | h id o =>
      simp only [St.at] at g1
      split at g1
      · rename_i l hl
        rcases liveN id _ hl with ⟨hi, k1, k2⟩ | ⟨rfl, _, ⟨k, k1, k2, k3⟩ | ⟨i, k1, k2, k3, k4⟩⟩
        · refine ⟨⟨⟨rows, by simp only [outL, if_pos hi, St.at, k1]; exact g1⟩, ?_⟩, .inr (.inr (.inl ⟨id, o, rfl, hi⟩))⟩
          simp only [outL, if_pos hi, conc] at g2 ⊢
          rw [← k2]; exact g2
        · subst k1
          refine ⟨⟨⟨rows, by simp only [outL, if_neg (Nat.lt_irrefl _), St.at, k2]; exact g1⟩, ?_⟩, .inr (.inr (.inr ⟨o, rfl, .inl ⟨k, rfl⟩⟩))⟩
          simp only [outL, if_neg (Nat.lt_irrefl _), conc] at g2 ⊢
          rw [k3]; exact g2
        · subst k1
          refine ⟨⟨⟨rows, by simp only [outL, if_neg (Nat.lt_irrefl _), St.at, k3]; exact g1⟩, ?_⟩, .inr (.inr (.inr ⟨o, rfl, .inr ⟨i, rfl, k2⟩⟩))⟩
          simp only [outL, if_neg (Nat.lt_irrefl _), conc] at g2 ⊢
          rw [k4]; exact g2
      · cases g1
  have obsome : ∀ id b, E2.ob id = some b → id < (S.H.take n ++ X).length := by
    intro id b hb
    rw [List.length_append, hlen1]
    by_cases hi : id < n
    · omega
    · rcases hX with ⟨rfl, h2⟩ | ⟨o', rfl, h2, _⟩
      · rw [h2 id (by omega)] at hb; cases hb
      · by_cases he : id = n
        · simp; omega
        · rw [h2 id (by omega)] at hb; cases hb
  exact {
    len := rfl
    tr := fun i u hu => by
      cases i with
      | zero => simp at hu; subst hu; exact ⟨r, rfl, hv⟩
      | succ i => simp at hu
    hr := fun id o ho => by
      rw [hm]
      rcases liveN id o ho with ⟨hi, k1, k2⟩ | ⟨rfl, _, ⟨k, k1, k2, k3⟩ | ⟨i, k1, k2, k3, k4⟩⟩
      · rw [k2]; exact h.hr id o k1
      · rw [← k3]; exact h.lr k o k2
      · rw [← k4]; exact h.hr i o k3
    lr := fun k o ho => by simp at ho
    hh := fun i j b hi hj q1 q2 => by
      obtain ⟨oi, hi⟩ := hi
      obtain ⟨oj, hj⟩ := hj
      rcases liveN i oi hi with ⟨i1, i2, i3⟩ | ⟨rfl, _, ki⟩ <;> rcases liveN j oj hj with ⟨j1, j2, j3⟩ | ⟨rfl, _, kj⟩
      · rw [i3] at q1; rw [j3] at q2; exact h.hh i j b ⟨_, i2⟩ ⟨_, j2⟩ q1 q2
      · exfalso
        rw [i3] at q1
        rcases kj with ⟨k, k1, k2, k3⟩ | ⟨k, k1, k2, k3, k4⟩
        · rw [← k3] at q2; exact h.hl i k b ⟨_, i2⟩ ⟨_, k2⟩ q1 q2
        · rw [← k4] at q2; have := h.hh i k b ⟨_, i2⟩ ⟨_, k3⟩ q1 q2; omega
      · exfalso
        rw [j3] at q2
        rcases ki with ⟨k, k1, k2, k3⟩ | ⟨k, k1, k2, k3, k4⟩
        · rw [← k3] at q1; exact h.hl j k b ⟨_, j2⟩ ⟨_, k2⟩ q2 q1
        · rw [← k4] at q1; have := h.hh j k b ⟨_, j2⟩ ⟨_, k3⟩ q2 q1; omega
      · rfl
    ll := fun i j b hi => by obtain ⟨o, ho⟩ := hi; simp at ho
    hl := fun i j b _ hj => by obtain ⟨o, ho⟩ := hj; simp at ho
    obl := obsome
    lol := fun k b hb => by rw [hlo k] at hb; cases hb
    own := fun ℓ sz u ho => by rw [hm]; exact h.own _ sz u (key ℓ sz u ho).1
    own1 := fun ℓ ℓ' sz sz' u u' b g1 g2 g3 g4 => by
      obtain ⟨k1, k2⟩ := key ℓ sz u g1
      obtain ⟨l1, l2⟩ := key ℓ' sz' u' g2
      have he := h.own1 _ _ _ _ _ _ b k1 l1 g3 g4
      rcases k2 with ⟨rfl, rows, rfl⟩ | ⟨j, ws, rows, rfl, rfl, kj⟩ | ⟨id, o, rfl, ki⟩ | ⟨o, rfl, ks⟩ <;>
        rcases l2 with ⟨rfl, rows', h2⟩ | ⟨j', ws', rows', rfl, h2, lj⟩ | ⟨id', o', rfl, li⟩ | ⟨o', rfl, ls⟩
      · rfl
      · cases h2
      · simp [outL, li] at he
      · rcases ls with ⟨k, rfl⟩ | ⟨i, rfl, _⟩ <;> simp [outL] at he
      · cases h2
      · cases h2
        simp only [outL, FL.t.injEq] at he
        rw [hp _ _ _ _ _ _ _ rfl kj lj he]
      · simp [outL, li] at he
      · rcases ls with ⟨k, rfl⟩ | ⟨i, rfl, _⟩ <;> simp [outL] at he
      · simp [outL, ki] at he
      · simp [outL, ki] at he
      · simp [outL, ki, li] at he; simp [he]
      · exfalso
        rcases ls with ⟨k, rfl⟩ | ⟨i, rfl, hi⟩
        · simp [outL, ki] at he
        · simp [outL, ki] at he; omega
      · rcases ks with ⟨k, rfl⟩ | ⟨i, rfl, _⟩ <;> simp [outL] at he
      · rcases ks with ⟨k, rfl⟩ | ⟨i, rfl, _⟩ <;> simp [outL] at he
      · exfalso
        rcases ks with ⟨k, rfl⟩ | ⟨i, rfl, hi⟩
        · simp [outL, li] at he
        · simp [outL, li] at he; omega
      · rcases ks with ⟨k, rfl⟩ | ⟨i, rfl, hi⟩ <;> simp [outL] at he <;> simp [he]
    imw := by rw [hm]; exact h.imw
    mpw := by rw [hm]; exact h.mpw
    kept := by rw [hm]; exact h.kept }

/-- A local map that never changes again. -/
theorem Rel.freezeMap (h : Rel B E S a w) {k b : Nat} {es : List (List UInt8 × Bool × List D)} (hk : S.L[k]? = some (some (.map es))) (hb : E.lo k = some b) :
    ∃ m, Ext E.m w m w ∧ Rel B ⟨m, E.ob, E.lo⟩ { S with L := S.L.set k none } a w ∧ DRep m w (.mp es) (.map (some b)) := by
  obtain ⟨b', g1, ⟨en, c, g2, g3⟩, g5, g6, hmay⟩ := h.lr k _ hk
  rw [hb] at g1
  cases g1
  have hkl : k < S.L.length := (List.getElem?_eq_some_iff.1 hk).1
  have hne : ∀ q, E.m.mp q = true → q ≠ b := fun q hq f => by subst f; rw [g6] at hq; cases hq
  have hmpo : ∀ q, q ≠ b → (⟨E.m.im, fun i => if i = b then true else E.m.mp i⟩ : M).mp q = E.m.mp q := fun q hq => if_neg hq
  have ext : Ext E.m w ⟨E.m.im, fun i => if i = b then true else E.m.mp i⟩ w :=
    ⟨fun q lim hq => ⟨lim, Nat.le_refl _, hq⟩, fun q lim ar e0 fr hq hh => ⟨ar, fr, hh, rfl, fun _ _ => rfl⟩, fun q hq => by show (if q = b then true else E.m.mp q) = true; split <;> simp_all, fun q hq => rfl⟩
  have hself : (S.L.set k none)[k]? = some none := List.getElem?_set_self hkl
  have hlive : liveL S k := ⟨_, hk⟩
  have liveBack : ∀ q, liveL { S with L := S.L.set k none } q → liveL S q ∧ q ≠ k := by
    rintro q ⟨o, ho⟩
    by_cases f : q = k
    · subst f; simp only [hself] at ho; cases ho
    · simp only [List.getElem?_set_ne (Ne.symm f)] at ho; exact ⟨⟨o, ho⟩, f⟩
  have key : ∀ ℓ sz u, Owned { S with L := S.L.set k none } ⟨⟨E.m.im, fun i => if i = b then true else E.m.mp i⟩, E.ob, E.lo⟩ a w ℓ sz u → Owned S E a w ℓ sz u := by
    intro ℓ sz u ho
    obtain ⟨⟨rows, h1⟩, h2⟩ := ho
    cases ℓ with
    | t i => exact ⟨⟨rows, h1⟩, h2⟩
    | tt i j => exact ⟨⟨rows, h1⟩, h2⟩
    | h q o => exact ⟨⟨rows, h1⟩, h2⟩
    | l q o =>
      refine ⟨⟨rows, ?_⟩, h2⟩
      by_cases f : q = k
      · subst f; simp only [St.at, hself] at h1; cases h1
      · simp only [St.at, List.getElem?_set_ne (Ne.symm f)] at h1; exact h1
  refine ⟨⟨E.m.im, fun i => if i = b then true else E.m.mp i⟩, ext, ?_, ?_⟩
  · exact {
      len := h.len
      tr := fun i u hu => let ⟨x, h1, h2⟩ := h.tr i u hu; ⟨x, h1, h2.mono (E' := ⟨⟨E.m.im, fun i => if i = b then true else E.m.mp i⟩, E.ob, E.lo⟩) ext (fun _ _ h => h) (fun _ _ h => h)⟩
      lr := fun q o ho => by
        obtain ⟨⟨o', ho'⟩, f⟩ := liveBack q ⟨o, ho⟩
        simp only [List.getElem?_set_ne (Ne.symm f)] at ho
        obtain ⟨b2, h1, h2, h3, h4, h5⟩ := h.lr q o ho
        have hn : b2 ≠ b := fun g => by subst g; exact f (h.ll q k b2 ⟨_, ho⟩ hlive h1 hb)
        exact ⟨b2, h1, h2.mono ext rfl, h3, (hmpo b2 hn).trans h4, h5⟩
      hr := fun q o ho => by
        obtain ⟨b2, h1, h2, h3, h4, h5⟩ := h.hr q o ho
        have hn : b2 ≠ b := fun g => by subst g; exact h.hl q k b2 ⟨_, ho⟩ hlive h1 hb
        exact ⟨b2, h1, h2.mono ext rfl, h3, (hmpo b2 hn).trans h4, h5⟩
      hh := h.hh
      ll := fun i j c hi hj h1 h2 => h.ll i j c (liveBack i hi).1 (liveBack j hj).1 h1 h2
      hl := fun i j c hi hj h1 h2 => h.hl i j c hi (liveBack j hj).1 h1 h2
      obl := h.obl
      lol := fun q c hq => by have := h.lol q c hq; simpa using this
      own := fun ℓ sz u ho => by
        obtain ⟨b2, ⟨hx⟩, h5⟩ := h.own _ _ _ (key ℓ sz u ho)
        exact ⟨b2, ⟨hx⟩, h5⟩
      own1 := fun ℓ ℓ' sz1 sz2 u u' c h1 h2 => h.own1 _ _ _ _ _ _ c (key _ _ _ h1) (key _ _ _ h2)
      imw := h.imw
      mpw := fun q hq => by
        by_cases f : q = b
        · subst f; exact ⟨en, c, g2⟩
        · exact h.mpw q (by rw [← hmpo q f]; exact hq)
      kept := by
        have hk := h.kept
        refine ⟨hk.size, hk.os, hk.tape, hk.output, fun q hkl hkt => ?_, hk.ext.trans ext⟩
        have ek : q ≠ b := fun g => by subst g; rcases hmay with hm | hm; exact hkt hm; omega
        obtain ⟨h1, h2, h3⟩ := hk.same q hkl hkt
        exact ⟨h1, h2, (hmpo q ek).trans h3⟩ }
  · obtain ⟨m1, m2, m3⟩ := g3
    -- the entries' values
    let val : Nat → Nat → Value := fun i j => match en[i]? with
      | some x => (match x.val with | .agg vs => (vs[j]?).getD undef | y => y)
      | none => undef
    refine .mp es b en c val (by show (if b = b then true else E.m.mp b) = true; simp) g2 m1 m2 (fun i key ag ds hi => ?_) (fun i key ag ds j d hi hd => ?_)
    · obtain ⟨bn, vl, h1, h2⟩ := m3 i key ag ds hi
      refine ⟨bn, ?_⟩
      rw [h1]
      cases ag with
      | true =>
        simp only [Option.some.injEq, MapEntry.mk.injEq, true_and, and_true]
        simp only [cellsVal, if_true, Value.agg.injEq]
        apply Array.ext (by simp)
        intro j hj1 hj2
        simp only [Array.getElem_ofFn]
        simp only [val, h1, cellsVal, if_true]
        have hj : j < ds.length := by simpa using hj1
        simp [hj]
      | false =>
        simp only [cellsVal, Bool.false_eq_true, if_false, Option.some.injEq, MapEntry.mk.injEq, true_and, and_true]
        have hd1 := m2 i key ds hi
        have hd0 := h2 0 (ds[0]'(by omega)) (List.getElem?_eq_getElem (by omega))
        simp only [val, h1, cellsVal, Bool.false_eq_true, if_false]
        generalize vl 0 = y at hd0
        generalize ds[0] = d0 at hd0
        cases hd0 <;> rfl
    · obtain ⟨bn, vl, h1, h2⟩ := m3 i key ag ds hi
      have hjl : j < ds.length := (List.getElem?_eq_some_iff.1 hd).1
      have hdr := (h2 j d hd).mono ext
      cases ag with
      | true =>
        simp only [val, h1, cellsVal, if_true]
        simpa [hjl] using hdr
      | false =>
        have hd1 := m2 i key ds hi
        have hj0 : j = 0 := by omega
        subst hj0
        simp only [val, h1, cellsVal, Bool.false_eq_true, if_false]
        generalize vl 0 = y at hdr
        cases hdr <;> first | exact hdr | (constructor <;> assumption)

end
end Go.Ev
