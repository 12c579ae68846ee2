/- Stores into objects. -/
import Derived.Test.YtdpldomjhelfkaaDoorEvTakeOb
import Derived.Laws.CopyRow
set_option linter.unusedVariables false
set_option linter.unusedSimpArgs false
namespace Go.Ev
open Go

section
variable {P : Program} {T : Tabl} {B : Base} {E : Env} {S : St} {a : Array Value} {w w' : World}

/-- The cells of a value: each stands for its own; a right to append is the whole value. -/
theorem vcells_rep {v : V} {cs : List C} {X : Value} (h : VRep E w v X) (hc : v.cells = some cs) (hp : cs.all C.plain = true) :
    X.cells.size = cs.length ∧ (∀ (j : Nat) (c : C), cs[j]? = some c → ∃ y, X.cells[j]? = some y ∧ PRep E.m w c y) ∧
    ∀ (j sz : Nat) (rows : List (List D)), cs[j]? = some (.own sz rows) → j = 0 ∧ cs.length = 1 ∧ v = vC (.own sz rows) ∧ X.cells[0]? = some X := by
  have one : ∀ (d : D) (y : Value), DRep E.m w d y → y.cells = #[y] := fun d y hd => hd.cells1
  cases v with
  | t ws => simp [V.cells] at hc
  | w x =>
    cases x with
    | a ds =>
      simp only [V.cells, Option.some.injEq] at hc
      subst hc
      obtain ⟨vs, rfl, h1, h2⟩ := h
      refine ⟨by simpa [Value.cells] using h1, fun j c hj => ?_, fun j sz rows hj => ?_⟩
      · simp only [List.getElem?_map, Option.map_eq_some_iff] at hj
        obtain ⟨d, hd, rfl⟩ := hj
        obtain ⟨y, h3, h4⟩ := h2 j d hd
        exact ⟨y, by simpa [Value.cells] using h3, h4⟩
      · simp only [List.getElem?_map, Option.map_eq_some_iff] at hj
        obtain ⟨d, hd, he⟩ := hj
        cases he
    | c c =>
      simp only [V.cells, Option.some.injEq] at hc
      subst hc
      simp only [List.all_cons, List.all_nil, Bool.and_true] at hp
      cases c with
      | d x =>
        have hx : X.cells = #[X] := one _ _ h
        refine ⟨by simp [hx], fun j c hj => ?_, fun j sz rows hj => ?_⟩
        · cases j with
          | zero => simp at hj; subst hj; exact ⟨X, by simp [hx], h⟩
          | succ j => simp at hj
        · cases j with
          | zero => simp at hj
          | succ j => simp at hj
      | own sz rows =>
        have hx : X.cells = #[X] := one _ _ h
        refine ⟨by simp [hx], fun j c hj => ?_, fun j sz' rows' hj => ?_⟩
        · cases j with
          | zero => simp at hj; subst hj; exact ⟨X, by simp [hx], h⟩
          | succ j => simp at hj
        · cases j with
          | zero => simp at hj; obtain ⟨rfl, rfl⟩ := hj; exact ⟨rfl, rfl, rfl, by simp [hx]⟩
          | succ j => simp at hj
      | ptr _ _ => simp [C.plain] at hp
      | loc _ _ => simp [C.plain] at hp
      | ml _ => simp [C.plain] at hp
      | junk => simp [C.plain] at hp

def laid (arr : Array Value) (off : Nat) (xs : Array Value) : Array Value := (arr.toList.take off ++ xs.toList ++ arr.toList.drop (off + xs.size)).toArray

theorem laid_size (arr : Array Value) (off : Nat) (xs : Array Value) (h : off + xs.size ≤ arr.size) : (laid arr off xs).size = arr.size := by simp [laid]; omega

theorem laid_get (arr : Array Value) (off : Nat) (xs : Array Value) (h : off + xs.size ≤ arr.size) (i : Nat) :
    (laid arr off xs)[i]? = if off ≤ i ∧ i < off + xs.size then xs[i - off]? else arr[i]? := by
  simp only [laid, List.getElem?_toArray, List.append_assoc]
  have hm : min off arr.size = off := by omega
  by_cases h1 : i < off
  · rw [List.getElem?_append_left (by simp; omega), List.getElem?_take, if_pos h1, if_neg (by omega), Array.getElem?_toList]
  · rw [List.getElem?_append_right (by simp; omega)]
    simp only [List.length_take, Array.length_toList, hm]
    by_cases h2 : i < off + xs.size
    · rw [if_pos ⟨by omega, h2⟩, List.getElem?_append_left (by simp; omega), Array.getElem?_toList]
    · rw [if_neg (by omega), List.getElem?_append_right (by simp; omega), List.getElem?_drop, Array.getElem?_toList]
      congr 1
      simp
      omega

def laidC (l : List C) (off : Nat) (cs : List C) : List C := l.take off ++ cs ++ l.drop (off + cs.length)

theorem laidC_length (l : List C) (off : Nat) (cs : List C) (h : off + cs.length ≤ l.length) : (laidC l off cs).length = l.length := by simp [laidC]; omega

theorem laidC_get (l : List C) (off : Nat) (cs : List C) (h : off + cs.length ≤ l.length) (i : Nat) :
    (laidC l off cs)[i]? = if off ≤ i ∧ i < off + cs.length then cs[i - off]? else l[i]? := by
  simp only [laidC, List.append_assoc]
  have hm : min off l.length = off := by omega
  by_cases h1 : i < off
  · rw [List.getElem?_append_left (by simp; omega), List.getElem?_take, if_pos h1, if_neg (by omega)]
  · rw [List.getElem?_append_right (by simp; omega)]
    simp only [List.length_take, hm]
    by_cases h2 : i < off + cs.length
    · rw [if_pos ⟨by omega, h2⟩, List.getElem?_append_left (by omega)]
    · rw [if_neg (by omega), List.getElem?_append_right (by omega), List.getElem?_drop]
      congr 1
      omega

def inStoreH (n id off len : Nat) : FL → FL
  | .h k o => if k = id ∧ off ≤ o ∧ o < off + len then .t n else .h k o
  | ℓ => ℓ

theorem inStoreH_in {n id off len o : Nat} (h : off ≤ o ∧ o < off + len) : inStoreH n id off len (.h id o) = .t n := if_pos ⟨rfl, h⟩
theorem inStoreH_out {n id off len k o : Nat} (h : ¬ (k = id ∧ off ≤ o ∧ o < off + len)) : inStoreH n id off len (.h k o) = .h k o := if_neg h

theorem inStoreH_inj (n id off len : Nat) (ℓ ℓ' : FL) (h1 : ∀ i, ℓ = .t i → i ≠ n) (h2 : ∀ i, ℓ' = .t i → i ≠ n) (h3 : ∀ k o, ℓ = .h k o → k = id → off ≤ o → o < off + len → o = off)
    (h4 : ∀ k o, ℓ' = .h k o → k = id → off ≤ o → o < off + len → o = off) (he : inStoreH n id off len ℓ = inStoreH n id off len ℓ') : ℓ = ℓ' := by
  cases ℓ <;> cases ℓ' <;> simp only [inStoreH] at he <;> (repeat' split at he) <;> first
    | exact he
    | (cases he; done)
    | (cases he; exact absurd rfl (h1 _ rfl))
    | (cases he; exact absurd rfl (h2 _ rfl))
    | (rename_i q1 q2; obtain ⟨rfl, p1, p2⟩ := q1; obtain ⟨r1, r2, r3⟩ := q2; rw [h3 _ _ rfl rfl p1 p2, r1, h4 _ _ rfl r1 r2 r3])
theorem Rel.storeH {v : V} {X : Value} {id off b : Nat} {l cs : List C} {arr : Array Value} {e : TypeId} (h : Rel B E { S with tm := S.tm ++ [v] } (a.push X) w)
    (hid : S.H[id]? = some (some (.cells l))) (hb : E.ob id = some b) (hv : v.cells = some cs) (hpl : cs.all C.plain = true) (hle : off + cs.length ≤ l.length) (hheap : w.heap[b]? = some (.cells arr e (0, 0))) :
    X.cells.size = cs.length ∧ off + X.cells.size ≤ arr.size ∧ (∀ x ∈ X.cells.toList, x.oneCell' = true) ∧
    Rel B E { S with H := S.H.set id (some (.cells (laidC l off cs))) } a (w.setRow b (laid arr off X.cells)) := by
  have hlen : a.size = S.tm.length := by have := h.len; simpa using this
  obtain ⟨X', hX1, hX2⟩ := h.tr S.tm.length v (by simp)
  rw [Array.getElem?_push, if_pos hlen.symm] at hX1
  cases hX1
  obtain ⟨hsz, hcell, hown⟩ := vcells_rep hX2 hv hpl
  have hd : Rel B E S a w := h.drop
  obtain ⟨b', g1, ⟨arr', e', g2, g3, g4⟩, g5, g6, hmay⟩ := hd.hr id _ hid
  rw [hb] at g1
  cases g1
  rw [hheap] at g2
  cases g2
  have hfit : off + X.cells.size ≤ arr.size := by omega
  refine ⟨hsz, hfit, fun x hx => ?_, ?_⟩
  · obtain ⟨j, hj⟩ := List.getElem?_of_mem hx
    rw [Array.getElem?_toList] at hj
    have hj1 : j < cs.length := by rw [← hsz]; exact (Array.getElem?_eq_some_iff.1 hj).1
    obtain ⟨y, h1, h2⟩ := hcell j cs[j] (List.getElem?_eq_getElem hj1)
    rw [hj] at h1
    cases h1
    revert h2
    cases cs[j] with
    | d d => exact fun h2 => DRep.one (show DRep E.m w d x from h2)
    | own sz rows => exact fun h2 => DRep.one (show DRep E.m w _ x from h2)
    | _ => exact fun h2 => h2.elim
  have hil : id < S.H.length := (List.getElem?_eq_some_iff.1 hid).1
  have hself : (S.H.set id (some (Ob.cells (laidC l off cs))))[id]? = some (some (.cells (laidC l off cs))) := List.getElem?_set_self hil
  have hnew := setRow_heap w b arr (laid arr off X.cells) e (0, 0) hheap
  have hoth : ∀ k, k ≠ b → (w.setRow b (laid arr off X.cells)).heap[k]? = w.heap[k]? := fun k hk => setRow_other w b k _ hk
  have hsize : (w.setRow b (laid arr off X.cells)).heap.size = w.heap.size := by simp [World.setRow]
  have himb : ∀ k n, E.m.im k = some n → k ≠ b := fun k n hk f => by subst f; rw [g5] at hk; cases hk
  have hmpb : ∀ k, E.m.mp k = true → k ≠ b := fun k hk f => by subst f; rw [g6] at hk; cases hk
  have ext : Ext E.m w E.m (w.setRow b (laid arr off X.cells)) :=
    ⟨fun k lim hk => ⟨lim, Nat.le_refl _, hk⟩, fun k lim ar e0 fr hk hh => ⟨ar, fr, by rw [hoth k (himb k _ hk)]; exact hh, rfl, fun _ _ => rfl⟩, fun k hk => hk, fun k hk => hoth k (hmpb k hk)⟩
  have hlive : liveH S id := ⟨_, hid⟩
  have liveBack : ∀ k, liveH { S with H := S.H.set id (some (.cells (laidC l off cs))) } k → liveH S k := by
    rintro k ⟨o, ho⟩
    by_cases f : k = id
    · subst f; exact hlive
    · simp only [List.getElem?_set_ne (Ne.symm f)] at ho; exact ⟨o, ho⟩
  have key : ∀ ℓ sz u, Owned { S with H := S.H.set id (some (.cells (laidC l off cs))) } E a (w.setRow b (laid arr off X.cells)) ℓ sz u →
      Owned { S with tm := S.tm ++ [v] } E (a.push X) w (inStoreH S.tm.length id off cs.length ℓ) sz u ∧ (∀ i, ℓ = .t i → i < S.tm.length) ∧ (∀ k o, ℓ = .h k o → k = id → off ≤ o → o < off + cs.length → o = off) := by
    intro ℓ sz u ho
    obtain ⟨⟨rows, h1⟩, h2⟩ := ho
    cases ℓ with
    | t i =>
      have hi : i < S.tm.length := by
        simp only [at_t] at h1
        rcases Nat.lt_or_ge i S.tm.length with hi | hi
        · exact hi
        · rw [List.getElem?_eq_none hi] at h1; cases h1
      refine ⟨⟨⟨rows, ?_⟩, ?_⟩, fun _ f => by cases f; exact hi, by simp⟩
      · simp only [inStoreH, at_t]; rw [List.getElem?_append_left hi]; exact h1
      · simp only [inStoreH, conc]; rw [Array.getElem?_push, if_neg (by omega)]; exact h2
    | tt i j =>
      have hi : i < S.tm.length := by
        simp only [at_tt] at h1
        rcases Nat.lt_or_ge i S.tm.length with hi | hi
        · exact hi
        · rw [List.getElem?_eq_none hi] at h1; cases h1
      refine ⟨⟨⟨rows, ?_⟩, ?_⟩, by simp, by simp⟩
      · simp only [inStoreH, at_tt]; rw [List.getElem?_append_left hi]; exact h1
      · simp only [inStoreH, conc]; rw [Array.getElem?_push, if_neg (by omega)]; exact h2
    | l k o =>
      obtain ⟨b2, k1, k2, k3, k4, k5⟩ := hd.at_obj.2 k o _ h1
      have hne : b2 ≠ b := fun f => by subst f; exact hd.hl id k b2 hlive k4 hb k1
      refine ⟨⟨⟨rows, h1⟩, ?_⟩, by simp, by simp⟩
      simp only [inStoreH, conc, k1, Option.bind_some] at h2 ⊢
      rw [← cell_of_heap (hoth b2 hne)]; exact h2
    | h k o =>
      by_cases f : k = id
      · subst f
        simp only [St.at, hself] at h1
        rw [laidC_get _ _ _ hle] at h1
        simp only [conc, hb, Option.bind_some] at h2
        rw [cell_of_row _ b o _ e (0, 0) hnew, laid_get _ _ _ hfit, hsz] at h2
        by_cases hr : off ≤ o ∧ o < off + cs.length
        · rw [if_pos hr] at h1 h2
          obtain ⟨q1, q2, q3, q4⟩ := hown _ _ _ h1
          refine ⟨?_, by simp, fun k' o' hk _ _ _ => by cases hk; omega⟩
          rw [inStoreH_in hr]
          rw [q1, q4] at h2
          cases h2
          refine ⟨⟨rows, by simp [at_t, q3]⟩, ?_⟩
          simp only [conc]
          rw [Array.getElem?_push, if_pos hlen.symm]
        · rw [if_neg hr] at h1 h2
          refine ⟨?_, by simp, fun k' o' hk _ q1 q2 => by cases hk; exact absurd ⟨q1, q2⟩ hr⟩
          rw [inStoreH_out (fun q => hr q.2)]
          refine ⟨⟨rows, by simp only [St.at, hid]; exact h1⟩, ?_⟩
          simp only [conc, hb, Option.bind_some]
          rw [cell_of_row _ b o _ e (0, 0) hheap]; exact h2
      · simp only [St.at, List.getElem?_set_ne (Ne.symm f)] at h1
        obtain ⟨b2, k1, k2, k3, k4, k5⟩ := hd.at_obj.1 k o _ h1
        have hne : b2 ≠ b := fun q => by subst q; exact f (hd.hh k id b2 k4 hlive k1 hb)
        refine ⟨?_, by simp, fun k' o' hk q _ _ => by cases hk; exact absurd q f⟩
        rw [inStoreH_out (fun q => f q.1)]
        refine ⟨⟨rows, h1⟩, ?_⟩
        simp only [conc, k1, Option.bind_some] at h2 ⊢
        rw [← cell_of_heap (hoth b2 hne)]; exact h2
  exact {
    len := hlen
    tr := fun i u hu => let ⟨x, h1, h2⟩ := hd.tr i u hu; ⟨x, h1, h2.mono (E' := E) ext (fun _ _ h => h) (fun _ _ h => h)⟩
    hr := fun k o ho => by
      by_cases f : k = id
      · subst f
        simp only [hself, Option.some.injEq] at ho
        subst ho
        refine ⟨b, hb, ⟨_, e, hnew, by rw [laid_size _ _ _ hfit, laidC_length _ _ _ hle, g3], fun i c hc => ?_⟩, g5, g6, hmay⟩
        rw [laidC_get _ _ _ hle] at hc
        rw [laid_get _ _ _ hfit, hsz]
        split at hc
        · rename_i hr
          rw [if_pos hr]
          obtain ⟨y, h1, h2⟩ := hcell _ _ hc
          exact ⟨y, h1, h2.mono ext⟩
        · rename_i hr
          rw [if_neg hr]
          obtain ⟨y, h1, h2⟩ := g4 _ _ hc
          exact ⟨y, h1, h2.mono ext⟩
      · simp only [List.getElem?_set_ne (Ne.symm f)] at ho
        obtain ⟨b2, h1, h2, h3⟩ := hd.hr k o ho
        have hne : b2 ≠ b := fun q => by subst q; exact f (hd.hh k id b2 ⟨_, ho⟩ hlive h1 hb)
        exact ⟨b2, h1, h2.mono ext (hoth b2 hne), h3⟩
    lr := fun k o ho => by
      obtain ⟨b2, h1, h2, h3⟩ := hd.lr k o ho
      have hne : b2 ≠ b := fun q => by subst q; have k4 : liveL S k := ⟨_, ho⟩; have k1 := h1; exact hd.hl id k b2 hlive k4 hb k1
      exact ⟨b2, h1, h2.mono ext (hoth b2 hne), h3⟩
    hh := fun i j c hi hj h1 h2 => hd.hh i j c (liveBack i hi) (liveBack j hj) h1 h2
    ll := fun i j c hi hj h1 h2 => hd.ll i j c hi hj h1 h2
    hl := fun i j c hi hj h1 h2 => hd.hl i j c (liveBack i hi) hj h1 h2
    obl := fun k c hk => by have := hd.obl k c hk; simpa using this
    lol := fun k c hk => by have := hd.lol k c hk; simpa using this
    own := fun ℓ sz u ho => by
      obtain ⟨b2, ⟨o, n, c, ar, e0, h1, h2, h3, h4⟩, h5⟩ := h.own _ _ _ (key ℓ sz u ho).1
      exact ⟨b2, ⟨o, n, c, ar, e0, h1, h2, by rw [hoth b2 (himb b2 _ h2)]; exact h3, h4⟩, h5⟩
    own1 := fun ℓ ℓ' sz1 sz2 u u' c h1 h2 h3 h4 => by
      obtain ⟨k1, k2, k3⟩ := key ℓ sz1 u h1
      obtain ⟨l1, l2, l3⟩ := key ℓ' sz2 u' h2
      have he := h.own1 _ _ _ _ _ _ c k1 l1 h3 h4
      exact inStoreH_inj S.tm.length id off cs.length ℓ ℓ' (fun i hi => Nat.ne_of_lt (k2 i hi)) (fun i hi => Nat.ne_of_lt (l2 i hi)) k3 l3 he
    imw := fun k n hk => by
      obtain ⟨ar, e0, fr, h1, h2⟩ := hd.imw k n hk
      exact ⟨ar, e0, fr, by rw [hoth k (himb k n hk)]; exact h1, h2⟩
    mpw := fun k hk => by
      obtain ⟨es, c, h1⟩ := hd.mpw k hk
      exact ⟨es, c, by rw [hoth k (hmpb k hk)]; exact h1⟩
    kept := by
      have hk := hd.kept
      refine ⟨by rw [hsize]; exact hk.size, hk.os, hk.tape, hk.output, fun k hkl hkt => ?_, hk.ext.trans ext⟩
      have ek : k ≠ b := fun q => by subst q; rcases hmay with hm | hm; exact hkt hm; omega
      obtain ⟨h1, h2, h3⟩ := hk.same k hkl hkt
      exact ⟨(hoth k ek).trans h1, h2, h3⟩ }

def inStoreL (n id off len : Nat) : FL → FL
  | .l k o => if k = id ∧ off ≤ o ∧ o < off + len then .t n else .l k o
  | ℓ => ℓ

theorem inStoreL_in {n id off len o : Nat} (h : off ≤ o ∧ o < off + len) : inStoreL n id off len (.l id o) = .t n := if_pos ⟨rfl, h⟩
theorem inStoreL_out {n id off len k o : Nat} (h : ¬ (k = id ∧ off ≤ o ∧ o < off + len)) : inStoreL n id off len (.l k o) = .l k o := if_neg h

theorem inStoreL_inj (n id off len : Nat) (ℓ ℓ' : FL) (h1 : ∀ i, ℓ = .t i → i ≠ n) (h2 : ∀ i, ℓ' = .t i → i ≠ n) (h3 : ∀ k o, ℓ = .l k o → k = id → off ≤ o → o < off + len → o = off)
    (h4 : ∀ k o, ℓ' = .l k o → k = id → off ≤ o → o < off + len → o = off) (he : inStoreL n id off len ℓ = inStoreL n id off len ℓ') : ℓ = ℓ' := by
  cases ℓ <;> cases ℓ' <;> simp only [inStoreL] at he <;> (repeat' split at he) <;> first
    | exact he
    | (cases he; done)
    | (cases he; exact absurd rfl (h1 _ rfl))
    | (cases he; exact absurd rfl (h2 _ rfl))
    | (rename_i q1 q2; obtain ⟨rfl, p1, p2⟩ := q1; obtain ⟨r1, r2, r3⟩ := q2; rw [h3 _ _ rfl rfl p1 p2, r1, h4 _ _ rfl r1 r2 r3])
theorem Rel.storeL {v : V} {X : Value} {id off b : Nat} {l cs : List C} {arr : Array Value} {e : TypeId} (h : Rel B E { S with tm := S.tm ++ [v] } (a.push X) w)
    (hid : S.L[id]? = some (some (.cells l))) (hb : E.lo id = some b) (hv : v.cells = some cs) (hpl : cs.all C.plain = true) (hle : off + cs.length ≤ l.length) (hheap : w.heap[b]? = some (.cells arr e (0, 0))) :
    X.cells.size = cs.length ∧ off + X.cells.size ≤ arr.size ∧ (∀ x ∈ X.cells.toList, x.oneCell' = true) ∧
    Rel B E { S with L := S.L.set id (some (.cells (laidC l off cs))) } a (w.setRow b (laid arr off X.cells)) := by
  have hlen : a.size = S.tm.length := by have := h.len; simpa using this
  obtain ⟨X', hX1, hX2⟩ := h.tr S.tm.length v (by simp)
  rw [Array.getElem?_push, if_pos hlen.symm] at hX1
  cases hX1
  obtain ⟨hsz, hcell, hown⟩ := vcells_rep hX2 hv hpl
  have hd : Rel B E S a w := h.drop
  obtain ⟨b', g1, ⟨arr', e', g2, g3, g4⟩, g5, g6, hmay⟩ := hd.lr id _ hid
  rw [hb] at g1
  cases g1
  rw [hheap] at g2
  cases g2
  have hfit : off + X.cells.size ≤ arr.size := by omega
  refine ⟨hsz, hfit, fun x hx => ?_, ?_⟩
  · obtain ⟨j, hj⟩ := List.getElem?_of_mem hx
    rw [Array.getElem?_toList] at hj
    have hj1 : j < cs.length := by rw [← hsz]; exact (Array.getElem?_eq_some_iff.1 hj).1
    obtain ⟨y, h1, h2⟩ := hcell j cs[j] (List.getElem?_eq_getElem hj1)
    rw [hj] at h1
    cases h1
    revert h2
    cases cs[j] with
    | d d => exact fun h2 => DRep.one (show DRep E.m w d x from h2)
    | own sz rows => exact fun h2 => DRep.one (show DRep E.m w _ x from h2)
    | _ => exact fun h2 => h2.elim
  have hil : id < S.L.length := (List.getElem?_eq_some_iff.1 hid).1
  have hself : (S.L.set id (some (Ob.cells (laidC l off cs))))[id]? = some (some (.cells (laidC l off cs))) := List.getElem?_set_self hil
  have hnew := setRow_heap w b arr (laid arr off X.cells) e (0, 0) hheap
  have hoth : ∀ k, k ≠ b → (w.setRow b (laid arr off X.cells)).heap[k]? = w.heap[k]? := fun k hk => setRow_other w b k _ hk
  have hsize : (w.setRow b (laid arr off X.cells)).heap.size = w.heap.size := by simp [World.setRow]
  have himb : ∀ k n, E.m.im k = some n → k ≠ b := fun k n hk f => by subst f; rw [g5] at hk; cases hk
  have hmpb : ∀ k, E.m.mp k = true → k ≠ b := fun k hk f => by subst f; rw [g6] at hk; cases hk
  have ext : Ext E.m w E.m (w.setRow b (laid arr off X.cells)) :=
    ⟨fun k lim hk => ⟨lim, Nat.le_refl _, hk⟩, fun k lim ar e0 fr hk hh => ⟨ar, fr, by rw [hoth k (himb k _ hk)]; exact hh, rfl, fun _ _ => rfl⟩, fun k hk => hk, fun k hk => hoth k (hmpb k hk)⟩
  have hlive : liveL S id := ⟨_, hid⟩
  have liveBack : ∀ k, liveL { S with L := S.L.set id (some (.cells (laidC l off cs))) } k → liveL S k := by
    rintro k ⟨o, ho⟩
    by_cases f : k = id
    · subst f; exact hlive
    · simp only [List.getElem?_set_ne (Ne.symm f)] at ho; exact ⟨o, ho⟩
  have key : ∀ ℓ sz u, Owned { S with L := S.L.set id (some (.cells (laidC l off cs))) } E a (w.setRow b (laid arr off X.cells)) ℓ sz u →
      Owned { S with tm := S.tm ++ [v] } E (a.push X) w (inStoreL S.tm.length id off cs.length ℓ) sz u ∧ (∀ i, ℓ = .t i → i < S.tm.length) ∧ (∀ k o, ℓ = .l k o → k = id → off ≤ o → o < off + cs.length → o = off) := by
    intro ℓ sz u ho
    obtain ⟨⟨rows, h1⟩, h2⟩ := ho
    cases ℓ with
    | t i =>
      have hi : i < S.tm.length := by
        simp only [at_t] at h1
        rcases Nat.lt_or_ge i S.tm.length with hi | hi
        · exact hi
        · rw [List.getElem?_eq_none hi] at h1; cases h1
      refine ⟨⟨⟨rows, ?_⟩, ?_⟩, fun _ f => by cases f; exact hi, by simp⟩
      · simp only [inStoreL, at_t]; rw [List.getElem?_append_left hi]; exact h1
      · simp only [inStoreL, conc]; rw [Array.getElem?_push, if_neg (by omega)]; exact h2
    | tt i j =>
      have hi : i < S.tm.length := by
        simp only [at_tt] at h1
        rcases Nat.lt_or_ge i S.tm.length with hi | hi
        · exact hi
        · rw [List.getElem?_eq_none hi] at h1; cases h1
      refine ⟨⟨⟨rows, ?_⟩, ?_⟩, by simp, by simp⟩
      · simp only [inStoreL, at_tt]; rw [List.getElem?_append_left hi]; exact h1
      · simp only [inStoreL, conc]; rw [Array.getElem?_push, if_neg (by omega)]; exact h2
    | h k o =>
      obtain ⟨b2, k1, k2, k3, k4, k5⟩ := hd.at_obj.1 k o _ h1
      have hne : b2 ≠ b := fun f => by subst f; exact hd.hl k id b2 k4 hlive k1 hb
      refine ⟨⟨⟨rows, h1⟩, ?_⟩, by simp, by simp⟩
      simp only [inStoreL, conc, k1, Option.bind_some] at h2 ⊢
      rw [← cell_of_heap (hoth b2 hne)]; exact h2
    | l k o =>
      by_cases f : k = id
      · subst f
        simp only [St.at, hself] at h1
        rw [laidC_get _ _ _ hle] at h1
        simp only [conc, hb, Option.bind_some] at h2
        rw [cell_of_row _ b o _ e (0, 0) hnew, laid_get _ _ _ hfit, hsz] at h2
        by_cases hr : off ≤ o ∧ o < off + cs.length
        · rw [if_pos hr] at h1 h2
          obtain ⟨q1, q2, q3, q4⟩ := hown _ _ _ h1
          refine ⟨?_, by simp, fun k' o' hk _ _ _ => by cases hk; omega⟩
          rw [inStoreL_in hr]
          rw [q1, q4] at h2
          cases h2
          refine ⟨⟨rows, by simp [at_t, q3]⟩, ?_⟩
          simp only [conc]
          rw [Array.getElem?_push, if_pos hlen.symm]
        · rw [if_neg hr] at h1 h2
          refine ⟨?_, by simp, fun k' o' hk _ q1 q2 => by cases hk; exact absurd ⟨q1, q2⟩ hr⟩
          rw [inStoreL_out (fun q => hr q.2)]
          refine ⟨⟨rows, by simp only [St.at, hid]; exact h1⟩, ?_⟩
          simp only [conc, hb, Option.bind_some]
          rw [cell_of_row _ b o _ e (0, 0) hheap]; exact h2
      · simp only [St.at, List.getElem?_set_ne (Ne.symm f)] at h1
        obtain ⟨b2, k1, k2, k3, k4, k5⟩ := hd.at_obj.2 k o _ h1
        have hne : b2 ≠ b := fun q => by subst q; exact f (hd.ll k id b2 k4 hlive k1 hb)
        refine ⟨?_, by simp, fun k' o' hk q _ _ => by cases hk; exact absurd q f⟩
        rw [inStoreL_out (fun q => f q.1)]
        refine ⟨⟨rows, h1⟩, ?_⟩
        simp only [conc, k1, Option.bind_some] at h2 ⊢
        rw [← cell_of_heap (hoth b2 hne)]; exact h2
  exact {
    len := hlen
    tr := fun i u hu => let ⟨x, h1, h2⟩ := hd.tr i u hu; ⟨x, h1, h2.mono (E' := E) ext (fun _ _ h => h) (fun _ _ h => h)⟩
    lr := fun k o ho => by
      by_cases f : k = id
      · subst f
        simp only [hself, Option.some.injEq] at ho
        subst ho
        refine ⟨b, hb, ⟨_, e, hnew, by rw [laid_size _ _ _ hfit, laidC_length _ _ _ hle, g3], fun i c hc => ?_⟩, g5, g6, hmay⟩
        rw [laidC_get _ _ _ hle] at hc
        rw [laid_get _ _ _ hfit, hsz]
        split at hc
        · rename_i hr
          rw [if_pos hr]
          obtain ⟨y, h1, h2⟩ := hcell _ _ hc
          exact ⟨y, h1, h2.mono ext⟩
        · rename_i hr
          rw [if_neg hr]
          obtain ⟨y, h1, h2⟩ := g4 _ _ hc
          exact ⟨y, h1, h2.mono ext⟩
      · simp only [List.getElem?_set_ne (Ne.symm f)] at ho
        obtain ⟨b2, h1, h2, h3⟩ := hd.lr k o ho
        have hne : b2 ≠ b := fun q => by subst q; exact f (hd.ll k id b2 ⟨_, ho⟩ hlive h1 hb)
        exact ⟨b2, h1, h2.mono ext (hoth b2 hne), h3⟩
    hr := fun k o ho => by
      obtain ⟨b2, h1, h2, h3⟩ := hd.hr k o ho
      have hne : b2 ≠ b := fun q => by subst q; have k4 : liveH S k := ⟨_, ho⟩; have k1 := h1; exact hd.hl k id b2 k4 hlive k1 hb
      exact ⟨b2, h1, h2.mono ext (hoth b2 hne), h3⟩
    ll := fun i j c hi hj h1 h2 => hd.ll i j c (liveBack i hi) (liveBack j hj) h1 h2
    hh := fun i j c hi hj h1 h2 => hd.hh i j c hi hj h1 h2
    hl := fun i j c hi hj h1 h2 => hd.hl i j c hi (liveBack j hj) h1 h2
    obl := fun k c hk => by have := hd.obl k c hk; simpa using this
    lol := fun k c hk => by have := hd.lol k c hk; simpa using this
    own := fun ℓ sz u ho => by
      obtain ⟨b2, ⟨o, n, c, ar, e0, h1, h2, h3, h4⟩, h5⟩ := h.own _ _ _ (key ℓ sz u ho).1
      exact ⟨b2, ⟨o, n, c, ar, e0, h1, h2, by rw [hoth b2 (himb b2 _ h2)]; exact h3, h4⟩, h5⟩
    own1 := fun ℓ ℓ' sz1 sz2 u u' c h1 h2 h3 h4 => by
      obtain ⟨k1, k2, k3⟩ := key ℓ sz1 u h1
      obtain ⟨l1, l2, l3⟩ := key ℓ' sz2 u' h2
      have he := h.own1 _ _ _ _ _ _ c k1 l1 h3 h4
      exact inStoreL_inj S.tm.length id off cs.length ℓ ℓ' (fun i hi => Nat.ne_of_lt (k2 i hi)) (fun i hi => Nat.ne_of_lt (l2 i hi)) k3 l3 he
    imw := fun k n hk => by
      obtain ⟨ar, e0, fr, h1, h2⟩ := hd.imw k n hk
      exact ⟨ar, e0, fr, by rw [hoth k (himb k n hk)]; exact h1, h2⟩
    mpw := fun k hk => by
      obtain ⟨es, c, h1⟩ := hd.mpw k hk
      exact ⟨es, c, by rw [hoth k (hmpb k hk)]; exact h1⟩
    kept := by
      have hk := hd.kept
      refine ⟨by rw [hsize]; exact hk.size, hk.os, hk.tape, hk.output, fun k hkl hkt => ?_, hk.ext.trans ext⟩
      have ek : k ≠ b := fun q => by subst q; rcases hmay with hm | hm; exact hkt hm; omega
      obtain ⟨h1, h2, h3⟩ := hk.same k hkl hkt
      exact ⟨(hoth k ek).trans h1, h2, h3⟩ }

theorem storeVar_run (hT : TabOk P T) {t : Nat} {ti : TI} (ht : T t = some ti) {X : Value} {b off : Nat} {arr : Array Value} {e : TypeId} (hs : X.cells.size = ti.size) (hh : w.heap[b]? = some (.cells arr e (0, 0))) (hf : off + X.cells.size ≤ arr.size)
    (h1 : ∀ x ∈ X.cells.toList, x.oneCell' = true) : (Instr.storeAt t (.pointer (some ⟨b, off, none⟩)) X).run P w = .ok () (w.setRow b (laid arr off X.cells)) := by
  have := run_storeCells_at (P := P) b off e X.cells.toList 0 arr w hh (by simpa using hf) h1
  simp only [Nat.add_zero, Array.length_toList] at this
  simp [Instr.storeAt, Instr.sureAddr, storeVar, (hT t ti ht).sizeOf, hs, this, laid]

theorem store_sound (hT : TabOk P T) {t : Nat} {ti : TI} (ht : T t = some ti) {p v : V} {Y X : Value} {cs : List C} {S' : St} (h : Rel B E { S with tm := S.tm ++ [v] } (a.push X) w) (hp : VRep E w p Y)
    (hv : v.cells = some cs) (hsz : cs.length = ti.size) (hpl : cs.all C.plain = true) (hs : storeTo S p cs = some S') :
    ∃ w', (Instr.storeAt t Y X).run P w = .ok () w' ∧ Rel B E S' a w' ∧ S'.H.length = S.H.length ∧ S'.L.length = S.L.length ∧ S'.tm = S.tm := by
  unfold storeTo at hs
  split at hs
  · rename_i id off
    obtain ⟨b, hb, rfl⟩ := hp
    obtain ⟨o', h1, h2⟩ := Option.map_eq_some_iff.1 hs
    cases h2
    unfold storeOb at h1
    split at h1
    · rename_i l hl
      split at h1
      · rename_i hle
        cases h1
        have hid := getD_some hl
        obtain ⟨b', h5, ⟨arr, e, h6, _⟩, _⟩ := h.hr id _ hid
        rw [hb] at h5
        cases h5
        obtain ⟨g1, g2, g3, g4⟩ := Rel.storeH h hid hb hv hpl hle h6
        exact ⟨_, storeVar_run hT ht (g1.trans hsz) h6 g2 g3, g4, by simp, rfl, rfl⟩
      · cases h1
    · cases h1
  · rename_i id off
    obtain ⟨b, hb, rfl⟩ := hp
    obtain ⟨o', h1, h2⟩ := Option.map_eq_some_iff.1 hs
    cases h2
    unfold storeOb at h1
    split at h1
    · rename_i l hl
      split at h1
      · rename_i hle
        cases h1
        have hid := getD_some hl
        obtain ⟨b', h5, ⟨arr, e, h6, _⟩, _⟩ := h.lr id _ hid
        rw [hb] at h5
        cases h5
        obtain ⟨g1, g2, g3, g4⟩ := Rel.storeL h hid hb hv hpl hle h6
        exact ⟨_, storeVar_run hT ht (g1.trans hsz) h6 g2 g3, g4, rfl, by simp, rfl⟩
      · cases h1
    · cases h1
  · cases hs

end
end Go.Ev
