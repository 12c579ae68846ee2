/- When two operations of a region may change places. -/
import Derived.Test.YtdpldomjhelfkaaDoorEvStep
set_option linter.unusedVariables false
set_option linter.unusedSimpArgs false
namespace Go.Ev
open Go

section
variable {T : Tabl} {Sg : Sig} {S S' : St} {o : Oper}

def St.setT (S : St) (d : Nat) (u : V) : St := { S with tm := S.tm.set d u }

/-- Reads of objects give the same. -/
def Same (lim : Nat) (S S' : St) : Prop := (∀ p n agg, ld S' lim p n agg = ld S lim p n agg) ∧ ∀ v, mapOf S' lim v = mapOf S lim v

theorem sv_congr {lim : Nat} {ρ ρ' : Operand → V} (hρ : ∀ x ∈ o.op.operands, ρ' x = ρ x) (hr : o.op.reads = false ∨ Same lim S S') : sv T Sg lim o ρ' S' = sv T Sg lim o ρ S := by
  unfold sv
  cases ho : o.op <;> simp only [ho, Op.operands, Op.reads, Bool.true_eq_false, Bool.false_eq_true, false_or] at hρ hr ⊢ <;> try rfl
  case move x => rw [hρ x (by simp)]
  case assign x => rw [hρ x (by simp)]
  case pick c a b => rw [hρ c (by simp), hρ a (by simp), hρ b (by simp)]
  case nilCheck x => rw [hρ x (by simp)]
  case binOp op t x y r => rw [hρ x (by simp), hρ y (by simp)]
  case unOp op t x =>
    cases op <;> simp only
    rw [hρ x (by simp)]
  case convert s d x => rw [hρ x (by simp)]
  case extract x i => rw [hρ x (by simp)]
  case fieldAddr t x f => rw [hρ x (by simp)]
  case field t x f => rw [hρ x (by simp)]
  case index t x i => rw [hρ x (by simp), hρ i (by simp)]
  case indexAddr t x i => rw [hρ x (by simp), hρ i (by simp)]
  case slice t x lo hi mx =>
    have e : ∀ y : Option Operand, (∀ z, y = some z → ρ' z = ρ z) → y.map ρ' = y.map ρ := fun y hy => by cases y with | none => rfl | some z => simp [hy z rfl]
    rw [hρ x (by simp), e lo (fun z hz => hρ z (by simp [hz])), e hi (fun z hz => hρ z (by simp [hz])), e mx (fun z hz => hρ z (by simp [hz]))]
  case load t p =>
    rw [hρ p (by simp)]
    cases T t with
    | none => rfl
    | some ti => exact hr.1 _ _ _
  case build t ps =>
    congr 1
    exact List.map_congr_left fun p hp => by rw [hρ p.2 (by simp only [List.mem_toArray, List.mem_map]; exact ⟨p, hp, rfl⟩)]
  case buildSlice t n ps =>
    congr 1
    exact List.map_congr_left fun p hp => by rw [hρ p.2 (by simp only [List.mem_toArray, List.mem_map]; exact ⟨p, hp, rfl⟩)]
  case lookup t x k ok => rw [hρ x (by simp), hρ k (by simp), hr.2]
  case call c =>
    have ha : c.args.toList.map ρ' = c.args.toList.map ρ := List.map_congr_left fun p hp => hρ p (by simp [Call.operands, Array.mem_toList_iff.1 hp])
    cases hc : c.callee with
    | builtin b =>
      cases b <;> simp only
      cases hl : c.args.toList with
      | nil => rfl
      | cons x r =>
        have hx : ρ' x = ρ x := hρ x (by simp [Call.operands, hc]; exact Array.mem_toList_iff.1 (by rw [hl]; simp))
        cases r <;> cases c.argTypes.toList <;> simp [hx]
    | invoke _ _ => rfl
    | value f =>
      simp only
      rw [hρ f (by simp [Call.operands, hc]), ha]

theorem getD_set_ne' (tm : List V) {d t : Nat} (u : V) (h : t ≠ d) : (tm.set d u).getD t vJ = tm.getD t vJ := by
  simp [List.getD_eq_getElem?_getD, List.getElem?_set_ne (Ne.symm h)]

theorem opd_set (tm : List V) {d : Nat} (u : V) {x : Operand} (h : x ≠ .tmp d) : opd (tm.set d u) x = opd tm x := by
  cases x with
  | tmp t => exact getD_set_ne' tm u fun e => h (by rw [e])
  | _ => rfl

theorem takeTm_set {d : Nat} (u : V) {x : Operand} (h : x ≠ .tmp d) : takeTm (S.setT d u) x = (takeTm S x).map fun p => (p.1, p.2.setT d u) := by
  cases x with
  | tmp t =>
    have ht : t ≠ d := fun e => h (by rw [e])
    simp only [takeTm, St.setT, getD_set_ne' S.tm u ht, clrTm]
    split
    · simp [List.set_comm _ _ ht]
    · simp [List.set_comm _ _ ht]
    · simp
  | const v => simp [takeTm, St.setT, opd]
  | func f => simp [takeTm, St.setT, opd]
  | global g => simp [takeTm, St.setT, opd]

theorem takeEx_set {d : Nat} (u : V) {t i : Nat} (ht : t ≠ d) : takeEx (S.setT d u) t i = (takeEx S t i).map fun p => (p.1, p.2.setT d u) := by
  simp only [takeEx, St.setT, getD_set_ne' S.tm u ht]
  split
  · split
    · simp [List.set_comm _ _ ht]
    · rfl
  · rfl

theorem takeLd_set {d lim : Nat} (u : V) (p : V) : takeLd (S.setT d u) lim p = (takeLd S lim p).map fun p => (p.1, p.2.setT d u) := by
  unfold takeLd
  split
  · simp [St.setT, Option.map_map, Function.comp_def]
  · simp only [St.setT]
    split
    · simp [Option.map_map, Function.comp_def]
    · rfl
  · have : ld (S.setT d u) lim p 1 false = ld S lim p 1 false := rfl
    simp [this, Option.map_map, Function.comp_def]

theorem storeTo_set {d : Nat} (u : V) (p : V) (cs : List C) : storeTo (S.setT d u) p cs = (storeTo S p cs).map fun p => p.setT d u := by
  unfold storeTo
  split
  · simp [St.setT, Option.map_map, Function.comp_def]
  · simp [St.setT, Option.map_map, Function.comp_def]
  · rfl

theorem capture_set {d : Nat} (u : V) : ∀ (vs : List V) (S : St), capture (S.setT d u) vs = (capture S vs).map fun p => (p.1, p.2.setT d u)
  | [], S => rfl
  | v :: vs, S => by
    unfold capture
    split
    · simp [capture_set u vs S, Option.map_map, Function.comp_def]
    · rename_i k hk
      have e : (S.setT d u).L = S.L := rfl
      rw [e]
      split
      · split
        · have := capture_set (d := d) u vs { S with L := S.L.set k none }
          have e2 : ∀ k, ({ S.setT d u with L := S.L.set k none } : St) = ({ S with L := S.L.set k none } : St).setT d u := fun k => rfl
          rw [e2, this]
          simp [Option.map_map, Function.comp_def]
        · rfl
      · rfl
    · rfl

theorem effCall_set {d : Nat} (u : V) (g : List V → List (Option Ob) → Option (V × List (Option Ob))) (args : List V) : effCall (S.setT d u) g args = (effCall S g args).map fun p => (p.1, p.2.setT d u) := by
  unfold effCall
  have e1 : (S.setT d u).H = S.H := rfl
  have e2 : (S.setT d u).L = S.L := rfl
  rw [e1, e2]
  split
  · split
    · split
      · split <;> rfl
      · rfl
    · rfl
  · split
    · simp [St.setT, Option.map_map, Function.comp_def]
    · rfl

/-- An operation does not see a temporary that it does not look at. -/
theorem opStep_set {lim d : Nat} {tk : Bool} (u : V) (hd : d ∉ tmpsOf o.op.operands.toList) :
    opStep T Sg lim tk o (S.setT d u) = (opStep T Sg lim tk o S).map fun p => (p.1, p.2.setT d u) := by
  have hne : ∀ x ∈ o.op.operands, x ≠ .tmp d := fun x hx e => hd (by
    subst e
    unfold tmpsOf
    exact List.mem_filterMap.2 ⟨_, Array.mem_toList_iff.2 hx, rfl⟩)
  have hop : ∀ x ∈ o.op.operands, opd (S.setT d u).tm x = opd S.tm x := fun x hx => opd_set S.tm u (hne x hx)
  have hρ : ∀ x ∈ o.op.operands, (opd (S.setT d u).tm x).er = (opd S.tm x).er := fun x hx => by rw [hop x hx]
  have hst : (sv T Sg lim o (fun x => (opd (S.setT d u).tm x).er) (S.setT d u)).map (fun v => (v, S.setT d u)) = ((sv T Sg lim o (fun x => (opd S.tm x).er) S).map fun v => (v, S)).map fun p => (p.1, p.2.setT d u) := by
    rw [sv_congr (T := T) (Sg := Sg) (lim := lim) (S := S) (S' := S.setT d u) (ρ := fun x => (opd S.tm x).er) (ρ' := fun x => (opd (S.setT d u).tm x).er) hρ (.inr ⟨fun _ _ _ => rfl, fun _ => rfl⟩)]
    simp [Option.map_map, Function.comp_def]
  unfold opStep
  simp only
  rw [hst]
  clear hst
  generalize ((sv T Sg lim o (fun x => (opd S.tm x).er) S).map fun v => (v, S)) = still
  cases ho : o.op <;> simp only [ho, Op.operands] at hne hop hρ ⊢ <;> try rfl
  case move x =>
    split
    · exact takeTm_set u (hne x (by simp))
    · rfl
  case assign x => exact takeTm_set u (hne x (by simp))
  case extract x i =>
    cases x with
    | tmp t =>
      simp only
      split
      · exact takeEx_set u fun e => hne _ (List.mem_toArray.2 (List.mem_singleton.2 rfl)) (by rw [e])
      · rfl
    | _ => rfl
  case load t p =>
    rw [hρ p (by simp)]
    split
    · split
      · split
        · rfl
        · exact takeLd_set u _
      · rfl
    · rfl
  case alloc t =>
    cases T t <;> rfl
  case box t x =>
    rw [hρ x (by simp)]
    split <;> rfl
  case store t p x =>
    rw [hρ p (by simp), takeTm_set u (hne x (by simp))]
    cases T t with
    | none => rfl
    | some ti =>
      simp only
      cases takeTm S x with
      | none => rfl
      | some q =>
        obtain ⟨v, S1⟩ := q
        simp only [Option.map_some]
        split
        · split
          · rw [storeTo_set]
            simp [Option.map_map, Function.comp_def]
          · rfl
        · rfl
  case makeMap t r => cases r <;> rfl
  case insert t m k x =>
    rw [hρ m (by simp), hρ k (by simp), hρ x (by simp)]
    have e : (S.setT d u).L = S.L := rfl
    rw [e]
    split
    · split
      · split <;> rfl
      · rfl
    · rfl
  case mapUpdate t m k x =>
    rw [hρ m (by simp), hρ k (by simp), hρ x (by simp)]
    have e : (S.setT d u).L = S.L := rfl
    rw [e]
    split
    · split
      · split <;> rfl
      · rfl
    · rfl
  case makeFunc fn first caps =>
    cases fn <;> simp only
    · split
      · have : caps.toList.map (opd (S.setT d u).tm) = caps.toList.map (opd S.tm) := List.map_congr_left fun p hp => hop p (by simp [Array.mem_toList_iff.1 hp])
        rw [this, capture_set]
        simp [Option.map_map, Function.comp_def]
      · rfl
    all_goals rfl
  case call c =>
    have ha : c.args.toList.map (fun x => (opd (S.setT d u).tm x).er) = c.args.toList.map fun x => (opd S.tm x).er := List.map_congr_left fun p hp => hρ p (by simp [Call.operands, Array.mem_toList_iff.1 hp])
    cases hc : c.callee with
    | invoke _ _ => rfl
    | builtin b =>
      cases b <;> simp only
      split
      · rename_i s x t tx hl ht
        have hs : s ∈ c.operands := by simp only [Call.operands, Array.mem_append]; exact .inr (Array.mem_toList_iff.1 (by rw [hl]; simp))
        have hx : x ∈ c.operands := by simp only [Call.operands, Array.mem_append]; exact .inr (Array.mem_toList_iff.1 (by rw [hl]; simp))
        rw [takeTm_set u (hne s hs), hρ x hx]
        split
        · split
          · cases takeTm S s with
            | none => rfl
            | some q =>
              obtain ⟨v, S1⟩ := q
              simp only [Option.map_some]
              split
              · split
                · simp [Option.map_map, Function.comp_def]
                · rfl
              · rfl
          · rfl
        · rfl
      · rfl
    | value f =>
      cases f <;> simp only
      split
      · rw [ha]; exact effCall_set u _ _
      · rfl

end
end Go.Ev
