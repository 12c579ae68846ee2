/- A table of types, checked by evaluation. -/
import Derived.Test.YtdpldomjhelfkaaDoorEvFn
set_option linter.unusedVariables false
set_option linter.unusedSimpArgs false
namespace Go.Ev
open Go

def kindB : IntKind → IntKind → Bool := fun a b => decide (a = b)

def cellB : Value → D → Bool
  | .bool a, .bool b => a == b
  | .int k a, .int k' b => decide (k = k') && a == b
  | .string s, .str l => s.data.toList == l
  | .pointer none, .nilp => true
  | .slice none n c, .nils => n == 0 && c == 0
  | .map none, .nilm => true
  | .nilFunc, .nilf => true
  | _, _ => false

def cellsB : List Value → List D → Bool
  | [], [] => true
  | v :: vs, d :: ds => cellB v d && cellsB vs ds
  | _, _ => false

theorem cellB_rep {v : Value} {d : D} (h : cellB v d = true) (m : M) (w : World) : DRep m w d v := by
  unfold cellB at h
  split at h
  · have : _ = _ := eq_of_beq h; subst this; exact .bool _
  · rw [Bool.and_eq_true] at h
    have h1 := of_decide_eq_true h.1
    have h2 : _ = _ := eq_of_beq h.2
    subst h1; subst h2; exact .int _ _
  · rename_i s l
    have : s.data.toList = l := eq_of_beq h
    subst this
    exact .str s.data.toList
  · exact .nilp
  · rw [Bool.and_eq_true] at h
    have h1 : _ = _ := eq_of_beq h.1
    have h2 : _ = _ := eq_of_beq h.2
    subst h1; subst h2; exact .nils
  · exact .nilm
  · exact .nilf
  · cases h

theorem cellsB_rep : ∀ (vs : List Value) (ds : List D), cellsB vs ds = true → vs.length = ds.length ∧ ∀ (i : Nat) (d : D), ds[i]? = some d → ∃ x, vs[i]? = some x ∧ ∀ m w, DRep m w d x
  | [], [], _ => ⟨rfl, by simp⟩
  | [], _ :: _, h => by cases h
  | _ :: _, [], h => by cases h
  | v :: vs, d :: ds, h => by
    simp only [cellsB, Bool.and_eq_true] at h
    obtain ⟨h1, h2⟩ := cellsB_rep vs ds h.2
    refine ⟨by simp [h1], fun i e he => ?_⟩
    cases i with
    | zero => simp at he; subst he; exact ⟨v, rfl, fun m w => cellB_rep h.1 m w⟩
    | succ i => simpa using h2 i e (by simpa using he)

def aggB : Value → Bool
  | .agg _ => true
  | _ => false

def fieldsB (P : Program) : List Field → List (Nat × Nat) → Bool
  | [], [] => true
  | f :: r, p :: q => f.offset == p.1 && f.type == p.2 && (P.info? f.type).isSome && fieldsB P r q
  | _, _ => false

theorem fieldsB_spec (P : Program) : ∀ (l : List Field) (fs : List (Nat × Nat)), fieldsB P l fs = true → l.map (fun f => (f.offset, f.type)) = fs ∧ ∀ f ∈ l, (P.info? f.type).isSome = true
  | [], [], _ => ⟨rfl, by simp⟩
  | [], _ :: _, h => by cases h
  | _ :: _, [], h => by cases h
  | f :: r, p :: q, h => by
    simp only [fieldsB, Bool.and_eq_true, beq_iff_eq] at h
    obtain ⟨⟨⟨h1, h2⟩, h3⟩, h4⟩ := h
    obtain ⟨k1, k2⟩ := fieldsB_spec P r q h4
    refine ⟨by simp [k1, h1, h2], fun g hg => ?_⟩
    cases hg with
    | head => exact h3
    | tail _ hg => exact k2 g hg

def descB (P : Program) (t : Nat) (ty : Ty) : Bool :=
  match P.underlying t, ty with
  | some .bool, .bool => true
  | some (.int k), .int k' => decide (k = k')
  | some .string, .str => true
  | some (.pointer _), .ptr => true
  | some (.func _ _ _), .fn => true
  | some (.slice e), .sl e' => e == e'
  | some (.array n e), .arr n' e' => n == n' && e == e'
  | some (.struct fields), .st fs => fieldsB P fields.toList fs
  | some (.map k e), .mp k' e' => k == k' && e == e' && (match P.underlying k with | some .string => true | _ => false)
  | _, _ => false

theorem descB_spec {P : Program} {t : Nat} {ty : Ty} (h : descB P t ty = true) : TyDesc P t ty := by
  unfold descB at h
  split at h
  · rename_i hu; exact hu
  · rename_i k k' hu; have := of_decide_eq_true h; subst this; exact hu
  · rename_i hu; exact hu
  · rename_i e hu; exact ⟨e, hu⟩
  · rename_i a b c hu; exact ⟨a, b, c, hu⟩
  · rename_i e e' hu; have : _ = _ := eq_of_beq h; subst this; exact hu
  · rename_i n e n' e' hu
    rw [Bool.and_eq_true] at h
    have h1 : _ = _ := eq_of_beq h.1
    have h2 : _ = _ := eq_of_beq h.2
    subst h1; subst h2; exact hu
  · rename_i fields fs hu
    obtain ⟨h1, h2⟩ := fieldsB_spec P _ _ h
    exact ⟨fields, hu, h1, h2⟩
  · rename_i k e k' e' hu
    simp only [Bool.and_eq_true] at h
    obtain ⟨⟨h1, h2⟩, h3⟩ := h
    have h1 : _ = _ := eq_of_beq h1
    have h2 : _ = _ := eq_of_beq h2
    subst h1; subst h2
    refine ⟨hu, ?_⟩
    split at h3
    · assumption
    · cases h3
  · cases h

def tyB (P : Program) (t : Nat) (ti : TI) : Bool :=
  match P.info? t with
  | some i => match i.zero with
    | some z => i.size == ti.size && decide (i.bytes ≤ 4096) && decide (0 < i.bytes) && cellsB z.cells.toList ti.zero && (aggB z == ti.agg) && descB P t ti.ty && ti.zero.length == ti.size && (ti.agg || ti.size == 1)
    | none => false
  | none => false

theorem tyB_ok {P : Program} {t : Nat} {ti : TI} (h : tyB P t ti = true) : TyOk P t ti := by
  unfold tyB at h
  split at h
  · rename_i i hi
    split at h
    · rename_i z hz
      simp only [Bool.and_eq_true, beq_iff_eq, decide_eq_true_eq] at h
      obtain ⟨⟨⟨⟨⟨⟨⟨h1, h2⟩, h3⟩, h4⟩, h5⟩, h6⟩, h7⟩, h8⟩ := h
      obtain ⟨k1, k2⟩ := cellsB_rep _ _ h4
      refine ⟨⟨i, z, hi, h1, hz, h2, h3, by simpa using k1, fun j d hd => ?_, fun ha => ?_, fun ha us he => ?_⟩, descB_spec h6, h7, fun ha => ?_⟩
      · obtain ⟨x, q1, q2⟩ := k2 j d hd
        exact ⟨x, by simpa using q1, q2⟩
      · rw [ha] at h5
        cases z <;> simp [aggB] at h5
        exact ⟨_, rfl⟩
      · subst he
        rw [ha] at h5
        simp [aggB] at h5
      · rw [ha] at h8
        simpa using h8
    · cases h
  · cases h

/-- A table as a list. -/
def tabOf (l : List (Option TI)) : Tabl := fun t => (l[t]?).join

def tabB (P : Program) : List (Option TI) → Nat → Bool
  | [], _ => true
  | none :: r, t => tabB P r (t + 1)
  | some ti :: r, t => tyB P t ti && tabB P r (t + 1)

theorem tabB_spec (P : Program) : ∀ (l : List (Option TI)) (t : Nat), tabB P l t = true → ∀ (j : Nat) (ti : TI), l[j]? = some (some ti) → tyB P (t + j) ti = true
  | [], _, _, _, _, h => by simp at h
  | x :: r, t, hb, j, ti, h => by
    cases j with
    | zero =>
      simp at h
      subst h
      simp only [tabB, Bool.and_eq_true] at hb
      exact hb.1
    | succ j =>
      have : tabB P r (t + 1) = true := by
        cases x with
        | none => exact hb
        | some y => simp only [tabB, Bool.and_eq_true] at hb; exact hb.2
      have := tabB_spec P r (t + 1) this j ti (by simpa using h)
      rw [show t + (j + 1) = t + 1 + j by omega]
      exact this

theorem tabOf_ok {P : Program} {l : List (Option TI)} (h : tabB P l 0 = true) : TabOk P (tabOf l) := by
  intro t ti ht
  unfold tabOf at ht
  cases hq : l[t]? with
  | none => rw [hq] at ht; cases ht
  | some x =>
    rw [hq] at ht
    simp at ht
    subst ht
    have := tabB_spec P l 0 h t ti hq
    rw [Nat.zero_add] at this
    exact tyB_ok this

end Go.Ev
