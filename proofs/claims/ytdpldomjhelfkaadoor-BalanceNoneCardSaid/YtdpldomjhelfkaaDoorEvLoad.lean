/- Reads of memory. -/
import Derived.Test.YtdpldomjhelfkaaDoorEvVal3
import Derived.Laws.Cells
import Derived.Laws.Rows
set_option linter.unusedVariables false
set_option linter.unusedSimpArgs false
namespace Go.Ev
open Go

theorem seqD_spec : ∀ (l : List C) (ds : List D), seqD l = some ds → ds.length = l.length ∧ ∀ (i : Nat) (d : D), ds[i]? = some d → ∃ c, l[i]? = some c ∧ c.toD = some d
  | [], ds, h => by cases h; exact ⟨rfl, by simp⟩
  | c :: r, ds, h => by
    unfold seqD at h
    split at h
    · rename_i d ds' h1 h2
      cases h
      obtain ⟨h3, h4⟩ := seqD_spec r ds' h2
      refine ⟨by simp [h3], fun i x hx => ?_⟩
      cases i with
      | zero => simp at hx; subst hx; exact ⟨c, rfl, h1⟩
      | succ i => simpa using h4 i x (by simpa using hx)
    · cases h

theorem PRep.toD {m : M} {w : World} {c : C} {x : Value} {d : D} (h : PRep m w c x) (hd : c.toD = some d) : DRep m w d x := by
  cases c <;> simp only [C.toD] at hd <;> cases hd <;> exact h
theorem PRep.er {E : Env} {w : World} {c : C} {x : Value} (h : PRep E.m w c x) : CRep E w c.er x ∧ NoOwn (vC c.er) := by
  refine ⟨by cases c <;> first | exact h | exact h.elim, ⟨fun sz rows he => C.er_ne c sz rows (by simpa using he), fun _ he => by simp at he⟩⟩

section
variable {P : Program} {T : Tabl} {B : Base} {E : Env} {S : St} {a : Array Value} {w : World}

theorem loadVar_agg (hT : TabOk P T) {t : Nat} {ti : TI} (ht : T t = some ti) (ha : ti.agg = true) (ad : Addr) (us : List Value) (hl : us.length = ti.size) (hc : ∀ (j : Nat) (v : Value), us[j]? = some v → w.cell? (ad.add j) = some v) :
    (loadVar t ad).run P w = .ok (.agg us.toArray) w := by
  have h1 := run_loadCells_list (P := P) w ad us hc
  rw [hl] at h1
  simp [loadVar, (hT t ti ht).isAgg, (hT t ti ht).sizeOf, ha, h1]

theorem loadVar_one (hT : TabOk P T) {t : Nat} {ti : TI} (ht : T t = some ti) (ha : ti.agg = false) (ad : Addr) (v : Value) (hc : w.cell? ad = some v) :
    (loadVar t ad).run P w = .ok v w := by
  simp [loadVar, (hT t ti ht).isAgg, ha, hc]

theorem ldOb_sound (hT : TabOk P T) {t : Nat} {ti : TI} (ht : T t = some ti) {o : Option Ob} {b off : Nat} {v : V} (ho : ∀ x, o = some x → ObRep E.m w b x)
    (h : ldOb o off ti.size ti.agg = some v) : ∃ z, (loadVar t ⟨b, off, none⟩).run P w = .ok z w ∧ VRep E w v z ∧ NoOwn v := by
  unfold ldOb at h
  split at h
  · rename_i l
    obtain ⟨arr, e, h1, h2, h3⟩ := ho _ rfl
    have cell : ∀ j, w.cell? ⟨b, j, none⟩ = arr[j]? := fun j => cell_of_row w b j arr e (0, 0) h1
    split at h
    · rename_i ha
      split at h
      · rename_i hle
        obtain ⟨ds, h4, rfl⟩ := Option.map_eq_some_iff.1 h
        obtain ⟨h5, h6⟩ := seqD_spec _ _ h4
        have hlen : ds.length = ti.size := by rw [h5]; simp; omega
        have hex : ∀ i d, ds[i]? = some d → ∃ x, arr[off + i]? = some x ∧ DRep E.m w d x := by
          intro i d hd
          obtain ⟨c, hc, hcd⟩ := h6 i d hd
          rw [List.getElem?_take] at hc
          split at hc
          · rw [List.getElem?_drop] at hc
            obtain ⟨x, hx, hp⟩ := h3 _ _ hc
            exact ⟨x, hx, hp.toD hcd⟩
          · cases hc
        have hsz : off + ti.size ≤ arr.size := by omega
        refine ⟨_, loadVar_agg hT ht ha ⟨b, off, none⟩ ((arr.toList.drop off).take ti.size) (by simp; omega) (fun j u hu => ?_), ⟨_, rfl, ?_, ?_⟩, .a _⟩
        · rw [addr_add, cell]
          rw [List.getElem?_take] at hu
          split at hu
          · rw [List.getElem?_drop] at hu; simpa using hu
          · cases hu
        · simp [hlen]; omega
        · intro i d hd
          obtain ⟨x, hx, hr⟩ := hex i d hd
          have hi : i < ds.length := (List.getElem?_eq_some_iff.1 hd).1
          refine ⟨x, ?_, hr⟩
          simp only [List.getElem?_toArray, List.getElem?_take, List.getElem?_drop, Array.getElem?_toList]
          rw [if_pos (by omega)]
          exact hx
      · cases h
    · rename_i ha
      obtain ⟨c, h4, rfl⟩ := Option.map_eq_some_iff.1 h
      obtain ⟨x, hx, hp⟩ := h3 _ _ h4
      exact ⟨x, loadVar_one hT ht (by simpa using ha) _ x (by rw [cell]; exact hx), hp.er.1, hp.er.2⟩
  · cases h

theorem Rel.obH (h : Rel B E S a w) {id b : Nat} (hb : E.ob id = some b) : ∀ x, S.H.getD id none = some x → ObRep E.m w b x := by
  intro x hx
  rw [List.getD_eq_getElem?_getD] at hx
  cases ho : S.H[id]? with
  | none => rw [ho] at hx; cases hx
  | some o =>
    rw [ho] at hx
    simp only [Option.getD_some] at hx
    subst hx
    obtain ⟨b', h1, h2, _⟩ := h.hr id x ho
    rw [hb] at h1
    cases h1
    exact h2
theorem Rel.obL (h : Rel B E S a w) {k b : Nat} (hb : E.lo k = some b) : ∀ x, S.L.getD k none = some x → ObRep E.m w b x := by
  intro x hx
  rw [List.getD_eq_getElem?_getD] at hx
  cases ho : S.L[k]? with
  | none => rw [ho] at hx; cases hx
  | some o =>
    rw [ho] at hx
    simp only [Option.getD_some] at hx
    subst hx
    obtain ⟨b', h1, h2, _⟩ := h.lr k x ho
    rw [hb] at h1
    cases h1
    exact h2

theorem ld_sound (hT : TabOk P T) (h : Rel B E S a w) {t lim : Nat} {ti : TI} (ht : T t = some ti) {p v : V} {X : Value} (hp : VRep E w p X) (hl : ld S lim p ti.size ti.agg = some v) :
    ∃ z, (Instr.loadAt t X).run P w = .ok z w ∧ VRep E w v z ∧ NoOwn v := by
  have go : ∀ ad, X = .pointer (some ad) → (Instr.loadAt t X).run P w = (loadVar t ad).run P w := by
    intro ad e; subst e; simp [Instr.loadAt, Instr.sureAddr]
  unfold ld at hl
  split at hl
  · rename_i cs
    cases hp with
    | imm cells b off lim' arr e fr val him hlim hb hval hrep =>
      rw [go _ rfl]
      have cell : ∀ j, w.cell? ⟨b, j, none⟩ = arr[j]? := fun j => cell_of_row w b j arr e fr hb
      split at hl
      · rename_i ha
        split at hl
        · rename_i hle
          cases hl
          refine ⟨_, loadVar_agg hT ht ha ⟨b, off, none⟩ ((List.range ti.size).map val) (by simp) (fun j u hu => ?_), ⟨_, rfl, by simp; omega, ?_⟩, .a _⟩
          · simp only [List.getElem?_map, Option.map_eq_some_iff] at hu
            obtain ⟨k, hk, rfl⟩ := hu
            obtain ⟨hk1, hk2⟩ := List.getElem?_eq_some_iff.1 hk
            simp at hk1 hk2
            subst hk2
            rw [addr_add, cell]
            have hjl : j < cs.length := by omega
            exact hval j cs[j] (List.getElem?_eq_getElem hjl)
          · intro i d hd
            rw [List.getElem?_take] at hd
            split at hd
            · rename_i hi
              refine ⟨val i, ?_, hrep i d hd⟩
              simp [hi]
            · cases hd
        · cases hl
      · rename_i ha
        obtain ⟨d, h4, rfl⟩ := Option.map_eq_some_iff.1 hl
        have := hval 0 d h4
        exact ⟨val 0, loadVar_one hT ht (by simpa using ha) _ _ (by rw [cell]; simpa using this), hrep 0 d h4, .d _⟩
  · rename_i id off
    obtain ⟨b, hb, rfl⟩ := hp
    rw [go _ rfl]
    exact ldOb_sound hT ht (h.obH hb) hl
  · rename_i k off
    obtain ⟨b, hb, rfl⟩ := hp
    rw [go _ rfl]
    split at hl
    · exact ldOb_sound hT ht (h.obL hb) hl
    · cases hl
  · cases hl

end
end Go.Ev
