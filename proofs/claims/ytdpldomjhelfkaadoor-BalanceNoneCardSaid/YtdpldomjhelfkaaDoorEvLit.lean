/- Literals: structs, arrays, slices. -/
import Derived.Test.YtdpldomjhelfkaaDoorEvMem
set_option linter.unusedVariables false
set_option linter.unusedSimpArgs false
namespace Go.Ev
open Go

def layAt (off : Nat) (l : List Value) (k : Nat) (cs : Array Value) : Array Value := (l.zipIdx k).foldl (fun cs p => cs.setIfInBounds (off + p.2) p.1) cs

theorem layAt_size (off : Nat) : ∀ (l : List Value) (k : Nat) (cs : Array Value), (layAt off l k cs).size = cs.size
  | [], k, cs => rfl
  | x :: l, k, cs => by
    simp only [layAt, List.zipIdx_cons, List.foldl_cons]
    have := layAt_size off l (k + 1) (cs.setIfInBounds (off + k) x)
    simp only [layAt] at this
    rw [this]; simp

theorem layAt_get (off : Nat) : ∀ (l : List Value) (k : Nat) (cs : Array Value) (i : Nat), off + k + l.length ≤ cs.size →
    (layAt off l k cs)[i]? = if off + k ≤ i ∧ i < off + k + l.length then l[i - (off + k)]? else cs[i]?
  | [], k, cs, i, _ => by simp [layAt]; omega
  | x :: l, k, cs, i, h => by
    simp only [layAt, List.zipIdx_cons, List.foldl_cons]
    have ih := layAt_get off l (k + 1) (cs.setIfInBounds (off + k) x) i (by simp at h ⊢; omega)
    simp only [layAt] at ih
    rw [ih]
    simp only [List.length_cons] at h ⊢
    by_cases h1 : i = off + k
    · subst h1
      rw [if_neg (by omega), if_pos (by omega), Array.getElem?_setIfInBounds_self_of_lt (by omega)]
      simp
    · by_cases h2 : off + (k + 1) ≤ i ∧ i < off + (k + 1) + l.length
      · rw [if_pos h2, if_pos (by omega)]
        rw [show i - (off + k) = (i - (off + (k + 1))) + 1 by omega, List.getElem?_cons_succ]
      · rw [if_neg h2, if_neg (by omega), Array.getElem?_setIfInBounds_ne (by omega)]

theorem lay_eq (vs : Array Value) (off : Nat) (cs : Array Value) : vs.zipIdx.foldl (fun cs (c, j) => cs.setIfInBounds (off + j) c) cs = layAt off vs.toList 0 cs := by
  rw [← Array.foldl_toList]
  simp [layAt, Array.toList_zipIdx]

theorem overlay_get (base v : List D) (off i : Nat) (h : off + v.length ≤ base.length) : (overlay base off v)[i]? = if off ≤ i ∧ i < off + v.length then v[i - off]? else base[i]? := by
  unfold overlay
  by_cases h1 : i < off
  · rw [if_neg (by omega), List.append_assoc, List.getElem?_append_left (by simp; omega), List.getElem?_take, if_pos h1]
  · by_cases h2 : i < off + v.length
    · rw [if_pos (by omega), List.append_assoc, List.getElem?_append_right (by simp; omega), List.getElem?_append_left (by simp; omega)]
      congr 1
      simp; omega
    · rw [if_neg (by omega), List.append_assoc, List.getElem?_append_right (by simp; omega), List.getElem?_append_right (by simp; omega), List.getElem?_drop]
      congr 1
      simp; omega

theorem overlay_length (base v : List D) (off : Nat) (h : off + v.length ≤ base.length) : (overlay base off v).length = base.length := by
  unfold overlay; simp; omega

theorem DRep.one {m : M} {w : World} {d : D} {x : Value} (h : DRep m w d x) : x.oneCell' = true := by cases h <;> rfl
theorem DRep.cells1 {m : M} {w : World} {d : D} {x : Value} (h : DRep m w d x) : x.cells = #[x] := by cases h <;> rfl

section
variable {P : Program} {T : Tabl} {B : Base} {E : Env} {S : St} {a : Array Value} {w w' : World}

theorem ARep.lay {m : M} {base v : List D} {cs us : Array Value} {off : Nat} (h : ARep m w base cs) (hv : ARep m w v us) (hl : off + v.length ≤ base.length) :
    ARep m w (overlay base off v) (layAt off us.toList 0 cs) := by
  have hs : us.toList.length = v.length := by rw [Array.length_toList]; exact hv.1
  refine ⟨by rw [layAt_size, overlay_length _ _ _ hl]; exact h.1, fun i d hd => ?_⟩
  rw [overlay_get _ _ _ _ hl] at hd
  rw [layAt_get _ _ _ _ _ (by rw [hs, h.1]; omega)]
  split at hd
  · rename_i hi
    rw [if_pos (by rw [hs]; omega)]
    obtain ⟨x, h1, h2⟩ := hv.2 _ _ hd
    exact ⟨x, by simpa using h1, h2⟩
  · rename_i hi
    rw [if_neg (by rw [hs]; omega)]
    exact h.2 _ _ hd

theorem C.toD_rep {c : C} {d : D} {X : Value} (h : CRep E w c X) (hd : c.toD = some d) : DRep E.m w d X := by
  cases c <;> simp only [C.toD] at hd <;> cases hd <;> exact h

theorem dcells_rep {v : V} {ds : List D} {X : Value} (h : VRep E w v X) (hd : v.dcells = some ds) : ARep E.m w ds X.cells := by
  cases v with
  | t ws => cases hd
  | w x => cases x with
    | c c =>
      simp only [V.dcells] at hd
      obtain ⟨d, h1, rfl⟩ := Option.map_eq_some_iff.1 hd
      have hr : DRep E.m w d X := C.toD_rep h h1
      rw [hr.cells1]
      exact ⟨rfl, fun i x hx => by cases i with | zero => simp at hx; subst hx; exact ⟨X, rfl, hr⟩ | succ i => simp at hx⟩
    | a cs =>
      simp only [V.dcells] at hd
      cases hd
      obtain ⟨us, rfl, hu⟩ := h
      exact hu

/-- The parts of a literal, abstract and concrete. -/
def Parts (E : Env) (w : World) : List (Nat × Option (List D)) → List (Nat × Value) → Prop
  | [], [] => True
  | (i, d) :: r, (j, X) :: r' => i = j ∧ (∀ ds, d = some ds → ARep E.m w ds X.cells) ∧ Parts E w r r'
  | _, _ => False

theorem fillD_sound (pd place : Nat → Option (Nat × Nat)) (hpd : ∀ i x, pd i = some x → place i = some x) : ∀ (ps : List (Nat × Option (List D))) (qs : List (Nat × Value)) (base ds : List D) (cs : Array Value), Parts E w ps qs → ARep E.m w base cs → fillD pd base ps = some ds →
    ∃ cs', Instr.fill place cs qs = some cs' ∧ ARep E.m w ds cs' ∧ ds.length = base.length
  | [], [], base, ds, cs, _, hb, h => by cases h; exact ⟨cs, rfl, hb, rfl⟩
  | [], _ :: _, _, _, _, hp, _, _ => hp.elim
  | (_, _) :: _, [], _, _, _, hp, _, _ => hp.elim
  | (i, d) :: r, (j, X) :: r', base, ds, cs, hp, hb, h => by
    obtain ⟨rfl, hd, hp'⟩ := hp
    simp only [fillD] at h
    split at h
    · rename_i off n v hpl
      split at h
      · rename_i hle
        obtain ⟨hn, hle⟩ := hle
        have hv := hd v rfl
        have hsz : X.cells.size = n := by rw [hv.1, hn]
        have hl := ARep.lay (off := off) hb hv (by rw [hn]; exact hle)
        obtain ⟨cs', h1, h2, h3⟩ := fillD_sound pd place hpd r r' _ ds _ hp' hl h
        refine ⟨cs', ?_, h2, by rw [h3, overlay_length]; rw [hn]; exact hle⟩
        simp only [Instr.fill, hpd _ _ hpl]
        rw [if_neg (by rw [hsz, hb.1]; simp; omega), lay_eq]
        exact h1
      · cases h
    · cases h

theorem Rel.parts (ps : List (Nat × Operand)) (ρ : Operand → V) (ev : Operand → Value) (h : ∀ x, VRep E w (ρ x) (ev x)) :
    Parts E w (ps.map fun p => (p.1, (ρ p.2).dcells)) (ps.map fun p => (p.1, ev p.2)) := by
  induction ps with
  | nil => trivial
  | cons p r ih => exact ⟨rfl, fun ds hd => dcells_rep (h p.2) hd, ih⟩

theorem zrep_arep {ti : TI} {z : Value} (hz : ZRep ti z) (m : M) (w : World) : ARep m w ti.zero z.cells :=
  ⟨hz.1, fun i d hd => let ⟨x, h1, h2⟩ := hz.2.1 i d hd; ⟨x, h1, h2 m w⟩⟩

theorem run_places (w : World) : ∀ (l : List Field), (∀ f ∈ l, (P.info? f.type).isSome = true) →
    (l.mapM fun f => (do pure (f.offset, ← sizeOf f.type) : Sem (Nat × Nat))).run P w = .ok (l.map fun f => (f.offset, P.cellsOf f.type)) w
  | [], _ => by simp
  | f :: l, h => by
    have ih := run_places w l fun g hg => h g (by simp [hg])
    obtain ⟨i, hi⟩ := Option.isSome_iff_exists.1 (h f (by simp))
    rw [List.mapM_cons]
    simp only [Sem.run_bind, run_sizeOf w hi, Result.andThen_ok, Sem.run_pure, ih, List.map_cons]

theorem buildV_sound (hT : TabOk P T) {t : Nat} {ps : List (Nat × Option (List D))} {qs : Array (Nat × Value)} {v : V} (hp : Parts E w ps qs.toList) (h : buildV T t ps = some v) :
    ∃ z, (Instr.build t qs).run P w = .ok z w ∧ VRep E w v z ∧ NoOwn v := by
  unfold buildV at h
  split at h
  · rename_i ti hti
    have hk := hT _ _ hti
    obtain ⟨z, hz, hzr⟩ := hk.zero (P := P) w
    have hza := zrep_arep hzr E.m w
    split at h
    · rename_i fs hfs
      have u1 := hk.und
      rw [hfs] at u1
      obtain ⟨fields, u1, u2, u3⟩ := u1
      obtain ⟨ds, h1, rfl⟩ := Option.map_eq_some_iff.1 h
      have hrun := run_places (P := P) w fields.toList u3
      have hpl : ∀ i x, stPlace T fs i = some x → (fields.toList.map fun f => (f.offset, P.cellsOf f.type)).toArray[i]? = some x := by
        intro i x hx
        unfold stPlace at hx
        split at hx
        · rename_i off ft hf
          obtain ⟨te, hte, rfl⟩ := Option.map_eq_some_iff.1 hx
          rw [← u2, List.getElem?_map] at hf
          obtain ⟨F, h7, h8⟩ := Option.map_eq_some_iff.1 hf
          cases h8
          simp only [List.getElem?_toArray, List.getElem?_map, h7, Option.map_some]
          obtain ⟨i', z', g1, g2, _⟩ := (hT _ _ hte).info
          simp [Program.cellsOf, g1, g2]
        · cases hx
      obtain ⟨cs', h2, h3, _⟩ := fillD_sound _ (fun i => (fields.toList.map fun f => (f.offset, P.cellsOf f.type)).toArray[i]?) hpl _ _ _ _ _ hp hza h1
      refine ⟨.agg cs', ?_, ⟨_, rfl, h3⟩, .a _⟩
      simp only [Instr.build, Sem.run_bind, hz, Result.andThen_ok, run_underlying u1, Array.mapM_eq_mapM_toList, Sem.run_map, hrun, h2, Sem.run_pure]
    · rename_i n e hfs
      have u1 := hk.und
      rw [hfs] at u1
      simp only [TyDesc] at u1
      split at h
      · rename_i te hte
        obtain ⟨ds, h1, rfl⟩ := Option.map_eq_some_iff.1 h
        obtain ⟨cs', h2, h3, _⟩ := fillD_sound _ _ (fun _ _ h => h) _ _ _ _ _ hp hza h1
        exact ⟨.agg cs', by simp [Instr.build, hz, run_underlying u1, (hT _ _ hte).sizeOf, h2], ⟨_, rfl, h3⟩, .a _⟩
      · cases h
    · cases h
  · cases h

end
end Go.Ev
