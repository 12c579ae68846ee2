/- Cuts, reads, literals. -/
import Derived.Test.YtdpldomjhelfkaaDoorEvVal2
set_option linter.unusedVariables false
set_option linter.unusedSimpArgs false
namespace Go.Ev
open Go

section
variable {P : Program} {T : Tabl} {B : Base} {E : Env} {S : St} {w : World}

def ORep (E : Env) (w : World) : Option V → Option Value → Prop
  | none, none => True
  | some x, some X => VRep E w x X
  | _, _ => False

theorem bnd_some {x : V} {X : Value} {d n : Nat} (hx : VRep E w x X) (h : bnd (some x) d = some n) : ∃ k i, X = .int k i ∧ 0 ≤ i ∧ i.toNat = n := by
  unfold bnd at h
  split at h
  · cases ‹some x = none›
  · rename_i k i he
    cases he
    cases hx
    split at h
    · rename_i h0; cases h; exact ⟨_, _, rfl, h0, rfl⟩
    · cases h
  · cases h

theorem bnd_dflt (z : V) (d d' : Nat) : bnd (some z) d = bnd (some z) d' := by
  cases z with
  | t ws => rfl
  | w x => cases x with
    | a _ => rfl
    | c c => cases c with
      | d d => cases d <;> rfl
      | _ => rfl

/-- The three bounds of a cut. -/
theorem bounds_sound {lo hi mx : Option V} {Lo Hi Mx : Option Value} (hlo : ORep E w lo Lo) (hhi : ORep E w hi Hi) (hmx : ORep E w mx Mx) (isS : Bool) {len cap l h m : Nat}
    (h1 : bnd lo 0 = some l) (h2 : bnd hi len = some h) (h3 : bnd mx cap = some m) (hn : mx.isSome = true → hi.isSome = true) (hlh : l ≤ h) (hhm : h ≤ m) (hmc : m ≤ cap) :
    (Instr.sliceBounds isS len cap Lo Hi Mx).run P w = .ok (l, h, m) w := by
  have b : ∀ (x : V) (X : Value) (d n y : Nat) (c : BoundsCode), VRep E w x X → bnd (some x) d = some n → n ≤ y → (Instr.sliceBound X y c).run P w = .ok n w := by
    intro x X d n y c hx hb hy
    obtain ⟨k, i, rfl, h0, rfl⟩ := bnd_some hx hb
    have : 0 ≤ i ∧ i ≤ (y : Int) := by omega
    simp [Instr.sliceBound, asIntOf, this]
  cases mx with
  | none =>
    cases Mx with
    | some _ => exact hmx.elim
    | none =>
      simp only [bnd, Option.some.injEq] at h3
      subst h3
      cases hi with
      | none =>
        cases Hi with
        | some _ => exact hhi.elim
        | none =>
          simp only [bnd, Option.some.injEq] at h2
          subst h2
          cases lo with
          | none =>
            cases Lo with
            | some _ => exact hlo.elim
            | none =>
              simp only [bnd, Option.some.injEq] at h1
              subst h1
              simp [Instr.sliceBounds]
          | some x =>
            cases Lo with
            | none => exact hlo.elim
            | some X => simp [Instr.sliceBounds, b x X 0 l len _ hlo h1 hlh]
      | some y =>
        cases Hi with
        | none => exact hhi.elim
        | some Y =>
          cases lo with
          | none =>
            cases Lo with
            | some _ => exact hlo.elim
            | none =>
              simp only [bnd, Option.some.injEq] at h1
              subst h1
              simp [Instr.sliceBounds, b y Y len h cap _ hhi h2 hhm]
          | some x =>
            cases Lo with
            | none => exact hlo.elim
            | some X => simp [Instr.sliceBounds, b y Y len h cap _ hhi h2 hhm, b x X 0 l h _ hlo h1 hlh]
  | some z =>
    cases Mx with
    | none => exact hmx.elim
    | some Z =>
      cases hi with
      | none => cases hn rfl
      | some y =>
        cases Hi with
        | none => exact hhi.elim
        | some Y =>
          cases lo with
          | none =>
            cases Lo with
            | some _ => exact hlo.elim
            | none =>
              simp only [bnd, Option.some.injEq] at h1
              subst h1
              simp [Instr.sliceBounds, b z Z cap m cap _ hmx h3 hmc, b y Y len h m _ hhi h2 hhm]
          | some x =>
            cases Lo with
            | none => exact hlo.elim
            | some X => simp [Instr.sliceBounds, b z Z cap m cap _ hmx h3 hmc, b y Y len h m _ hhi h2 hhm, b x X 0 l h _ hlo h1 hlh]

theorem DRep.cut {m : M} {full : Bool} {sz : Nat} {rows : List (List D)} {b off n cap : Nat} (h : DRep m w (.sl full sz rows) (.slice (some ⟨b, off, none⟩) n cap))
    (l k c : Nat) (hlk : l ≤ k) (hk : k ≤ rows.length) (hkc : k ≤ c) (hc : c ≤ cap) (full' : Bool) (hf : full' = true → c = k) :
    DRep m w (.sl full' sz ((rows.take k).drop l)) (.slice (if c = l then some ⟨b, off, none⟩ else some (Addr.add ⟨b, off, none⟩ (l * sz))) (k - l) (c - l)) := by
  cases h with
  | sl0 full sz =>
    obtain rfl : c = 0 := by omega
    obtain rfl : k = 0 := by omega
    obtain rfl : l = 0 := by omega
    exact .sl0 _ _ _
  | sl full sz rows b off cap lim arr e fr val him hlim hb hcap hfull hsz hval hrep =>
    have hn : ((rows.take k).drop l).length = k - l := by simp; omega
    have hget : ∀ i (r : List D), ((rows.take k).drop l)[i]? = some r → rows[l + i]? = some r ∧ l + i < k := by
      intro i r hr
      rw [List.getElem?_drop, List.getElem?_take] at hr
      split at hr
      · exact ⟨hr, by assumption⟩
      · cases hr
    by_cases hcl : c = l
    · subst hcl
      have hkl : k = c := by omega
      subst hkl
      rw [if_pos rfl]
      have he : (rows.take k).drop k = [] := List.drop_eq_nil_of_le (by simp; omega)
      rw [he]
      have := DRep.sl (m := m) (w := w) full' sz [] b off 0 lim arr e fr val him (by simp; omega) hb (by simp) (by simp) (by simp) (by simp) (by simp)
      simpa using this
    · rw [if_neg hcl, addr_add]
      have hks : k * sz ≤ rows.length * sz := Nat.mul_le_mul_right _ hk
      have hls : (k - l) * sz + l * sz = k * sz := by rw [← Nat.add_mul]; congr 1; omega
      have := DRep.sl (m := m) (w := w) full' sz ((rows.take k).drop l) b (off + l * sz) (c - l) lim arr e fr (fun i j => val (l + i) j) him (by rw [hn]; omega) hb (by rw [hn]; omega) (fun e => by rw [hn]; have := hf e; omega)
        (fun i r hr => hsz _ _ (hget i r hr).1) (fun i j r x hr hx => by
          have := hval _ _ _ _ (hget i r hr).1 hx
          rw [Nat.add_mul] at this
          rw [show off + l * sz + i * sz + j = off + (l * sz + i * sz) + j by omega]
          exact this) (fun i j r x hr hx => hrep _ _ _ _ (hget i r hr).1 hx)
      rwa [hn] at this

theorem sliceV_sound (hT : TabOk P T) {t : Nat} {x v : V} {lo hi mx : Option V} {X : Value} {Lo Hi Mx : Option Value} (hx : VRep E w x X) (hlo : ORep E w lo Lo) (hhi : ORep E w hi Hi) (hmx : ORep E w mx Mx)
    (h : sliceV T t x lo hi mx = some v) : ∃ z, (Instr.sliceAt t X Lo Hi Mx).run P w = .ok z w ∧ VRep E w v z ∧ NoOwn v := by
  unfold sliceV at h
  split at h
  · -- a string
    rename_i s h1
    cases hx
    obtain ⟨ti, h3, h4⟩ := Option.map_eq_some_iff.1 h1
    have u1 := (hT _ _ h3).und
    rw [h4] at u1
    simp only [TyDesc] at u1
    split at h
    · rename_i l k hl hk
      split at h
      · rename_i hb
        cases h
        have hmx' : Mx = none := by cases Mx with | none => rfl | some _ => exact hmx.elim
        subst hmx'
        have := bounds_sound (P := P) (mx := none) (Mx := none) hlo hhi trivial false (len := s.length) (cap := s.length) (m := s.length) hl hk rfl (by simp) hb.1 hb.2 (Nat.le_refl _)
        refine ⟨.string (ByteArray.mk ((s.take k).drop l).toArray), ?_, .str _, .d _⟩
        simp [Instr.sliceAt, Instr.slice, run_underlying u1, str_size, this, bytes_extract]
      · cases h
    · cases h
  · -- nil
    rename_i e h1
    cases hx
    obtain ⟨ti, h3, h4⟩ := Option.map_eq_some_iff.1 h1
    have u1 := (hT _ _ h3).und
    rw [h4] at u1
    simp only [TyDesc] at u1
    split at h
    · rename_i te hte hl hk hm
      split at h
      · cases h
      · rename_i hn
        cases h
        have := bounds_sound (P := P) hlo hhi hmx true (len := 0) (cap := 0) hl hk hm (by
          intro hs
          cases hi with
          | none => simp [hs] at hn
          | some _ => rfl) (Nat.le_refl _) (Nat.le_refl _) (Nat.le_refl _)
        refine ⟨.slice none 0 0, ?_, .nils, .d _⟩
        simp [Instr.sliceAt, Instr.slice, run_underlying u1, this, (hT _ _ hte).sizeOf]
    · cases h
  · rename_i full sz rows e h1
    obtain ⟨ti, h3, h4⟩ := Option.map_eq_some_iff.1 h1
    have u1 := (hT _ _ h3).und
    rw [h4] at u1
    simp only [TyDesc] at u1
    split at h
    · rename_i te hte
      split at h
      · rename_i hsz
        subst hsz
        split at h
        · rename_i l k m hl hk hm
          split at h
          · rename_i hb
            obtain ⟨hb1, hb2, hb3⟩ := hb
            have hx' := hx
            cases hx' with
            | sl0 full' sz' a0 =>
              obtain rfl : m = 0 := by simp at hb3; omega
              obtain rfl : k = 0 := by omega
              obtain rfl : l = 0 := by omega
              split at h
              · rename_i hms
                split at h
                · rename_i his
                  cases h
                  have hr := bounds_sound (P := P) hlo hhi hmx true (len := 0) (cap := 0) hl hk hm (fun _ => his) (Nat.le_refl _) (Nat.le_refl _) (Nat.le_refl _)
                  exact ⟨.slice (some a0) 0 0, by simp [Instr.sliceAt, Instr.slice, run_underlying u1, hr, (hT _ _ hte).sizeOf], .sl0 _ _ _, .d _⟩
                · cases h
              · rename_i hms
                cases h
                have hmx0 : mx = none := by cases mx with | none => rfl | some _ => simp at hms
                subst hmx0
                have hr := bounds_sound (P := P) hlo hhi hmx true (len := 0) (cap := 0) hl hk hm (by simp) (Nat.le_refl _) (Nat.le_refl _) (Nat.le_refl _)
                exact ⟨.slice (some a0) 0 0, by simp [Instr.sliceAt, Instr.slice, run_underlying u1, hr, (hT _ _ hte).sizeOf], .sl0 _ _ _, .d _⟩
            | sl full' sz' rows' b off cap lim arr e' fr val him hlim hbk hcap hfull hsz' hval hrep =>
              split at h
              · rename_i hms
                split at h
                · rename_i his
                  cases h
                  have hmb : bnd mx cap = some m := by
                    cases mx with
                    | none => cases hms
                    | some z => exact (bnd_dflt z _ _).trans hm
                  have hr := bounds_sound (P := P) hlo hhi hmx true (len := rows.length) (cap := cap) hl hk hmb (fun _ => his) hb1 hb2 (by omega)
                  refine ⟨_, ?_, DRep.cut hx l k m hb1 (by omega) hb2 (by omega) _ (fun e => by simp at e; exact e.symm), .d _⟩
                  simp [Instr.sliceAt, Instr.slice, run_underlying u1, hr, (hT _ _ hte).sizeOf]
                · cases h
              · rename_i hms
                cases h
                have hmx0 : mx = none := by cases mx with | none => rfl | some _ => simp at hms
                subst hmx0
                have hr := bounds_sound (P := P) hlo hhi hmx true (len := rows.length) (cap := cap) (m := cap) hl hk rfl (by simp) hb1 (by simp [bnd] at hm; omega) (Nat.le_refl _)
                refine ⟨_, ?_, DRep.cut hx l k cap hb1 (by omega) (by omega) (Nat.le_refl _) _ (fun e => ?_), .d _⟩
                · simp [Instr.sliceAt, Instr.slice, run_underlying u1, hr, (hT _ _ hte).sizeOf]
                · simp only [Bool.and_eq_true, beq_iff_eq] at e
                  have := hfull e.1
                  omega
          · cases h
        · cases h
      · cases h
    · cases h
  · cases h

end
end Go.Ev
