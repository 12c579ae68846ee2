/- More operations that only compute or read. -/
import Derived.Test.YtdpldomjhelfkaaDoorEvVal
set_option linter.unusedVariables false
set_option linter.unusedSimpArgs false
namespace Go.Ev
open Go

theorem addr_add (b o n : Nat) : (⟨b, o, none⟩ : Addr).add n = ⟨b, o + n, none⟩ := by unfold Addr.add; split <;> simp_all

theorem bytes_get (l : List UInt8) (i : Nat) : (ByteArray.mk l.toArray)[i]? = l[i]? := by
  by_cases h : i < l.length
  · rw [ByteArray.getElem?_lt' _ _ (by simpa [ByteArray.size] using h), List.getElem?_eq_getElem h]
    rfl
  · rw [ByteArray.getElem?_ge' _ _ (by simpa [ByteArray.size] using h), List.getElem?_eq_none (by omega)]

theorem bytes_extract (l : List UInt8) (a b : Nat) : (ByteArray.mk l.toArray).extract a b = ByteArray.mk ((l.take b).drop a).toArray := by
  apply ByteArray.ext
  simp [ByteArray.data_extract, List.drop_take]

section
variable {P : Program} {T : Tabl} {B : Base} {E : Env} {S : St} {w : World}

theorem DRep.imm_drop {m : M} {cs : List D} {x : Value} (h : DRep m w (.imm cs) x) (n : Nat) (hn : n ≤ cs.length) : ∃ b o, x = .pointer (some ⟨b, o, none⟩) ∧ DRep m w (.imm (cs.drop n)) (.pointer (some ⟨b, o + n, none⟩)) := by
  cases h with
  | imm cells b off lim arr e fr val him hlim hb hval hrep =>
    refine ⟨b, off, rfl, .imm _ b (off + n) lim arr e fr (fun j => val (n + j)) him (by simp; omega) hb (fun j c hc => ?_) (fun j c hc => ?_)⟩
    · rw [List.getElem?_drop] at hc
      rw [Nat.add_assoc]
      exact hval _ _ hc
    · rw [List.getElem?_drop] at hc
      exact hrep _ _ hc

theorem convV_sound (hT : TabOk P T) {s t : Nat} {x v : V} {X : Value} (hx : VRep E w x X) (h : convV T s t x = some v) (hns : ∀ l, x ≠ vS l) :
    ∃ z, (convert s t X).run P w = .ok z w ∧ VRep E w v z ∧ NoOwn v := by
  unfold convV at h
  split at h
  · cases hx
    split at h
    · rename_i h1 h2
      obtain ⟨ti, h3, h4⟩ := Option.map_eq_some_iff.1 h1
      obtain ⟨tj, h5, h6⟩ := Option.map_eq_some_iff.1 h2
      have u1 := (hT _ _ h3).und
      have u2 := (hT _ _ h5).und
      rw [h4] at u1; rw [h6] at u2
      simp only [TyDesc] at u1 u2
      cases h
      exact ⟨.int _ _, by simp only [convert, Sem.run_bind, run_underlying u1, run_underlying u2, Result.andThen_ok, Conv.intToInt, Sem.run_pure], .int _ _, .d _⟩
    · cases h
  · exact absurd rfl (hns _)
  · cases h

/-- A part of a struct or an array. -/
theorem part_sound (hT : TabOk P T) {t : Nat} {ti : TI} (ht : T t = some ti) {cs : List D} {us : Array Value} (hu : ARep E.m w cs us) {off : Nat} {v : V}
    (h : (if ti.agg then (if off + ti.size ≤ cs.length then some (vA ((cs.drop off).take ti.size)) else none) else (cs[off]?).map vD) = some v) :
    ∃ z, (part t us off).run P w = .ok z w ∧ VRep E w v z ∧ NoOwn v := by
  have hk := hT t ti ht
  split at h
  · rename_i ha
    split at h
    · rename_i hl
      cases h
      refine ⟨.agg (us.extract off (off + ti.size)), by simp [part, hk.isAgg, hk.sizeOf, ha], ⟨_, rfl, ?_, ?_⟩, .a _⟩
      · simp only [Array.size_extract, List.length_take, List.length_drop, hu.1]; omega
      · intro i d hd
        rw [List.getElem?_take] at hd
        split at hd
        · rename_i hi
          rw [List.getElem?_drop] at hd
          obtain ⟨x, h1, h2⟩ := hu.2 _ _ hd
          refine ⟨x, ?_, h2⟩
          have hb : off + i < us.size := (Array.getElem?_eq_some_iff.1 h1).1
          rw [Array.getElem?_extract, if_pos (by omega)]
          exact h1
        · cases hd
    · cases h
  · rename_i ha
    obtain ⟨d, h1, rfl⟩ := Option.map_eq_some_iff.1 h
    obtain ⟨x, h2, h3⟩ := hu.2 _ _ h1
    exact ⟨x, by simp [part, hk.isAgg, ha, h2], h3, .d _⟩

theorem fieldV_sound (hT : TabOk P T) {t f : Nat} {x v : V} {X : Value} (hx : VRep E w x X) (h : fieldV T t x f = some v) :
    ∃ z, (Instr.field t X f).run P w = .ok z w ∧ VRep E w v z ∧ NoOwn v := by
  unfold fieldV at h
  split at h
  · rename_i cs fs h1
    obtain ⟨us, rfl, hu⟩ := hx
    obtain ⟨ti, h3, h4⟩ := Option.map_eq_some_iff.1 h1
    have u1 := (hT _ _ h3).und
    rw [h4] at u1
    obtain ⟨fields, u1, u2, _⟩ := u1
    split at h
    · rename_i off ft hf
      split at h
      · rename_i i hi
        obtain ⟨z, h5, h6⟩ := part_sound hT hi hu h
        have hff : ∃ F : Field, fields[f]? = some F ∧ F.offset = off ∧ F.type = ft := by
          rw [← u2, List.getElem?_map] at hf
          obtain ⟨F, h7, h8⟩ := Option.map_eq_some_iff.1 hf
          exact ⟨F, by simpa using h7, by cases h8; exact ⟨rfl, rfl⟩⟩
        obtain ⟨F, h7, rfl, rfl⟩ := hff
        refine ⟨z, ?_, h6⟩
        simp only [Instr.field, Sem.run_bind, run_underlying u1, Result.andThen_ok, h7, asAgg, Sem.run_pure]
        exact h5
      · cases h
    · cases h
  · cases h

theorem fieldAddrV_sound (hT : TabOk P T) {t f : Nat} {x v : V} {X : Value} (hx : VRep E w x X) (h : fieldAddrV T t x f = some v) :
    ∃ z, (Instr.fieldAt t X f).run P w = .ok z w ∧ VRep E w v z ∧ NoOwn v := by
  unfold fieldAddrV at h
  split at h
  · rename_i fs h1
    obtain ⟨ti, h3, h4⟩ := Option.map_eq_some_iff.1 h1
    have u1 := (hT _ _ h3).und
    rw [h4] at u1
    obtain ⟨fields, u1, u2, _⟩ := u1
    split at h
    · rename_i off ft hf
      split at h
      · rename_i i hi
        have hff : ∃ F : Field, fields[f]? = some F ∧ F.offset = off ∧ F.type = ft := by
          rw [← u2, List.getElem?_map] at hf
          obtain ⟨F, h7, h8⟩ := Option.map_eq_some_iff.1 hf
          exact ⟨F, by simpa using h7, by cases h8; exact ⟨rfl, rfl⟩⟩
        obtain ⟨F, h7, rfl, rfl⟩ := hff
        have hs := (hT _ _ hi).sizeOf (P := P)
        split at h
        · cases h
        · rename_i hz
          have run : ∀ b o, (Instr.fieldAt t (.pointer (some ⟨b, o, none⟩)) f).run P w = .ok (.pointer (some ⟨b, o + F.offset, none⟩)) w := by
            intro b o
            simp [Instr.fieldAt, run_underlying u1, h7, Instr.sureAddr, fieldPlace, hs, hz, addr_add]
          split at h
          · rename_i id o
            cases h
            obtain ⟨b, h8, rfl⟩ := hx
            exact ⟨_, run b o, ⟨b, h8, rfl⟩, ⟨fun _ _ h => by simp at h, fun _ h => by simp at h⟩⟩
          · rename_i k o
            cases h
            obtain ⟨b, h8, rfl⟩ := hx
            exact ⟨_, run b o, ⟨b, h8, rfl⟩, ⟨fun _ _ h => by simp at h, fun _ h => by simp at h⟩⟩
          · split at h
            · rename_i cs hle
              cases h
              obtain ⟨b, o, rfl, h9⟩ := DRep.imm_drop hx _ hle
              exact ⟨_, run b o, h9, .d _⟩
            · cases h
          · cases h
      · cases h
    · cases h
  · cases h

theorem indexV_sound (hT : TabOk P T) {t : Nat} {x ix v : V} {X I : Value} (hx : VRep E w x X) (hi : VRep E w ix I) (h : indexV T t x ix = some v) :
    ∃ z, (Instr.index t X I).run P w = .ok z w ∧ VRep E w v z ∧ NoOwn v := by
  unfold indexV at h
  split at h
  · rename_i s k i h1
    cases hx; cases hi
    obtain ⟨ti, h3, h4⟩ := Option.map_eq_some_iff.1 h1
    have u1 := (hT _ _ h3).und
    rw [h4] at u1
    simp only [TyDesc] at u1
    split at h
    · rename_i h0
      obtain ⟨b, h5, rfl⟩ := Option.map_eq_some_iff.1 h
      exact ⟨.int .u8 b.toNat, by simp [Instr.index, asIntOf, run_underlying u1, h0, bytes_get, h5], .int _ _, .d _⟩
    · cases h
  · rename_i cs k i n e h1
    cases hi
    obtain ⟨us, rfl, hu⟩ := hx
    obtain ⟨ti, h3, h4⟩ := Option.map_eq_some_iff.1 h1
    have u1 := (hT _ _ h3).und
    rw [h4] at u1
    simp only [TyDesc] at u1
    split at h
    · rename_i te hte
      split at h
      · rename_i h0
        obtain ⟨z, h5, h6⟩ := part_sound hT hte hu h
        exact ⟨z, by simp [Instr.index, asIntOf, run_underlying u1, h0, (hT _ _ hte).sizeOf, h5], h6⟩
      · cases h
    · cases h
  · cases h

theorem indexAddrV_sound (hT : TabOk P T) {t : Nat} {x ix v : V} {X I : Value} (hx : VRep E w x X) (hi : VRep E w ix I) (h : indexAddrV T t x ix = some v) :
    ∃ z, (Instr.indexAt t X I).run P w = .ok z w ∧ VRep E w v z ∧ NoOwn v := by
  unfold indexAddrV at h
  split at h
  · rename_i k i e h1
    cases hi
    obtain ⟨ti, h3, h4⟩ := Option.map_eq_some_iff.1 h1
    have u1 := (hT _ _ h3).und
    rw [h4] at u1
    simp only [TyDesc] at u1
    split at h
    · rename_i full sz rows te hte
      split at h
      · rename_i h0
        obtain ⟨h0, hsz⟩ := h0
        obtain ⟨r, hr, rfl⟩ := Option.map_eq_some_iff.1 h
        have hlt : i.toNat < rows.length := (List.getElem?_eq_some_iff.1 hr).1
        cases hx with
        | sl0 => simp at hr
        | sl full sz rows b off cap lim arr e' fr val him hlim hb hcap hfull hsz' hval hrep =>
          subst hsz
          have hrl := hsz' _ _ hr
          refine ⟨.pointer (some ⟨b, off + i.toNat * te.size, none⟩), ?_, ?_, .d _⟩
          · have : 0 ≤ i ∧ i < (rows.length : Int) := by omega
            simp [Instr.indexAt, asIntOf, run_underlying u1, this, (hT _ _ hte).sizeOf, addr_add]
          · refine DRep.imm r b _ lim arr e' fr (fun j => val i.toNat j) him ?_ hb (fun j c hc => hval _ _ _ _ hr hc) (fun j c hc => hrep _ _ _ _ hr hc)
            have : (i.toNat + 1) * te.size ≤ rows.length * te.size := Nat.mul_le_mul_right _ hlt
            rw [Nat.add_mul, Nat.one_mul] at this
            omega
      · cases h
    · cases h
  · rename_i k i n e h1
    cases hi
    obtain ⟨ti, h3, h4⟩ := Option.map_eq_some_iff.1 h1
    have u1 := (hT _ _ h3).und
    rw [h4] at u1
    simp only [TyDesc] at u1
    split at h
    · rename_i te hte
      split at h
      · rename_i h0
        have run : ∀ b o, (Instr.indexAt t (.pointer (some ⟨b, o, none⟩)) (.int k i)).run P w = .ok (.pointer (some ⟨b, o + i.toNat * te.size, none⟩)) w := by
          intro b o
          simp [Instr.indexAt, asIntOf, run_underlying u1, h0, (hT _ _ hte).sizeOf, addr_add, Instr.sureAddr]
        split at h
        · cases h
          obtain ⟨b, h8, rfl⟩ := hx
          exact ⟨_, run b _, ⟨b, h8, rfl⟩, ⟨fun _ _ h => by simp at h, fun _ h => by simp at h⟩⟩
        · cases h
          obtain ⟨b, h8, rfl⟩ := hx
          exact ⟨_, run b _, ⟨b, h8, rfl⟩, ⟨fun _ _ h => by simp at h, fun _ h => by simp at h⟩⟩
        · cases h
      · cases h
    · cases h
  · cases h

theorem lenV_sound (hT : TabOk P T) {t : Nat} {x v : V} {X : Value} (ts : Array TypeId) (hts : ts[0]? = some t) (ty : TypeId) (hx : VRep E w x X) (h : lenV T t x = some v) :
    ∃ z, (Builtin.len_ ts ty #[X]).run P w = .ok z w ∧ VRep E w v z ∧ NoOwn v := by
  unfold lenV at h
  split at h
  all_goals first
    | (cases h; done)
    | (rename_i h1
       obtain ⟨ti, h3, h4⟩ := Option.map_eq_some_iff.1 h1
       have u1 := (hT _ _ h3).und
       rw [h4] at u1
       simp only [TyDesc] at u1
       cases h
       cases hx <;> exact ⟨.int .i64 _, by simp [Builtin.len_, hts, run_underlying u1, goInt, str_size], .int _ _, .d _⟩)

end
end Go.Ev
