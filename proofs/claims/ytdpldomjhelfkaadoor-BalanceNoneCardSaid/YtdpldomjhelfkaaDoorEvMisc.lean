/- Closures; a string's bytes. -/
import Derived.Test.YtdpldomjhelfkaaDoorEvUp
import Derived.Laws.IdiomStrings
set_option linter.unusedVariables false
set_option linter.unusedSimpArgs false
namespace Go.Ev
open Go

section
variable {P : Program} {T : Tabl} {B : Base} {E F : Env} {S : St} {a : Array Value} {w w' : World}

/-- A local object that never changes again. -/
theorem Rel.freeze (h : Rel B E S a w) {k b : Nat} {l : List C} {ds : List D} (hk : S.L[k]? = some (some (.cells l))) (hs : seqD l = some ds) (hb : E.lo k = some b) :
    ∃ m, Ext E.m w m w ∧ Rel B ⟨m, E.ob, E.lo⟩ { S with L := S.L.set k none } a w ∧ DRep m w (.imm ds) (.pointer (some ⟨b, 0, none⟩)) := by
  obtain ⟨b', g1, ⟨arr, e, g2, g3, g4⟩, g5, g6, hmay⟩ := h.lr k _ hk
  rw [hb] at g1
  cases g1
  have hkl : k < S.L.length := (List.getElem?_eq_some_iff.1 hk).1
  obtain ⟨s1, s2⟩ := seqD_spec l ds hs
  have hne : ∀ q n, E.m.im q = some n → q ≠ b := fun q n hq f => by subst f; rw [g5] at hq; cases hq
  have himo : ∀ q, q ≠ b → (E.m.setIm b l.length).im q = E.m.im q := fun q hq => by simp [M.setIm, hq]
  have himb : (E.m.setIm b l.length).im b = some l.length := by simp [M.setIm]
  have ext : Ext E.m w (E.m.setIm b l.length) w :=
    ⟨fun q lim hq => ⟨lim, Nat.le_refl _, by rw [himo q (hne q lim hq)]; exact hq⟩, fun q lim ar e0 fr hq hh => ⟨ar, fr, hh, rfl, fun _ _ => rfl⟩, fun q hq => hq, fun q hq => rfl⟩
  have hself : (S.L.set k none)[k]? = some none := List.getElem?_set_self hkl
  have hlive : liveL S k := ⟨_, hk⟩
  have liveBack : ∀ q, liveL { S with L := S.L.set k none } q → liveL S q ∧ q ≠ k := by
    rintro q ⟨o, ho⟩
    by_cases f : q = k
    · subst f; simp only [hself] at ho; cases ho
    · simp only [List.getElem?_set_ne (Ne.symm f)] at ho; exact ⟨⟨o, ho⟩, f⟩
  have key : ∀ ℓ sz u, Owned { S with L := S.L.set k none } ⟨E.m.setIm b l.length, E.ob, E.lo⟩ a w ℓ sz u → Owned S E a w ℓ sz u := by
    intro ℓ sz u ho
    obtain ⟨⟨rows, h1⟩, h2⟩ := ho
    cases ℓ with
    | t i => exact ⟨⟨rows, h1⟩, h2⟩
    | tt i j => exact ⟨⟨rows, h1⟩, h2⟩
    | h q o => exact ⟨⟨rows, h1⟩, h2⟩
    | l q o =>
      refine ⟨⟨rows, ?_⟩, h2⟩
      by_cases f : q = k
      · subst f; simp only [St.at, hself] at h1; cases h1
      · simp only [St.at, List.getElem?_set_ne (Ne.symm f)] at h1; exact h1
  refine ⟨E.m.setIm b l.length, ext, ?_, ?_⟩
  · exact {
      len := h.len
      tr := fun i u hu => let ⟨x, h1, h2⟩ := h.tr i u hu; ⟨x, h1, h2.mono (E' := ⟨E.m.setIm b l.length, E.ob, E.lo⟩) ext (fun _ _ h => h) (fun _ _ h => h)⟩
      lr := fun q o ho => by
        obtain ⟨⟨o', ho'⟩, f⟩ := liveBack q ⟨o, ho⟩
        simp only [List.getElem?_set_ne (Ne.symm f)] at ho
        obtain ⟨b2, h1, h2, h3, h4⟩ := h.lr q o ho
        have hn : b2 ≠ b := fun g => by subst g; exact f (h.ll q k b2 ⟨_, ho⟩ hlive h1 hb)
        exact ⟨b2, h1, h2.mono ext rfl, (himo b2 hn).trans h3, h4⟩
      hr := fun q o ho => by
        obtain ⟨b2, h1, h2, h3, h4⟩ := h.hr q o ho
        have hn : b2 ≠ b := fun g => by subst g; exact h.hl q k b2 ⟨_, ho⟩ hlive h1 hb
        exact ⟨b2, h1, h2.mono ext rfl, (himo b2 hn).trans h3, h4⟩
      hh := h.hh
      ll := fun i j c hi hj h1 h2 => h.ll i j c (liveBack i hi).1 (liveBack j hj).1 h1 h2
      hl := fun i j c hi hj h1 h2 => h.hl i j c hi (liveBack j hj).1 h1 h2
      obl := h.obl
      lol := fun q c hq => by have := h.lol q c hq; simpa using this
      own := fun ℓ sz u ho => by
        obtain ⟨b2, ⟨o, n, c, ar, e0, h1, h2, h3, h4⟩, h5⟩ := h.own _ _ _ (key ℓ sz u ho)
        exact ⟨b2, ⟨o, n, c, ar, e0, h1, (himo b2 (hne b2 _ h2)).trans h2, h3, h4⟩, h5⟩
      own1 := fun ℓ ℓ' sz1 sz2 u u' c h1 h2 => h.own1 _ _ _ _ _ _ c (key _ _ _ h1) (key _ _ _ h2)
      imw := fun q n hq => by
        by_cases f : q = b
        · subst f
          rw [himb] at hq
          cases hq
          exact ⟨arr, e, (0, 0), g2, by omega⟩
        · exact h.imw q n (by rw [← himo q f]; exact hq)
      mpw := h.mpw
      kept := by
        have hk := h.kept
        refine ⟨hk.size, hk.os, hk.tape, hk.output, fun q hkl hkt => ?_, hk.ext.trans ext⟩
        have ek : q ≠ b := fun g => by subst g; rcases hmay with hm | hm; exact hkt hm; omega
        obtain ⟨h1, h2, h3⟩ := hk.same q hkl hkt
        exact ⟨h1, (himo q ek).trans h2, h3⟩ }
  · have hc : ∀ (j : Nat) (d : D), ds[j]? = some d → ∃ x, arr[0 + j]? = some x ∧ DRep (E.m.setIm b l.length) w d x := fun j d hd => by
      obtain ⟨c, q1, q2⟩ := s2 j d hd
      obtain ⟨x, q3, q4⟩ := g4 j c q1
      exact ⟨x, by rw [Nat.zero_add]; exact q3, (q4.toD q2).mono ext⟩
    refine .imm ds b 0 l.length arr e (0, 0) (fun j => (arr[0 + j]?).getD undef) himb (by omega) g2 (fun j d hd => ?_) (fun j d hd => ?_)
    · obtain ⟨x, q1, _⟩ := hc j d hd
      rw [q1]; rfl
    · obtain ⟨x, q1, q2⟩ := hc j d hd
      rw [q1]; exact q2

theorem capture_sound : ∀ (vs : List V) (xs : List Value) {E : Env} {S S' : St} {ds : List D}, Rel B E S a w → vs.length = xs.length → (∀ (i : Nat) (v : V), vs[i]? = some v → ∃ x, xs[i]? = some x ∧ VRep E w v x) → capture S vs = some (ds, S') →
    ∃ m, Ext E.m w m w ∧ Rel B ⟨m, E.ob, E.lo⟩ S' a w ∧ S'.H = S.H ∧ S'.tm = S.tm ∧ ds.length = xs.length ∧ ∀ (i : Nat) (d : D), ds[i]? = some d → ∃ x, xs[i]? = some x ∧ DRep m w d x
  | [], xs, E, S, S', ds, h, hl, hv, hc => by
    cases hc
    cases xs with
    | nil => exact ⟨E.m, Ext.refl _ _, h, rfl, rfl, rfl, by simp⟩
    | cons _ _ => simp at hl
  | v :: vs, [], E, S, S', ds, h, hl, hv, hc => by simp at hl
  | v :: vs, x :: xs, E, S, S', ds, h, hl, hv, hc => by
    obtain ⟨x', hx1, hx2⟩ := hv 0 v rfl
    cases hx1
    have hx3 := hx2.er
    have step : ∀ {E1 : Env} {S1 : St} {d : D}, Ext E.m w E1.m w → E1.ob = E.ob → E1.lo = E.lo → Rel B E1 S1 a w → S1.H = S.H → S1.tm = S.tm → DRep E1.m w d x → ∀ {ds' : List D}, capture S1 vs = some (ds', S') →
        ∃ m, Ext E.m w m w ∧ Rel B ⟨m, E.ob, E.lo⟩ S' a w ∧ S'.H = S.H ∧ S'.tm = S.tm ∧ (d :: ds').length = (x :: xs).length ∧ ∀ (i : Nat) (e : D), (d :: ds')[i]? = some e → ∃ y, (x :: xs)[i]? = some y ∧ DRep m w e y := by
      intro E1 S1 d ext ho hlo h1 hH ht hd ds' hc'
      obtain ⟨m, k1, k2, k3, k4, k5, k6⟩ := capture_sound vs xs h1 (by simpa using hl) (fun i u hu => by
        obtain ⟨y, q1, q2⟩ := hv (i + 1) u hu
        exact ⟨y, by simpa using q1, q2.mono (E' := E1) ext (fun _ _ h => by rw [ho]; exact h) (fun _ _ h => by rw [hlo]; exact h)⟩) hc'
      refine ⟨m, ext.trans k1, by rw [ho, hlo] at k2; exact k2, k3.trans hH, k4.trans ht, by simp [k5], fun i e he => ?_⟩
      cases i with
      | zero => simp at he; subst he; exact ⟨x, rfl, hd.mono k1⟩
      | succ i => simpa using k6 i e (by simpa using he)
    unfold capture at hc
    split at hc
    · rename_i d hd
      obtain ⟨⟨ds', S1⟩, h1, h2⟩ := Option.map_eq_some_iff.1 hc
      cases h2
      rw [hd] at hx3
      exact step (Ext.refl _ _) rfl rfl h rfl rfl hx3 h1
    · rename_i k hd
      rw [hd] at hx3
      obtain ⟨b, hb, rfl⟩ := hx3
      split at hc
      · rename_i l hk
        split at hc
        · rename_i dl hdl
          obtain ⟨⟨ds', S1⟩, h1, h2⟩ := Option.map_eq_some_iff.1 hc
          cases h2
          obtain ⟨m, q1, q2, q3⟩ := h.freeze (getD_some hk) hdl hb
          exact step (E1 := ⟨m, E.ob, E.lo⟩) q1 rfl rfl q2 rfl rfl q3 h1
        · cases hc
      · cases hc
    · cases hc

theorem conv_bytes_sound (hT : TabOk P T) (h : Rel B E S a w) {s t : Nat} {l : List UInt8} {v : V} (hc : convV T s t (vS l) = some v) :
    ∃ z w' E', (convert s t (.string ⟨l.toArray⟩)).run P w = .ok z w' ∧ E'.ob = E.ob ∧ Rel B E' { S with tm := S.tm ++ [v] } (a.push z) w' := by
  simp only [convV] at hc
  · split at hc
    · rename_i e h1 h2
      obtain ⟨ti, h3, h4⟩ := Option.map_eq_some_iff.1 h1
      obtain ⟨tj, h5, h6⟩ := Option.map_eq_some_iff.1 h2
      have u1 := (hT _ _ h3).und
      have u2 := (hT _ _ h5).und
      rw [h4] at u1; rw [h6] at u2
      simp only [TyDesc] at u1 u2
      split at hc
      · rename_i h7
        obtain ⟨te, h8, h9⟩ := Option.map_eq_some_iff.1 h7
        have u3 := (hT _ _ h8).und
        rw [h9] at u3
        simp only [TyDesc] at u3
        split at hc
        · rename_i hle
          cases hc
          have hrun := run_bytes_of_string (P := P) w s t e ⟨l.toArray⟩ u1 u2 u3
          have hcap := grownCap_ge w (ByteArray.mk l.toArray).size 0 e
          have hsz : (ByteArray.mk l.toArray).size = l.length := str_size l
          have hlen : (bytesRow ⟨l.toArray⟩ (grownCap w (ByteArray.mk l.toArray).size 0 e)).size = grownCap w (ByteArray.mk l.toArray).size 0 e := by
            rw [hsz] at hcap ⊢
            simp [bytesRow, hsz]
            omega
          obtain ⟨q1, q2⟩ := h.newBlock (Grow.drewAlloc w (.cells (bytesRow ⟨l.toArray⟩ (grownCap w (ByteArray.mk l.toArray).size 0 e)) e ((bytesRow ⟨l.toArray⟩ (grownCap w (ByteArray.mk l.toArray).size 0 e)).size, (bytesRow ⟨l.toArray⟩ (grownCap w (ByteArray.mk l.toArray).size 0 e)).size + 1))) (some l.length) false
            (fun n hn => ⟨_, _, _, rfl, by cases hn; rw [hlen, ← hsz]; exact hcap⟩) (by simp)
          refine ⟨_, _, ⟨E.m.add w.heap.size (some l.length) false, E.ob, E.lo⟩, hrun, rfl, q1.push ?_ (.d _)⟩
          have hb : (bytesD l).length = l.length := by simp [bytesD]
          have := DRep.ofLies (m := E.m.add w.heap.size (some l.length) false) (full := false) (sz := 1) (rows := bytesD l) (off := 0) (lim := l.length) (b := w.heap.size) (cap := grownCap w (ByteArray.mk l.toArray).size 0 e)
            (w := w.drew.alloc (.cells (bytesRow ⟨l.toArray⟩ (grownCap w (ByteArray.mk l.toArray).size 0 e)) e ((bytesRow ⟨l.toArray⟩ (grownCap w (ByteArray.mk l.toArray).size 0 e)).size, (bytesRow ⟨l.toArray⟩ (grownCap w (ByteArray.mk l.toArray).size 0 e)).size + 1)))
            (arr := bytesRow ⟨l.toArray⟩ (grownCap w (ByteArray.mk l.toArray).size 0 e)) ⟨fun i r hr => by
              simp only [bytesD, List.getElem?_map, Option.map_eq_some_iff] at hr
              obtain ⟨c, _, rfl⟩ := hr
              rfl, fun i j r c hr hc => by
              simp only [bytesD, List.getElem?_map, Option.map_eq_some_iff] at hr
              obtain ⟨u, hu, rfl⟩ := hr
              cases j with
              | succ j => simp at hc
              | zero =>
                simp at hc
                subst hc
                have hi := (List.getElem?_eq_some_iff.1 hu).1
                refine ⟨.int .u8 u.toNat, ?_, .int _ _⟩
                simp only [bytesRow]
                rw [Array.getElem?_append_left (by simpa using hi)]
                simp [hu]⟩ (by simp [M.add]) (by simp [hb]) (Grow.drewAlloc w _).new (by rw [hb, ← hsz]; exact hcap) (by simp)
          rw [hb, ← hsz] at this
          exact this
        · cases hc
      · cases hc
    · cases hc

end
end Go.Ev
