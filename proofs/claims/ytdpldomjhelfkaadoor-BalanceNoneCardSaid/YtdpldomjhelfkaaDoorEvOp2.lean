/- One operation, whole. -/
import Derived.Test.YtdpldomjhelfkaaDoorEvOp
set_option linter.unusedVariables false
set_option linter.unusedSimpArgs false
namespace Go.Ev
open Go

section
variable {P : Program} {T : Tabl} {Sg : Sig} {B : Base} {E F : Env} {S S' : St} {act : Act} {w w' : World} {o : Oper} {K : Act → World → Prop} {Q : Exit → Act → World → Prop}

theorem undef_rep : VRep E w (.t []) undef := ⟨#[], rfl, rfl, by simp⟩

theorem eff_call (hS : SigOk P B.pin Sg) (h : Rel B E S act.tmps w) {ρ : Operand → V} (hρ : ∀ x, VRep E w (ρ x) (act.eval x)) {c : Call} {f : Nat} {v : V} {g : List V → List (Option Ob) → Option (V × List (Option Ob))}
    (ho : o.op = .call c) (hx : c.callee = .value (.func f)) (hg : Sg f = some (.eff g)) (hp : effCall S g (c.args.toList.map ρ) = some (v, S'))
    (hK : ∀ z w' E', Agree S E S' E' → Rel B E' { S' with tm := S'.tm ++ [v] } (act.tmps.push z) w' → K (act.put o.dst z) w') : o.wp P act w K Q := by
  obtain ⟨hc, hs⟩ := hS f _ hg
  have ha0 := args_ok hρ c [] #[] rfl (by simp)
  simp only [List.map_nil, List.append_nil, Array.append_empty] at ha0
  have hrun := run_call (P := P) (w := w) (act := act) ho hx (vals := #[]) rfl hc
  rw [Array.append_empty] at hrun
  unfold effCall at hp
  split at hp
  · split at hp
    · rename_i hh
      split at hp
      · rename_i v' H' hgv
        split at hp
        · rename_i hl
          obtain ⟨hl, hpl⟩ := hl
          cases hp
          have hup := h.up
          have ha : ArgsOk (E.up S.H.length) w ((c.args.toList.map ρ).map (upV S.H.length)) (c.args.map act.eval) := by
            refine ⟨by rw [List.length_map]; exact ha0.1, fun i u hu => ?_⟩
            rw [List.getElem?_map] at hu
            obtain ⟨y, hy, rfl⟩ := Option.map_eq_some_iff.1 hu
            obtain ⟨x, h1, h2⟩ := ha0.2 i y hy
            exact ⟨x, h1, upV_rep h.obl h2⟩
          refine wp_of_enter hrun (Calls.mono (hs _ (S.H ++ S.L) v H' hgv hup.callBase _ _ w rfl (hup.forCall ha hh)) fun e w'' he => ?_)
          obtain ⟨r, F, rfl, k1, k2, k3⟩ := he
          refine ⟨r, rfl, ?_⟩
          have hb := hup.backCall k3 k1 k2
          obtain ⟨E', q1, q2⟩ := h.down hb hl hpl k2
          exact hK r w'' E' ⟨by simp; omega, q1⟩ q2
        · cases hp
      · cases hp
    · cases hp
  · split at hp
    · rename_i hh
      obtain ⟨⟨v', H'⟩, hgv, he⟩ := Option.map_eq_some_iff.1 hp
      cases he
      refine wp_of_enter hrun (Calls.mono (hs _ S.H v H' hgv h.callBase _ _ w rfl (h.forCall ha0 hh)) fun e w'' he => ?_)
      obtain ⟨r, F, rfl, k1, k2, k3⟩ := he
      exact ⟨r, rfl, hK r w'' ⟨F.m, F.ob, E.lo⟩ ⟨k1, k2⟩ (h.backCall k3 k1 k2)⟩
    · cases hp

theorem op_sound (hT : TabOk P T) (hE : EqOk P T) (hS : SigOk P B.pin Sg) (h : Rel B E S act.tmps w) {lim : Nat} {tk : Bool} {v : V} (hs : opStep T Sg lim tk o S = some (v, S'))
    (hK : ∀ z w' E', Agree S E S' E' → Rel B E' { S' with tm := S'.tm ++ [v] } (act.tmps.push z) w' → K (act.put o.dst z) w') : o.wp P act w K Q := by
  unfold opStep at hs
  generalize hρd : (fun x => (opd S.tm x).er) = ρ at hs
  have hρ : ∀ x, VRep E w (ρ x) (act.eval x) := fun x => by rw [← hρd]; exact (h.opd x).er
  have hρn : ∀ x, NoOwn (ρ x) := fun x => by rw [← hρd]; exact V.er_noOwn _
  have still : (sv T Sg lim o ρ S).map (fun v => (v, S)) = some (v, S') → o.wp P act w K Q := fun hq => by
    obtain ⟨v', h1, h2⟩ := Option.map_eq_some_iff.1 hq
    cases h2
    exact still_sound hT hE hS h hρ hρn h1 fun z w' E' he hr => hK z w' E' (Agree.same rfl he) hr
  have tkTm : ∀ x, takeTm S x = some (v, S') → (execOp act.eval o).run P w = .ok (.value (act.eval x)) w → o.wp P act w K Q := fun x hq hr => by
    obtain ⟨h1, h2, h3, h4, h5⟩ := takeTm_sound h hq
    exact wp_of_value hr (hK _ w E (Agree.same (by rw [h2]) rfl) h1)
  simp only at hs
  split at hs
  · rename_i x ho
    split at hs
    · exact tkTm x hs (by simp [execOp, ho])
    · exact still hs
  · rename_i x ho
    exact tkTm x hs (by simp [execOp, ho])
  · rename_i t i ho
    split at hs
    · obtain ⟨z, h1, h2, h3, h4, h5⟩ := takeEx_sound (P := P) h hs
      exact wp_of_value (z := z) (w' := w) (by simp [execOp, ho, h1]) (hK z w E (Agree.same (by rw [h3]) rfl) h2)
    · exact still hs
  · rename_i t p ho
    split at hs
    · split at hs
      · rename_i ti ht
        split at hs
        · exact still hs
        · rename_i hna
          obtain ⟨z, h1, h2, h3, h4, h5⟩ := takeLd_sound hT ht (by simpa using hna) h (hρ p) hs
          exact wp_of_value (z := z) (w' := w) (by simp [execOp, ho, h1]) (hK z w E (Agree.same h3 rfl) h2)
      · cases hs
    · exact still hs
  · rename_i t ho
    split at hs
    · rename_i ti ht
      cases hs
      obtain ⟨z, w', E', h1, h2, h3⟩ := alloc_sound hT ht h
      exact wp_of_value (z := z) (w' := w') (by simp [execOp, ho, h1]) (hK z w' E' (Agree.same rfl h2) h3)
    · cases hs
  · rename_i t x ho
    split at hs
    · rename_i ds hd
      cases hs
      obtain ⟨z, w', E', h1, h2, h3⟩ := box_sound (P := P) (t := t) h (hρ x) hd
      exact wp_of_value (z := z) (w' := w') (by simp [execOp, ho, h1]) (hK z w' E' (Agree.same rfl h2) h3)
    · cases hs
  · rename_i t p x ho
    split at hs
    · rename_i ti ht
      split at hs
      · rename_i u S1 hq
        split at hs
        · rename_i cs hcs
          split at hs
          · rename_i hc
            obtain ⟨S2, h6, h7⟩ := Option.map_eq_some_iff.1 hs
            cases h7
            obtain ⟨h1, h2, h3, h4, h5⟩ := takeTm_sound h hq
            obtain ⟨w', k1, k2, k3, k4, k5⟩ := store_sound (P := P) hT ht h1 (hρ p) hcs hc.1 hc.2 h6
            exact wp_of_skip (w' := w') (by simp [execOp, ho, k1]) (hK undef w' E (Agree.same (by rw [k3, h2]) rfl) (k2.push undef_rep .undef))
          · cases hs
        · cases hs
      · cases hs
    · cases hs
  · rename_i t ho
    cases hs
    obtain ⟨z, w', E', h1, h2, h3⟩ := makeMap_sound (P := P) (t := t) h
    exact wp_of_value (z := z) (w' := w') (by simp [execOp, ho, h1]) (hK z w' E' (Agree.same rfl h2) h3)
  · rename_i t m k x ho
    split at hs
    · rename_i kt e j key ds ht hm hk hd
      split at hs
      · rename_i es te hj hte
        split at hs
        · cases hs
          have hm' := hρ m
          rw [hm] at hm'
          have hk' := hρ k
          rw [hk] at hk'
          obtain ⟨w', h1, h2⟩ := insert_sound (P := P) hT (te := te) h ht hm' hk' (hρ x) hd (getD_some hj)
          exact wp_of_skip (w' := w') (by simp [execOp, ho, h1]) (hK undef w' E (Agree.same rfl rfl) (h2.push undef_rep .undef))
        · cases hs
      · cases hs
    · cases hs
  · rename_i t m k x ho
    split at hs
    · rename_i kt e j key ds ht hm hk hd
      split at hs
      · rename_i es te hj hte
        split at hs
        · cases hs
          have hm' := hρ m
          rw [hm] at hm'
          have hk' := hρ k
          rw [hk] at hk'
          obtain ⟨w', h1, h2⟩ := insert_sound (P := P) hT (te := te) h ht hm' hk' (hρ x) hd (getD_some hj)
          exact wp_of_skip (w' := w') (by simp [execOp, ho, h1]) (hK undef w' E (Agree.same rfl rfl) (h2.push undef_rep .undef))
        · cases hs
      · cases hs
    · cases hs
  · rename_i f first caps ho
    split at hs
    · rename_i hf
      obtain ⟨⟨ds, S1⟩, h1, h2⟩ := Option.map_eq_some_iff.1 hs
      cases h2
      obtain ⟨m, k1, k2, k3, k4, k5, k6⟩ := capture_sound (caps.toList.map (opd S.tm)) (caps.toList.map act.eval) h (by simp) (fun i u hu => by
        rw [List.getElem?_map] at hu
        obtain ⟨y, hy, rfl⟩ := Option.map_eq_some_iff.1 hu
        exact ⟨act.eval y, by simp [hy], h.opd y⟩) h1
      have hf' : first = #[] := by simpa using hf
      have hrep : DRep m w (.fn f ds) (.func (.func f) #[] (caps.map act.eval)) := by
        have hc : ∀ (j : Nat) (d : D), ds[j]? = some d → ∃ x, (caps.map act.eval)[j]? = some x ∧ DRep m w d x := fun j d hd => by
          obtain ⟨x, q1, q2⟩ := k6 j d hd
          rw [← Array.toList_map, Array.getElem?_toList] at q1
          exact ⟨x, q1, q2⟩
        refine .fn f ds _ (fun j => ((caps.map act.eval)[j]?).getD undef) (by simpa using k5.symm) (fun j d hd => ?_) (fun j d hd => ?_)
        · obtain ⟨x, q1, q2⟩ := hc j d hd
          rw [q1]; rfl
        · obtain ⟨x, q1, q2⟩ := hc j d hd
          rw [q1]; exact q2
      exact wp_of_value (z := .func (.func f) #[] (caps.map act.eval)) (w' := w) (by simp [execOp, ho, hf', Instr.makeFunc]) (hK _ w ⟨m, E.ob, E.lo⟩ (Agree.same (by rw [k3]) rfl) (k2.push (show VRep ⟨m, E.ob, E.lo⟩ w (vD (.fn f ds)) _ from hrep) (.d _)))
    · cases hs
  · rename_i c ho
    split at hs
    · rename_i hb
      split at hs
      · rename_i s x t tx ha ht
        split at hs
        · rename_i e hte
          split at hs
          · rename_i te hte'
            split at hs
            · rename_i u S1 hq
              split at hs
              · rename_i ys hys
                split at hs
                · rename_i hrow
                  obtain ⟨r, h6, h7⟩ := Option.map_eq_some_iff.1 hs
                  cases h7
                  obtain ⟨h1, h2, h3, h4, h5⟩ := takeTm_sound h hq
                  obtain ⟨z, w', E', k1, k2, k3⟩ := append_sound (P := P) (tx := tx) (ty := o.type) hT hte hte' hrow h1 h5 (hρ x) hys h6
                  have hargs : c.args = #[s, x] := by
                    have := congrArg List.toArray ha
                    simpa using this
                  have htys : c.argTypes = #[t, tx] := by
                    have := congrArg List.toArray ht
                    simpa using this
                  exact wp_of_value (z := z) (w' := w') (by simp [execOp, ho, resolve, hb, hargs, htys, invoke, builtin, k1]) (hK z w' E' (Agree.same (by rw [h2]) k2) k3)
                · cases hs
              · cases hs
            · cases hs
          · cases hs
        · cases hs
      · cases hs
    · rename_i f hb
      split at hs
      · rename_i g hg
        exact eff_call hS h hρ ho hb hg hs hK
      · exact still hs
    · exact still hs
  · exact still hs

end
end Go.Ev
