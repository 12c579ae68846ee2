/- One operation. -/
import Derived.Test.YtdpldomjhelfkaaDoorEvMisc
set_option linter.unusedVariables false
set_option linter.unusedSimpArgs false
namespace Go.Ev
open Go

section
variable {P : Program} {T : Tabl} {Sg : Sig} {B : Base} {E F : Env} {S : St} {act : Act} {w w' : World} {o : Oper} {K : Act → World → Prop} {Q : Exit → Act → World → Prop}

theorem wp_of_value {z : Value} (hr : (execOp act.eval o).run P w = .ok (.value z) w') (hk : K (act.put o.dst z) w') : o.wp P act w K Q := by
  unfold Oper.wp; rw [hr]; exact hk
theorem wp_of_skip (hr : (execOp act.eval o).run P w = .ok .skip w') (hk : K (act.put o.dst undef) w') : o.wp P act w K Q := by
  unfold Oper.wp; rw [hr]; exact hk
theorem wp_of_enter {f : FuncId} {args : Array Value} (hr : (execOp act.eval o).run P w = .ok (.enter f args) w') (hc : Calls P f args w' fun e w'' => ∃ r, e = .returned r ∧ K (act.put o.dst r) w'') : o.wp P act w K Q := by
  unfold Oper.wp
  rw [hr]
  refine Calls.mono hc fun e w'' he => ?_
  obtain ⟨r, rfl, hk⟩ := he
  exact hk

theorem run_callFunc {f : Nat} {args : Array Value} (hc : Callable P f) : (callFunc f args).run P w = .ok (.enter f args) w := by
  obtain ⟨fn, h1, h2, h3⟩ := hc
  have h2' : fn.name ≠ "runtime.NumGoroutine" := by simpa using h2
  have h3' : fn.body ≠ none := by intro q; rw [q] at h3; cases h3
  simp [callFunc, h1, h2', h3']

theorem run_call {c : Call} {x : Operand} {f : Nat} {vals : Array Value} (ho : o.op = .call c) (hx : c.callee = .value x) (hv : act.eval x = .func (.func f) #[] vals) (hc : Callable P f) :
    (execOp act.eval o).run P w = .ok (.enter f (c.args.map act.eval ++ vals)) w := by
  simp [execOp, ho, resolve, hx, hv, Deferred.ofValue, invoke, run_callFunc hc]

theorem args_ok {ρ : Operand → V} (hρ : ∀ x, VRep E w (ρ x) (act.eval x)) (c : Call) (caps : List D) (vals : Array Value) (hl : vals.size = caps.length) (hv : ∀ (j : Nat) (d : D), caps[j]? = some d → ∃ x, vals[j]? = some x ∧ DRep E.m w d x) :
    ArgsOk E w (c.args.toList.map ρ ++ caps.map vD) (c.args.map act.eval ++ vals) := by
  refine ⟨by simp [hl], fun i v hi => ?_⟩
  rcases Nat.lt_or_ge i c.args.size with q | q
  · rw [List.getElem?_append_left (by simpa using q)] at hi
    simp only [List.getElem?_map, Option.map_eq_some_iff, Array.getElem?_toList] at hi
    obtain ⟨x, hx, rfl⟩ := hi
    refine ⟨act.eval x, ?_, hρ x⟩
    rw [Array.getElem?_append_left (by simpa using q)]
    simp [hx]
  · rw [List.getElem?_append_right (by simpa using q)] at hi
    simp only [List.length_map, Array.length_toList, List.getElem?_map, Option.map_eq_some_iff] at hi
    obtain ⟨d, hd, rfl⟩ := hi
    obtain ⟨x, h1, h2⟩ := hv _ d hd
    refine ⟨x, ?_, h2⟩
    rw [Array.getElem?_append_right (by simpa using q)]
    simpa using h1

theorem pure_call (hS : SigOk P B.pin Sg) (h : Rel B E S act.tmps w) {ρ : Operand → V} (hρ : ∀ x, VRep E w (ρ x) (act.eval x)) {c : Call} {x : Operand} {f : Nat} {caps : List D} {v : V} (ho : o.op = .call c) (hx : c.callee = .value x) (hv : VRep E w (vD (.fn f caps)) (act.eval x))
    (hp : pureCall Sg f (c.args.toList.map ρ ++ caps.map vD) = some v) (hK : ∀ z w' E', E'.ob = E.ob → Rel B E' { S with tm := S.tm ++ [v] } (act.tmps.push z) w' → K (act.put o.dst z) w') : o.wp P act w K Q := by
  unfold pureCall at hp
  split at hp
  · rename_i g hg
    split at hp
    · rename_i hd
      obtain ⟨hc, hs⟩ := hS f _ hg
      have hv' : DRep E.m w (.fn f caps) (act.eval x) := hv
      have : ∃ vals, act.eval x = .func (.func f) #[] vals ∧ vals.size = caps.length ∧ ∀ (j : Nat) (d : D), caps[j]? = some d → ∃ x, vals[j]? = some x ∧ DRep E.m w d x := by
        generalize act.eval x = xv at hv'
        cases hv' with
        | fn f caps vals val hsz hval hrep => exact ⟨vals, rfl, hsz, fun j d hd => ⟨_, hval j d hd, hrep j d hd⟩⟩
      obtain ⟨vals, h1, h2, h3⟩ := this
      have ha := args_ok hρ c caps vals h2 h3
      refine wp_of_enter (run_call ho hx h1 hc) (Calls.mono (hs _ [] v [] (by simp [asEff, hp]) h.pureBase _ _ w rfl (h.forPure ha hd)) fun e w'' he => ?_)
      obtain ⟨r, E', rfl, _, _, hr⟩ := he
      exact ⟨r, rfl, hK r w'' _ (by exact rfl) (h.backPure hr)⟩
    · cases hp
  · cases hp

theorem still_sound (hT : TabOk P T) (hE : EqOk P T) (hS : SigOk P B.pin Sg) (h : Rel B E S act.tmps w) {lim : Nat} {v : V} {ρ : Operand → V} (hρ : ∀ x, VRep E w (ρ x) (act.eval x)) (hρn : ∀ x, NoOwn (ρ x)) (hs : sv T Sg lim o ρ S = some v)
    (hK : ∀ z w' E', E'.ob = E.ob → Rel B E' { S with tm := S.tm ++ [v] } (act.tmps.push z) w' → K (act.put o.dst z) w') : o.wp P act w K Q := by
  have val : ∀ z, (execOp act.eval o).run P w = .ok (.value z) w → VRep E w v z → NoOwn v → o.wp P act w K Q := fun z hr hv hn => wp_of_value hr (hK z w E rfl (h.push hv hn))
  unfold sv at hs
  split at hs
  · rename_i x ho
    cases hs
    exact val _ (by simp [execOp, ho]) (hρ x) (hρn x)
  · rename_i x ho
    cases hs
    exact val _ (by simp [execOp, ho]) (hρ x) (hρn x)
  · rename_i c x y ho
    split at hs
    · rename_i hc
      have h1 := hρ c
      rw [hc] at h1
      cases hs
      generalize hev : act.eval c = cv at h1
      cases h1
      exact val _ (by simp [execOp, ho, hev, asBool]) (hρ x) (hρn x)
    · rename_i hc
      have h1 := hρ c
      rw [hc] at h1
      cases hs
      generalize hev : act.eval c = cv at h1
      cases h1
      exact val _ (by simp [execOp, ho, hev, asBool]) (hρ y) (hρn y)
    · cases hs
  · rename_i x ho
    have h1 := hρ x
    have h2 := hρn x
    generalize hev : act.eval x = xv at h1
    split at hs
    · rename_i hc
      cases hs
      rw [hc] at h1 h2
      obtain ⟨b, hb, rfl⟩ := h1
      exact val _ (by simp [execOp, ho, hev]) ⟨b, hb, rfl⟩ h2
    · rename_i hc
      cases hs
      rw [hc] at h1 h2
      obtain ⟨b, hb, rfl⟩ := h1
      exact val _ (by simp [execOp, ho, hev]) ⟨b, hb, rfl⟩ h2
    · rename_i hc
      cases hs
      rw [hc] at h1 h2
      have h1' := h1
      cases h1
      exact val _ (by simp [execOp, ho, hev]) h1' h2
    · rename_i hc
      cases hs
      rw [hc] at h1 h2
      have h1' := h1
      cases h1
      exact val _ (by simp [execOp, ho, hev]) h1' h2
    · cases hs
  · rename_i op t x y r ho
    obtain ⟨z, h1, h2, h3⟩ := binV_sound hT hE (hρ x) (hρ y) hs x y
    rw [Sem.run_bind] at h1
    exact val z (by simp only [execOp, ho, Sem.run_bind, h1, Result.andThen_ok, Sem.run_pure]) h2 h3
  · rename_i t x ho
    split at hs
    · rename_i b hc
      have h1 := hρ x
      rw [hc] at h1
      cases hs
      generalize hev : act.eval x = xv at h1
      cases h1
      exact val (.bool !b) (by simp [execOp, ho, hev, Op.unary]) (DRep.bool _) (.d _)
    · cases hs
  · rename_i s d x ho
    have h1 := hρ x
    by_cases hq : ∃ l, ρ x = vS l
    · obtain ⟨l, hl⟩ := hq
      rw [hl] at h1 hs
      generalize hev : act.eval x = xv at h1
      cases h1
      obtain ⟨z, w', E', g1, g2, g3⟩ := conv_bytes_sound hT h hs
      exact wp_of_value (z := z) (w' := w') (by simp [execOp, ho, hev, g1]) (hK z w' E' g2 g3)
    · obtain ⟨z, g1, g2, g3⟩ := convV_sound hT h1 hs (fun l hl => hq ⟨l, hl⟩)
      exact val z (by simp [execOp, ho, g1]) g2 g3
  · rename_i x i ho
    split at hs
    · rename_i ws hc
      obtain ⟨u, hu, rfl⟩ := Option.map_eq_some_iff.1 hs
      have h1 := hρ x
      have h2 := hρn x
      rw [hc] at h1 h2
      obtain ⟨vs, h3, h4, h5⟩ := h1
      obtain ⟨z, h6, h7⟩ := h5 i u hu
      exact val z (by simp [execOp, ho, h3, Instr.extract, h6]) h7 ⟨fun sz rows q => h2.2 ws rfl i sz rows (by rw [hu]; cases q; rfl), fun _ q => by simp at q⟩
    · cases hs
  · rename_i t x f ho
    obtain ⟨z, h1, h2, h3⟩ := fieldAddrV_sound hT (hρ x) hs
    exact val z (by simp [execOp, ho, h1]) h2 h3
  · rename_i t x f ho
    obtain ⟨z, h1, h2, h3⟩ := fieldV_sound hT (hρ x) hs
    exact val z (by simp [execOp, ho, h1]) h2 h3
  · rename_i t x i ho
    obtain ⟨z, h1, h2, h3⟩ := indexV_sound hT (hρ x) (hρ i) hs
    exact val z (by simp [execOp, ho, h1]) h2 h3
  · rename_i t x i ho
    obtain ⟨z, h1, h2, h3⟩ := indexAddrV_sound hT (hρ x) (hρ i) hs
    exact val z (by simp [execOp, ho, h1]) h2 h3
  · rename_i t x lo hi mx ho
    have orep : ∀ y : Option Operand, ORep E w (y.map ρ) (y.map act.eval) := fun y => by
      cases y with
      | none => trivial
      | some y => exact hρ y
    obtain ⟨z, h1, h2, h3⟩ := sliceV_sound hT (hρ x) (orep lo) (orep hi) (orep mx) hs
    exact val z (by simp [execOp, ho, h1]) h2 h3
  · rename_i t p ho
    split at hs
    · rename_i ti ht
      obtain ⟨z, h1, h2, h3⟩ := ld_sound hT h ht (hρ p) hs
      exact val z (by simp [execOp, ho, h1]) h2 h3
    · cases hs
  · rename_i t ps ho
    obtain ⟨z, h1, h2, h3⟩ := buildV_sound hT (qs := ps.map fun p => (p.1, act.eval p.2)) (by rw [Array.toList_map]; exact Rel.parts ps.toList _ act.eval hρ) hs
    exact val z (by simp [execOp, ho, h1]) h2 h3
  · rename_i t n ps ho
    obtain ⟨z, w', E', h1, h2, _, _, h3⟩ := buildSliceV_sound hT h (qs := ps.map fun p => (p.1, act.eval p.2)) (by rw [Array.toList_map]; exact Rel.parts ps.toList _ act.eval hρ) hs
    exact wp_of_value (z := z) (w' := w') (by simp [execOp, ho, h1]) (hK z w' E' h2 h3)
  · rename_i t x k ok ho
    split at hs
    · rename_i es hm
      obtain ⟨b, en, c, h1, h2, h3⟩ := mapOf_sound h (hρ x) hm
      obtain ⟨z, h4, h5, h6⟩ := lookV_sound hT (X := act.eval x) h3 (.inr ⟨b, c, h1, h2⟩) (hρ k) hs
      exact val z (by simp [execOp, ho, h4]) h5 h6
    · cases hs
  · rename_i c ho
    split at hs
    · rename_i hb
      split at hs
      · rename_i x t ts ha ht
        have hargs : c.args = #[x] := by
          have := congrArg List.toArray ha
          simpa using this
        have htys : c.argTypes[0]? = some t := by rw [← Array.getElem?_toList, ht]; rfl
        obtain ⟨z, h1, h2, h3⟩ := lenV_sound hT c.argTypes htys o.type (hρ x) hs
        exact val z (by simp [execOp, ho, resolve, hb, hargs, invoke, builtin, h1]) h2 h3
      · cases hs
    · rename_i x hb
      split at hs
      · rename_i f caps hc
        have h1 := hρ x
        rw [hc] at h1
        exact pure_call hS h hρ ho hb h1 hs hK
      · cases hs
    · cases hs
  · cases hs

end
end Go.Ev
