/- A region that draws its order, whole. -/
import Derived.Test.YtdpldomjhelfkaaDoorEvComm3
set_option linter.unusedVariables false
set_option linter.unusedSimpArgs false
namespace Go.Ev
open Go

section
variable {P : Program} {T : Tabl} {Sg : Sig} {B : Base} {E F : Env} {S S' : St} {a : Array Value} {act : Act} {w w' : World} {Q : Exit → Act → World → Prop}

theorem Rel.world (h : Rel B E S a w) (hh : w'.heap = w.heap) (ho : w'.os = w.os) (ht : w'.tape = w.tape) (hu : w'.output = w.output) : Rel B E S a w' := by
  have e : ∀ b : Nat, w'.heap[b]? = w.heap[b]? := fun b => by rw [hh]
  have ext : Ext E.m w E.m w' := ⟨fun b lim hb => ⟨lim, Nat.le_refl _, hb⟩, fun b lim arr t fr hb hw => ⟨arr, fr, by rw [e]; exact hw, rfl, fun _ _ => rfl⟩, fun _ h => h, fun b _ => e b⟩
  have key : ∀ ℓ sz v, Owned S E a w' ℓ sz v → Owned S E a w ℓ sz v := by
    intro ℓ sz v hO
    obtain ⟨h1, h2⟩ := hO
    refine ⟨h1, ?_⟩
    cases ℓ with
    | t i => exact h2
    | tt i j => exact h2
    | h id off =>
      simp only [conc] at h2 ⊢
      cases hb : E.ob id with
      | none => rw [hb] at h2; cases h2
      | some b => rw [hb] at h2; simp only [Option.bind_some] at h2 ⊢; rw [← cell_of_heap (e b)]; exact h2
    | l id off =>
      simp only [conc] at h2 ⊢
      cases hb : E.lo id with
      | none => rw [hb] at h2; cases h2
      | some b => rw [hb] at h2; simp only [Option.bind_some] at h2 ⊢; rw [← cell_of_heap (e b)]; exact h2
  exact {
    len := h.len
    tr := fun i v hv => let ⟨x, h1, h2⟩ := h.tr i v hv; ⟨x, h1, h2.mono (E' := E) ext (fun _ _ h => h) (fun _ _ h => h)⟩
    hr := fun id o ho => let ⟨b, h1, h2, h3⟩ := h.hr id o ho; ⟨b, h1, h2.mono ext (e b), h3⟩
    lr := fun id o ho => let ⟨b, h1, h2, h3⟩ := h.lr id o ho; ⟨b, h1, h2.mono ext (e b), h3⟩
    hh := h.hh
    ll := h.ll
    hl := h.hl
    obl := h.obl
    lol := h.lol
    own := fun ℓ sz v hO => by
      obtain ⟨b, ⟨off, n, c, ar, t, h1, h2, h3, h4⟩, h5⟩ := h.own ℓ sz v (key ℓ sz v hO)
      exact ⟨b, ⟨off, n, c, ar, t, h1, h2, by rw [e]; exact h3, h4⟩, h5⟩
    own1 := fun ℓ ℓ' sz sz' v v' b h1 h2 => h.own1 ℓ ℓ' sz sz' v v' b (key _ _ _ h1) (key _ _ _ h2)
    imw := fun b n hb => let ⟨arr, t, fr, h1, h2⟩ := h.imw b n hb; ⟨arr, t, fr, by rw [e]; exact h1, h2⟩
    mpw := fun b hb => let ⟨es, c, h1⟩ := h.mpw b hb; ⟨es, c, by rw [e]; exact h1⟩
    kept := by
      have hk := h.kept
      refine ⟨by rw [hh]; exact hk.size, ho.trans hk.os, ht.trans hk.tape, hu.trans hk.output, fun b hb hn => ?_, hk.ext.trans ext⟩
      obtain ⟨h1, h2⟩ := hk.same b hb hn
      exact ⟨(e b).trans h1, h2⟩ }

theorem getD_true_false {ls : Array Bool} {i : Nat} (h : i < ls.size) : ls.getD i true = ls.getD i false := by simp [Array.getD_eq_getD_getElem?, Array.getElem?_eq_getElem h]

theorem range_filter_split {n i : Nat} {p : Nat → Bool} {pre post : List Nat} (h : (List.range n).filter p = pre ++ i :: post) :
    (∀ j ∈ pre, j < i) ∧ (List.range n).filter (fun j => p j && decide (j ≠ i)) = pre ++ post := by
  have hp : ((List.range n).filter p).Pairwise (· < ·) := List.pairwise_lt_range.filter p
  rw [h] at hp
  obtain ⟨h1, h2, h3⟩ := List.pairwise_append.1 hp
  obtain ⟨h4, h5⟩ := List.pairwise_cons.1 h2
  refine ⟨fun j hj => h3 j hj i (by simp), ?_⟩
  have e : (List.range n).filter (fun j => p j && decide (j ≠ i)) = ((List.range n).filter p).filter fun j => decide (j ≠ i) := by
    rw [List.filter_filter]
    apply List.filter_congr
    intro x _
    exact Bool.and_comm _ _
  rw [e, h, List.filter_append, List.filter_cons]
  have e1 : pre.filter (fun j => decide (j ≠ i)) = pre := List.filter_eq_self.2 fun j hj => by have := h3 j hj i (by simp); simp; omega
  have e2 : post.filter (fun j => decide (j ≠ i)) = post := List.filter_eq_self.2 fun j hj => by have := h4 j hj; simp; omega
  rw [e1, e2]
  simp

theorem any_sound (hT : TabOk P T) (hE : EqOk P T) (hS : SigOk P B.pin Sg) {eff : Nat → Bool} (hEff : ∀ f g, Sg f = some (.eff g) → eff f = true) {ops : Array Oper} (hd : drawOk eff ops = true) {lim : Nat} {Sf : St} :
    ∀ (fuel : Nat) (ls : Array Bool) {E : Env} {S : St} {act : Act} {w : World}, ls.size = ops.size → Closed ops ls → ((List.range ops.size).filter fun i => !ls.getD i true).length ≤ fuel → Rel B E S act.tmps w → lim ≤ S.L.length →
      steps T Sg lim (takes true ops) ops ((List.range ops.size).filter fun i => !ls.getD i true) S = some Sf → (∀ act' w', Behind B S E act Sf act' w' → Q .normal act' w') → wpAny P .any ops Q fuel ls act w := by
  have hlt : ∀ (k : Nat) (o : Oper), ops[k]? = some o → ∀ e ∈ o.after, Region.binds .any e = true → e.on < k := by
    intro k o ho e he hb
    have hk : k < ops.size := (Array.getElem?_eq_some_iff.1 ho).1
    have h1 := List.all_eq_true.1 hd k (List.mem_range.2 hk)
    rw [Bool.and_eq_true, ho] at h1
    have h2 := Array.all_eq_true_iff_forall_mem.1 h1.1 e he
    simpa [hb] using h2
  have hcomm : ∀ (k : Nat), k < ops.size → ∀ j, j < k → j ∈ (ancs ops.toList []).getD k [] ∨ commOk eff ops (takes true ops) j k = true := by
    intro k hk j hj
    have h1 := List.all_eq_true.1 hd k (List.mem_range.2 hk)
    rw [Bool.and_eq_true] at h1
    have h2 := List.all_eq_true.1 h1.2 j (List.mem_range.2 hj)
    rw [Bool.or_eq_true] at h2
    exact h2.imp (fun h => List.contains_iff_mem.1 h) id
  -- something is ready while something is left
  have some_ready : ∀ (ls : Array Bool), ls.size = ops.size → ∀ k, k < ops.size → ls.getD k true = false → Region.ready .any ops ls ≠ [] := by
    intro ls hsz k
    induction k using Nat.strongRecOn with
    | _ k ih =>
      intro hk hkf
      have ho : ops[k]? = some ops[k] := Array.getElem?_eq_getElem hk
      by_cases hall : ∀ e ∈ ops[k].after, Region.binds .any e = true → ls.getD e.on false = true
      · intro hr
        have : k ∈ Region.ready .any ops ls := mem_ready.2 ⟨hkf, _, ho, hall⟩
        rw [hr] at this
        cases this
      · obtain ⟨e, hall⟩ := Classical.not_forall.1 hall
        obtain ⟨he, hall⟩ := Classical.not_forall.1 hall
        obtain ⟨hb, hall⟩ := Classical.not_forall.1 hall
        have h1 := hlt k _ ho e he hb
        refine ih e.on h1 (by omega) ?_
        rw [getD_true_false (by omega)]
        simpa using hall
  intro fuel
  induction fuel with
  | zero =>
    intro ls E S act w hsz hcl hfu h hlim hs hQ
    have hR : ((List.range ops.size).filter fun i => !ls.getD i true) = [] := List.length_eq_zero_iff.1 (by omega)
    rw [hR] at hs
    cases hs
    refine ⟨?_, hQ act w ⟨E, Agree.refl _ _, rfl, h⟩⟩
    apply List.eq_nil_iff_forall_not_mem.2
    intro j hj
    obtain ⟨h1, o, ho, _⟩ := mem_ready.1 hj
    have hjs : j < ops.size := (Array.getElem?_eq_some_iff.1 ho).1
    have : j ∈ ((List.range ops.size).filter fun i => !ls.getD i true) := List.mem_filter.2 ⟨List.mem_range.2 hjs, by simp only [h1]; rfl⟩
    rw [hR] at this
    cases this
  | succ fuel ih =>
    intro ls E S act w hsz hcl hfu h hlim hs hQ
    refine ⟨fun hr => ?_, fun i hi => ?_⟩
    · have hR : ((List.range ops.size).filter fun i => !ls.getD i true) = [] := by
        apply List.eq_nil_iff_forall_not_mem.2
        intro j hj
        obtain ⟨h1, h2⟩ := List.mem_filter.1 hj
        exact some_ready ls hsz j (List.mem_range.1 h1) (by simpa using h2) hr
      rw [hR] at hs
      cases hs
      exact hQ act w ⟨E, Agree.refl _ _, rfl, h⟩
    · obtain ⟨h1, o, ho, hall⟩ := mem_ready.1 hi
      have his : i < ops.size := (Array.getElem?_eq_some_iff.1 ho).1
      have hmem : i ∈ ((List.range ops.size).filter fun i => !ls.getD i true) := List.mem_filter.2 ⟨List.mem_range.2 his, by simp only [h1]; rfl⟩
      obtain ⟨pre, post, hsplit⟩ := List.append_of_mem hmem
      obtain ⟨hpre, hrest⟩ := range_filter_split hsplit
      rw [hsplit] at hs hfu
      have hc : ∀ j ∈ pre, commOk eff ops (takes true ops) j i = true := by
        intro j hj
        refine (hcomm i his j (hpre j hj)).resolve_left fun han => ?_
        have hl := anc_listed hcl hlt (i + 1) i o (by omega) ho hall j han
        have hj' : j ∈ ((List.range ops.size).filter fun i => !ls.getD i true) := by rw [hsplit]; simp [hj]
        obtain ⟨h2, h3⟩ := List.mem_filter.1 hj'
        have h4 : ls.getD j true = false := by simpa using h3
        rw [getD_true_false (by rw [hsz]; exact List.mem_range.1 h2), hl] at h4
        cases h4
      obtain ⟨S1, hs1, hs2⟩ := bubble hEff pre post hc hlim hs
      refine step_sound hT hE hS h hs1 fun act1 w1 hb => ?_
      obtain ⟨E1, ha1, hd1, hr1⟩ := hb
      have hfil : ((List.range ops.size).filter fun j => !(ls.setIfInBounds i true).getD j true) = pre ++ post := by
        rw [← hrest]
        apply List.filter_congr
        intro j hj
        by_cases e : j = i
        · subst e
          have : (ls.setIfInBounds j true).getD j true = true := by simp
          rw [this]
          simp
        · rw [getD_set_ne true (Ne.symm e)]
          simp [e]
      refine ih (ls.setIfInBounds i true) (by simpa using hsz) (fun k ok hok hk e he hb => ?_) (by rw [hfil]; simp at hfu ⊢; omega) hr1 (Nat.le_trans hlim (step_len hs1)) (by rw [hfil]; exact hs2) (fun act' w' hb' => ?_)
      · by_cases e' : k = i
        · subst e'
          rw [ho] at hok
          cases hok
          exact getD_set_true (hall e he hb)
        · rw [getD_set_ne false (Ne.symm e')] at hk
          exact getD_set_true (hcl k ok hok hk e he hb)
      · obtain ⟨E2, ha2, hd2, hr2⟩ := hb'
        exact hQ act' w' ⟨E2, ha1.trans ha2, hd2.trans hd1, hr2⟩

theorem draw_sound (hT : TabOk P T) (hE : EqOk P T) (hS : SigOk P B.pin Sg) {eff : Nat → Bool} (hEff : ∀ f g, Sg f = some (.eff g) → eff f = true) (hm : P.follows .mixedOrders = true) {ops : Array Oper} (hd : drawOk eff ops = true) {id : Nat} {Sf : St}
    (h : Rel B E S act.tmps w) (hs : steps T Sg S.L.length (takes true ops) ops (List.range ops.size) S = some Sf) (hQ : ∀ act' w', Behind B S E act Sf act' w' → Q .normal act' w') : (Code.region id ops true).wp P Q act w := by
  refine wp_region_any hm (any_sound hT hE hS hEff hd (lim := S.L.length) (Sf := Sf) ops.size _ (by simp) (fun k o ho hk => ?_) ?_ (h.world rfl rfl rfl rfl) (Nat.le_refl _) ?_ hQ)
  · have hks : k < ops.size := (Array.getElem?_eq_some_iff.1 ho).1
    simp [Array.getD_eq_getD_getElem?, hks] at hk
  · exact Nat.le_trans (List.length_filter_le _ _) (by simp)
  · have : ((List.range ops.size).filter fun i => !(Array.replicate ops.size false).getD i true) = List.range ops.size := List.filter_eq_self.2 fun i hi => by
      have := List.mem_range.1 hi
      simp [Array.getD_eq_getD_getElem?, this]
    rw [this]
    exact hs

end
end Go.Ev
