/- A region that draws its order: every order gives the same. -/
import Derived.Test.YtdpldomjhelfkaaDoorEvComm2
set_option linter.unusedVariables false
set_option linter.unusedSimpArgs false
namespace Go.Ev
open Go

section
variable {P : Program} {T : Tabl} {Sg : Sig} {B : Base} {E F : Env} {S S' : St} {act : Act} {w w' : World} {Q : Exit → Act → World → Prop}

/-- An operation with its guard. -/
def gStep (T : Tabl) (Sg : Sig) (lim : Nat) (tk : Bool) (ops : Array Oper) (o : Oper) (S : St) : Option (V × St) :=
  match wants ops S.tm o with
  | some true => opStep T Sg lim tk o S
  | some false => some (.t [], S)
  | none => none

/-- The value of an operation that changes nothing, with its guard. -/
def gVal (T : Tabl) (Sg : Sig) (lim : Nat) (ops : Array Oper) (o : Oper) (S : St) : Option V :=
  match wants ops S.tm o with
  | some true => sv T Sg lim o (fun x => (opd S.tm x).er) S
  | some false => some (.t [])
  | none => none

theorem step_eq {lim i : Nat} {tks : Nat → Bool} {ops : Array Oper} {o : Oper} (ho : ops[i]? = some o) (S : St) : step T Sg lim tks ops i S = (gStep T Sg lim (tks i) ops o S).map fun p => p.2.put o.dst p.1 := by
  simp only [step, ho, gStep]
  cases wants ops S.tm o with
  | none => rfl
  | some b => cases b <;> rfl

theorem gStep_still {eff : Nat → Bool} (hEff : ∀ f g, Sg f = some (.eff g) → eff f = true) {lim : Nat} {tk : Bool} {ops : Array Oper} {o : Oper} (hc : cls eff tk o = 0) (S : St) : gStep T Sg lim tk ops o S = (gVal T Sg lim ops o S).map fun v => (v, S) := by
  unfold gStep gVal
  split
  · exact cls_still hEff hc
  · rfl
  · rfl

theorem mem_looks_guard {ops : Array Oper} {o : Oper} {j d : Nat} {want : Bool} (hg : o.guard = some (j, want)) (hd : (ops[j]?).bind (·.dst) = some d) : d ∈ looks ops o := by
  simp [looks, hg, hd]
theorem mem_looks_tmps {ops : Array Oper} {o : Oper} {d : Nat} (h : d ∈ tmpsOf o.op.operands.toList) : d ∈ looks ops o := by
  simp only [looks, List.mem_append]; exact .inr h

theorem wants_congr {ops : Array Oper} {o : Oper} {tm tm' : List V} (h : ∀ d ∈ looks ops o, (tm'.getD d vJ).er = (tm.getD d vJ).er) : wants ops tm' o = wants ops tm o := by
  unfold wants
  cases hg : o.guard with
  | none => rfl
  | some g =>
    obtain ⟨j, want⟩ := g
    simp only
    cases hd : (ops[j]?).bind (·.dst) with
    | none => rfl
    | some d =>
      simp only
      have he := h d (mem_looks_guard hg hd)
      have key : ∀ u : V, (match u with | vB b => some (b == want) | .t _ => some false | _ => none : Option Bool) = (match u.er with | vB b => some (b == want) | .t _ => some false | _ => none) := by
        intro u
        cases u with
        | t ws => rfl
        | w x =>
          cases x with
          | a ds => rfl
          | c c => cases c <;> rfl
      refine (key (tm'.getD d vJ)).trans (Eq.trans ?_ (key (tm.getD d vJ)).symm)
      rw [he]

theorem gStep_set {lim d : Nat} {tk : Bool} {ops : Array Oper} {o : Oper} (u : V) (hd : d ∉ looks ops o) (S : St) : gStep T Sg lim tk ops o (S.setT d u) = (gStep T Sg lim tk ops o S).map fun p => (p.1, p.2.setT d u) := by
  unfold gStep
  have hw : wants ops (S.setT d u).tm o = wants ops S.tm o := wants_congr fun k hk => by
    have : k ≠ d := fun e => hd (by rw [← e]; exact hk)
    rw [show (S.setT d u).tm = S.tm.set d u from rfl, getD_set_ne' S.tm u this]
  rw [hw]
  split
  · exact opStep_set u fun h => hd (mem_looks_tmps h)
  · rfl
  · rfl

theorem gStep_put {lim : Nat} {tk : Bool} {ops : Array Oper} {o : Oper} (dst : Option Nat) (u : V) (hd : ∀ d, dst = some d → d ∉ looks ops o) (S : St) : gStep T Sg lim tk ops o (S.put dst u) = (gStep T Sg lim tk ops o S).map fun p => (p.1, p.2.put dst u) := by
  cases dst with
  | none => simp [St.put]
  | some d => exact gStep_set u (hd d rfl) S

theorem gStep_soft {lim : Nat} {tk : Bool} {ops : Array Oper} {o : Oper} {v : V} (h : gStep T Sg lim tk ops o S = some (v, S')) : Soft S S' := by
  unfold gStep at h
  split at h
  · exact opStep_soft h
  · cases h; exact Soft.refl _
  · cases h

theorem gStep_same {eff : Nat → Bool} (hEff : ∀ f g, Sg f = some (.eff g) → eff f = true) {lim : Nat} {tk : Bool} {ops : Array Oper} {o : Oper} {v : V} (hc : cls eff tk o ≤ 1) (hl : lim ≤ S.L.length) (h : gStep T Sg lim tk ops o S = some (v, S')) : Same lim S S' := by
  unfold gStep at h
  split at h
  · exact cls_same hEff hc hl h
  · cases h; exact Same.refl _ _
  · cases h

theorem er_opd {tm tm' : List V} (x : Operand) (h : ∀ t, x = .tmp t → (tm'.getD t vJ).er = (tm.getD t vJ).er) : (opd tm' x).er = (opd tm x).er := by
  cases x with
  | tmp t => exact h t rfl
  | _ => rfl

theorem gVal_congr {lim : Nat} {ops : Array Oper} {o : Oper} (h : ∀ d ∈ looks ops o, (S'.tm.getD d vJ).er = (S.tm.getD d vJ).er) (hr : o.op.reads = false ∨ Same lim S S') : gVal T Sg lim ops o S' = gVal T Sg lim ops o S := by
  unfold gVal
  rw [wants_congr h]
  rw [sv_congr (T := T) (Sg := Sg) (lim := lim) (S := S) (S' := S') (ρ := fun x => (opd S.tm x).er) (ρ' := fun x => (opd S'.tm x).er) (fun x hx => er_opd x fun t ht => h t (mem_looks_tmps (by
    subst ht
    unfold tmpsOf
    exact List.mem_filterMap.2 ⟨_, Array.mem_toList_iff.2 hx, rfl⟩))) hr]

theorem put_tm_er {dst : Option Nat} {u : V} {d : Nat} (h : dst ≠ some d) (S : St) : ((S.put dst u).tm.getD d vJ).er = (S.tm.getD d vJ).er := by
  cases dst with
  | none => rfl
  | some e => simp only [St.put]; rw [getD_set_ne' S.tm u fun q => h (by rw [q])]

theorem put_same {lim : Nat} (S : St) (dst : Option Nat) (u : V) : Same lim S (S.put dst u) := Same.of (put_H S dst u).1 (put_H S dst u).2
theorem Same.trans {lim : Nat} {S1 S2 S3 : St} (h : Same lim S1 S2) (k : Same lim S2 S3) : Same lim S1 S3 := ⟨fun p n a => (k.1 p n a).trans (h.1 p n a), fun v => (k.2 v).trans (h.2 v)⟩

theorem put_comm (S : St) {d e : Option Nat} (u v : V) (h : ∀ k, d = some k → e ≠ some k) : (S.put d u).put e v = (S.put e v).put d u := by
  cases d with
  | none => rfl
  | some d =>
    cases e with
    | none => rfl
    | some e =>
      have : d ≠ e := fun q => h d rfl (by rw [q])
      simp only [St.put]
      rw [List.set_comm _ _ this]

theorem apart_spec {ops : Array Oper} {x y : Oper} (h : apartOk ops x y = true) : (∀ d, x.dst = some d → d ∉ looks ops y) ∧ (∀ d, x.dst = some d → y.dst ≠ some d) ∧ (∀ d, y.dst = some d → d ∉ looks ops x) := by
  refine ⟨fun d hd => ?_, fun d hd => ?_, fun d hd => ?_⟩ <;> simp [apartOk, hd] at h
  · exact h.1.1
  · exact h.1.2
  · exact h.2

theorem step_len {lim i : Nat} {tks : Nat → Bool} {ops : Array Oper} (h : step T Sg lim tks ops i S = some S') : S.L.length ≤ S'.L.length := by
  unfold step at h
  split at h
  · cases h
  · split at h
    · obtain ⟨⟨v, S1⟩, h1, h2⟩ := Option.map_eq_some_iff.1 h
      simp only at h2
      subst h2
      rw [(put_H _ _ _).2]
      exact (opStep_soft h1).2
    · cases h
      rw [(put_H _ _ _).2]
      exact Nat.le_refl _
    · cases h

theorem comm_step {eff : Nat → Bool} (hEff : ∀ f g, Sg f = some (.eff g) → eff f = true) {lim i j : Nat} {tks : Nat → Bool} {ops : Array Oper} (hc : commOk eff ops tks j i = true) (hl : lim ≤ S.L.length) {S1 S2 : St}
    (h1 : step T Sg lim tks ops j S = some S1) (h2 : step T Sg lim tks ops i S1 = some S2) : ∃ S3, step T Sg lim tks ops i S = some S3 ∧ step T Sg lim tks ops j S3 = some S2 := by
  unfold commOk at hc
  split at hc
  · rename_i x y hx hy
    rw [Bool.and_eq_true] at hc
    obtain ⟨hc, ha⟩ := hc
    obtain ⟨a1, a2, a3⟩ := apart_spec ha
    have a1' : ∀ d ∈ looks ops y, x.dst ≠ some d := fun d hd q => a1 d q hd
    have a3' : ∀ d ∈ looks ops x, y.dst ≠ some d := fun d hd q => a3 d q hd
    rw [step_eq hx] at h1
    rw [step_eq hy] at h2
    rw [step_eq hy]
    obtain ⟨⟨vx, T1⟩, g1, rfl⟩ := Option.map_eq_some_iff.1 h1
    obtain ⟨⟨vy, T2⟩, g2, rfl⟩ := Option.map_eq_some_iff.1 h2
    simp only at g2 ⊢
    rw [gStep_put x.dst vx a1] at g2
    obtain ⟨⟨vy', T3⟩, g3, g4⟩ := Option.map_eq_some_iff.1 g2
    simp only [Prod.mk.injEq] at g4
    obtain ⟨rfl, rfl⟩ := g4
    -- g1: x at S gives T1;  g3: y at T1 gives T3
    have hcase : (cls eff (tks j) x = 0 ∧ (x.op.reads = false ∨ cls eff (tks i) y ≤ 1)) ∨ (cls eff (tks i) y = 0 ∧ (y.op.reads = false ∨ cls eff (tks j) x ≤ 1)) := by
      simp only [Bool.or_eq_true, Bool.and_eq_true, decide_eq_true_eq, beq_iff_eq, Bool.not_eq_true'] at hc
      rcases hc with (⟨⟨c1, c2⟩, c3 | c3⟩ | ⟨c1, c2⟩) | ⟨c1, c2⟩
      · exact .inl ⟨c3, .inr c2⟩
      · exact .inr ⟨c3, .inr c1⟩
      · exact .inl ⟨c1, .inl c2⟩
      · exact .inr ⟨c1, .inl c2⟩
    rcases hcase with ⟨c0, cr⟩ | ⟨c0, cr⟩
    · rw [gStep_still hEff c0] at g1
      obtain ⟨vx', k1, k2⟩ := Option.map_eq_some_iff.1 g1
      cases k2
      refine ⟨_, by rw [g3]; rfl, ?_⟩
      rw [step_eq hx, gStep_still hEff c0]
      have hsoft := gStep_soft g3
      rw [gVal_congr (S := S) (fun d hd => (put_tm_er (a3' d hd) T3).trans (hsoft.1 d)) (cr.imp id fun c => (gStep_same hEff c hl g3).trans (put_same _ _ _)), k1]
      simp only [Option.map_some, Option.some.injEq]
      exact (put_comm T3 vx vy' a2).symm
    · rw [gStep_still hEff c0] at g3
      obtain ⟨vy2, k1, k2⟩ := Option.map_eq_some_iff.1 g3
      cases k2
      have hsoft := gStep_soft g1
      rw [gVal_congr (S := S) (fun d hd => hsoft.1 d) (cr.imp id fun c => gStep_same hEff c hl g1)] at k1
      refine ⟨_, by rw [gStep_still hEff c0, k1]; rfl, ?_⟩
      rw [step_eq hx, gStep_put y.dst vy' a3, g1]
      simp only [Option.map_some, Option.some.injEq]
      exact (put_comm T1 vx vy' a2).symm
  · cases hc

theorem bubble {eff : Nat → Bool} (hEff : ∀ f g, Sg f = some (.eff g) → eff f = true) {lim i : Nat} {tks : Nat → Bool} {ops : Array Oper} : ∀ (pre post : List Nat) {S Sf : St}, (∀ j ∈ pre, commOk eff ops tks j i = true) → lim ≤ S.L.length →
    steps T Sg lim tks ops (pre ++ i :: post) S = some Sf → ∃ S1, step T Sg lim tks ops i S = some S1 ∧ steps T Sg lim tks ops (pre ++ post) S1 = some Sf
  | [], post, S, Sf, hc, hl, h => by
    simp only [List.nil_append, steps] at h
    split at h
    · rename_i S1 h1; exact ⟨S1, h1, h⟩
    · cases h
  | j :: pre, post, S, Sf, hc, hl, h => by
    simp only [List.cons_append, steps] at h
    split at h
    · rename_i S1 h1
      have hl1 := step_len h1
      obtain ⟨S2, h2, h3⟩ := bubble hEff pre post (fun k hk => hc k (by simp [hk])) (Nat.le_trans hl hl1) h
      obtain ⟨S3, h4, h5⟩ := comm_step hEff (hc j (by simp)) hl h1 h2
      exact ⟨S3, h4, by simp only [List.cons_append, steps, h5]; exact h3⟩
    · cases h

/-! ### What must lie ahead -/
theorem ancs_prefix : ∀ (l : List Oper) (acc : List (List Nat)), ∃ t, ancs l acc = acc ++ t
  | [], acc => ⟨[], by simp [ancs]⟩
  | o :: l, acc => by
    obtain ⟨t, ht⟩ := ancs_prefix l (acc ++ [ancOne o acc])
    exact ⟨ancOne o acc :: t, by simp [ancs, ht]⟩

theorem ancs_at : ∀ (l : List Oper) (acc : List (List Nat)) (i : Nat) (o : Oper), l[i]? = some o → ∃ acc' t, ancs l acc = acc' ++ ancOne o acc' :: t ∧ acc'.length = acc.length + i
  | [], _, _, _, h => by simp at h
  | o' :: l, acc, 0, o, h => by
    simp at h
    subst h
    obtain ⟨t, ht⟩ := ancs_prefix l (acc ++ [ancOne o' acc])
    exact ⟨acc, t, by simp [ancs, ht], by simp⟩
  | o' :: l, acc, i + 1, o, h => by
    obtain ⟨acc', t, h1, h2⟩ := ancs_at l (acc ++ [ancOne o' acc]) i o (by simpa using h)
    exact ⟨acc', t, by simpa [ancs] using h1, by simp at h2; omega⟩

/-- Listed operations: with each, what must lie ahead of it. -/
def Closed (ops : Array Oper) (ls : Array Bool) : Prop := ∀ k o, ops[k]? = some o → ls.getD k false = true → ∀ e ∈ o.after, Region.binds .any e = true → ls.getD e.on false = true

theorem anc_listed {ops : Array Oper} {ls : Array Bool} (hcl : Closed ops ls) (hlt : ∀ (k : Nat) (o : Oper), ops[k]? = some o → ∀ e ∈ o.after, Region.binds .any e = true → e.on < k) :
    ∀ (n k : Nat) (o : Oper), k < n → ops[k]? = some o → (∀ e ∈ o.after, Region.binds .any e = true → ls.getD e.on false = true) → ∀ j ∈ (ancs ops.toList []).getD k [], ls.getD j false = true
  | 0, k, o, hn, _, _ => by omega
  | n + 1, k, o, hn, ho, hall => by
    intro j hj
    obtain ⟨acc', t, h1, h2⟩ := ancs_at ops.toList [] k o (by rw [Array.getElem?_toList]; exact ho)
    simp only [List.length_nil, Nat.zero_add] at h2
    have hget : ∀ m, m < k → acc'.getD m [] = (ancs ops.toList []).getD m [] := fun m hm => by
      rw [h1, List.getD_eq_getElem?_getD, List.getD_eq_getElem?_getD, List.getElem?_append_left (by omega)]
    have hk : (ancs ops.toList []).getD k [] = ancOne o acc' := by
      rw [h1, List.getD_eq_getElem?_getD, List.getElem?_append_right (by omega), h2]
      simp
    rw [hk] at hj
    simp only [ancOne, List.mem_flatMap, List.mem_filter, Array.mem_toList_iff, List.mem_cons] at hj
    obtain ⟨e, ⟨he, hb⟩, hj⟩ := hj
    have hek := hlt k o ho e he hb
    rcases hj with rfl | hj
    · exact hall e he hb
    · rw [hget e.on hek] at hj
      cases hoe : ops[e.on]? with
      | none =>
        have hks : k < ops.size := (Array.getElem?_eq_some_iff.1 ho).1
        rw [Array.getElem?_eq_none_iff] at hoe
        omega
      | some oe => exact anc_listed hcl hlt n e.on oe (by omega) hoe (hcl e.on oe hoe (hall e he hb)) j hj

end
end Go.Ev
