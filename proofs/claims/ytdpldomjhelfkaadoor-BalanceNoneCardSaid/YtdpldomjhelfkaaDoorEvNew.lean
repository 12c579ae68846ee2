/- New local objects. -/
import Derived.Test.YtdpldomjhelfkaaDoorEvStore
set_option linter.unusedVariables false
set_option linter.unusedSimpArgs false
namespace Go.Ev
open Go

section
variable {P : Program} {T : Tabl} {B : Base} {E : Env} {S : St} {a : Array Value} {w w' : World}

theorem NoOwn.ptr (id off : Nat) : NoOwn (vC (.ptr id off)) := ⟨fun _ _ h => by simp at h, fun _ h => by simp at h⟩
theorem NoOwn.loc (id off : Nat) : NoOwn (vC (.loc id off)) := ⟨fun _ _ h => by simp at h, fun _ h => by simp at h⟩
theorem NoOwn.ml (id : Nat) : NoOwn (vC (.ml id)) := ⟨fun _ _ h => by simp at h, fun _ h => by simp at h⟩

def Env.withL (E : Env) (n b : Nat) : Env := ⟨E.m, E.ob, fun k => if k = n then some b else E.lo k⟩

theorem Rel.pushL (h : Rel B E S a w) {b : Nat} {ob : Ob} (hob : ObRep E.m w b ob) (him : E.m.im b = none) (hmp : E.m.mp b = false) (hmay : B.may b) (hfh : ∀ id, liveH S id → E.ob id ≠ some b) (hfl : ∀ k, liveL S k → E.lo k ≠ some b)
    (hno : ∀ l, ob = .cells l → ∀ (i sz : Nat) (rows : List (List D)), l[i]? ≠ some (.own sz rows)) : Rel B (E.withL S.L.length b) (Ev.pushL S ob) a w := by
  have hlo : ∀ k c, E.lo k = some c → (E.withL S.L.length b).lo k = some c := fun k c hk => by
    have := h.lol k c hk
    simp only [Env.withL]
    rw [if_neg (by omega)]; exact hk
  have hlt : ∀ k, k < S.L.length → (Ev.pushL S ob).L[k]? = S.L[k]? ∧ (E.withL S.L.length b).lo k = E.lo k := fun k hk => by
    refine ⟨by simp only [Ev.pushL]; rw [List.getElem?_append_left hk], ?_⟩
    simp only [Env.withL]
    rw [if_neg (by omega)]
  have hnew : (Ev.pushL S ob).L[S.L.length]? = some (some ob) := by simp [Ev.pushL]
  have hnewlo : (E.withL S.L.length b).lo S.L.length = some b := by simp [Env.withL]
  have hgone : ∀ k, S.L.length < k → (Ev.pushL S ob).L[k]? = none := fun k hk => List.getElem?_eq_none (by simp [Ev.pushL]; omega)
  have back : ∀ ℓ sz v, Owned (Ev.pushL S ob) (E.withL S.L.length b) a w ℓ sz v → Owned S E a w ℓ sz v := by
    intro ℓ sz v ho
    obtain ⟨⟨rows, h1⟩, h2⟩ := ho
    cases ℓ with
    | t i => exact ⟨⟨rows, h1⟩, h2⟩
    | tt i j => exact ⟨⟨rows, h1⟩, h2⟩
    | h id o => exact ⟨⟨rows, h1⟩, h2⟩
    | l k o =>
      rcases Nat.lt_trichotomy k S.L.length with hk | hk | hk
      · obtain ⟨e1, e2⟩ := hlt k hk
        refine ⟨⟨rows, ?_⟩, ?_⟩
        · simp only [St.at] at h1 ⊢; rw [e1] at h1; exact h1
        · simp only [conc] at h2 ⊢; rw [e2] at h2; exact h2
      · subst hk
        simp only [St.at, hnew] at h1
        split at h1
        · rename_i l hl
          exact absurd h1 (hno l (by simpa using hl) o sz rows)
        · cases h1
      · simp only [St.at, hgone k hk] at h1
        cases h1
  have liveB : ∀ k, liveL (Ev.pushL S ob) k → k = S.L.length ∨ (liveL S k ∧ (E.withL S.L.length b).lo k = E.lo k) := by
    rintro k ⟨o, ho⟩
    rcases Nat.lt_trichotomy k S.L.length with hk | hk | hk
    · obtain ⟨e1, e2⟩ := hlt k hk
      exact .inr ⟨⟨o, by rw [← e1]; exact ho⟩, e2⟩
    · exact .inl hk
    · rw [hgone k hk] at ho; cases ho
  exact {
    len := h.len
    tr := fun i u hu => let ⟨x, h1, h2⟩ := h.tr i u hu; ⟨x, h1, h2.mono (E' := E.withL S.L.length b) (Ext.refl E.m w) (fun _ _ h => h) hlo⟩
    hr := h.hr
    lr := fun k o ho => by
      rcases liveB k ⟨o, ho⟩ with rfl | ⟨h1, h2⟩
      · rw [hnew] at ho
        cases ho
        exact ⟨b, hnewlo, hob, him, hmp, hmay⟩
      · have hk : k < S.L.length := by obtain ⟨o', h3⟩ := h1; exact (List.getElem?_eq_some_iff.1 h3).1
        rw [(hlt k hk).1] at ho
        rw [h2]
        exact h.lr k o ho
    hh := h.hh
    ll := fun i j c hi hj h1 h2 => by
      rcases liveB i hi with rfl | ⟨k1, k2⟩ <;> rcases liveB j hj with rfl | ⟨l1, l2⟩
      · rfl
      · rw [hnewlo] at h1; cases h1; rw [l2] at h2; exact absurd h2 (hfl j l1)
      · rw [hnewlo] at h2; cases h2; rw [k2] at h1; exact absurd h1 (hfl i k1)
      · rw [k2] at h1; rw [l2] at h2; exact h.ll i j c k1 l1 h1 h2
    hl := fun i j c hi hj h1 h2 => by
      rcases liveB j hj with rfl | ⟨l1, l2⟩
      · rw [hnewlo] at h2; cases h2; exact hfh i hi h1
      · rw [l2] at h2; exact h.hl i j c hi l1 h1 h2
    obl := h.obl
    lol := fun k c hk => by
      simp only [Ev.pushL, List.length_append, List.length_singleton]
      by_cases e : k = S.L.length
      · omega
      · have : E.lo k = some c := by simpa [Env.withL, e] using hk
        have := h.lol k c this
        omega
    own := fun ℓ sz v ho => h.own ℓ sz v (back ℓ sz v ho)
    own1 := fun ℓ ℓ' sz sz' v v' c h1 h2 => h.own1 ℓ ℓ' sz sz' v v' c (back _ _ _ h1) (back _ _ _ h2)
    imw := h.imw
    mpw := h.mpw
    kept := h.kept }

/-- What a step does to the outer objects' places. -/
def Agree (S : St) (E : Env) (S' : St) (E' : Env) : Prop := S.H.length ≤ S'.H.length ∧ ∀ id, id < S.H.length → E'.ob id = E.ob id

theorem Agree.refl (S : St) (E : Env) : Agree S E S E := ⟨Nat.le_refl _, fun _ _ => rfl⟩
theorem Agree.trans {S1 S2 S3 : St} {E1 E2 E3 : Env} (h : Agree S1 E1 S2 E2) (k : Agree S2 E2 S3 E3) : Agree S1 E1 S3 E3 :=
  ⟨Nat.le_trans h.1 k.1, fun id hi => (k.2 id (Nat.lt_of_lt_of_le hi h.1)).trans (h.2 id hi)⟩
theorem Agree.same {S S' : St} {E E' : Env} (hl : S'.H.length = S.H.length) (ho : E'.ob = E.ob) : Agree S E S' E' := ⟨by omega, fun _ _ => by rw [ho]⟩

theorem Rel.newObj (h : Rel B E S a w) {o : Obj} (g : Grow w w' o) {ob : Ob} {v : C} {x : Value}
    (hob : ∀ m, Ext E.m w m w' → ObRep m w' w.heap.size ob) (hno : ∀ l, ob = .cells l → ∀ (i sz : Nat) (rows : List (List D)), l[i]? ≠ some (.own sz rows))
    (hv : (v = .loc S.L.length 0 ∧ x = .pointer (some ⟨w.heap.size, 0, none⟩)) ∨ (v = .ml S.L.length ∧ x = .map (some w.heap.size))) :
    ∃ E', E'.ob = E.ob ∧ Rel B E' { Ev.pushL S ob with tm := S.tm ++ [vC v] } (a.push x) w' := by
  obtain ⟨h1, ext⟩ := h.newBlock g none false (by simp) (by simp)
  have h2 := h1.pushL (b := w.heap.size) (hob _ ext) (by simp [M.add]) (by simp [M.add]) (.inr h.kept.size) (fun id hi hb => by
    obtain ⟨o', ho⟩ := hi
    obtain ⟨b, q1, q2, _⟩ := h.hr id o' ho
    have := q2.lt
    have hb' : E.ob id = some w.heap.size := hb
    rw [q1] at hb'
    cases hb'
    omega) (fun id hi hb => by
    obtain ⟨o', ho⟩ := hi
    obtain ⟨b, q1, q2, _⟩ := h.lr id o' ho
    have := q2.lt
    have hb' : E.lo id = some w.heap.size := hb
    rw [q1] at hb'
    cases hb'
    omega) hno
  have hlo : ((⟨E.m.add w.heap.size none false, E.ob, E.lo⟩ : Env).withL S.L.length w.heap.size).lo S.L.length = some w.heap.size := by simp [Env.withL]
  refine ⟨(⟨E.m.add w.heap.size none false, E.ob, E.lo⟩ : Env).withL S.L.length w.heap.size, rfl, ?_⟩
  rcases hv with ⟨rfl, rfl⟩ | ⟨rfl, rfl⟩
  · exact h2.push (show VRep _ w' (vC (.loc S.L.length 0)) _ from ⟨_, hlo, rfl⟩) (NoOwn.loc _ _)
  · exact h2.push (show VRep _ w' (vC (.ml S.L.length)) _ from ⟨_, hlo, rfl⟩) (NoOwn.ml _)

theorem alloc_sound (hT : TabOk P T) {t : Nat} {ti : TI} (ht : T t = some ti) (h : Rel B E S a w) :
    ∃ z w' E', (Instr.alloc t true (.tuple #[])).run P w = .ok z w' ∧ E'.ob = E.ob ∧ Rel B E' { Ev.pushL S (.cells (ti.zero.map C.d)) with tm := S.tm ++ [vC (.loc S.L.length 0)] } (a.push z) w' := by
  obtain ⟨z, hz, hzr⟩ := (hT _ _ ht).zero (P := P) w
  have ha := zrep_arep hzr
  obtain ⟨E', h1, h2⟩ := h.newObj (o := .cells z.cells t) (Grow.alloc w _) (ob := .cells (ti.zero.map C.d)) (v := .loc S.L.length 0) (fun m x => by
    have hm := ha m (w.alloc (.cells z.cells t))
    refine ⟨z.cells, t, (Grow.alloc w _).new, by simpa using hm.1, fun i c hc => ?_⟩
    simp only [List.getElem?_map, Option.map_eq_some_iff] at hc
    obtain ⟨d, hd, rfl⟩ := hc
    exact hm.2 i d hd) (fun l hl i sz rows => by cases hl; simp) (.inl ⟨rfl, rfl⟩)
  refine ⟨_, _, E', ?_, h1, h2⟩
  simp [Instr.alloc, hz, newVar, newRow]

theorem box_sound {t : Nat} {v : V} {ds : List D} {X : Value} (h : Rel B E S a w) (hv : VRep E w v X) (hd : v.dcells = some ds) :
    ∃ z w' E', (Instr.box t X).run P w = .ok z w' ∧ E'.ob = E.ob ∧ Rel B E' { Ev.pushL S (.cells (ds.map C.d)) with tm := S.tm ++ [vC (.loc S.L.length 0)] } (a.push z) w' := by
  have ha := dcells_rep hv hd
  obtain ⟨E', h1, h2⟩ := h.newObj (o := .cells X.cells t) (Grow.alloc w _) (ob := .cells (ds.map C.d)) (v := .loc S.L.length 0) (fun m x => by
    refine ⟨X.cells, t, (Grow.alloc w _).new, by simpa using ha.1, fun i c hc => ?_⟩
    simp only [List.getElem?_map, Option.map_eq_some_iff] at hc
    obtain ⟨d, hd, rfl⟩ := hc
    obtain ⟨y, h1, h2⟩ := ha.2 i d hd
    exact ⟨y, h1, h2.mono x⟩) (fun l hl i sz rows => by cases hl; simp) (.inl ⟨rfl, rfl⟩)
  refine ⟨_, _, E', ?_, h1, h2⟩
  simp [Instr.box, newVar, newRow]

theorem makeMap_sound {t : Nat} (h : Rel B E S a w) :
    ∃ z w' E', (Instr.makeMap t none).run P w = .ok z w' ∧ E'.ob = E.ob ∧ Rel B E' { Ev.pushL S (.map []) with tm := S.tm ++ [vC (.ml S.L.length)] } (a.push z) w' := by
  obtain ⟨E', h1, h2⟩ := h.newObj (o := .map #[] 0) (Grow.alloc w _) (ob := .map []) (v := .ml S.L.length) (fun m x => ⟨#[], 0, (Grow.alloc w _).new, by simp, by simp, by simp⟩) (fun l hl => by cases hl) (.inr ⟨rfl, rfl⟩)
  refine ⟨_, _, E', ?_, h1, h2⟩
  simp [Instr.makeMap]

end
end Go.Ev
