/- Local objects handed to a callee as outer ones, and back. -/
import Derived.Test.YtdpldomjhelfkaaDoorEvCall
set_option linter.unusedVariables false
set_option linter.unusedSimpArgs false
namespace Go.Ev
open Go

section
variable {P : Program} {T : Tabl} {B : Base} {E F : Env} {S : St} {a : Array Value} {w w' : World}

def Env.up (E : Env) (n : Nat) : Env := ⟨E.m, fun id => if id < n then E.ob id else E.lo (id - n), fun _ => none⟩
def St.up (S : St) : St := ⟨S.tm.map (upV S.H.length), S.H ++ S.L, []⟩

theorem upW_rep {n : Nat} {x : W} {v : Value} (hn : ∀ id b, E.ob id = some b → id < n) (h : WRep E w x v) : WRep (E.up n) w (upW n x) v := by
  cases x with
  | a ds => exact h
  | c c =>
    cases c with
    | d d => exact h
    | own sz rows => exact h
    | ptr id off => obtain ⟨b, h1, h2⟩ := h; exact ⟨b, by simp only [Env.up]; rw [if_pos (hn id b h1)]; exact h1, h2⟩
    | loc k off => obtain ⟨b, h1, h2⟩ := h; exact ⟨b, by simp only [Env.up]; rw [if_neg (by omega)]; simpa using h1, h2⟩
    | ml k => trivial
    | junk => trivial

theorem upV_rep {n : Nat} {x : V} {v : Value} (hn : ∀ id b, E.ob id = some b → id < n) (h : VRep E w x v) : VRep (E.up n) w (upV n x) v := by
  cases x with
  | w x => exact upW_rep hn h
  | t ws =>
    obtain ⟨vs, h1, h2, h3⟩ := h
    refine ⟨vs, h1, by simpa using h2, fun i y hy => ?_⟩
    simp only [List.getElem?_map, Option.map_eq_some_iff] at hy
    obtain ⟨z, hz, rfl⟩ := hy
    obtain ⟨u, h4, h5⟩ := h3 i z hz
    exact ⟨u, h4, upW_rep hn h5⟩

theorem upW_own {n : Nat} {x : W} {sz : Nat} {rows : List (List D)} : upW n x = .c (.own sz rows) ↔ x = .c (.own sz rows) := by
  cases x with
  | a ds => simp [upW]
  | c c => cases c <;> simp [upW]

def splitL (n : Nat) : FL → FL
  | .h id o => if id < n then .h id o else .l (id - n) o
  | ℓ => ℓ
def joinL (n : Nat) : FL → FL
  | .l k o => .h (n + k) o
  | ℓ => ℓ

theorem at_up_t {i sz : Nat} {rows : List (List D)} (S2 : St) (n : Nat) (h : S2.tm[i]? = (S.tm[i]?).map (upV n)) (hs : S2.at (.t i) = some (.own sz rows)) : S.at (.t i) = some (.own sz rows) := by
  simp only [at_t, h] at hs
  simp only [at_t]
  cases hu : S.tm[i]? with
  | none => rw [hu] at hs; simp at hs
  | some u =>
    rw [hu] at hs
    simp only [Option.map_some] at hs
    cases u with
    | t ws => simp [upV] at hs
    | w x =>
      simp only [upV] at hs
      split at hs
      · rename_i c hc
        cases hs
        have : upW n x = .c (.own sz rows) := by simpa using hc
        rw [upW_own.1 this]
      · cases hs

theorem at_up_tt {i j sz : Nat} {rows : List (List D)} (S2 : St) (n : Nat) (h : S2.tm[i]? = (S.tm[i]?).map (upV n)) (hs : S2.at (.tt i j) = some (.own sz rows)) : S.at (.tt i j) = some (.own sz rows) := by
  simp only [at_tt, h] at hs
  simp only [at_tt]
  cases hu : S.tm[i]? with
  | none => rw [hu] at hs; simp at hs
  | some u =>
    rw [hu] at hs
    simp only [Option.map_some] at hs
    cases u with
    | w x => simp [upV] at hs
    | t ws =>
      simp only [upV, List.getElem?_map] at hs
      cases hj : ws[j]? with
      | none => rw [hj] at hs; simp at hs
      | some x =>
        rw [hj] at hs
        simp only [Option.map_some] at hs
        split at hs
        · rename_i c hc
          cases hs
          have : upW n x = .c (.own sz rows) := by simpa using hc
          rw [upW_own.1 this] at hj
          simp [hj]
        · cases hs

theorem at_down_t {i sz : Nat} {rows : List (List D)} (S2 : St) (n : Nat) (h : S2.tm[i]? = (S.tm[i]?).map (upV n)) (hs : S.at (.t i) = some (.own sz rows)) : S2.at (.t i) = some (.own sz rows) := by
  simp only [at_t] at hs
  simp only [at_t, h]
  split at hs
  · rename_i c hc
    cases hs
    rw [hc]
    rfl
  · cases hs
theorem at_down_tt {i j sz : Nat} {rows : List (List D)} (S2 : St) (n : Nat) (h : S2.tm[i]? = (S.tm[i]?).map (upV n)) (hs : S.at (.tt i j) = some (.own sz rows)) : S2.at (.tt i j) = some (.own sz rows) := by
  simp only [at_tt] at hs
  simp only [at_tt, h]
  split at hs
  · rename_i ws hc
    split at hs
    · rename_i c hj
      cases hs
      rw [hc]
      simp [upV, hj, upW]
    · cases hs
  · cases hs

theorem Rel.up (h : Rel B E S a w) : Rel B (E.up S.H.length) S.up a w := by
  have hlen := h.len
  have htm : ∀ (i : Nat), S.up.tm[i]? = (S.tm[i]?).map (upV S.H.length) := fun i => by simp [St.up]
  have hH1 : ∀ id, id < S.H.length → S.up.H[id]? = S.H[id]? := fun id hi => by simp only [St.up]; rw [List.getElem?_append_left hi]
  have hH2 : ∀ id, ¬ id < S.H.length → S.up.H[id]? = S.L[id - S.H.length]? := fun id hi => by simp only [St.up]; rw [List.getElem?_append_right (by omega)]
  have hob1 : ∀ id, id < S.H.length → (E.up S.H.length).ob id = E.ob id := fun id hi => by simp only [Env.up]; rw [if_pos hi]
  have hob2 : ∀ id, ¬ id < S.H.length → (E.up S.H.length).ob id = E.lo (id - S.H.length) := fun id hi => by simp only [Env.up]; rw [if_neg hi]
  have key : ∀ ℓ sz v, Owned S.up (E.up S.H.length) a w ℓ sz v → Owned S E a w (splitL S.H.length ℓ) sz v ∧ (∀ k o, ℓ ≠ .l k o) := by
    intro ℓ sz v ho
    obtain ⟨⟨rows, h1⟩, h2⟩ := ho
    cases ℓ with
    | t i => exact ⟨⟨⟨rows, at_up_t S.up S.H.length (htm i) h1⟩, h2⟩, by simp⟩
    | tt i j => exact ⟨⟨⟨rows, at_up_tt S.up S.H.length (htm i) h1⟩, h2⟩, by simp⟩
    | l k o => simp [St.at, St.up] at h1
    | h id o =>
      refine ⟨?_, by simp⟩
      by_cases hi : id < S.H.length
      · simp only [splitL, if_pos hi]
        refine ⟨⟨rows, ?_⟩, ?_⟩
        · simp only [St.at, hH1 id hi] at h1 ⊢; exact h1
        · simp only [conc, hob1 id hi] at h2 ⊢; exact h2
      · simp only [splitL, if_neg hi]
        refine ⟨⟨rows, ?_⟩, ?_⟩
        · simp only [St.at, hH2 id hi] at h1 ⊢; exact h1
        · simp only [conc, hob2 id hi] at h2 ⊢; exact h2
  have live1 : ∀ id, liveH S.up id → id < S.H.length → liveH S id := by
    rintro id ⟨o, ho⟩ hi
    rw [hH1 id hi] at ho
    exact ⟨o, ho⟩
  have live2 : ∀ id, liveH S.up id → ¬ id < S.H.length → liveL S (id - S.H.length) := by
    rintro id ⟨o, ho⟩ hi
    rw [hH2 id hi] at ho
    exact ⟨o, ho⟩
  exact {
    len := by simp [St.up, hlen]
    tr := fun i v hv => by
      rw [htm i] at hv
      obtain ⟨u, hu, rfl⟩ := Option.map_eq_some_iff.1 hv
      obtain ⟨x, h1, h2⟩ := h.tr i u hu
      exact ⟨x, h1, upV_rep h.obl h2⟩
    hr := fun id o ho => by
      by_cases hi : id < S.H.length
      · rw [hH1 id hi] at ho
        rw [hob1 id hi]
        exact h.hr id o ho
      · rw [hH2 id hi] at ho
        rw [hob2 id hi]
        exact h.lr _ o ho
    lr := fun k o ho => by simp [St.up] at ho
    hh := fun i j b hi hj h1 h2 => by
      by_cases ki : i < S.H.length <;> by_cases kj : j < S.H.length
      · rw [hob1 i ki] at h1; rw [hob1 j kj] at h2; exact h.hh i j b (live1 i hi ki) (live1 j hj kj) h1 h2
      · rw [hob1 i ki] at h1; rw [hob2 j kj] at h2; exact (h.hl i _ b (live1 i hi ki) (live2 j hj kj) h1 h2).elim
      · rw [hob2 i ki] at h1; rw [hob1 j kj] at h2; exact (h.hl j _ b (live1 j hj kj) (live2 i hi ki) h2 h1).elim
      · rw [hob2 i ki] at h1; rw [hob2 j kj] at h2
        have := h.ll _ _ b (live2 i hi ki) (live2 j hj kj) h1 h2
        omega
    ll := fun i j b hi => by obtain ⟨o, ho⟩ := hi; simp [St.up] at ho
    hl := fun i j b _ hj => by obtain ⟨o, ho⟩ := hj; simp [St.up] at ho
    obl := fun id b hb => by
      simp only [St.up, List.length_append]
      by_cases hi : id < S.H.length
      · omega
      · rw [hob2 id hi] at hb
        have := h.lol _ b hb
        omega
    lol := fun k b hb => by cases hb
    own := fun ℓ sz v ho => h.own _ sz v (key ℓ sz v ho).1
    own1 := fun ℓ ℓ' sz sz' v v' b h1 h2 h3 h4 => by
      have he := h.own1 _ _ _ _ _ _ b (key _ _ _ h1).1 (key _ _ _ h2).1 h3 h4
      have n1 := (key _ _ _ h1).2
      have n2 := (key _ _ _ h2).2
      cases ℓ <;> cases ℓ' <;> simp only [splitL] at he <;> (repeat' split at he) <;> simp_all <;> omega
    imw := h.imw
    mpw := h.mpw
    kept := h.kept }

theorem downW_rep {n : Nat} {x : W} {v : Value} (hF : WRep F w' (upW n x) v) (hE : WRep E w x v) (hob : ∀ id b, E.ob id = some b → id < n) (hlo : ∀ k b, E.lo k = some b → F.ob (n + k) = some b) :
    WRep ⟨F.m, fun id => if id < n then F.ob id else none, fun k => F.ob (n + k)⟩ w' x v := by
  cases x with
  | a ds => exact hF
  | c c =>
    cases c with
    | d d => exact hF
    | own sz rows => exact hF
    | ptr id off =>
      obtain ⟨b, h1, h2⟩ := hF
      obtain ⟨b', h3, _⟩ := hE
      exact ⟨b, by show (if id < n then F.ob id else none) = _; rw [if_pos (hob id b' h3)]; exact h1, h2⟩
    | loc k off => obtain ⟨b, h1, h2⟩ := hF; exact ⟨b, h1, h2⟩
    | ml k => obtain ⟨b, h1, h2⟩ := hE; exact ⟨b, hlo k b h1, h2⟩
    | junk => trivial

theorem downV_rep {n : Nat} {x : V} {v : Value} (hF : VRep F w' (upV n x) v) (hE : VRep E w x v) (hob : ∀ id b, E.ob id = some b → id < n) (hlo : ∀ k b, E.lo k = some b → F.ob (n + k) = some b) :
    VRep ⟨F.m, fun id => if id < n then F.ob id else none, fun k => F.ob (n + k)⟩ w' x v := by
  cases x with
  | w x => exact downW_rep hF hE hob hlo
  | t ws =>
    obtain ⟨vs, h1, h2, h3⟩ := hF
    obtain ⟨vs', h4, h5, h6⟩ := hE
    rw [h1] at h4
    cases h4
    refine ⟨vs, h1, h5, fun i y hy => ?_⟩
    obtain ⟨u, k1, k2⟩ := h6 i y hy
    obtain ⟨u', k3, k4⟩ := h3 i (upW n y) (by simp [hy])
    rw [k1] at k3
    cases k3
    exact ⟨u, k1, downW_rep k4 k2 hob hlo⟩

theorem plainV_rep {x : V} {v : Value} {E' : Env} (hp : plainV x = true) (h : VRep F w' x v) (hm : E'.m = F.m) : VRep E' w' x v := by
  have pw : ∀ (y : W) (u : Value), plainW y = true → WRep F w' y u → WRep E' w' y u := by
    intro y u hy hu
    cases y with
    | a ds => obtain ⟨vs, h1, h2⟩ := hu; exact ⟨vs, h1, by rw [hm]; exact h2⟩
    | c c =>
      cases c with
      | d d => show DRep E'.m _ _ _; rw [hm]; exact hu
      | own sz rows => show DRep E'.m _ _ _; rw [hm]; exact hu
      | _ => simp [plainW, C.plain] at hy
  cases x with
  | w y => exact pw y v hp h
  | t ws =>
    obtain ⟨vs, h1, h2, h3⟩ := h
    refine ⟨vs, h1, h2, fun i y hy => ?_⟩
    obtain ⟨u, k1, k2⟩ := h3 i y hy
    exact ⟨u, k1, pw y u (List.all_eq_true.1 hp y (List.mem_of_getElem? hy)) k2⟩

theorem Rel.down (h : Rel B E S a w) {v : V} {H' : List (Option Ob)} {r : Value} (h1 : Rel B F ⟨S.up.tm ++ [v], H', []⟩ (a.push r) w') (hl : H'.length = S.H.length + S.L.length) (hp : plainV v = true)
    (hob : ∀ id, id < S.up.H.length → F.ob id = (E.up S.H.length).ob id) :
    ∃ E', (∀ id, id < S.H.length → E'.ob id = E.ob id) ∧ Rel B E' ⟨S.tm ++ [v], H'.take S.H.length, H'.drop S.H.length⟩ (a.push r) w' := by
  have hlen := h.len
  have hup : S.up.tm.length = S.tm.length := by simp [St.up]
  have hupH : S.up.H.length = S.H.length + S.L.length := by simp [St.up]
  have hob1 : ∀ id, id < S.H.length → F.ob id = E.ob id := fun id hi => by rw [hob id (by omega)]; simp only [Env.up]; rw [if_pos hi]
  have hlo1 : ∀ k b, E.lo k = some b → F.ob (S.H.length + k) = some b := fun k b hb => by
    have := h.lol k b hb
    rw [hob _ (by omega)]
    simp only [Env.up]
    rw [if_neg (by omega)]
    simpa using hb
  refine ⟨⟨F.m, fun id => if id < S.H.length then F.ob id else none, fun k => F.ob (S.H.length + k)⟩, fun id hi => by show (if id < S.H.length then F.ob id else none) = _; rw [if_pos hi]; exact hob1 id hi, ?_⟩
  have htm : ∀ i, i ≠ S.tm.length → (S.up.tm ++ [v])[i]? = ((S.tm ++ [v])[i]?).map (upV S.H.length) := fun i hi => by
    rcases Nat.lt_or_ge i S.tm.length with q | q
    · rw [List.getElem?_append_left (by omega), List.getElem?_append_left q]; simp [St.up]
    · rw [List.getElem?_eq_none (by simp [hup]; omega), List.getElem?_eq_none (by simp; omega)]; rfl
  have hlast1 : (S.up.tm ++ [v])[S.tm.length]? = some v := by rw [List.getElem?_append_right (by omega)]; simp [hup]
  have hlast2 : (S.tm ++ [v])[S.tm.length]? = some v := by simp
  have hH1 : ∀ id, id < S.H.length → (H'.take S.H.length)[id]? = H'[id]? := fun id hi => by rw [List.getElem?_take, if_pos hi]
  have hH1n : ∀ id, ¬ id < S.H.length → (H'.take S.H.length)[id]? = none := fun id hi => by rw [List.getElem?_take, if_neg hi]
  have hH2 : ∀ (k : Nat), (H'.drop S.H.length)[k]? = H'[S.H.length + k]? := fun k => by rw [List.getElem?_drop]
  have key : ∀ ℓ sz u, Owned ⟨S.tm ++ [v], H'.take S.H.length, H'.drop S.H.length⟩ ⟨F.m, fun id => if id < S.H.length then F.ob id else none, fun k => F.ob (S.H.length + k)⟩ (a.push r) w' ℓ sz u →
      Owned ⟨S.up.tm ++ [v], H', []⟩ F (a.push r) w' (joinL S.H.length ℓ) sz u ∧ (∀ id o, ℓ = .h id o → id < S.H.length) := by
    intro ℓ sz u ho
    obtain ⟨⟨rows, g1⟩, g2⟩ := ho
    cases ℓ with
    | t i =>
      refine ⟨⟨⟨rows, ?_⟩, g2⟩, by simp⟩
      by_cases hi : i = S.tm.length
      · subst hi
        simp only [joinL, at_t, hlast2] at g1 ⊢
        rw [hlast1]; exact g1
      · exact at_down_t (S := ⟨S.tm ++ [v], H'.take S.H.length, H'.drop S.H.length⟩) ⟨S.up.tm ++ [v], H', []⟩ S.H.length (htm i hi) g1
    | tt i j =>
      refine ⟨⟨⟨rows, ?_⟩, g2⟩, by simp⟩
      by_cases hi : i = S.tm.length
      · subst hi
        simp only [joinL, at_tt, hlast2] at g1 ⊢
        rw [hlast1]; exact g1
      · exact at_down_tt (S := ⟨S.tm ++ [v], H'.take S.H.length, H'.drop S.H.length⟩) ⟨S.up.tm ++ [v], H', []⟩ S.H.length (htm i hi) g1
    | h id o =>
      by_cases hi : id < S.H.length
      · refine ⟨⟨⟨rows, ?_⟩, ?_⟩, fun _ _ q => by cases q; exact hi⟩
        · simp only [joinL, St.at, hH1 id hi] at g1 ⊢; exact g1
        · simp only [joinL, conc, if_pos hi] at g2 ⊢; exact g2
      · simp only [St.at, hH1n id hi] at g1
        cases g1
    | l k o =>
      refine ⟨⟨⟨rows, ?_⟩, ?_⟩, by simp⟩
      · simp only [joinL, St.at, hH2 k] at g1 ⊢; exact g1
      · simp only [joinL, conc] at g2 ⊢; exact g2
  have live1 : ∀ id, liveH ⟨S.tm ++ [v], H'.take S.H.length, H'.drop S.H.length⟩ id → id < S.H.length ∧ liveH ⟨S.up.tm ++ [v], H', []⟩ id := by
    rintro id ⟨o, ho⟩
    by_cases hi : id < S.H.length
    · simp only [hH1 id hi] at ho; exact ⟨hi, o, ho⟩
    · simp only [hH1n id hi] at ho; cases ho
  have live2 : ∀ k, liveL ⟨S.tm ++ [v], H'.take S.H.length, H'.drop S.H.length⟩ k → liveH ⟨S.up.tm ++ [v], H', []⟩ (S.H.length + k) := by
    rintro k ⟨o, ho⟩
    simp only [hH2 k] at ho
    exact ⟨o, ho⟩
  exact {
    len := by simp [hlen]
    tr := fun i u hu => by
      have hu' : (S.tm ++ [v])[i]? = some u := hu
      by_cases hi : i = S.tm.length
      · subst hi
        rw [hlast2] at hu'
        cases hu'
        obtain ⟨x, q1, q2⟩ := h1.tr S.tm.length v hlast1
        exact ⟨x, q1, plainV_rep hp q2 rfl⟩
      · have hil : i < S.tm.length := by
          have := (List.getElem?_eq_some_iff.1 hu').1
          simp at this
          omega
        obtain ⟨x, q1, q2⟩ := h1.tr i (upV S.H.length u) (by show (S.up.tm ++ [v])[i]? = _; rw [htm i hi, hu']; rfl)
        rw [List.getElem?_append_left hil] at hu'
        obtain ⟨x', q3, q4⟩ := h.tr i u hu'
        have : x' = x := by
          rw [Array.getElem?_push, if_neg (by omega), q3] at q1
          cases q1; rfl
        subst this
        exact ⟨x', q1, downV_rep q2 q4 h.obl hlo1⟩
    hr := fun id o ho => by
      obtain ⟨hi, _⟩ := live1 id ⟨o, ho⟩
      simp only [hH1 id hi] at ho
      obtain ⟨b, q1, q2⟩ := h1.hr id o ho
      exact ⟨b, by show (if id < S.H.length then F.ob id else none) = _; rw [if_pos hi]; exact q1, q2⟩
    lr := fun k o ho => by
      simp only [hH2 k] at ho
      exact h1.hr _ o ho
    hh := fun i j b hi hj q1 q2 => by
      obtain ⟨i1, i2⟩ := live1 i hi
      obtain ⟨j1, j2⟩ := live1 j hj
      simp only [if_pos i1] at q1
      simp only [if_pos j1] at q2
      exact h1.hh i j b i2 j2 q1 q2
    ll := fun i j b hi hj q1 q2 => by
      have := h1.hh _ _ b (live2 i hi) (live2 j hj) q1 q2
      omega
    hl := fun i j b hi hj q1 q2 => by
      obtain ⟨i1, i2⟩ := live1 i hi
      simp only [if_pos i1] at q1
      have := h1.hh _ _ b i2 (live2 j hj) q1 q2
      omega
    obl := fun id b hb => by
      by_cases hi : id < S.H.length
      · simp; omega
      · simp only [if_neg hi] at hb; cases hb
    lol := fun k b hb => by
      have := h1.obl _ b hb
      simp only [List.length_drop]
      have : S.H.length + k < H'.length := this
      omega
    own := fun ℓ sz u ho => h1.own _ sz u (key ℓ sz u ho).1
    own1 := fun ℓ ℓ' sz sz' u u' b g1 g2 g3 g4 => by
      have he := h1.own1 _ _ _ _ _ _ b (key _ _ _ g1).1 (key _ _ _ g2).1 g3 g4
      have n1 := (key _ _ _ g1).2
      have n2 := (key _ _ _ g2).2
      cases ℓ <;> cases ℓ' <;> simp only [joinL, FL.h.injEq, FL.l.injEq, FL.t.injEq, FL.tt.injEq, reduceCtorEq] at he ⊢ <;> first
        | exact he
        | (have := n1 _ _ rfl; omega)
        | (have := n2 _ _ rfl; omega)
        | omega
    imw := h1.imw
    mpw := h1.mpw
    kept := h1.kept }

end
end Go.Ev
