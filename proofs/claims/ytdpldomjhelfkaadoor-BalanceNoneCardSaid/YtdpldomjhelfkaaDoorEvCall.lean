/- Calls: what a callee's contract says, and how it is used. -/
import Derived.Test.YtdpldomjhelfkaaDoorEvApp2
set_option linter.unusedVariables false
set_option linter.unusedSimpArgs false
namespace Go.Ev
open Go

/-- A function's contract: what is computed with abstract values is what the code does. -/
def SoundE (P : Program) (pin : Nat → Option Obj) (f : Nat) (g : List V → List (Option Ob) → Option (V × List (Option Ob))) : Prop :=
  ∀ args H v H', g args H = some (v, H') → ∀ B E argv w, B.pin = pin → Rel B E ⟨args, H, []⟩ argv w → Calls P f argv w fun e w' =>
    ∃ r E', e = .returned r ∧ H.length ≤ H'.length ∧ (∀ id, id < H.length → E'.ob id = E.ob id) ∧ Rel B E' ⟨[v], H', []⟩ #[r] w'

/-- It can be called. -/
def Callable (P : Program) (f : Nat) : Prop := ∃ fn, P.funcs[f]? = some fn ∧ (fn.name == "runtime.NumGoroutine") = false ∧ fn.body.isNone = false

def asEff (g : List V → Option V) (args : List V) (H : List (Option Ob)) : Option (V × List (Option Ob)) :=
  match H with
  | [] => (g args).map fun v => (v, [])
  | _ => none

def Sound (P : Program) (pin : Nat → Option Obj) (f : Nat) (sp : Sp) : Prop := Callable P f ∧ match sp with
  | .pure g => SoundE P pin f (asEff g)
  | .eff g => SoundE P pin f g

def SigOk (P : Program) (pin : Nat → Option Obj) (Sg : Sig) : Prop := ∀ f sp, Sg f = some sp → Sound P pin f sp

section
variable {P : Program} {T : Tabl} {B : Base} {E : Env} {S : St} {a : Array Value} {w w' : World}

def ArgsOk (E : Env) (w : World) (args : List V) (argv : Array Value) : Prop := argv.size = args.length ∧ ∀ (i : Nat) (v : V), args[i]? = some v → ∃ x, argv[i]? = some x ∧ VRep E w v x

theorem handV_noOwn {v : V} (h : handV v = true) : NoOwn v := by
  unfold handV at h
  split at h
  · exact NoOwn.d _
  · exact NoOwn.a _
  · exact NoOwn.ptr _ _
  · cases h

theorem handV_rep {v : V} {x : Value} {E' : Env} (h : handV v = true) (hv : VRep E w v x) (hm : E'.m = E.m) (ho : E'.ob = E.ob) : VRep E' w v x := by
  unfold handV at h
  split at h
  · show DRep E'.m w _ _; rw [hm]; exact hv
  · obtain ⟨vs, h1, h2⟩ := hv; exact ⟨vs, h1, by rw [hm]; exact h2⟩
  · obtain ⟨b, h1, h2⟩ := hv; exact ⟨b, by rw [ho]; exact h1, h2⟩
  · cases h

/-- Blocks that a callee may write: those of the objects, and the rows that they own. -/
def outB (S : St) (E : Env) (a : Array Value) (w : World) (b : Nat) : Prop :=
  (∃ id, liveH S id ∧ E.ob id = some b) ∨ ∃ id off sz v, Owned S E a w (.h id off) sz v ∧ blk v = some b

theorem Rel.outB_may (h : Rel B E S a w) {b : Nat} (hb : outB S E a w b) : B.may b := by
  rcases hb with ⟨id, ⟨o, ho⟩, hb⟩ | ⟨id, off, sz, v, ho, hb⟩
  · obtain ⟨b', h1, _, _, _, h5⟩ := h.hr id o ho
    rw [hb] at h1
    cases h1
    exact h5
  · obtain ⟨b', ⟨o, n, c, ar, e, rfl, _⟩, h2⟩ := h.own _ _ _ ho
    simp [blk] at hb
    subst hb
    exact h2

theorem Rel.pinned (h : Rel B E S a w) {b : Nat} {o : Obj} (hp : B.pin b = some o) : w.heap[b]? = some o ∧ ¬ B.may b := by
  obtain ⟨h1, h2⟩ := B.good b o hp
  have hlt := lt_of_heap h1
  refine ⟨(h.kept.same b hlt h2).1.trans h1, ?_⟩
  rintro (h3 | h3)
  · exact h2 h3
  · omega

def Rel.callBase (h : Rel B E S a w) : Base := ⟨w, E.m, outB S E a w, B.pin, fun b o hp => ⟨(h.pinned hp).1, fun ho => (h.pinned hp).2 (h.outB_may ho)⟩⟩

theorem Rel.forCall (h : Rel B E S a w) {args : List V} {argv : Array Value} (ha : ArgsOk E w args argv) (hh : args.all handV = true) :
    Rel h.callBase ⟨E.m, E.ob, fun _ => none⟩ ⟨args, S.H, []⟩ argv w := by
  have hall : ∀ (i : Nat) (v : V), args[i]? = some v → handV v = true := fun i v hv => List.all_eq_true.1 hh v (List.mem_of_getElem? hv)
  have key : ∀ ℓ sz v, Owned ⟨args, S.H, []⟩ ⟨E.m, E.ob, fun _ => none⟩ argv w ℓ sz v → Owned S E a w ℓ sz v ∧ ∃ id off, ℓ = .h id off := by
    intro ℓ sz v ho
    obtain ⟨⟨rows, h1⟩, h2⟩ := ho
    cases ℓ with
    | h id off => exact ⟨⟨⟨rows, h1⟩, h2⟩, id, off, rfl⟩
    | l k off => simp [St.at] at h1
    | t i =>
      simp only [at_t] at h1
      split at h1
      · rename_i c hc
        cases h1
        exact absurd rfl ((handV_noOwn (hall i _ hc)).1 sz rows)
      · cases h1
    | tt i j =>
      simp only [at_tt] at h1
      split at h1
      · rename_i ws hc
        split at h1
        · rename_i c hj
          cases h1
          exact absurd hj ((handV_noOwn (hall i _ hc)).2 ws rfl j sz rows)
        · cases h1
      · cases h1
  exact {
    len := ha.1
    tr := fun i v hv => let ⟨x, h1, h2⟩ := ha.2 i v hv; ⟨x, h1, handV_rep (hall i v hv) h2 rfl rfl⟩
    hr := fun id o ho => let ⟨b, h1, h2, h3, h4, _⟩ := h.hr id o ho; ⟨b, h1, h2, h3, h4, .inl (.inl ⟨id, ⟨o, ho⟩, h1⟩)⟩
    lr := fun k o ho => by simp at ho
    hh := h.hh
    ll := fun i j b hi => by obtain ⟨o, ho⟩ := hi; simp at ho
    hl := fun i j b _ hj => by obtain ⟨o, ho⟩ := hj; simp at ho
    obl := h.obl
    lol := fun k b hb => by cases hb
    own := fun ℓ sz v ho => by
      obtain ⟨h1, id, off, rfl⟩ := key ℓ sz v ho
      obtain ⟨b, h2, _⟩ := h.own _ _ _ h1
      refine ⟨b, h2, .inl (.inr ⟨id, off, sz, v, h1, ?_⟩)⟩
      obtain ⟨o, n, c, ar, e, rfl, _⟩ := h2.ex
      rfl
    own1 := fun ℓ ℓ' sz sz' v v' b h1 h2 => h.own1 _ _ _ _ _ _ b (key _ _ _ h1).1 (key _ _ _ h2).1
    imw := h.imw
    mpw := h.mpw
    kept := ⟨Nat.le_refl _, rfl, rfl, rfl, fun _ _ _ => ⟨rfl, rfl, rfl⟩, Ext.refl _ _⟩ }

/-- What a callee may not write stands. -/
theorem Rel.notOut (h : Rel B E S a w) : (∀ k b, liveL S k → E.lo k = some b → b < w.heap.size ∧ ¬ outB S E a w b) ∧
    (∀ ℓ sz v b, (∀ id off, ℓ ≠ .h id off) → Owned S E a w ℓ sz v → blk v = some b → b < w.heap.size ∧ ¬ outB S E a w b) := by
  refine ⟨fun k b hk hb => ?_, fun ℓ sz v b hne ho hb => ⟨h.owned_lt ho hb, ?_⟩⟩
  · obtain ⟨o, hko⟩ := hk
    obtain ⟨b', h1, h2, h3, h4, _⟩ := h.lr k o hko
    rw [hb] at h1
    cases h1
    refine ⟨h2.lt, ?_⟩
    rintro (⟨id, hid, hob⟩ | ⟨id, off, sz, v, ho, hv⟩)
    · exact h.hl id k b hid ⟨o, hko⟩ hob hb
    · obtain ⟨b2, ⟨o', n, c, ar, e, rfl, q1, _⟩, _⟩ := h.own _ _ _ ho
      simp [blk] at hv
      subst hv
      rw [h3] at q1
      cases q1
  · rintro (⟨id, ⟨o, hid⟩, hob⟩ | ⟨id, off, sz', v', ho', hv⟩)
    · obtain ⟨b', h1, _, h3, _⟩ := h.hr id o hid
      rw [hob] at h1
      cases h1
      obtain ⟨b2, ⟨o', n, c, ar, e, rfl, q1, _⟩, _⟩ := h.own _ _ _ ho
      simp [blk] at hb
      subst hb
      rw [h3] at q1
      cases q1
    · exact hne id off (h.own1 _ _ _ _ _ _ b ho ho' hb hv)

theorem Rel.backCall (h : Rel B E S a w) {v : V} {H' : List (Option Ob)} {r : Value} {F : Env} (h1 : Rel h.callBase F ⟨[v], H', []⟩ #[r] w') (hl : S.H.length ≤ H'.length)
    (hob : ∀ id, id < S.H.length → F.ob id = E.ob id) : Rel B ⟨F.m, F.ob, E.lo⟩ { S with tm := S.tm ++ [v], H := H' } (a.push r) w' := by
  have hlen := h.len
  have hk := h1.kept
  have ext : Ext E.m w F.m w' := hk.ext
  have hsame : ∀ b, b < w.heap.size → ¬ outB S E a w b → w'.heap[b]? = w.heap[b]? ∧ F.m.im b = E.m.im b ∧ F.m.mp b = E.m.mp b := hk.same
  have hsize : w.heap.size ≤ w'.heap.size := hk.size
  have hB : B.w0.heap.size ≤ w.heap.size := h.kept.size
  have may1 : ∀ b, h.callBase.may b → B.may b := by
    rintro b (hb | hb)
    · exact h.outB_may hb
    · exact .inr (Nat.le_trans hB hb)
  have hobE : ∀ id b, E.ob id = some b → F.ob id = some b := fun id b hb => by rw [hob id (h.obl id b hb)]; exact hb
  have hFlo : ∀ k b, F.lo k = some b → False := fun k b hb => by have := h1.lol k b hb; simp at this
  obtain ⟨no1, no2⟩ := h.notOut
  have hin : ∀ i, i < S.tm.length → (S.tm ++ [v])[i]? = S.tm[i]? := fun i hi => List.getElem?_append_left hi
  have hlast : (S.tm ++ [v])[S.tm.length]? = some v := by simp
  have hgone : ∀ i, S.tm.length < i → (S.tm ++ [v])[i]? = none := fun i hi => List.getElem?_eq_none (by simp; omega)
  have hain : ∀ i, i < S.tm.length → (a.push r)[i]? = a[i]? := fun i hi => by rw [Array.getElem?_push, if_neg (by omega)]
  have halast : (a.push r)[S.tm.length]? = some r := by rw [Array.getElem?_push, if_pos hlen.symm]
  obtain ⟨r', hr1, hr2⟩ := h1.tr 0 v rfl
  simp at hr1
  subst hr1
  -- where an owned place comes from: the caller's, or the callee's
  let back : FL → FL := fun ℓ => match ℓ with
    | .t _ => .t 0
    | .tt _ j => .tt 0 j
    | ℓ => ℓ
  have key : ∀ ℓ sz u, Owned { S with tm := S.tm ++ [v], H := H' } ⟨F.m, F.ob, E.lo⟩ (a.push r) w' ℓ sz u →
      (Owned S E a w ℓ sz u ∧ ((∃ i, ℓ = .t i ∧ i < S.tm.length) ∨ (∃ i j, ℓ = .tt i j ∧ i < S.tm.length) ∨ ∃ k o, ℓ = .l k o)) ∨
      (Owned ⟨[v], H', []⟩ F #[r] w' (back ℓ) sz u ∧ (ℓ = .t S.tm.length ∨ (∃ j, ℓ = .tt S.tm.length j) ∨ ∃ k o, ℓ = .h k o)) := by
    intro ℓ sz u ho
    obtain ⟨⟨rows, g1⟩, g2⟩ := ho
    cases ℓ with
    | h id off => exact .inr ⟨⟨⟨rows, g1⟩, g2⟩, .inr (.inr ⟨id, off, rfl⟩)⟩
    | l k off =>
      left
      obtain ⟨b, k1, k2, k3, k4, k5⟩ := h.at_obj.2 k off _ g1
      refine ⟨⟨⟨rows, g1⟩, ?_⟩, .inr (.inr ⟨k, off, rfl⟩)⟩
      obtain ⟨n1, n2⟩ := no1 k b k4 k1
      simp only [conc, k1, Option.bind_some] at g2 ⊢
      rw [← cell_of_heap (hsame b n1 n2).1]; exact g2
    | t i =>
      simp only [at_t] at g1
      simp only [conc] at g2
      rcases Nat.lt_trichotomy i S.tm.length with hi | hi | hi
      · left
        rw [hin i hi] at g1
        rw [hain i hi] at g2
        exact ⟨⟨⟨rows, g1⟩, g2⟩, .inl ⟨i, rfl, hi⟩⟩
      · right
        subst hi
        rw [hlast] at g1
        rw [halast] at g2
        exact ⟨⟨⟨rows, g1⟩, g2⟩, .inl rfl⟩
      · rw [hgone i hi] at g1; cases g1
    | tt i j =>
      simp only [at_tt] at g1
      simp only [conc] at g2
      rcases Nat.lt_trichotomy i S.tm.length with hi | hi | hi
      · left
        rw [hin i hi] at g1
        rw [hain i hi] at g2
        exact ⟨⟨⟨rows, g1⟩, g2⟩, .inr (.inl ⟨i, j, rfl, hi⟩)⟩
      · right
        subst hi
        rw [hlast] at g1
        rw [halast] at g2
        exact ⟨⟨⟨rows, g1⟩, g2⟩, .inr (.inl ⟨j, rfl⟩)⟩
      · rw [hgone i hi] at g1; cases g1
  have oldNe : ∀ ℓ : FL, ((∃ i, ℓ = .t i ∧ i < S.tm.length) ∨ (∃ i j, ℓ = .tt i j ∧ i < S.tm.length) ∨ ∃ k o, ℓ = .l k o) → ∀ id off, ℓ ≠ .h id off := by
    rintro ℓ (⟨i, rfl, _⟩ | ⟨i, j, rfl, _⟩ | ⟨k, o, rfl⟩) id off <;> simp
  exact {
    len := by simp [hlen]
    tr := fun i u hu => by
      rcases Nat.lt_trichotomy i S.tm.length with hi | hi | hi
      · rw [hin i hi] at hu
        obtain ⟨x, q1, q2⟩ := h.tr i u hu
        exact ⟨x, by rw [hain i hi]; exact q1, q2.mono (E' := ⟨F.m, F.ob, E.lo⟩) ext hobE (fun _ _ h => h)⟩
      · subst hi
        rw [hlast] at hu
        cases hu
        exact ⟨r, halast, hr2.mono (E := F) (E' := ⟨F.m, F.ob, E.lo⟩) (Ext.refl _ _) (fun _ _ h => h) (fun k b hb => (hFlo k b hb).elim)⟩
      · rw [hgone i hi] at hu; cases hu
    hr := fun id o ho => let ⟨b, q1, q2, q3, q4, q5⟩ := h1.hr id o ho; ⟨b, q1, q2, q3, q4, may1 b q5⟩
    lr := fun k o ho => by
      obtain ⟨b, q1, q2, q3, q4, q5⟩ := h.lr k o ho
      obtain ⟨n1, n2⟩ := no1 k b ⟨o, ho⟩ q1
      obtain ⟨s1, s2, s3⟩ := hsame b n1 n2
      exact ⟨b, q1, q2.mono ext s1, s2.trans q3, s3.trans q4, q5⟩
    hh := h1.hh
    ll := h.ll
    hl := fun i j b hi hj q1 q2 => by
      obtain ⟨o, ho⟩ := hi
      obtain ⟨b', q3, _, _, _, q4⟩ := h1.hr i o ho
      have q1' : F.ob i = some b := q1
      rw [q1'] at q3
      cases q3
      obtain ⟨n1, n2⟩ := no1 j b hj q2
      rcases q4 with q4 | q4
      · exact n2 q4
      · exact absurd n1 (Nat.not_lt.2 q4)
    obl := h1.obl
    lol := h.lol
    own := fun ℓ sz u ho => by
      rcases key ℓ sz u ho with ⟨k1, k2⟩ | ⟨k1, _⟩
      · obtain ⟨b, ⟨o, n, c, ar, e, rfl, q1, q2, q3⟩, q4⟩ := h.own _ _ _ k1
        obtain ⟨n1, n2⟩ := no2 ℓ sz _ b (oldNe ℓ k2) k1 rfl
        obtain ⟨s1, s2, s3⟩ := hsame b n1 n2
        exact ⟨b, ⟨o, n, c, ar, e, rfl, s2.trans q1, s1.trans q2, q3⟩, q4⟩
      · obtain ⟨b, q1, q2⟩ := h1.own _ _ _ k1
        exact ⟨b, q1, may1 b q2⟩
    own1 := fun ℓ ℓ' sz sz' u u' b g1 g2 g3 g4 => by
      rcases key ℓ sz u g1 with ⟨k1, k2⟩ | ⟨k1, k2⟩ <;> rcases key ℓ' sz' u' g2 with ⟨l1, l2⟩ | ⟨l1, l2⟩
      · exact h.own1 _ _ _ _ _ _ b k1 l1 g3 g4
      · exfalso
        obtain ⟨n1, n2⟩ := no2 ℓ sz _ b (oldNe ℓ k2) k1 g3
        obtain ⟨b2, ⟨o, n, c, ar, e, rfl, _⟩, q2⟩ := h1.own _ _ _ l1
        simp [blk] at g4
        subst g4
        rcases q2 with q2 | q2
        · exact n2 q2
        · exact absurd n1 (Nat.not_lt.2 q2)
      · exfalso
        obtain ⟨n1, n2⟩ := no2 ℓ' sz' _ b (oldNe ℓ' l2) l1 g4
        obtain ⟨b2, ⟨o, n, c, ar, e, rfl, _⟩, q2⟩ := h1.own _ _ _ k1
        simp [blk] at g3
        subst g3
        rcases q2 with q2 | q2
        · exact n2 q2
        · exact absurd n1 (Nat.not_lt.2 q2)
      · have := h1.own1 _ _ _ _ _ _ b k1 l1 g3 g4
        rcases k2 with rfl | ⟨j, rfl⟩ | ⟨k, o, rfl⟩ <;> rcases l2 with rfl | ⟨j', rfl⟩ | ⟨k', o', rfl⟩ <;> simp_all [back]
    imw := h1.imw
    mpw := h1.mpw
    kept := by
      have hk0 := h.kept
      refine ⟨Nat.le_trans hk0.size hsize, hk.os.trans hk0.os, hk.tape.trans hk0.tape, hk.output.trans hk0.output, fun b hb ht => ?_, hk0.ext.trans ext⟩
      obtain ⟨q1, q2, q3⟩ := hk0.same b hb ht
      have hno : ¬ outB S E a w b := fun hob' => by
        rcases h.outB_may hob' with q | q
        · exact ht q
        · omega
      obtain ⟨s1, s2, s3⟩ := hsame b (by omega) hno
      exact ⟨s1.trans q1, s2.trans q2, s3.trans q3⟩ }

def noB (b : Nat) : Prop := False

theorem dataV_hand {v : V} (h : dataV v = true) : handV v = true := by
  unfold dataV at h
  split at h
  · rfl
  · rfl
  · cases h

theorem dataV_rep {v : V} {x : Value} {E' : Env} (h : dataV v = true) (hv : VRep E w v x) (hm : E'.m = E.m) : VRep E' w v x := by
  unfold dataV at h
  split at h
  · show DRep E'.m w _ _; rw [hm]; exact hv
  · obtain ⟨vs, h1, h2⟩ := hv; exact ⟨vs, h1, by rw [hm]; exact h2⟩
  · cases h

def Rel.pureBase (h : Rel B E S a w) : Base := ⟨w, E.m, noB, B.pin, fun b o hp => ⟨(h.pinned hp).1, id⟩⟩

theorem Rel.forPure (h : Rel B E S a w) {args : List V} {argv : Array Value} (ha : ArgsOk E w args argv) (hh : args.all dataV = true) :
    Rel h.pureBase ⟨E.m, fun _ => none, fun _ => none⟩ ⟨args, [], []⟩ argv w := by
  have hall : ∀ (i : Nat) (v : V), args[i]? = some v → dataV v = true := fun i v hv => List.all_eq_true.1 hh v (List.mem_of_getElem? hv)
  have key : ∀ ℓ sz v, ¬ Owned ⟨args, [], []⟩ ⟨E.m, fun _ => none, fun _ => none⟩ argv w ℓ sz v := by
    intro ℓ sz v ho
    obtain ⟨⟨rows, h1⟩, h2⟩ := ho
    cases ℓ with
    | h id off => simp [St.at] at h1
    | l k off => simp [St.at] at h1
    | t i =>
      simp only [at_t] at h1
      split at h1
      · rename_i c hc
        cases h1
        exact absurd rfl ((handV_noOwn (dataV_hand (hall i _ hc))).1 sz rows)
      · cases h1
    | tt i j =>
      simp only [at_tt] at h1
      split at h1
      · rename_i ws hc
        split at h1
        · rename_i c hj
          cases h1
          exact absurd hj ((handV_noOwn (dataV_hand (hall i _ hc))).2 ws rfl j sz rows)
        · cases h1
      · cases h1
  exact {
    len := ha.1
    tr := fun i v hv => let ⟨x, h1, h2⟩ := ha.2 i v hv; ⟨x, h1, dataV_rep (hall i v hv) h2 rfl⟩
    hr := fun id o ho => by simp at ho
    lr := fun k o ho => by simp at ho
    hh := fun i j b hi => by obtain ⟨o, ho⟩ := hi; simp at ho
    ll := fun i j b hi => by obtain ⟨o, ho⟩ := hi; simp at ho
    hl := fun i j b _ hj => by obtain ⟨o, ho⟩ := hj; simp at ho
    obl := fun k b hb => by cases hb
    lol := fun k b hb => by cases hb
    own := fun ℓ sz v ho => (key ℓ sz v ho).elim
    own1 := fun ℓ ℓ' sz sz' v v' b h1 h2 => (key _ _ _ h1).elim
    imw := h.imw
    mpw := h.mpw
    kept := ⟨Nat.le_refl _, rfl, rfl, rfl, fun _ _ _ => ⟨rfl, rfl, rfl⟩, Ext.refl _ _⟩ }

theorem Rel.backPure (h : Rel B E S a w) {v : V} {r : Value} {F : Env} (h1 : Rel h.pureBase F ⟨[v], [], []⟩ #[r] w') : Rel B ⟨F.m, E.ob, E.lo⟩ { S with tm := S.tm ++ [v] } (a.push r) w' := by
  have hlen := h.len
  have hk := h1.kept
  have ext : Ext E.m w F.m w' := hk.ext
  have hsame : ∀ b, b < w.heap.size → ¬ noB b → w'.heap[b]? = w.heap[b]? ∧ F.m.im b = E.m.im b ∧ F.m.mp b = E.m.mp b := hk.same
  have hsize : w.heap.size ≤ w'.heap.size := hk.size
  have hB : B.w0.heap.size ≤ w.heap.size := h.kept.size
  have may1 : ∀ b, h.pureBase.may b → B.may b := by
    rintro b (hb | hb)
    · exact hb.elim
    · exact .inr (Nat.le_trans hB hb)
  have hFob : ∀ k b, F.ob k = some b → False := fun k b hb => by have := h1.obl k b hb; simp at this
  have hFlo : ∀ k b, F.lo k = some b → False := fun k b hb => by have := h1.lol k b hb; simp at this
  have hold : ∀ b, b < w.heap.size → w'.heap[b]? = w.heap[b]? ∧ F.m.im b = E.m.im b ∧ F.m.mp b = E.m.mp b := fun b hb => hsame b hb id
  have hin : ∀ i, i < S.tm.length → (S.tm ++ [v])[i]? = S.tm[i]? := fun i hi => List.getElem?_append_left hi
  have hlast : (S.tm ++ [v])[S.tm.length]? = some v := by simp
  have hgone : ∀ i, S.tm.length < i → (S.tm ++ [v])[i]? = none := fun i hi => List.getElem?_eq_none (by simp; omega)
  have hain : ∀ i, i < S.tm.length → (a.push r)[i]? = a[i]? := fun i hi => by rw [Array.getElem?_push, if_neg (by omega)]
  have halast : (a.push r)[S.tm.length]? = some r := by rw [Array.getElem?_push, if_pos hlen.symm]
  obtain ⟨r', hr1, hr2⟩ := h1.tr 0 v rfl
  simp at hr1
  subst hr1
  -- where an owned place comes from: the caller's, or the callee's
  let back : FL → FL := fun ℓ => match ℓ with
    | .t _ => .t 0
    | .tt _ j => .tt 0 j
    | ℓ => ℓ
  have key : ∀ ℓ sz u, Owned { S with tm := S.tm ++ [v] } ⟨F.m, E.ob, E.lo⟩ (a.push r) w' ℓ sz u →
      Owned S E a w ℓ sz u ∨
      (Owned ⟨[v], [], []⟩ F #[r] w' (back ℓ) sz u ∧ (ℓ = .t S.tm.length ∨ ∃ j, ℓ = .tt S.tm.length j)) := by
    intro ℓ sz u ho
    obtain ⟨⟨rows, g1⟩, g2⟩ := ho
    cases ℓ with
    | h k off =>
      left
      obtain ⟨b, k1, k2, k3, k4, k5⟩ := h.at_obj.1 k off _ g1
      refine ⟨⟨rows, g1⟩, ?_⟩
      simp only [conc, k1, Option.bind_some] at g2 ⊢
      rw [← cell_of_heap (hold b k2).1]; exact g2
    | l k off =>
      left
      obtain ⟨b, k1, k2, k3, k4, k5⟩ := h.at_obj.2 k off _ g1
      refine ⟨⟨rows, g1⟩, ?_⟩
      simp only [conc, k1, Option.bind_some] at g2 ⊢
      rw [← cell_of_heap (hold b k2).1]; exact g2
    | t i =>
      simp only [at_t] at g1
      simp only [conc] at g2
      rcases Nat.lt_trichotomy i S.tm.length with hi | hi | hi
      · left
        rw [hin i hi] at g1
        rw [hain i hi] at g2
        exact ⟨⟨rows, g1⟩, g2⟩
      · right
        subst hi
        rw [hlast] at g1
        rw [halast] at g2
        exact ⟨⟨⟨rows, g1⟩, g2⟩, .inl rfl⟩
      · rw [hgone i hi] at g1; cases g1
    | tt i j =>
      simp only [at_tt] at g1
      simp only [conc] at g2
      rcases Nat.lt_trichotomy i S.tm.length with hi | hi | hi
      · left
        rw [hin i hi] at g1
        rw [hain i hi] at g2
        exact ⟨⟨rows, g1⟩, g2⟩
      · right
        subst hi
        rw [hlast] at g1
        rw [halast] at g2
        exact ⟨⟨⟨rows, g1⟩, g2⟩, .inr ⟨j, rfl⟩⟩
      · rw [hgone i hi] at g1; cases g1
  exact {
    len := by simp [hlen]
    tr := fun i u hu => by
      rcases Nat.lt_trichotomy i S.tm.length with hi | hi | hi
      · rw [hin i hi] at hu
        obtain ⟨x, q1, q2⟩ := h.tr i u hu
        exact ⟨x, by rw [hain i hi]; exact q1, q2.mono (E' := ⟨F.m, E.ob, E.lo⟩) ext (fun _ _ h => h) (fun _ _ h => h)⟩
      · subst hi
        rw [hlast] at hu
        cases hu
        exact ⟨r, halast, hr2.mono (E := F) (E' := ⟨F.m, E.ob, E.lo⟩) (Ext.refl _ _) (fun k b hb => (hFob k b hb).elim) (fun k b hb => (hFlo k b hb).elim)⟩
      · rw [hgone i hi] at hu; cases hu
    hr := fun k o ho => by
      obtain ⟨b, q1, q2, q3, q4, q5⟩ := h.hr k o ho
      obtain ⟨s1, s2, s3⟩ := hold b q2.lt
      exact ⟨b, q1, q2.mono ext s1, s2.trans q3, s3.trans q4, q5⟩
    lr := fun k o ho => by
      obtain ⟨b, q1, q2, q3, q4, q5⟩ := h.lr k o ho
      obtain ⟨s1, s2, s3⟩ := hold b q2.lt
      exact ⟨b, q1, q2.mono ext s1, s2.trans q3, s3.trans q4, q5⟩
    hh := h.hh
    ll := h.ll
    hl := h.hl
    obl := h.obl
    lol := h.lol
    own := fun ℓ sz u ho => by
      rcases key ℓ sz u ho with k1 | ⟨k1, _⟩
      · obtain ⟨b, ⟨o, n, c, ar, e, rfl, q1, q2, q3⟩, q4⟩ := h.own _ _ _ k1
        obtain ⟨s1, s2, s3⟩ := hold b (lt_of_heap q2)
        exact ⟨b, ⟨o, n, c, ar, e, rfl, s2.trans q1, s1.trans q2, q3⟩, q4⟩
      · obtain ⟨b, q1, q2⟩ := h1.own _ _ _ k1
        exact ⟨b, q1, may1 b q2⟩
    own1 := fun ℓ ℓ' sz sz' u u' b g1 g2 g3 g4 => by
      rcases key ℓ sz u g1 with k1 | ⟨k1, k2⟩ <;> rcases key ℓ' sz' u' g2 with l1 | ⟨l1, l2⟩
      · exact h.own1 _ _ _ _ _ _ b k1 l1 g3 g4
      · exfalso
        have n1 := h.owned_lt k1 g3
        obtain ⟨b2, ⟨o, n, c, ar, e, rfl, _⟩, q2⟩ := h1.own _ _ _ l1
        simp [blk] at g4
        subst g4
        rcases q2 with q2 | q2
        · exact q2
        · exact absurd n1 (Nat.not_lt.2 q2)
      · exfalso
        have n1 := h.owned_lt l1 g4
        obtain ⟨b2, ⟨o, n, c, ar, e, rfl, _⟩, q2⟩ := h1.own _ _ _ k1
        simp [blk] at g3
        subst g3
        rcases q2 with q2 | q2
        · exact q2
        · exact absurd n1 (Nat.not_lt.2 q2)
      · have := h1.own1 _ _ _ _ _ _ b k1 l1 g3 g4
        rcases k2 with rfl | ⟨j, rfl⟩ <;> rcases l2 with rfl | ⟨j', rfl⟩ <;> simp_all [back]
    imw := h1.imw
    mpw := h1.mpw
    kept := by
      have hk0 := h.kept
      refine ⟨Nat.le_trans hk0.size hsize, hk.os.trans hk0.os, hk.tape.trans hk0.tape, hk.output.trans hk0.output, fun b hb ht => ?_, hk0.ext.trans ext⟩
      obtain ⟨q1, q2, q3⟩ := hk0.same b hb ht
      obtain ⟨s1, s2, s3⟩ := hold b (by omega)
      exact ⟨s1.trans q1, s2.trans q2, s3.trans q3⟩ }

end
end Go.Ev
