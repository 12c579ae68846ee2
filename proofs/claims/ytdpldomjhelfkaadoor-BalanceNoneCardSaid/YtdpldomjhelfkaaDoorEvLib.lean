/- The library's functions and nest.topmost, as contracts over abstract values. -/
import Derived.Test.YtdpldomjhelfkaaDoorEvSig
import Derived.Test.YtdpldomjhelfkaaDoorEvShelf
import Derived.Test.YtdpldomjhelfkaaDoorEvTop
set_option linter.unusedVariables false
set_option linter.unusedSimpArgs false
namespace Go.Ev
open Go Go.Proofs Go.RowKit

section
variable {P : Program} {B : Base} {E : Env} {S : St} {a : Array Value} {w w' : World}

/-- Memory has grown; what was there is as it was. -/
theorem Rel.below (h : Rel B E S a w) (g : Below w.heap.size w w') : Rel B E S a w' := by
  have old : ∀ {b : Nat}, b < w.heap.size → w'.heap[b]? = w.heap[b]? := fun hb => g.block _ hb
  have ext : Ext E.m w E.m w' := ⟨fun b lim hb => ⟨lim, Nat.le_refl _, hb⟩, fun b lim arr e fr hb hh => ⟨arr, fr, by rw [old (h.im_lt hb)]; exact hh, rfl, fun _ _ => rfl⟩, fun _ h => h, fun b hb => old (h.mp_lt hb)⟩
  have back : ∀ ℓ sz v, Owned S E a w' ℓ sz v → Owned S E a w ℓ sz v := fun ℓ sz v ho => h.owned_back rfl (fun _ _ => rfl) (fun b hb => old hb) ho
  exact {
    len := h.len
    tr := fun i v hv => let ⟨x, h1, h2⟩ := h.tr i v hv; ⟨x, h1, h2.mono (E' := E) ext (fun _ _ h => h) (fun _ _ h => h)⟩
    hr := fun id ob hob => let ⟨b, h1, h2, h3, h4, h5⟩ := h.hr id ob hob; ⟨b, h1, h2.mono ext (old h2.lt), h3, h4, h5⟩
    lr := fun id ob hob => let ⟨b, h1, h2, h3, h4, h5⟩ := h.lr id ob hob; ⟨b, h1, h2.mono ext (old h2.lt), h3, h4, h5⟩
    hh := h.hh
    ll := h.ll
    hl := h.hl
    obl := h.obl
    lol := h.lol
    own := fun ℓ sz v ho => by
      obtain ⟨b, ⟨off, n, cap, arr, e, h1, h2, h3, h4⟩, h5⟩ := h.own ℓ sz v (back ℓ sz v ho)
      exact ⟨b, ⟨off, n, cap, arr, e, h1, h2, by rw [old (h.im_lt h2)]; exact h3, h4⟩, h5⟩
    own1 := fun ℓ ℓ' sz sz' v v' b h1 h2 h3 h4 => h.own1 ℓ ℓ' sz sz' v v' b (back _ _ _ h1) (back _ _ _ h2) h3 h4
    imw := fun b n hb => by
      obtain ⟨arr, e, fr, h1, h2⟩ := h.imw b n hb
      exact ⟨arr, e, fr, by rw [old (h.im_lt hb)]; exact h1, h2⟩
    mpw := fun b hb => by
      obtain ⟨es, c, h1⟩ := h.mpw b hb
      exact ⟨es, c, by rw [old (h.mp_lt hb)]; exact h1⟩
    kept := by
      have hk := h.kept
      have hs := hk.size
      have hs2 := g.size
      refine ⟨by omega, g.os.trans hk.os, g.tape.trans hk.tape, g.output.trans hk.output, fun b hb ht => ?_, hk.ext.trans ext⟩
      obtain ⟨h1, h2, h3⟩ := hk.same b hb ht
      exact ⟨(old (by omega)).trans h1, h2, h3⟩ }

/-- The last temporary alone. -/
theorem Rel.last {v : V} {x : Value} (h : Rel B E { S with tm := S.tm ++ [v] } (a.push x) w) : Rel B E { S with tm := [v] } #[x] w := by
  have hl : a.size = S.tm.length := by have := h.len; simp at this; omega
  have h1 : (S.tm ++ [v])[S.tm.length]? = some v := by simp
  have h2 : (a.push x)[S.tm.length]? = some x := by rw [← hl]; simp
  let σ : FL → FL
    | .t i => .t (i + S.tm.length)
    | .tt i j => .tt (i + S.tm.length) j
    | ℓ => ℓ
  refine h.subTm [v] #[x] rfl (fun i u hu => ?_) σ (fun ℓ sz u ho => ?_) (fun ℓ ℓ' sz sz' u u' h3 h4 he => ?_)
  · cases i with
    | zero =>
      simp at hu
      subst hu
      obtain ⟨y, h3, h4⟩ := h.tr _ _ h1
      rw [h2] at h3
      cases h3
      exact ⟨x, rfl, h4⟩
    | succ i => simp at hu
  · obtain ⟨⟨rows, h3⟩, h4⟩ := ho
    cases ℓ with
    | h id off => exact ⟨⟨rows, h3⟩, h4⟩
    | l k off => exact ⟨⟨rows, h3⟩, h4⟩
    | t i =>
      cases i with
      | zero =>
        refine ⟨⟨rows, ?_⟩, ?_⟩
        · simp only [σ, Nat.zero_add, at_t, h1]
          simpa only [at_t, List.getElem?_cons_zero] using h3
        · simp only [σ, Nat.zero_add, conc, h2]
          simpa [conc] using h4
      | succ i => simp [at_t] at h3
    | tt i j =>
      cases i with
      | zero =>
        refine ⟨⟨rows, ?_⟩, ?_⟩
        · simp only [σ, Nat.zero_add, at_tt, h1]
          simpa only [at_tt, List.getElem?_cons_zero] using h3
        · simp only [σ, Nat.zero_add, conc, h2]
          simpa [conc] using h4
      | succ i => simp [at_tt] at h3
  · cases ℓ <;> cases ℓ' <;> simp only [σ, FL.t.injEq, FL.tt.injEq, FL.h.injEq, FL.l.injEq, reduceCtorEq] at he ⊢ <;> first | omega | exact he | exact he.elim

/-- A contract of a function that hands back data of one cell without memory. -/
theorem soundE_of {pin : Nat → Option Obj} {f : Nat} {g : List V → Option V}
    (hc : ∀ (args : List V) (v : V), g args = some v → ∀ (B : Base) (E : Env) (argv : Array Value) (w : World), B.pin = pin → Rel B E ⟨args, [], []⟩ argv w →
      Calls P f argv w fun e w' => ∃ r E', e = .returned r ∧ Rel B E' ⟨[v], [], []⟩ #[r] w') : SoundE P pin f (asEff g) := by
  intro args H v H' hg B E argv w hp h
  unfold asEff at hg
  split at hg
  · obtain ⟨u, h1, h2⟩ := Option.map_eq_some_iff.1 hg
    cases h2
    refine (hc args _ h1 B E argv w hp h).mono ?_
    rintro e w1 ⟨r, E', h3, h4⟩
    exact ⟨r, E', h3, Nat.le_refl _, fun id hi => by simp at hi, h4⟩
  · cases hg

theorem Rel.same1 {v : V} {x : Value} {args : List V} (h : Rel B E ⟨args, [], []⟩ a w) (hv : VRep E w v x) (hn : NoOwn v) : Rel B E ⟨[v], [], []⟩ #[x] w :=
  (h.push hv hn).last (S := ⟨args, [], []⟩)
end

/-! ### strings.Fields, strings.TrimLeft, strings.Trim -/
def isAscii (s : List UInt8) : Bool := s.all fun b => decide (b.toNat < 128)

def fieldsSp : List V → Option V
  | [vS s] => if s.length < 4294967281 ∧ isAscii s = true then some (vC (.own 1 ((Lib.fields s).map fun x => [.str x]))) else none
  | _ => none
def trimLeftSp : List V → Option V
  | [vS s, vS c] => if c.length < 4294967281 ∧ isAscii c = true then some (vS (Lib.trimLeftS s c)) else none
  | _ => none
def trimSp : List V → Option V
  | [vS s, vS c] => if s.length ≤ 9223372036854775807 ∧ c.length < 4294967281 ∧ isAscii c = true then some (vS (Lib.trimS s c)) else none
  | _ => none

/-- The table of blanks lies where it lies. -/
def TabPin (pin : Nat → Option Obj) : Prop := ∃ arr e fr, pin 0 = some (.cells arr e fr) ∧ ∀ c : Nat, c < 256 → arr[c]? = some (.int .u8 (if Lib.isSp (UInt8.ofNat c) then 1 else 0))

theorem isAscii_get {s : List UInt8} (h : isAscii s = true) : ∀ (j : Nat) b, s[j]? = some b → b.toNat < 128 := fun j b hb =>
  of_decide_eq_true (List.all_eq_true.1 h b (List.mem_of_getElem? hb))

theorem rel_s {B : Base} {E : Env} {argv : Array Value} {w : World} {s : List UInt8} (h : Rel B E ⟨[vS s], [], []⟩ argv w) : argv = #[.string ⟨s.toArray⟩] := by
  obtain ⟨x, h1, h2⟩ := h.tr 0 _ rfl
  cases h2
  have hl : argv.size = 1 := h.len
  rw [Array.getElem?_eq_getElem (by omega)] at h1
  apply Array.ext
  · exact hl
  · intro i hi1 hi2
    obtain rfl : i = 0 := by simp at hi2; omega
    simpa using Option.some.inj h1
theorem rel_ss {B : Base} {E : Env} {argv : Array Value} {w : World} {s c : List UInt8} (h : Rel B E ⟨[vS s, vS c], [], []⟩ argv w) : argv = #[.string ⟨s.toArray⟩, .string ⟨c.toArray⟩] := by
  obtain ⟨x, h1, h2⟩ := h.tr 0 _ rfl
  obtain ⟨y, k1, k2⟩ := h.tr 1 _ rfl
  cases h2
  cases k2
  have hl : argv.size = 2 := h.len
  rw [Array.getElem?_eq_getElem (by omega)] at h1 k1
  apply Array.ext
  · exact hl
  · intro i hi1 hi2
    simp at hi2
    match i, hi2 with
    | 0, _ => simpa using Option.some.inj h1
    | 1, _ => simpa using Option.some.inj k1

theorem fields_sound {pin : Nat → Option Obj} (hp : TabPin pin) : Sound Tryd.prog pin 39 (.pure fieldsSp) := by
  refine ⟨⟨_, Tryd.func39, by kernel_rfl, by kernel_rfl⟩, soundE_of fun args v hg B E argv w hpin h => ?_⟩
  unfold fieldsSp at hg
  split at hg
  · rename_i s
    split at hg
    · rename_i hc
      cases hg
      obtain rfl := rel_s h
      obtain ⟨arr, e, fr, h1, h2⟩ := hp
      rw [← hpin] at h1
      have hheap := (h.pinned h1).1
      have hs : (⟨s.toArray⟩ : ByteArray).size = s.length := by simp [ByteArray.size]
      refine Calls.mono (show Calls Tryd.prog 39 #[.string ⟨s.toArray⟩] w _ from Any.strings_Fields_core Tryd.lays157 (by kernel_rfl) ⟨s.toArray⟩ w (by rw [hs]; exact hc.1) (isAscii_get hc.2) (fun c hc => ?_)) ?_
      · have : w.cell? ⟨0, c, none⟩ = arr[c]? := by simp [World.cell?, hheap]
        exact this.trans (h2 c hc)
      · rintro e w' ⟨rfl, rfl⟩
        obtain ⟨E', _, _, _, h3⟩ := h.newRow (sz := 1) (cap := (Lib.fields s).length) (rows := (Lib.fields s).map fun x => [.str x]) (Grow.alloc w (.cells ((Lib.fields s).map fun l => Value.string ⟨l.toArray⟩).toArray _))
          ⟨fun i r hr => by simp only [List.getElem?_map, Option.map_eq_some_iff] at hr; obtain ⟨x, _, rfl⟩ := hr; rfl, fun i j r c hr hc => by
            simp only [List.getElem?_map, Option.map_eq_some_iff] at hr
            obtain ⟨x, hx, rfl⟩ := hr
            match j, hc with
            | 0, hc =>
              simp at hc
              subst hc
              exact ⟨.string ⟨x.toArray⟩, by simp [hx], .str x⟩
            | j + 1, hc => simp at hc⟩ (by simp) (by simp)
        exact ⟨_, E', rfl, by simpa using h3.last (S := ⟨[vS s], [], []⟩)⟩
    · cases hg
  · cases hg

theorem trimLeft_sound {pin : Nat → Option Obj} : Sound Tryd.prog pin 29 (.pure trimLeftSp) := by
  refine ⟨⟨_, Tryd.func29, by kernel_rfl, by kernel_rfl⟩, soundE_of fun args v hg B E argv w hpin h => ?_⟩
  unfold trimLeftSp at hg
  split at hg
  · rename_i s c
    split at hg
    · rename_i hc
      cases hg
      obtain rfl := rel_ss h
      have hs : (⟨c.toArray⟩ : ByteArray).size = c.length := by simp [ByteArray.size]
      refine Calls.mono (show Calls Tryd.prog 29 #[.string ⟨s.toArray⟩, .string ⟨c.toArray⟩] w _ from Any.strings_TrimLeft_laid Tryd.lays161 (by kernel_rfl) ⟨s.toArray⟩ ⟨c.toArray⟩ w (by rw [hs]; exact hc.1) (isAscii_get hc.2)) ?_
      rintro e w' ⟨rfl, hb⟩
      exact ⟨_, E, rfl, (h.below hb).same1 (v := vS (Lib.trimLeftS s c)) (.str _) (NoOwn.d _)⟩
    · cases hg
  · cases hg

theorem trim_sound {pin : Nat → Option Obj} : Sound Tryd.prog pin 31 (.pure trimSp) := by
  refine ⟨⟨_, Tryd.func31, by kernel_rfl, by kernel_rfl⟩, soundE_of fun args v hg B E argv w hpin h => ?_⟩
  unfold trimSp at hg
  split at hg
  · rename_i s c
    split at hg
    · rename_i hc
      cases hg
      obtain rfl := rel_ss h
      have hs : (⟨c.toArray⟩ : ByteArray).size = c.length := by simp [ByteArray.size]
      have hs' : (⟨s.toArray⟩ : ByteArray).size = s.length := by simp [ByteArray.size]
      refine Calls.mono (show Calls Tryd.prog 31 #[.string ⟨s.toArray⟩, .string ⟨c.toArray⟩] w _ from Any.strings_Trim_laid Tryd.lays160 (by kernel_rfl) ⟨s.toArray⟩ ⟨c.toArray⟩ w (by rw [hs']; exact hc.1) (by rw [hs]; exact hc.2.1) (isAscii_get hc.2.2)) ?_
      rintro e w' ⟨rfl, hb⟩
      exact ⟨_, E, rfl, (h.below hb).same1 (v := vS (Lib.trimS s c)) (.str _) (NoOwn.d _)⟩
    · cases hg
  · cases hg

/-! ### nest.topmost -/
def callPred (Sg : Sig) (f : Nat) (caps : List D) (n : List UInt8) : Option Bool :=
  match pureCall Sg f (vS n :: caps.map vD) with
  | some (vB b) => some b
  | _ => none

/-- The name at a place; beyond the last one: the last one. -/
def nameAt (rows : List (List D)) (j : Nat) : List UInt8 :=
  match rows[min j (rows.length - 1)]? with
  | some [.str n] => n
  | _ => []

def predAt (Sg : Sig) (f : Nat) (caps : List D) (rows : List (List D)) (j : Nat) : Bool := callPred Sg f caps (nameAt rows j) == some true

def topOk (Sg : Sig) (f1 : Nat) (c1 : List D) (f2 : Nat) (c2 : List D) : List (List D) → Bool
  | [] => true
  | [.str n] :: r => (callPred Sg f1 c1 n).isSome && (callPred Sg f2 c2 n).isSome && topOk Sg f1 c1 f2 c2 r
  | _ => false

def topSp (Sg : Sig) : List V → Option V
  | [vD .nils, vD (.fn f1 c1), vD (.fn f2 c2)] => if (Sg f1).isSome && (Sg f2).isSome then some (vI .i64 (-1)) else none
  | [vD (.sl _ sz rows), vD (.fn f1 c1), vD (.fn f2 c2)] => if sz = 1 ∧ rows.length < 1099511627776 ∧ topOk Sg f1 c1 f2 c2 rows = true ∧ ((Sg f1).isSome && (Sg f2).isSome) = true then
      some (vI .i64 (Top.topF (predAt Sg f1 c1 rows) (predAt Sg f2 c2 rows) (Top.upto rows.length rows.length))) else none
  | _ => none

theorem topOk_get {Sg : Sig} {f1 f2 : Nat} {c1 c2 : List D} : ∀ (rows : List (List D)), topOk Sg f1 c1 f2 c2 rows = true → ∀ (j : Nat) r, rows[j]? = some r → ∃ n, r = [.str n] ∧ (callPred Sg f1 c1 n).isSome = true ∧ (callPred Sg f2 c2 n).isSome = true
  | [], _, j, r, h => by simp at h
  | x :: rs, ho, j, r, h => by
    unfold topOk at ho
    split at ho
    · rename_i h'; cases h'
    · rename_i n r' h'
      cases h'
      rw [Bool.and_eq_true, Bool.and_eq_true] at ho
      cases j with
      | zero => simp at h; subst h; exact ⟨n, rfl, ho.1.1, ho.1.2⟩
      | succ j => exact topOk_get rs ho.2 j r (by simpa using h)
    · cases ho

theorem sig_callable {P : Program} {pin : Nat → Option Obj} {Sg : Sig} (hS : SigOk P pin Sg) {f : Nat} (h : (Sg f).isSome = true) : Callable P f := by
  obtain ⟨sp, hsp⟩ := Option.isSome_iff_exists.1 h
  exact (hS f sp hsp).1

/-- A predicate is called. -/
theorem pred_calls {P : Program} {pin : Nat → Option Obj} {Sg : Sig} (hS : SigOk P pin Sg) {B : Base} {E : Env} {S : St} {a : Array Value} {w : World} (hpin : B.pin = pin) (h : Rel B E S a w) {f : Nat} {caps : List D} {vals : Array Value}
    (hs : vals.size = caps.length) (hv : ∀ (j : Nat) (c : D), caps[j]? = some c → ∃ x, vals[j]? = some x ∧ DRep E.m w c x) {n : List UInt8} {b : Bool} (hc : callPred Sg f caps n = some b) :
    Calls P f (#[.string ⟨n.toArray⟩] ++ vals) w fun e w' => e = .returned (.bool b) ∧ Below w.heap.size w w' := by
  unfold callPred at hc
  split at hc
  · rename_i b' hp
    cases hc
    unfold pureCall at hp
    split at hp
    · rename_i g hg
      split at hp
      · rename_i hall
        have hsd := (hS f _ hg).2
        have ha : ArgsOk E w (vS n :: caps.map vD) (#[.string ⟨n.toArray⟩] ++ vals) := by
          refine ⟨by simp [hs]; omega, fun i v hi => ?_⟩
          cases i with
          | zero =>
            have hv0 : vS n = v := by simpa using hi
            subst hv0
            exact ⟨.string ⟨n.toArray⟩, by rw [Array.getElem?_append_left (by show 0 < 1; omega)]; rfl, .str n⟩
          | succ i =>
            simp only [List.getElem?_cons_succ, List.getElem?_map, Option.map_eq_some_iff] at hi
            obtain ⟨c, hc, rfl⟩ := hi
            obtain ⟨x, h1, h2⟩ := hv i c hc
            exact ⟨x, by rw [Array.getElem?_append_right (by show 1 ≤ i + 1; omega)]; simpa using h1, h2⟩
        have hr := h.forPure ha hall
        have hg' : asEff g (vS n :: caps.map vD) [] = some (vB b, []) := by simp [asEff, hp]
        refine (hsd _ [] _ _ hg' h.pureBase _ _ w hpin hr).mono ?_
        rintro e w' ⟨r, E', rfl, _, _, h3⟩
        obtain ⟨x, h4, h5⟩ := h3.tr 0 _ rfl
        cases h5
        have hk := h3.kept
        refine ⟨by simp at h4; rw [h4], hk.os, hk.tape, hk.output, hk.size, fun k hk' => (hk.same k hk' id).1⟩
      · cases hp
    · cases hp
  · cases hc

theorem topmost_sound {pin : Nat → Option Obj} {Sg : Sig} (hS : SigOk Tryd.prog pin Sg) : Sound Tryd.prog pin 56 (.pure (topSp Sg)) := by
  refine ⟨⟨_, Tryd.func56, by kernel_rfl, by kernel_rfl⟩, soundE_of fun args v hg B E argv w hpin h => ?_⟩
  have args3 : ∀ (s : D) (f1 f2 : Nat) (c1 c2 : List D), args = [vD s, vD (.fn f1 c1), vD (.fn f2 c2)] → ∃ sv lb1 lb2, argv = #[sv, .func (.func f1) #[] lb1, .func (.func f2) #[] lb2] ∧ DRep E.m w s sv ∧
      (lb1.size = c1.length ∧ ∀ (j : Nat) (c : D), c1[j]? = some c → ∃ x, lb1[j]? = some x ∧ DRep E.m w c x) ∧ (lb2.size = c2.length ∧ ∀ (j : Nat) (c : D), c2[j]? = some c → ∃ x, lb2[j]? = some x ∧ DRep E.m w c x) := by
    rintro s f1 f2 c1 c2 rfl
    obtain ⟨x0, h0, r0⟩ := h.tr 0 _ rfl
    obtain ⟨x1, h1, r1⟩ := h.tr 1 _ rfl
    obtain ⟨x2, h2, r2⟩ := h.tr 2 _ rfl
    have hl : argv.size = 3 := h.len
    have r1' : DRep E.m w (.fn f1 c1) x1 := r1
    have r2' : DRep E.m w (.fn f2 c2) x2 := r2
    cases r1' with
    | fn _ _ lb1 val1 hs1 hv1 hr1 =>
    cases r2' with
    | fn _ _ lb2 val2 hs2 hv2 hr2 =>
    refine ⟨x0, lb1, lb2, ?_, r0, ⟨hs1, fun j c hc => ⟨_, hv1 j c hc, hr1 j c hc⟩⟩, ⟨hs2, fun j c hc => ⟨_, hv2 j c hc, hr2 j c hc⟩⟩⟩
    rw [Array.getElem?_eq_getElem (by omega)] at h0 h1 h2
    apply Array.ext
    · exact hl
    · intro i hi1 hi2
      simp at hi2
      match i, hi2 with
      | 0, _ => simpa using Option.some.inj h0
      | 1, _ => simpa using Option.some.inj h1
      | 2, _ => simpa using Option.some.inj h2
  have fin : ∀ (k : Int) (e : Ending) (w' : World), v = vI .i64 k → e = .returned (.int .i64 k) ∧ Below w.heap.size w w' → ∃ r E', e = .returned r ∧ Rel B E' ⟨[v], [], []⟩ #[r] w' := by
    rintro k e w' rfl ⟨rfl, hb⟩
    exact ⟨_, E, rfl, (h.below hb).same1 (v := vI .i64 k) (.int _ _) (NoOwn.d _)⟩
  unfold topSp at hg
  split at hg
  · rename_i f1 c1 f2 c2
    split at hg
    · rename_i hsome
      cases hg
      rw [Bool.and_eq_true] at hsome
      obtain ⟨sv, lb1, lb2, rfl, hsv, _, _⟩ := args3 _ _ _ _ _ rfl
      cases hsv
      refine (Top.topmost_any none 0 0 (fun _ => ByteArray.empty) 0 (by omega) f1 f2 lb1 lb2 (fun _ => false) (fun _ => false) w (.inl ⟨⟨_, rfl⟩, rfl⟩)
        (fun args w => run_callFunc (sig_callable hS hsome.1)) (fun args w => run_callFunc (sig_callable hS hsome.2)) (fun h => absurd h (Nat.lt_irrefl 0)) (fun h => absurd h (Nat.lt_irrefl 0))).mono ?_
      intro e w' hq
      exact fin (-1) e w' rfl hq
    · cases hg
  · rename_i full sz rows f1 c1 f2 c2
    split at hg
    · rename_i hc
      obtain ⟨rfl, hlen, hok, hsome⟩ := hc
      cases hg
      rw [Bool.and_eq_true] at hsome
      obtain ⟨sv, lb1, lb2, rfl, hsv, ⟨hs1, hv1⟩, ⟨hs2, hv2⟩⟩ := args3 _ _ _ _ _ rfl
      cases hsv with
      | sl0 _ _ a0 =>
        refine (Top.topmost_any (some a0) 0 0 (fun _ => ByteArray.empty) 0 (by omega) f1 f2 lb1 lb2 (predAt Sg f1 c1 []) (predAt Sg f2 c2 []) w (.inl ⟨⟨_, rfl⟩, rfl⟩)
          (fun args w => run_callFunc (sig_callable hS hsome.1)) (fun args w => run_callFunc (sig_callable hS hsome.2)) (fun h => absurd h (Nat.lt_irrefl 0)) (fun h => absurd h (Nat.lt_irrefl 0))).mono ?_
        intro e w' hq
        exact fin (-1) e w' rfl hq
      | sl _ _ _ b off cap lim arr e fr val him hlim hb hcap hfull hsz hval hrep =>
      have hget := topOk_get rows hok
      have hname : ∀ j, j < rows.length → rows[j]? = some [.str (nameAt rows j)] := by
        intro j hj
        obtain ⟨n, h1, _⟩ := hget j rows[j] (List.getElem?_eq_getElem hj)
        have e1 : min j (rows.length - 1) = j := by omega
        have e2 : nameAt rows j = n := by
          unfold nameAt
          rw [e1, List.getElem?_eq_getElem hj, h1]
        rw [e2, List.getElem?_eq_getElem hj, h1]
      have hpred : ∀ j, 0 < rows.length → (callPred Sg f1 c1 (nameAt rows j)).isSome = true ∧ (callPred Sg f2 c2 (nameAt rows j)).isSome = true := by
        intro j hpos
        have hj : min j (rows.length - 1) < rows.length := by omega
        obtain ⟨n, h1, h2, h3⟩ := hget _ _ (List.getElem?_eq_getElem hj)
        have e2 : nameAt rows j = n := by
          unfold nameAt
          rw [List.getElem?_eq_getElem hj, h1]
        rw [e2]
        exact ⟨h2, h3⟩
      have hstr : Top.Strs w.heap.size w (.slice (some ⟨b, off, none⟩) rows.length cap) (fun j => ⟨(nameAt rows j).toArray⟩) rows.length := by
        refine .inr ⟨b, off, cap, rfl, lt_of_heap hb, fun j hj => ?_⟩
        have h1 := hval j 0 _ _ (hname j hj) rfl
        have h2 := hrep j 0 _ _ (hname j hj) rfl
        have h3 : val j 0 = .string ⟨(nameAt rows j).toArray⟩ := by generalize val j 0 = u at h2; cases h2; rfl
        rw [h3] at h1
        simpa [World.cell?, hb] using h1
      have predE : ∀ {f : Nat} {c : List D} {n : List UInt8}, (callPred Sg f c n).isSome = true → callPred Sg f c n = some (callPred Sg f c n == some true) := by
        intro f c n hh
        cases hq : callPred Sg f c n with
        | none => rw [hq] at hh; cases hh
        | some b => cases b <;> rfl
      refine (Top.topmost_any _ _ _ (fun j => ⟨(nameAt rows j).toArray⟩) rows.length hlen f1 f2 lb1 lb2 (predAt Sg f1 c1 rows) (predAt Sg f2 c2 rows) w hstr
        (fun args w => run_callFunc (sig_callable hS hsome.1)) (fun args w => run_callFunc (sig_callable hS hsome.2)) (fun hpos j W hW => ?_) (fun hpos j W hW => ?_)).mono ?_
      · have h' := h.below hW
        have ext : Ext E.m w E.m W := ⟨fun b lim hb => ⟨lim, Nat.le_refl _, hb⟩, fun b lim arr e fr hb hh => ⟨arr, fr, by rw [hW.block _ (h.im_lt hb)]; exact hh, rfl, fun _ _ => rfl⟩, fun _ h => h, fun b hb => hW.block _ (h.mp_lt hb)⟩
        exact pred_calls hS hpin h' hs1 (fun j c hc => let ⟨x, q1, q2⟩ := hv1 j c hc; ⟨x, q1, q2.mono ext⟩) (predE (hpred j hpos).1)
      · have h' := h.below hW
        have ext : Ext E.m w E.m W := ⟨fun b lim hb => ⟨lim, Nat.le_refl _, hb⟩, fun b lim arr e fr hb hh => ⟨arr, fr, by rw [hW.block _ (h.im_lt hb)]; exact hh, rfl, fun _ _ => rfl⟩, fun _ h => h, fun b hb => hW.block _ (h.mp_lt hb)⟩
        exact pred_calls hS hpin h' hs2 (fun j c hc => let ⟨x, q1, q2⟩ := hv2 j c hc; ⟨x, q1, q2.mono ext⟩) (predE (hpred j hpos).2)
      · intro e w' hq
        exact fin _ e w' rfl hq
    · cases hg
  · cases hg

end Go.Ev
