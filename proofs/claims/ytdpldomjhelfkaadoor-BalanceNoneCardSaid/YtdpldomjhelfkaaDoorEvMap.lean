/- Maps with strings as keys. -/
import Derived.Test.YtdpldomjhelfkaaDoorEvNew
import Derived.MapKept
set_option linter.unusedVariables false
set_option linter.unusedSimpArgs false
namespace Go.Ev
open Go

section
variable {P : Program} {T : Tabl} {B : Base} {E : Env} {S : St} {a : Array Value} {w w' : World}

theorem DRep.mrep {m : M} {es : List (List UInt8 × Bool × List D)} {x : Value} (h : DRep m w (.mp es) x) : ∃ b entries clock, x = .map (some b) ∧ w.heap[b]? = some (.map entries clock) ∧ MRep m w es entries := by
  cases h with
  | mp es b entries clock val hm hb hn hone hent hrep =>
    exact ⟨b, entries, clock, rfl, hb, hn, hone, fun i k a ds hd => let ⟨bn, h1⟩ := hent i k a ds hd; ⟨bn, val i, h1, fun j c hc => hrep i k a ds j c hd hc⟩⟩

theorem bytes_beq_list (a b : List UInt8) : ((ByteArray.mk a.toArray) == (ByteArray.mk b.toArray)) = (a == b) := by
  show (a.toArray == b.toArray) = _
  simp

/-- The first entry with a key. -/
theorem findNow_str (s : List UInt8) : ∀ (es : List (List UInt8 × Bool × List D)) (l : List MapEntry) (i : Nat), l.length = es.length →
    (∀ (j : Nat) (k : List UInt8) (r : Bool × List D), es[j]? = some (k, r) → ∃ x, l[j]? = some x ∧ x.key = .string ⟨k.toArray⟩) →
    (Instr.findNow .string (.string ⟨s.toArray⟩) l i = some none ∧ es.find? (fun x => x.1 == s) = none) ∨
    ∃ j r x, Instr.findNow .string (.string ⟨s.toArray⟩) l i = some (some (i + j, x.val)) ∧ l[j]? = some x ∧ es[j]? = some (s, r) ∧ es.find? (fun x => x.1 == s) = some (s, r)
  | [], [], _, _, _ => .inl ⟨rfl, rfl⟩
  | [], _ :: _, _, h, _ => by cases h
  | _ :: _, [], _, h, _ => by cases h
  | (k, r) :: es, x :: l, i, hl, hk => by
    obtain ⟨y, h1, h2⟩ := hk 0 k r rfl
    cases h1
    by_cases e : k = s
    · subst e
      exact .inr ⟨0, r, x, by simp [Instr.findNow, Instr.sameNow, h2, bytes_beq_list], rfl, rfl, by simp⟩
    · have e1 : (s == k) = false := by simpa using fun q => e q.symm
      have e2 : (k == s) = false := by simpa using e
      rcases findNow_str s es l (i + 1) (by simpa using hl) (fun j k r hj => hk (j + 1) k r hj) with ⟨h3, h4⟩ | ⟨j, r', x', h3, h4, h5, h6⟩
      · exact .inl ⟨by simp [Instr.findNow, Instr.sameNow, h2, bytes_beq_list, e1, h3], by simp [List.find?, e2, h4]⟩
      · refine .inr ⟨j + 1, r', x', by simp [Instr.findNow, Instr.sameNow, h2, bytes_beq_list, e1, h3]; omega, h4, h5, by simp [List.find?, e2, h6]⟩

theorem MRep.keys {m : M} {es : List (List UInt8 × Bool × List D)} {entries : Array MapEntry} (h : MRep m w es entries) :
    ∀ (j : Nat) (k : List UInt8) (r : Bool × List D), es[j]? = some (k, r) → ∃ x, entries.toList[j]? = some x ∧ x.key = .string ⟨k.toArray⟩ := by
  intro j k r hj
  obtain ⟨bn, val, h1, _⟩ := h.2.2 j k r.1 r.2 hj
  exact ⟨_, by rw [Array.getElem?_toList]; exact h1, rfl⟩

theorem lookup_run {t kt et : Nat} {X : Value} {s : List UInt8} {entries : Array MapEntry} (ok : Bool) (hu : P.underlying t = some (.map kt et)) (hk : P.underlying kt = some .string)
    (hX : (X = .map none ∧ entries = #[]) ∨ ∃ b c, X = .map (some b) ∧ w.heap[b]? = some (.map entries c)) {r : Option (Nat × Value)} (hf : Instr.findNow .string (.string ⟨s.toArray⟩) entries.toList 0 = some r)
    {z : Value} (hz : (zeroValue et).run P w = .ok z w) :
    (Instr.lookup t X (.string ⟨s.toArray⟩) ok).run P w = .ok (if ok then .tuple #[(r.map (·.2)).getD z, .bool r.isSome] else (r.map (·.2)).getD z) w := by
  have hc : ∀ e, (Instr.checkKey e 10000 kt (.string ⟨s.toArray⟩)).run P w = .ok () w := fun e => MapKept.run_checkKey (k := .string _) hk (by simp [MapKept.IsKey]) e 9999
  have hfk := MapKept.run_findKey (P := P) (w := w) hk hf
  rcases hX with ⟨rfl, rfl⟩ | ⟨b, c, rfl, hb⟩
  · cases r with
    | none => simp [Instr.lookup, run_underlying hu, hc, hfk, hz, Result.andThen]
    | some p => simp [Instr.findNow] at hf
  · cases r with
    | none => simp [Instr.lookup, run_underlying hu, MapKept.run_getObj_map hb, hc, hfk, hz, Result.andThen]
    | some p => obtain ⟨i, v⟩ := p; simp [Instr.lookup, run_underlying hu, MapKept.run_getObj_map hb, hc, hfk, hz, Result.andThen]

theorem lookV_sound (hT : TabOk P T) {t : Nat} {es : List (List UInt8 × Bool × List D)} {k v : V} {X K : Value} {ok : Bool} {entries : Array MapEntry} (hm : MRep E.m w es entries)
    (hX : (X = .map none ∧ entries = #[]) ∨ ∃ b c, X = .map (some b) ∧ w.heap[b]? = some (.map entries c)) (hk : VRep E w k K) (h : lookV T t es k ok = some v) :
    ∃ z, (Instr.lookup t X K ok).run P w = .ok z w ∧ VRep E w v z ∧ NoOwn v := by
  unfold lookV at h
  split at h
  · rename_i kt e s h1
    cases hk
    obtain ⟨ti, h3, h4⟩ := Option.map_eq_some_iff.1 h1
    have u1 := (hT _ _ h3).und
    rw [h4] at u1
    simp only [TyDesc] at u1
    obtain ⟨u1, u2⟩ := u1
    split at h
    · rename_i te hte
      obtain ⟨z, hz, hzr⟩ := (hT _ _ hte).zero (P := P) w
      -- what the cells say
      have done : ∀ (r : Option (Nat × Value)), Instr.findNow .string (.string ⟨s.toArray⟩) entries.toList 0 = some r → ∀ (y : Value) (ag : Bool) (cs : List D), (r.map (·.2)).getD z = y → r.isSome = ((es.find? (fun x => x.1 == s)).map (·.2)).isSome →
          (((es.find? (fun x => x.1 == s)).map (·.2)).getD (te.agg, te.zero)) = (ag, cs) →
          (ag = true → ∃ us, y = .agg us ∧ ARep E.m w cs us) → (ag = false → ∀ d, cs = [d] → DRep E.m w d y) → ∃ z, (Instr.lookup t X (.string ⟨s.toArray⟩) ok).run P w = .ok z w ∧ VRep E w v z ∧ NoOwn v := by
        intro r hr y ag cs hy hs hg hag hna
        have hrun := lookup_run (w := w) ok u1 u2 hX hr hz
        rw [hy] at hrun
        simp only [hg] at h
        refine ⟨_, hrun, ?_⟩
        have wrep : ∀ u, (if ag = true then some (W.a cs) else match cs with | [d] => some (W.c (.d d)) | _ => none) = some u → WRep E w u y ∧ ∀ sz rows, u ≠ .c (.own sz rows) := by
          intro u hu
          cases ag with
          | true =>
            simp at hu
            subst hu
            exact ⟨hag rfl, by simp⟩
          | false =>
            simp only [Bool.false_eq_true, if_false] at hu
            split at hu
            · rename_i d
              cases hu
              exact ⟨hna rfl d rfl, by simp⟩
            · cases hu
        obtain ⟨u, hu1, hu2⟩ := Option.map_eq_some_iff.1 h
        obtain ⟨h5, h6⟩ := wrep u hu1
        cases ok with
        | true =>
          simp only [if_true] at hu2 ⊢
          subst hu2
          refine ⟨⟨_, rfl, rfl, fun i x hx => ?_⟩, ⟨fun _ _ q => by simp at q, fun ws hw j sz rows hj => ?_⟩⟩
          · match i with
            | 0 => simp only [List.getElem?_cons_zero, Option.some.injEq] at hx; subst hx; exact ⟨y, by simp, h5⟩
            | 1 => simp only [List.getElem?_cons_succ, List.getElem?_cons_zero, Option.some.injEq] at hx; subst hx; exact ⟨.bool r.isSome, by simp, by rw [← hs]; exact DRep.bool _⟩
            | i + 2 => simp at hx
          · cases hw
            match j with
            | 0 => simp at hj; exact h6 sz rows hj
            | 1 => simp at hj
            | j + 2 => simp at hj
        | false =>
          simp only [Bool.false_eq_true, if_false] at hu2 ⊢
          subst hu2
          exact ⟨h5, fun sz rows q => h6 sz rows (by simpa using q), fun _ q => by simp at q⟩
      rcases findNow_str s es entries.toList 0 (by simpa using hm.1) hm.keys with ⟨h5, h6⟩ | ⟨j, r, x, h5, h6, h7, h8⟩
      · refine done none h5 z te.agg te.zero rfl (by simp [h6]) (by simp [h6]) (fun hag => ?_) (fun hag d hd => ?_)
        · obtain ⟨us, rfl⟩ := hzr.2.2.1 hag
          exact ⟨us, rfl, zrep_arep hzr E.m w⟩
        · have hc := zrep_arep hzr E.m w
          obtain ⟨x, hx1, hx2⟩ := hc.2 0 d (by rw [hd]; rfl)
          have hne := hzr.2.2.2 hag
          have : z.cells = #[z] := by cases z <;> first | rfl | exact absurd rfl (hne _)
          rw [this] at hx1
          simp at hx1
          subst hx1
          exact hx2
      · obtain ⟨bn, val, h9, h10⟩ := hm.2.2 j s r.1 r.2 h7
        rw [Array.getElem?_toList, h9] at h6
        cases h6
        refine done _ h5 (cellsVal r.1 r.2.length val) r.1 r.2 rfl (by simp [h8]) (by simp [h8]) (fun hag => ?_) (fun hag d hd => ?_)
        · refine ⟨Array.ofFn fun (j : Fin r.2.length) => val j.1, by simp [cellsVal, hag], by simp, fun i d hd => ?_⟩
          have hi := (List.getElem?_eq_some_iff.1 hd).1
          exact ⟨val i, by simp [hi], h10 i d hd⟩
        · have := h10 0 d (by rw [hd]; rfl)
          simpa [cellsVal, hag] using this
    · cases h
  · cases h

theorem mapOf_sound (h : Rel B E S a w) {lim : Nat} {x : V} {X : Value} {es : List (List UInt8 × Bool × List D)} (hx : VRep E w x X) (hm : mapOf S lim x = some es) :
    ∃ b entries c, X = .map (some b) ∧ w.heap[b]? = some (.map entries c) ∧ MRep E.m w es entries := by
  unfold mapOf at hm
  split at hm
  · cases hm
    exact DRep.mrep hx
  · rename_i k
    split at hm
    · split at hm
      · rename_i hl
        cases hm
        obtain ⟨b, hb, rfl⟩ := hx
        obtain ⟨b', h1, ⟨entries, c, h2, h3⟩, _⟩ := h.lr k _ (getD_some hl)
        rw [hb] at h1
        cases h1
        exact ⟨b, entries, c, rfl, h2, h3⟩
      · cases hm
    · cases hm
  · cases hm

/-- Another object in a local map's block. -/
theorem Rel.setMap (h : Rel B E S a w) {k b : Nat} {es es' : List (List UInt8 × Bool × List D)} {en en' : Array MapEntry} {c c' : Nat} (hk : S.L[k]? = some (some (.map es))) (hb : E.lo k = some b) (hh : w.heap[b]? = some (.map en c)) (hm : MRep E.m w es' en') :
    Rel B E { S with L := S.L.set k (some (.map es')) } a { w with heap := w.heap.setIfInBounds b (.map en' c') } := by
  obtain ⟨b', g1, ⟨en2, c2, g2, g3⟩, g5, g6, hmay⟩ := h.lr k _ hk
  rw [hb] at g1
  cases g1
  have hkl : k < S.L.length := (List.getElem?_eq_some_iff.1 hk).1
  obtain ⟨hnew, hoth⟩ := MapKept.heap_set (w := w) (o' := .map en' c') hh
  have himb : ∀ q n, E.m.im q = some n → q ≠ b := fun q n hq f => by subst f; rw [g5] at hq; cases hq
  have hmpb : ∀ q, E.m.mp q = true → q ≠ b := fun q hq f => by subst f; rw [g6] at hq; cases hq
  have ext : Ext E.m w E.m { w with heap := w.heap.setIfInBounds b (.map en' c') } :=
    ⟨fun q lim hq => ⟨lim, Nat.le_refl _, hq⟩, fun q lim ar e0 fr hq hh => ⟨ar, fr, by show (w.heap.setIfInBounds b _)[q]? = _; rw [hoth q (himb q _ hq)]; exact hh, rfl, fun _ _ => rfl⟩, fun q hq => hq, fun q hq => hoth q (hmpb q hq)⟩
  have hself : (S.L.set k (some (Ob.map es')))[k]? = some (some (.map es')) := List.getElem?_set_self hkl
  have hlive : liveL S k := ⟨_, hk⟩
  have liveBack : ∀ q, liveL { S with L := S.L.set k (some (.map es')) } q → liveL S q := by
    rintro q ⟨o, ho⟩
    by_cases f : q = k
    · subst f; exact hlive
    · simp only [List.getElem?_set_ne (Ne.symm f)] at ho; exact ⟨o, ho⟩
  have cellOther : ∀ b2 o, b2 ≠ b → ({ w with heap := w.heap.setIfInBounds b (.map en' c') } : World).cell? ⟨b2, o, none⟩ = w.cell? ⟨b2, o, none⟩ := fun b2 o hne => cell_of_heap (w := w) (hoth b2 hne)
  have key : ∀ ℓ sz u, Owned { S with L := S.L.set k (some (.map es')) } E a { w with heap := w.heap.setIfInBounds b (.map en' c') } ℓ sz u → Owned S E a w ℓ sz u := by
    intro ℓ sz u ho
    obtain ⟨⟨rows, h1⟩, h2⟩ := ho
    cases ℓ with
    | t i => exact ⟨⟨rows, h1⟩, h2⟩
    | tt i j => exact ⟨⟨rows, h1⟩, h2⟩
    | h q o =>
      obtain ⟨b2, k1, k2, k3, k4, k5⟩ := h.at_obj.1 q o _ h1
      have hne : b2 ≠ b := fun f => by subst f; exact h.hl q k b2 k4 hlive k1 hb
      refine ⟨⟨rows, h1⟩, ?_⟩
      simp only [conc, k1, Option.bind_some] at h2 ⊢
      rw [← cellOther b2 o hne]; exact h2
    | l q o =>
      by_cases f : q = k
      · subst f
        simp only [St.at, hself] at h1
        cases h1
      · simp only [St.at, List.getElem?_set_ne (Ne.symm f)] at h1
        obtain ⟨b2, k1, k2, k3, k4, k5⟩ := h.at_obj.2 q o _ h1
        have hne : b2 ≠ b := fun g => by subst g; exact f (h.ll q k b2 k4 hlive k1 hb)
        refine ⟨⟨rows, h1⟩, ?_⟩
        simp only [conc, k1, Option.bind_some] at h2 ⊢
        rw [← cellOther b2 o hne]; exact h2
  exact {
    len := h.len
    tr := fun i u hu => let ⟨x, h1, h2⟩ := h.tr i u hu; ⟨x, h1, h2.mono (E' := E) ext (fun _ _ h => h) (fun _ _ h => h)⟩
    lr := fun q o ho => by
      by_cases f : q = k
      · subst f
        simp only [hself, Option.some.injEq] at ho
        subst ho
        exact ⟨b, hb, ⟨en', c', hnew, hm.mono ext⟩, g5, g6, hmay⟩
      · simp only [List.getElem?_set_ne (Ne.symm f)] at ho
        obtain ⟨b2, h1, h2, h3⟩ := h.lr q o ho
        have hne : b2 ≠ b := fun g => by subst g; exact f (h.ll q k b2 ⟨_, ho⟩ hlive h1 hb)
        exact ⟨b2, h1, h2.mono ext (hoth b2 hne), h3⟩
    hr := fun q o ho => by
      obtain ⟨b2, h1, h2, h3⟩ := h.hr q o ho
      have hne : b2 ≠ b := fun g => by subst g; exact h.hl q k b2 ⟨_, ho⟩ hlive h1 hb
      exact ⟨b2, h1, h2.mono ext (hoth b2 hne), h3⟩
    hh := h.hh
    ll := fun i j c hi hj h1 h2 => h.ll i j c (liveBack i hi) (liveBack j hj) h1 h2
    hl := fun i j c hi hj h1 h2 => h.hl i j c hi (liveBack j hj) h1 h2
    obl := h.obl
    lol := fun q c hq => by have := h.lol q c hq; simpa using this
    own := fun ℓ sz u ho => by
      obtain ⟨b2, ⟨o, n, c, ar, e0, h1, h2, h3, h4⟩, h5⟩ := h.own _ _ _ (key ℓ sz u ho)
      exact ⟨b2, ⟨o, n, c, ar, e0, h1, h2, by show (w.heap.setIfInBounds b _)[b2]? = _; rw [hoth b2 (himb b2 _ h2)]; exact h3, h4⟩, h5⟩
    own1 := fun ℓ ℓ' sz1 sz2 u u' c h1 h2 => h.own1 _ _ _ _ _ _ c (key _ _ _ h1) (key _ _ _ h2)
    imw := fun q n hq => by
      obtain ⟨ar, e0, fr, h1, h2⟩ := h.imw q n hq
      exact ⟨ar, e0, fr, by show (w.heap.setIfInBounds b _)[q]? = _; rw [hoth q (himb q n hq)]; exact h1, h2⟩
    mpw := fun q hq => by
      obtain ⟨es, c, h1⟩ := h.mpw q hq
      exact ⟨es, c, by show (w.heap.setIfInBounds b _)[q]? = _; rw [hoth q (hmpb q hq)]; exact h1⟩
    kept := by
      have hk := h.kept
      refine ⟨by simpa using hk.size, hk.os, hk.tape, hk.output, fun q hkl hkt => ?_, hk.ext.trans ext⟩
      have ek : q ≠ b := fun g => by subst g; rcases hmay with hm | hm; exact hkt hm; omega
      obtain ⟨h1, h2, h3⟩ := hk.same q hkl hkt
      exact ⟨(hoth q ek).trans h1, h2, h3⟩ }

theorem updM_none {es : List (List UInt8 × Bool × List D)} {s : List UInt8} {r : Bool × List D} (h : es.find? (fun x => x.1 == s) = none) : updM es s r = es ++ [(s, r)] := by
  induction es with
  | nil => rfl
  | cons x es ih =>
    simp only [List.find?_cons] at h
    split at h
    · cases h
    · rename_i hx
      simp [updM, hx, ih h]

theorem updM_some (s : List UInt8) (r : Bool × List D) : ∀ (es : List (List UInt8 × Bool × List D)) (l : List MapEntry) (i j : Nat) (y : Value), l.length = es.length →
    (∀ (j : Nat) (k : List UInt8) (r : Bool × List D), es[j]? = some (k, r) → ∃ x, l[j]? = some x ∧ x.key = .string ⟨k.toArray⟩) →
    Instr.findNow .string (.string ⟨s.toArray⟩) l i = some (some (j, y)) → ∃ p, j = i + p ∧ p < es.length ∧ updM es s r = es.set p (s, r)
  | [], [], _, _, _, _, _, h => by cases h
  | [], _ :: _, _, _, _, h, _, _ => by cases h
  | _ :: _, [], _, _, _, h, _, _ => by cases h
  | (k, q) :: es, x :: l, i, j, y, hl, hk, h => by
    obtain ⟨y', h1, h2⟩ := hk 0 k q rfl
    cases h1
    by_cases e : k = s
    · subst e
      simp [Instr.findNow, Instr.sameNow, h2, bytes_beq_list] at h
      exact ⟨0, by omega, by simp, by simp [updM]⟩
    · have e1 : (s == k) = false := by simpa using fun q => e q.symm
      have e2 : (k == s) = false := by simpa using e
      simp only [Instr.findNow, Instr.sameNow, h2, bytes_beq_list, e1] at h
      obtain ⟨p, h3, h4, h5⟩ := updM_some s r es l (i + 1) j y (by simpa using hl) (fun j k r hj => hk (j + 1) k r hj) h
      exact ⟨p + 1, by omega, by simp; omega, by simp [updM, e2, h5]⟩

theorem insert_sound (hT : TabOk P T) (h : Rel B E S a w) {t kt e j : Nat} {te : TI} {s : List UInt8} {v : V} {ds : List D} {es : List (List UInt8 × Bool × List D)} {M K X : Value}
    (ht : (T t).map TI.ty = some (.mp kt e)) (hM : VRep E w (vC (.ml j)) M) (hK : VRep E w (vS s) K) (hX : VRep E w v X) (hd : v.dcells = some ds) (hj : S.L[j]? = some (some (.map es))) :
    ∃ w', (Instr.mapUpdate t M K X).run P w = .ok () w' ∧ Rel B E { S with L := S.L.set j (some (.map (updM es s (isAggV v, ds)))) } a w' := by
  obtain ⟨ti, h3, h4⟩ := Option.map_eq_some_iff.1 ht
  have u1 := (hT _ _ h3).und
  rw [h4] at u1
  simp only [TyDesc] at u1
  obtain ⟨u1, u2⟩ := u1
  obtain ⟨b, hb, rfl⟩ := hM
  cases hK
  obtain ⟨b', g1, ⟨en, c, hh, hm⟩, _⟩ := h.lr j _ hj
  rw [hb] at g1
  cases g1
  have hc : (Instr.checkKey false 10000 kt (.string ⟨s.toArray⟩)).run P w = .ok () w := MapKept.run_checkKey (k := .string _) u2 (by simp [MapKept.IsKey]) false 9999
  -- the value's cells
  have hv : ∃ val : Nat → Value, X = cellsVal (isAggV v) ds.length val ∧ (∀ (i : Nat) (d : D), ds[i]? = some d → DRep E.m w d (val i)) ∧ (isAggV v = false → ds.length = 1) := by
    cases v with
    | t ws => simp [V.dcells] at hd
    | w x =>
      cases x with
      | a cs =>
        simp only [V.dcells, Option.some.injEq] at hd
        subst hd
        obtain ⟨vs, rfl, k1, k2⟩ := hX
        refine ⟨fun i => (vs[i]?).getD undef, ?_, fun i d hd => ?_, by simp [isAggV]⟩
        · simp only [isAggV, cellsVal, if_true, Value.agg.injEq]
          apply Array.ext (by simp [k1])
          intro i h1 h2
          simp [Array.getElem?_eq_getElem h1]
        · obtain ⟨x, k3, k4⟩ := k2 i d hd
          simp only [k3, Option.getD_some]; exact k4
      | c c =>
        simp only [V.dcells, Option.map_eq_some_iff] at hd
        obtain ⟨d, k1, rfl⟩ := hd
        refine ⟨fun _ => X, by simp [isAggV, cellsVal], fun i d' hd' => ?_, by simp⟩
        match i with
        | 0 => simp at hd'; subst hd'; exact C.toD_rep hX k1
        | i + 1 => simp at hd'
  obtain ⟨val, hval, hrep, hone⟩ := hv
  rcases findNow_str s es en.toList 0 (by simpa using hm.1) hm.keys with ⟨h5, h6⟩ | ⟨p, r, x, h5, h6, h7, h8⟩
  · have hfk := MapKept.run_findKey (P := P) (w := w) u2 h5
    rw [updM_none h6]
    refine ⟨_, ?_, h.setMap (en' := en.push { key := .string ⟨s.toArray⟩, val := X, born := c }) (c' := c + 1) hj hb hh ⟨by simp [hm.1], fun i k ds' hi => ?_, fun i k ag ds' hi => ?_⟩⟩
    · simp [Instr.mapUpdate, run_underlying u1, MapKept.run_getObj_map hh, hc, hfk, MapKept.run_setObj_map _ hh, Result.andThen]
    · rcases Nat.lt_or_ge i es.length with hl | hl
      · rw [List.getElem?_append_left hl] at hi; exact hm.2.1 i k ds' hi
      · rw [List.getElem?_append_right hl] at hi
        cases hq : i - es.length with
        | zero => rw [hq] at hi; simp at hi; obtain ⟨_, h9, rfl⟩ := hi; exact hone h9
        | succ q => rw [hq] at hi; simp at hi
    · rcases Nat.lt_or_ge i es.length with hl | hl
      · rw [List.getElem?_append_left hl] at hi
        obtain ⟨bn, val', h9, h10⟩ := hm.2.2 i k ag ds' hi
        exact ⟨bn, val', by rw [Array.getElem?_push, if_neg (by have := hm.1; omega)]; exact h9, h10⟩
      · rw [List.getElem?_append_right hl] at hi
        cases hq : i - es.length with
        | zero =>
          rw [hq] at hi
          simp at hi
          obtain ⟨rfl, rfl, rfl⟩ := hi
          refine ⟨c, val, ?_, hrep⟩
          rw [Array.getElem?_push, if_pos (by have := hm.1; omega), hval]
        | succ q => rw [hq] at hi; simp at hi
  · have hfk := MapKept.run_findKey (P := P) (w := w) u2 h5
    obtain ⟨p', h9, h10, h11⟩ := updM_some s (isAggV v, ds) es en.toList 0 _ _ (by simpa using hm.1) hm.keys h5
    have hp : p' = p := by omega
    subst hp
    rw [h11]
    obtain ⟨bn, val0, h12, _⟩ := hm.2.2 p' s r.1 r.2 h7
    have hst : (Instr.keyThatStays (((en[0 + p']?).map (·.key)).getD (.string ⟨s.toArray⟩)) (.string ⟨s.toArray⟩)).run P w = .ok (.string ⟨s.toArray⟩) w := by
      rw [Nat.zero_add, h12]
      exact MapKept.run_keyThatStays (d := .string) (by simp [MapKept.IsKey])
    refine ⟨_, ?_, h.setMap (en' := en.modify (0 + p') fun e => { e with key := .string ⟨s.toArray⟩, val := X }) (c' := c) hj hb hh ⟨by simp [hm.1], fun i k ds' hi => ?_, fun i k ag ds' hi => ?_⟩⟩
    · simp only [Instr.mapUpdate, Sem.run_bind, run_underlying u1, Result.andThen_ok, MapKept.run_getObj_map hh, hc, hfk, hst, MapKept.run_setObj_map _ hh]
    · by_cases q : i = p'
      · subst q
        rw [List.getElem?_set_self h10] at hi
        simp at hi
        obtain ⟨_, h13, rfl⟩ := hi
        exact hone h13
      · rw [List.getElem?_set_ne (Ne.symm q)] at hi
        exact hm.2.1 i k ds' hi
    · by_cases q : i = p'
      · subst q
        rw [List.getElem?_set_self h10] at hi
        simp at hi
        obtain ⟨rfl, rfl, rfl⟩ := hi
        refine ⟨bn, val, ?_, hrep⟩
        rw [Nat.zero_add, Array.getElem?_modify, if_pos rfl, h12, ← hval]
        rfl
      · rw [List.getElem?_set_ne (Ne.symm q)] at hi
        obtain ⟨bn', val', h13, h14⟩ := hm.2.2 i k ag ds' hi
        exact ⟨bn', val', by rw [Nat.zero_add, Array.getElem?_modify, if_neg (Ne.symm q)]; exact h13, h14⟩

end
end Go.Ev
