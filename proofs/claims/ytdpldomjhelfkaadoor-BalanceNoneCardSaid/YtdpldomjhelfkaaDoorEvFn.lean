/- A function, whole. -/
import Derived.Test.YtdpldomjhelfkaaDoorEvOut
set_option linter.unusedVariables false
set_option linter.unusedSimpArgs false
namespace Go.Ev
open Go

section
variable {P : Program} {T : Tabl} {Sg : Sig} {B : Base} {E F : Env} {S S' : St} {a : Array Value} {act : Act} {w w' : World} {Q : Exit → Act → World → Prop}

def resRun (tmps : Array Value) : ResultVar → Sem Value
  | .tmp t => pure (tmps.getD t undef)
  | .cell a t => do loadVar t (← asAddr (tmps.getD a undef))

theorem results_run {fn : Func} {tmps : Array Value} {vs : List Value} (h : (fn.results.toList.mapM (resRun tmps)).run P w = .ok vs w) :
    (results fn tmps).run P w = .ok (if h : vs.length = 1 then vs[0] else .tuple vs.toArray) w := by
  have hf : results fn tmps = (Array.mapM (resRun tmps) fn.results >>= fun vs => pure (if h : vs.size = 1 then vs[0] else .tuple vs)) := by
    unfold results
    refine congrArg (fun f : ResultVar → Sem Value => (Array.mapM f fn.results >>= fun vs => (pure (if h : vs.size = 1 then vs[0] else .tuple vs) : Sem Value))) ?_
    funext r
    cases r <;> rfl
  rw [hf, Array.mapM_eq_mapM_toList]
  simp only [Sem.run_bind, Sem.run_map, h]
  by_cases hl : vs.length = 1
  · simp [hl]
  · simp [hl]

theorem loadAt_as {t : Nat} {X z : Value} (h : (Instr.loadAt t X).run P w = .ok z w) : (do loadVar t (← asAddr X) : Sem Value).run P w = .ok z w := by
  unfold Instr.loadAt at h
  cases X with
  | pointer p =>
    cases p with
    | some ad => simpa [Instr.sureAddr, asAddr] using h
    | none => simp [Instr.sureAddr] at h
  | _ => simp [Instr.sureAddr] at h

theorem resAll_sound (hT : TabOk P T) (h : Rel B E S act.tmps w) : ∀ (rs : List ResultVar) (ws : List W), resAll T S rs = some ws →
    ∃ vs : List Value, (rs.mapM (resRun act.tmps)).run P w = .ok vs w ∧ vs.length = ws.length ∧ (∀ (i : Nat) (x : W), ws[i]? = some x → ∃ v, vs[i]? = some v ∧ WRep E w x v) ∧
      ∀ (i sz : Nat) (rows : List (List D)), ws[i]? = some (.c (.own sz rows)) → ∃ t, rs[i]? = some (.tmp t) ∧ S.tm[t]? = some (vC (.own sz rows)) ∧ act.tmps[t]? = vs[i]?
  | [], ws, hr => by cases hr; exact ⟨[], by simp, rfl, by simp, by simp⟩
  | r :: rs, ws, hr => by
    unfold resAll at hr
    split at hr
    · rename_i x ws' h1 h2
      cases hr
      obtain ⟨vs, k1, k2, k3, k4⟩ := resAll_sound hT h rs ws' h2
      obtain ⟨u, h3, h4⟩ := Option.bind_eq_some_iff.1 h1
      have hx : u = .w x := by cases u with
        | w y => simp [toW] at h4; rw [h4]
        | t ys => simp [toW] at h4
      subst hx
      have one : ∃ v, (resRun act.tmps r).run P w = .ok v w ∧ WRep E w x v ∧ ∀ sz rows, x = .c (.own sz rows) → ∃ t, r = .tmp t ∧ S.tm[t]? = some (vC (.own sz rows)) ∧ act.tmps[t]? = some v := by
        cases r with
        | tmp t =>
          simp only [resOf, Option.some.injEq] at h3
          have hv := h.opd (.tmp t)
          simp only [opd, h3] at hv
          refine ⟨act.tmps.getD t undef, by simp [resRun], hv, fun sz rows he => ⟨t, rfl, ?_⟩⟩
          subst he
          rw [List.getD_eq_getElem?_getD] at h3
          cases hq : S.tm[t]? with
          | none => rw [hq] at h3; simp [vJ] at h3
          | some y =>
            rw [hq] at h3
            simp only [Option.getD_some] at h3
            subst h3
            obtain ⟨z, q1, _⟩ := h.tr t _ hq
            exact ⟨rfl, by rw [Array.getD_eq_getD_getElem?, q1]; rfl⟩
        | cell p t =>
          simp only [resOf] at h3
          split at h3
          · rename_i ti ht
            obtain ⟨z, q1, q2, q3⟩ := ld_sound hT h ht (h.opd (.tmp p)).er h3
            exact ⟨z, loadAt_as q1, q2, fun sz rows he => absurd (by rw [he]) (q3.1 sz rows)⟩
          · cases h3
      obtain ⟨v, q1, q2, q3⟩ := one
      refine ⟨v :: vs, by rw [List.mapM_cons]; simp [q1, k1], by simp [k2], fun i y hy => ?_, fun i sz rows hy => ?_⟩
      · cases i with
        | zero => simp at hy; subst hy; exact ⟨v, rfl, q2⟩
        | succ i => simpa using k3 i y (by simpa using hy)
      · cases i with
        | zero =>
          simp at hy
          obtain ⟨t, p1, p2, p3⟩ := q3 sz rows hy
          exact ⟨t, by simp [p1], p2, by simpa using p3⟩
        | succ i => simpa using k4 i sz rows (by simpa using hy)
    · cases hr

theorem resApart_spec : ∀ (rs : List ResultVar) (seen : List Nat), resApart rs seen = true → (∀ (i t : Nat), rs[i]? = some (.tmp t) → t ∉ seen) ∧ ∀ (i j t : Nat), rs[i]? = some (.tmp t) → rs[j]? = some (.tmp t) → i = j
  | [], seen, _ => ⟨by simp, by simp⟩
  | .tmp u :: rs, seen, h => by
    simp only [resApart, Bool.and_eq_true, Bool.not_eq_true'] at h
    obtain ⟨h1, h2⟩ := h
    obtain ⟨k1, k2⟩ := resApart_spec rs (u :: seen) h2
    have h1' : u ∉ seen := by simpa using h1
    refine ⟨fun i t hi => ?_, fun i j t hi hj => ?_⟩
    · cases i with
      | zero => simp at hi; subst hi; exact h1'
      | succ i => exact fun hm => k1 i t (by simpa using hi) (List.mem_cons_of_mem _ hm)
    · cases i with
      | zero =>
        simp at hi
        subst hi
        cases j with
        | zero => rfl
        | succ j => exact absurd (List.mem_cons_self) (k1 j u (by simpa using hj))
      | succ i =>
        cases j with
        | zero => simp at hj; subst hj; exact absurd (List.mem_cons_self) (k1 i u (by simpa using hi))
        | succ j => rw [k2 i j t (by simpa using hi) (by simpa using hj)]
  | .cell _ _ :: rs, seen, h => by
    simp only [resApart] at h
    obtain ⟨k1, k2⟩ := resApart_spec rs seen h
    refine ⟨fun i t hi => ?_, fun i j t hi hj => ?_⟩
    · cases i with
      | zero => simp at hi
      | succ i => exact k1 i t (by simpa using hi)
    · cases i with
      | zero => simp at hi
      | succ i =>
        cases j with
        | zero => simp at hj
        | succ j => rw [k2 i j t (by simpa using hi) (by simpa using hj)]

theorem Rel.pushJunk (h : Rel B E S a w) : ∀ n, Rel B E { S with tm := S.tm ++ List.replicate n vJ } (a ++ Array.replicate n undef) w
  | 0 => by simpa using h
  | n + 1 => by
    have ih := Rel.pushJunk h n
    have := ih.push (v := vJ) (x := undef) trivial .junk
    have e1 : S.tm ++ List.replicate (n + 1) vJ = (S.tm ++ List.replicate n vJ) ++ [vJ] := by rw [List.append_assoc, List.replicate_succ']
    have e2 : a ++ Array.replicate (n + 1) undef = (a ++ Array.replicate n undef).push undef := by
      rw [Array.replicate_succ, Array.append_push]
    rw [e1, e2]
    exact this

def posOf (rs : List ResultVar) (j : Nat) : Nat := match rs[j]? with | some (.tmp t) => t | _ => 0

/-- What the results of a function are. -/
structure Outs (E : Env) (S : St) (tmps : Array Value) (w : World) (rs : List ResultVar) (ws : List W) (vs : List Value) : Prop where
  ap : resApart rs [] = true
  len : vs.length = ws.length
  rep : ∀ (i : Nat) (x : W), ws[i]? = some x → ∃ v, vs[i]? = some v ∧ WRep E w x v
  own : ∀ (i sz : Nat) (rows : List (List D)), ws[i]? = some (.c (.own sz rows)) → ∃ t, rs[i]? = some (.tmp t) ∧ S.tm[t]? = some (vC (.own sz rows)) ∧ tmps[t]? = vs[i]?

def retOf (vs : List Value) : Value := if h : vs.length = 1 then vs[0] else .tuple vs.toArray

theorem retOf_one (x : Value) : retOf [x] = x := rfl
theorem retOf_many {vs : List Value} (h : vs.length ≠ 1) : retOf vs = .tuple vs.toArray := by simp [retOf, h]

theorem Outs.pos {rs : List ResultVar} {ws : List W} {vs : List Value} {tmps : Array Value} (o : Outs E S tmps w rs ws vs) {i sz : Nat} {rows : List (List D)} (h : ws[i]? = some (.c (.own sz rows))) :
    S.tm[posOf rs i]? = some (vC (.own sz rows)) ∧ tmps[posOf rs i]? = vs[i]? := by
  obtain ⟨t, h1, h2, h3⟩ := o.own i sz rows h
  have : posOf rs i = t := by simp [posOf, h1]
  rw [this]
  exact ⟨h2, h3⟩

theorem Outs.inj {rs : List ResultVar} {ws : List W} {vs : List Value} {tmps : Array Value} (o : Outs E S tmps w rs ws vs) {i j sz sz' : Nat} {rows rows' : List (List D)} (h : ws[i]? = some (.c (.own sz rows))) (h' : ws[j]? = some (.c (.own sz' rows')))
    (he : posOf rs i = posOf rs j) : i = j := by
  obtain ⟨t, h1, _⟩ := o.own i sz rows h
  obtain ⟨t', h2, _⟩ := o.own j sz' rows' h'
  have e1 : posOf rs i = t := by simp [posOf, h1]
  have e2 : posOf rs j = t' := by simp [posOf, h2]
  rw [e1, e2] at he
  subst he
  exact (resApart_spec rs [] o.ap).2 i j t h1 h2

def Env.cut (E : Env) (n : Nat) (x : Option Nat) : Env := ⟨E.m, fun id => if id < n then E.ob id else if id = n then x else none, fun _ => none⟩

theorem Env.cut_lt (E : Env) {n id : Nat} (x : Option Nat) (h : id < n) : (E.cut n x).ob id = E.ob id := if_pos h
theorem Env.cut_at (E : Env) (n : Nat) (x : Option Nat) : (E.cut n x).ob n = x := by simp [Env.cut]
theorem Env.cut_gt (E : Env) {n id : Nat} (x : Option Nat) (h : n < id) : (E.cut n x).ob id = none := by simp only [Env.cut]; rw [if_neg (by omega), if_neg (by omega)]

theorem Env.cut_none (E : Env) {n id : Nat} (h : n ≤ id) : (E.cut n none).ob id = none := by simp only [Env.cut]; rw [if_neg (by omega)]; split <;> rfl

theorem plainW_rep {x : W} {v : Value} {E' : Env} (hp : plainW x = true) (h : WRep F w' x v) (hm : E'.m = F.m) : WRep E' w' x v := plainV_rep (x := .w x) hp h hm

/-- A pointer to a new object, with plain results behind it. -/
theorem leave_ptr (h : Rel B E S act.tmps w) {n : Nat} (hn : n ≤ S.H.length) {rs : List ResultVar} {x0 : W} {r : List W} {vs : List Value} {o : Ob} {src : Nat ⊕ Nat} {b : Nat} (out : Outs E S act.tmps w rs (x0 :: r) vs)
    (hx0 : ∀ v, WRep E w x0 v → v = .pointer (some ⟨b, 0, none⟩)) (hx1 : ∀ sz rows, x0 ≠ .c (.own sz rows)) (hr : r.all plainW = true)
    (hs : (∃ k, src = .inr k ∧ S.L[k]? = some (some o) ∧ E.lo k = some b) ∨ ∃ i, src = .inl i ∧ n ≤ i ∧ S.H[i]? = some (some o) ∧ E.ob i = some b) :
    Rel B (E.cut n (some b)) ⟨[if r.isEmpty then vC (.ptr n 0) else .t (.c (.ptr n 0) :: r)], S.H.take n ++ [some o], []⟩ #[retOf vs] w := by
  obtain ⟨v0, hv0, hw0⟩ := out.rep 0 x0 rfl
  obtain rfl := hx0 v0 hw0
  have hX : ∃ o', [some o] = [some o'] ∧ (∀ id, n < id → (E.cut n (some b)).ob id = none) ∧ ((∃ k, src = .inr k ∧ S.L[k]? = some (some o') ∧ E.lo k = (E.cut n (some b)).ob n) ∨ ∃ i, src = .inl i ∧ n ≤ i ∧ S.H[i]? = some (some o') ∧ E.ob i = (E.cut n (some b)).ob n) := by
    refine ⟨o, rfl, fun id hi => Env.cut_gt E _ hi, ?_⟩
    rw [Env.cut_at]
    exact hs
  cases r with
  | nil =>
    have hvs : vs = [.pointer (some ⟨b, 0, none⟩)] := by
      have := out.len
      cases vs with
      | nil => simp at this
      | cons y ys => cases ys with
        | nil => simp at hv0; rw [hv0]
        | cons _ _ => simp at this
    subst hvs
    simp only [List.isEmpty_nil, if_true, retOf_one]
    exact h.out hn rfl (fun _ => rfl) (fun id hi => Env.cut_lt E _ hi) src (.inr hX) ⟨b, Env.cut_at E n _, rfl⟩ (fun _ => 0) (fun sz rows q => by simp at q) (fun ws vs j sz rows q => by simp at q) (fun ws i j sz sz' rows rows' q => by simp at q)
  | cons y ys =>
    simp only [List.isEmpty_cons, Bool.false_eq_true, if_false]
    have hlen : vs.length ≠ 1 := by have := out.len; simp at this; omega
    rw [retOf_many hlen]
    have same : ∀ (j sz : Nat) (rows : List (List D)), (W.c (.ptr n 0) :: y :: ys)[j]? = some (.c (.own sz rows)) → (x0 :: y :: ys)[j]? = some (.c (.own sz rows)) := by
      intro j sz rows hj
      cases j with
      | zero => simp at hj
      | succ j => simpa using hj
    refine h.out hn rfl (fun _ => rfl) (fun id hi => Env.cut_lt E _ hi) src (.inr hX) ⟨vs.toArray, rfl, by simpa using out.len, fun i x hx => ?_⟩ (posOf rs) (fun sz rows q => by simp at q) (fun ws vs' j sz rows q1 q2 hj => ?_) (fun ws i j sz sz' rows rows' q hi hj he => ?_)
    · cases i with
      | zero =>
        simp at hx
        subst hx
        exact ⟨_, by simpa using hv0, b, Env.cut_at E n _, rfl⟩
      | succ i =>
        have hx' : (x0 :: y :: ys)[i + 1]? = some x := by simpa using hx
        obtain ⟨v, k1, k2⟩ := out.rep _ _ hx'
        exact ⟨v, by simpa using k1, plainW_rep (List.all_eq_true.1 hr x (List.mem_of_getElem? (by simpa using hx))) k2 rfl⟩
    · cases q1
      cases q2
      obtain ⟨k1, k2⟩ := out.pos (same j sz rows hj)
      exact ⟨k1, by simpa using k2⟩
    · cases q
      exact out.inj (same _ _ _ hi) (same _ _ _ hj) he

theorem leave_sound (h : Rel B E S act.tmps w) {n : Nat} (hn : n ≤ S.H.length) {rs : List ResultVar} {ws : List W} {vs : List Value} {v : V} {H' : List (Option Ob)} (out : Outs E S act.tmps w rs ws vs) (hl : leave S n ws = some (v, H')) :
    ∃ E2, (∀ id, id < n → E2.ob id = E.ob id) ∧ n ≤ H'.length ∧ Rel B E2 ⟨[v], H', []⟩ #[retOf vs] w := by
  have htake : (S.H.take n).length = n := by simp; omega
  have one : ∀ x, ws = [x] → ∃ u, vs = [u] ∧ WRep E w x u := by
    rintro x rfl
    obtain ⟨u, h1, h2⟩ := out.rep 0 x rfl
    have := out.len
    cases vs with
    | nil => simp at this
    | cons y ys => cases ys with
      | nil => simp at h1; subst h1; exact ⟨y, rfl, h2⟩
      | cons _ _ => simp at this
  unfold leave at hl
  split at hl
  · rename_i k
    split at hl
    · rename_i es hk
      cases hl
      obtain ⟨u, rfl, b, hb, rfl⟩ := one _ rfl
      obtain ⟨m, ext, h1, h2⟩ := h.freezeMap (getD_some hk) hb
      refine ⟨(⟨m, E.ob, E.lo⟩ : Env).cut n none, fun id hi => Env.cut_lt _ _ hi, by omega, ?_⟩
      have := h1.out (n := n) (X := []) (v := vD (.mp es)) (r := .map (some b)) (E2 := (⟨m, E.ob, E.lo⟩ : Env).cut n none) hn rfl (fun _ => rfl) (fun id hi => Env.cut_lt _ _ hi) (.inl 0)
        (.inl ⟨rfl, fun id hi => Env.cut_none _ hi⟩) h2 (fun _ => 0)
        (fun sz rows q => by simp at q) (fun ws vs j sz rows q => by simp at q) (fun ws i j sz sz' rows rows' q => by simp at q)
      rw [List.append_nil] at this
      exact this
    · cases hl
  · rename_i k r
    split at hl
    · rename_i l hk
      split at hl
      · rename_i hc
        rw [Bool.and_eq_true] at hc
        cases hl
        obtain ⟨u0, _, b, hb, _⟩ := out.rep 0 _ rfl
        refine ⟨E.cut n (some b), fun id hi => Env.cut_lt E _ hi, by simp; omega, leave_ptr h hn out (src := .inr k) (fun v hv => ?_) (by simp) hc.2 (.inl ⟨k, rfl, getD_some hk, hb⟩)⟩
        obtain ⟨b', hb', rfl⟩ := hv
        rw [hb] at hb'
        cases hb'
        rfl
      · cases hl
    · cases hl
  · rename_i id r
    split at hl
    · rename_i l hk
      split at hl
      · rename_i hc
        rw [Bool.and_eq_true, Bool.and_eq_true] at hc
        cases hl
        obtain ⟨u0, _, b, hb, _⟩ := out.rep 0 _ rfl
        refine ⟨E.cut n (some b), fun id hi => Env.cut_lt E _ hi, by simp; omega, leave_ptr h hn out (src := .inl id) (fun v hv => ?_) (by simp) hc.2 (.inr ⟨id, rfl, by simpa using hc.1.1, getD_some hk, hb⟩)⟩
        obtain ⟨b', hb', rfl⟩ := hv
        rw [hb] at hb'
        cases hb'
        rfl
      · cases hl
    · cases hl
  · rename_i x _ _ _
    split at hl
    · rename_i hp
      cases hl
      obtain ⟨u, rfl, hu⟩ := one x rfl
      refine ⟨E.cut n none, fun id hi => Env.cut_lt E _ hi, by omega, ?_⟩
      have := h.out (n := n) (X := []) (v := .w x) (r := u) (E2 := E.cut n none) hn rfl (fun _ => rfl) (fun id hi => Env.cut_lt _ _ hi) (.inl 0)
        (.inl ⟨rfl, fun id hi => Env.cut_none _ hi⟩) (plainW_rep hp hu rfl) (posOf rs)
        (fun sz rows q => by
          have : x = .c (.own sz rows) := by simpa using q
          subst this
          obtain ⟨k1, k2⟩ := out.pos (i := 0) (by rfl)
          exact ⟨k1, by simpa using k2⟩) (fun ws vs j sz rows q => by simp at q) (fun ws i j sz sz' rows rows' q => by simp at q)
      rw [List.append_nil] at this
      exact this
    · cases hl
  · rename_i hne
    split at hl
    · rename_i hp
      cases hl
      have hlen : vs.length ≠ 1 := by
        rw [out.len]
        intro q
        match ws, q with
        | [x], _ => exact hne x rfl
      rw [retOf_many hlen]
      refine ⟨E.cut n none, fun id hi => Env.cut_lt E _ hi, by omega, ?_⟩
      have := h.out (n := n) (X := []) (v := .t ws) (r := .tuple vs.toArray) (E2 := E.cut n none) hn rfl (fun _ => rfl) (fun id hi => Env.cut_lt _ _ hi) (.inl 0)
        (.inl ⟨rfl, fun id hi => Env.cut_none _ hi⟩)
        ⟨vs.toArray, rfl, by simpa using out.len, fun i x hx => by
          obtain ⟨u, k1, k2⟩ := out.rep i x hx
          exact ⟨u, by simpa using k1, plainW_rep (List.all_eq_true.1 hp x (List.mem_of_getElem? hx)) k2 rfl⟩⟩ (posOf rs)
        (fun sz rows q => by simp at q) (fun ws' vs' j sz rows q1 q2 hj => by
          cases q1
          cases q2
          obtain ⟨k1, k2⟩ := out.pos hj
          exact ⟨k1, by simpa using k2⟩) (fun ws' i j sz sz' rows rows' q hi hj he => by cases q; exact out.inj hi hj he)
      rw [List.append_nil] at this
      exact this
    · cases hl

theorem fnEv_sound {okDraw : Array Oper → Bool} {pin : Nat → Option Obj} (hW : World7 P pin T Sg okDraw) {f : Nat} {fn : Func} (hf : P.funcs[f]? = some fn) (Kp : List Nat) (n : Nat) : SoundE P pin f (fnEv T Sg okDraw Kp n fn) := by
  intro args H v H' hg B E argv w hpin h
  subst hpin
  unfold fnEv at hg
  split at hg
  · cases hg
  · rename_i c hb
    have hlen : argv.size = args.length := h.len
    have h0 := h.pushJunk (fn.ntmps - argv.size)
    refine calls_of_wp hf hb ?_
    have fin : ∀ (x : X) (S' : St), (x = .norm ∨ x = .ret) → ev T Sg okDraw Kp n c ⟨args ++ List.replicate (fn.ntmps - args.length) vJ, H, []⟩ = some (x, S') →
        (if resApart fn.results.toList [] then (resAll T S' fn.results.toList).bind (leave S' H.length) else none) = some (v, H') →
        c.wp P (bodyPost P fn fun e w' => ∃ r E', e = .returned r ∧ H.length ≤ H'.length ∧ (∀ id, id < H.length → E'.ob id = E.ob id) ∧ Rel B E' ⟨[v], H', []⟩ #[r] w') { tmps := argv ++ Array.replicate (fn.ntmps - argv.size) undef, defers := [] } w := by
      intro x S' hx he hr
      split at hr
      · rename_i hap
        obtain ⟨ws, hws, hlv⟩ := Option.bind_eq_some_iff.1 hr
        refine ev_sound hW Kp n c he (by rw [← hlen]; exact h0) fun act' w' hbh => ?_
        obtain ⟨E', ha, hd, hrel⟩ := hbh
        obtain ⟨vs, k1, k2, k3, k4⟩ := resAll_sound hW.tab hrel fn.results.toList ws hws
        obtain ⟨E2, q1, q2, q3⟩ := leave_sound hrel (n := H.length) ha.1 ⟨hap, k2, k3, k4⟩ hlv
        have post : act'.defers = [] ∧ ∃ r, (results fn act'.tmps).run P w' = .ok r w' ∧ ∃ r' E', Ending.returned r = .returned r' ∧ H.length ≤ H'.length ∧ (∀ id, id < H.length → E'.ob id = E.ob id) ∧ Rel B E' ⟨[v], H', []⟩ #[r'] w' :=
          ⟨hd, retOf vs, results_run k1, retOf vs, E2, rfl, q2, fun id hi => (q1 id hi).trans (ha.2 id hi), q3⟩
        rcases hx with rfl | rfl
        · exact post
        · exact post
      · cases hr
    split at hg
    · rename_i S' he
      exact fin .norm S' (.inl rfl) he hg
    · rename_i S' he
      exact fin .ret S' (.inr rfl) he hg
    · cases hg

end
end Go.Ev
