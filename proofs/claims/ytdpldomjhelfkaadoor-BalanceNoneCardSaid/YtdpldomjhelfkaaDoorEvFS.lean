/- What the second evaluator gives, the first one gives. -/
import Derived.Test.YtdpldomjhelfkaaDoorEvF
set_option linter.unusedVariables false
set_option linter.unusedSimpArgs false
namespace Go.Ev
open Go

def toF (S : St) : SF := ⟨fun i => S.tm.getD i vJ, S.H, S.L⟩

section
variable {T : Tabl} {Sg : Sig} {lim : Nat} {tk : Bool} {S : St}

theorem rd_toF (S : St) (x : Operand) : (opdO x).rd (toF S).f = opd S.tm x := by cases x <;> rfl
theorem re_toF (S : St) (x : Operand) : (opdO x).re (toF S).f = (opd S.tm x).er := by rw [O.re, rd_toF]
theorem orl_toF (S : St) : ∀ l : List Operand, orl (toF S).f (l.map opdO) = l.map fun x => (opd S.tm x).er
  | [] => rfl
  | x :: r => by simp only [List.map_cons, orl, re_toF, orl_toF S r]
theorem ore_toF (S : St) (x : Option Operand) : (x.map opdO).map (·.re (toF S).f) = x.map fun x => (opd S.tm x).er := by
  cases x with
  | none => rfl
  | some x => simp only [Option.map_some, re_toF]

theorem upd_toF {S : St} {t : Nat} (v : V) (ht : t < S.tm.length) : (fun i => (S.tm.set t v).getD i vJ) = upd (fun i => S.tm.getD i vJ) t v := by
  funext i
  unfold upd
  simp only [List.getD_eq_getElem?_getD, List.getElem?_set]
  by_cases h : t = i
  · subst h; simp [ht]
  · rw [if_neg h, if_neg (fun e => h e.symm)]

theorem getD_lt {l : List V} {t : Nat} {v : V} (h : l.getD t vJ = v) (hv : v ≠ vJ) : t < l.length := by
  rw [List.getD_eq_getElem?_getD] at h
  cases hq : l[t]? with
  | none => rw [hq] at h; exact absurd h.symm hv
  | some x => exact (List.getElem?_eq_some_iff.1 hq).1

/-- What is asked of an operation. -/
def Meets (S : St) (F' : SF) (v : V) (r : Option (V × St)) : Prop := ∃ S', r = some (v, S') ∧ toF S' = F' ∧ S'.tm.length = S.tm.length

theorem meets_still {v : V} {F' : SF} {o : Option V} (h : o.map (·, toF S) = some (v, F')) : Meets S F' v (o.map fun v => (v, S)) := by
  cases o with
  | none => cases h
  | some x => cases h; exact ⟨S, rfl, rfl, rfl⟩

theorem meets_stillE {v : V} {F' : SF} {o o' : Option V} (e : o = o') (h : o'.map (·, toF S) = some (v, F')) : Meets S F' v (o.map fun v => (v, S)) := by
  subst e; exact meets_still h

theorem takeTm_F (S : St) (x : Operand) {v : V} {F' : SF} (h : takeF (toF S) (opdO x) = (v, F')) : Meets S F' v (takeTm S x) := by
  cases x with
  | tmp t =>
    simp only [takeF, opdO, toF] at h
    simp only [takeTm]
    have er_eq : (S.tm.getD t vJ) = S.tm.getD t vJ := rfl
    generalize hq : S.tm.getD t vJ = u at h
    split at h
    · cases h
      have ht := getD_lt hq (by simp [vJ])
      refine ⟨clrTm S t, by simp only [], ?_, by simp [clrTm]⟩
      simp only [clrTm, toF, hq]
      rw [upd_toF _ ht]; rfl
    · cases h
      have ht := getD_lt hq (by simp [vJ])
      refine ⟨clrTm S t, by simp only [], ?_, by simp [clrTm]⟩
      simp only [clrTm, toF, hq]
      rw [upd_toF _ ht]; rfl
    · rename_i h1 h2
      cases h
      refine ⟨S, ?_, rfl, rfl⟩
      split
      · exact absurd rfl (h1 _ _)
      · exact absurd rfl (h2 _)
      · rfl
  | const c => cases h; exact ⟨S, rfl, rfl, rfl⟩
  | func c => cases h; exact ⟨S, rfl, rfl, rfl⟩
  | global c => cases h; exact ⟨S, rfl, rfl, rfl⟩

theorem ld_F (S : St) (lim : Nat) (p : V) (n : Nat) (agg : Bool) : ld S lim p n agg = ld (toF S).st lim p n agg := rfl
theorem mapOf_F (S : St) (lim : Nat) (p : V) : mapOf S lim p = mapOf (toF S).st lim p := rfl

theorem by_F {α : Type} {r r' : Option (α × St)} (e : r = r'.map fun (a, S') => (a, { S' with tm := S.tm })) {a : α} {F' : SF} (h : (toF S).by r' = some (a, F')) : ∃ S', r = some (a, S') ∧ toF S' = F' ∧ S'.tm.length = S.tm.length := by
  subst e
  unfold SF.by at h
  cases r' with
  | none => cases h
  | some x =>
    obtain ⟨y, S'⟩ := x
    cases h
    exact ⟨_, rfl, rfl, rfl⟩

theorem takeLd_F (S : St) (lim : Nat) (p : V) : takeLd S lim p = (takeLd (toF S).st lim p).map fun (a, S') => (a, { S' with tm := S.tm }) := by
  unfold takeLd
  split
  · simp only [toF, SF.st, Option.map_map]
    cases takeOb (S.H.getD _ none) _ <;> rfl
  · simp only [toF, SF.st]
    split
    · simp only [Option.map_map]
      cases takeOb (S.L.getD _ none) _ <;> rfl
    · rfl
  · rw [ld_F]
    simp only [Option.map_map]
    cases ld (toF S).st lim _ 1 false <;> rfl

theorem storeTo_F (S : St) (p : V) (cs : List C) : storeTo S p cs = (storeTo (toF S).st p cs).map fun S' => { S' with tm := S.tm } := by
  unfold storeTo
  split
  · simp only [toF, SF.st, Option.map_map]
    cases storeOb (S.H.getD _ none) _ cs <;> rfl
  · simp only [toF, SF.st, Option.map_map]
    cases storeOb (S.L.getD _ none) _ cs <;> rfl
  · rfl

theorem effCall_F (S : St) (g : List V → List (Option Ob) → Option (V × List (Option Ob))) (args : List V) : effCall S g args = (effCall (toF S).st g args).map fun (a, S') => (a, { S' with tm := S.tm }) := by
  obtain ⟨tm, H, L⟩ := S
  unfold effCall
  show _ = Option.map _ (if hasLoc args = true then if (List.map (upV H.length) args).all handV = true then match g (List.map (upV H.length) args) (H ++ L) with
      | some (v, H') => if H'.length = H.length + L.length ∧ plainV v = true then some (v, (⟨[], H'.take H.length, H'.drop H.length⟩ : St)) else none
      | none => none else none
    else if args.all handV = true then (g args H).map fun (v, H') => (v, (⟨[], H', L⟩ : St)) else none)
  dsimp only
  by_cases h1 : hasLoc args = true
  · rw [if_pos h1, if_pos h1]
    by_cases h2 : (List.map (upV H.length) args).all handV = true
    · rw [if_pos h2, if_pos h2]
      cases g (List.map (upV H.length) args) (H ++ L) with
      | none => rfl
      | some x =>
        obtain ⟨v, H'⟩ := x
        by_cases h3 : H'.length = H.length + L.length ∧ plainV v = true
        · simp only [if_pos h3]; rfl
        · simp only [if_neg h3]; rfl
    · rw [if_neg h2, if_neg h2]; rfl
  · rw [if_neg h1, if_neg h1]
    by_cases h2 : args.all handV = true
    · rw [if_pos h2, if_pos h2]
      cases g args H <;> rfl
    · rw [if_neg h2, if_neg h2]; rfl

theorem capture_F : ∀ (l : List V) (S : St), capture S l = (capture (toF S).st l).map fun (a, S') => (a, { S' with tm := S.tm })
  | [], S => rfl
  | v :: r, S => by
    unfold capture
    split
    · rw [capture_F r S]
      simp only [Option.map_map]
      cases capture (toF S).st r <;> rfl
    · simp only [toF, SF.st]
      split
      · split
        · rw [capture_F r]
          simp only [Option.map_map, toF, SF.st]
          rename_i k _ _ _ _ _ _ _
          cases capture ({ tm := [], H := S.H, L := S.L.set _ none } : St) r <;> rfl
        · rfl
      · rfl
    · rfl

theorem fillD_st (T : Tabl) (S : St) (fs : List (Nat × Nat)) : ∀ (ps : List (Nat × Operand)) (l : List (Nat × Nat × O)) (z : List D), fsPlace T fs ps = some l →
    fillD (stPlace T fs) z (ps.map fun p => (p.1, (opd S.tm p.2).er.dcells)) = buildF z (l.map fun p => (p.1, p.2.1, (p.2.2.re (toF S).f).dcells))
  | [], l, z, h => by cases h; rfl
  | (i, x) :: r, l, z, h => by
    simp only [fsPlace] at h
    split at h
    · rename_i off n l' h1 h2
      cases h
      simp only [List.map_cons, fillD, buildF, h1, re_toF]
      cases hx : (opd S.tm x).er.dcells with
      | none => rfl
      | some ds =>
        simp only
        split
        · exact fillD_st T S fs r l' _ h2
        · rfl
    · cases h

theorem fillD_ar (S : St) (sz : Nat) : ∀ (ps : List (Nat × Operand)) (z : List D),
    fillD (fun i => some (i * sz, sz)) z (ps.map fun p => (p.1, (opd S.tm p.2).er.dcells)) = buildF z ((arPlace sz ps).map fun p => (p.1, p.2.1, (p.2.2.re (toF S).f).dcells))
  | [], z => rfl
  | (i, x) :: r, z => by
    simp only [arPlace, List.map_cons, fillD, buildF, re_toF]
    cases hx : (opd S.tm x).er.dcells with
    | none => rfl
    | some ds =>
      simp only
      split
      · exact fillD_ar S sz r _
      · rfl



section
variable {s d e t i f n : Nat} {k k' : IntKind} {fs : List (Nat × Nat)} {ti : TI} {off ft : Nat}
theorem convV_i (hs : (T s).map TI.ty = some (.int k')) (hd : (T d).map TI.ty = some (.int k)) (u : V) : convV T s d u = convF k u := by
  unfold convV convF
  rw [hs, hd]
  rcases u with (c | cs) | ws
  · cases c with
    | d d => cases d <;> rfl
    | _ => rfl
  · rfl
  · rfl

theorem convV_b (hs : (T s).map TI.ty = some .str) (hd : (T d).map TI.ty = some (.sl e)) (he : (T e).map TI.ty = some (.int .u8)) (u : V) : convV T s d u = convBF u := by
  unfold convV convBF
  rw [hs, hd]
  simp only [he]
  rcases u with (c | cs) | ws
  · cases c with
    | d d => cases d <;> rfl
    | _ => rfl
  · rfl
  · rfl

theorem fieldAddrV_F (hs : (T t).map TI.ty = some (.st fs)) (hf : fs[f]? = some (off, ft)) (hi : T ft = some ti) (hz : ¬ ti.size = 0) (u : V) : fieldAddrV T t u f = faddrF off u := by
  unfold fieldAddrV faddrF
  rw [hs]
  simp only [hf, hi, if_neg hz]
  rfl

theorem fieldV_F (hs : (T t).map TI.ty = some (.st fs)) (hf : fs[f]? = some (off, ft)) (hi : T ft = some ti) (u : V) : fieldV T t u f = fldF off ti.size ti.agg u := by
  unfold fieldV fldF
  rw [hs]
  rcases u with (c | cs) | ws
  · rfl
  · simp only [hf, hi]
  · rfl
theorem indexV_S (hs : (T t).map TI.ty = some .str) (u x : V) : indexV T t u x = idxSF u x := by
  unfold indexV idxSF
  rw [hs]
  split
  · rename_i h1 h2 h3; rfl
  · rename_i h1 h2 h3; cases h3
  · rename_i h1 h2
    split
    · exact (h1 _ _ _ rfl rfl rfl).elim
    · rfl
theorem indexV_A (hs : (T t).map TI.ty = some (.arr n e)) (hi : T e = some ti) (u x : V) : indexV T t u x = idxAF n ti.size ti.agg u x := by
  unfold indexV idxAF
  rw [hs]
  split
  · rename_i h; cases h
  · rename_i h; cases h; simp only [hi]
  · rename_i h1 h2
    split
    · exact (h2 _ _ _ _ _ rfl rfl rfl).elim
    · rfl
theorem indexAddrV_S (hs : (T t).map TI.ty = some (.sl e)) (hi : T e = some ti) (u x : V) : indexAddrV T t u x = iaSF ti.size u x := by
  unfold indexAddrV iaSF
  rw [hs]
  split
  · rename_i h; cases h
    simp only [hi]
    split
    · rename_i h1; cases h1; rfl
    · rename_i h1
      split
      · exact (h1 _ _ _ _ rfl rfl).elim
      · rfl
  · rename_i h; cases h
  · rename_i h1 h2
    split
    · exact (h1 _ _ _ rfl rfl).elim
    · rfl
theorem indexAddrV_A (hs : (T t).map TI.ty = some (.arr n e)) (hi : T e = some ti) (u x : V) : indexAddrV T t u x = iaAF n ti.size u x := by
  unfold indexAddrV iaAF
  rw [hs]
  split
  · rename_i h; cases h
  · rename_i h; cases h
    simp only [hi]
    rename_i i
    by_cases hc : 0 ≤ i ∧ i < n
    · simp only [if_pos hc]
      rcases u with (c | cs) | ws
      · cases c <;> first | rfl | exact (if_pos hc).symm
      · rfl
      · rfl
    · simp only [if_neg hc]
      rcases u with (c | cs) | ws
      · cases c <;> first | rfl | exact (if_neg hc).symm
      · rfl
      · rfl
  · rename_i h1 h2
    split
    · exact (h2 _ _ _ _ rfl rfl).elim
    · exact (h2 _ _ _ _ rfl rfl).elim
    · rfl
end
theorem sliceV_S {t : Nat} (hs : (T t).map TI.ty = some .str) (u : V) (lo hi : Option V) : sliceV T t u lo hi none = slSF u lo hi := by
  unfold sliceV slSF
  rw [hs]
  split
  · rename_i sx _
    show _ = (match bnd lo 0, bnd hi sx.length with
      | some l, some h => if l ≤ h ∧ h ≤ sx.length then some (vS ((sx.take h).drop l)) else none
      | _, _ => none)
    cases bnd lo 0 with
    | none => rfl
    | some a => cases bnd hi sx.length <;> rfl
  · rename_i h; cases h
  · rename_i h; cases h
  · rename_i h1 h2 h3
    split
    · exact (h1 _ rfl rfl).elim
    · rfl
theorem sliceV_L {t e : Nat} {ti : TI} (hs : (T t).map TI.ty = some (.sl e)) (he : T e = some ti) (u : V) (lo hi mx : Option V) : sliceV T t u lo hi mx = slLF ti.size u lo hi mx := by
  unfold sliceV slLF
  rw [hs]
  split
  · rename_i h; cases h
  · rename_i h; cases h
    simp only [he]
    cases bnd lo 0 with
    | none => rfl
    | some a => cases a with
      | succ a => rfl
      | zero => cases bnd hi 0 with
        | none => rfl
        | some a => cases a with
          | succ a => rfl
          | zero => cases bnd mx 0 with
            | none => rfl
            | some a => cases a <;> rfl
  · rename_i h; cases h
    simp only [he]
    split <;> rfl
  · rename_i h1 h2 h3
    split
    · exact (h2 _ rfl rfl).elim
    · exact (h3 _ _ _ _ rfl rfl).elim
    · rfl
theorem lenV_S {t : Nat} (hs : (T t).map TI.ty = some .str) (u : V) : lenV T t u = lenSF u := by
  unfold lenV lenSF
  rw [hs]
  rcases u with (c | cs) | ws
  · cases c with
    | d d => cases d <;> rfl
    | _ => rfl
  · rfl
  · rfl
theorem lenV_L {t e : Nat} (hs : (T t).map TI.ty = some (.sl e)) (u : V) : lenV T t u = lenLF u := by
  unfold lenV lenLF
  rw [hs]
  rcases u with (c | cs) | ws
  · cases c with
    | d d => cases d <;> rfl
    | _ => rfl
  · rfl
  · rfl
theorem lookV_F {t k e : Nat} {te : TI} (hs : (T t).map TI.ty = some (.mp k e)) (he : T e = some te) (es : List (List UInt8 × Bool × List D)) (u : V) (ok : Bool) : lookV T t es u ok = lookF te.agg te.zero es u ok := by
  unfold lookV lookF
  rw [hs]
  rcases u with (c | cs) | ws
  · cases c with
    | d d => cases d with
      | str s => simp only [he]; rfl
      | _ => rfl
    | _ => rfl
  · rfl
  · rfl

theorem binV_F (T : Tabl) (op : BinOp) (t : Nat) (x y : V) : binV T op t x y = binV (fun _ => T t) op 0 x y := rfl

theorem ins_F {o : Oper} {t : Nat} {m k x : Operand} {v : V} {F' : SF} (ho : o.op = .insert t m k x ∨ o.op = .mapUpdate t m k x) (h : opF Sg lim (compOp T tk (.insert t m k x)) (toF S) = some (v, F')) : Meets S F' v (opStep T Sg lim tk o S) := by
  have e : opStep T Sg lim tk o S = (match (T t).map TI.ty, (opd S.tm m).er, (opd S.tm k).er, (opd S.tm x).er.dcells with
    | some (.mp _ e), vC (.ml j), vS key, some ds => match S.L.getD j none, T e with
      | some (.map es), some te => if ds.length = te.size then some (.t [], { S with L := S.L.set j (some (.map (updM es key (isAggV (opd S.tm x).er, ds)))) }) else none
      | _, _ => none
    | _, _, _, _ => none) := by
    rcases ho with ho | ho <;> (unfold opStep; simp only [ho]; rfl)
  rw [e]
  simp only [compOp] at h
  split at h
  · rename_i kk e hs
    split at h
    · rename_i te he
      simp only [opF, re_toF] at h
      split at h
      · rename_i j key ds h1 h2 h3
        split at h
        · rename_i es hes
          split at h
          · rename_i hl
            cases h
            simp only [hs, h1, h2, h3, he]
            have : S.L.getD j none = some (.map es) := hes
            simp only [this, if_pos hl]
            exact ⟨_, rfl, rfl, rfl⟩
          · cases h
        · cases h
      · cases h
    · cases h
  · cases h

theorem call_F {o : Oper} {c : Call} {v : V} {F' : SF} (ho : o.op = .call c) (h : opF Sg lim (compOp T tk (.call c)) (toF S) = some (v, F')) : Meets S F' v (opStep T Sg lim tk o S) := by
  unfold opStep
  simp only [ho]
  simp only [compOp] at h
  split at h
  · rename_i hc
    simp only [hc]
    split at h
    · rename_i x t r h1 h2
      split at h
      · rename_i hs
        simp only [opF, re_toF] at h
        exact meets_stillE (by simp only [sv, ho, hc, h1, h2]; exact lenV_S hs _) h
      · rename_i e hs
        simp only [opF, re_toF] at h
        exact meets_stillE (by simp only [sv, ho, hc, h1, h2]; exact lenV_L hs _) h
      · cases h
    · cases h
  · rename_i hc
    simp only [hc]
    split at h
    · rename_i s x t tx h1 h2
      simp only [h1, h2]
      split at h
      · rename_i e hs
        simp only [hs]
        split at h
        · rename_i te he
          simp only [he]
          split at h
          · rename_i hr
            simp only [opF] at h
            obtain ⟨S0, q1, q2, q3⟩ := takeTm_F S s (v := (takeF (toF S) (opdO s)).1) (F' := (takeF (toF S) (opdO s)).2) rfl
            rw [q1]
            simp only
            rw [re_toF] at h
            split at h
            · rename_i ys hys
              simp only [hys, if_pos hr]
              rw [← q2] at h
              obtain ⟨r, k1, k2⟩ := Option.map_eq_some_iff.1 h
              simp only [k1, Option.map_some]
              cases k2
              exact ⟨_, rfl, rfl, q3⟩
            · cases h
          · cases h
        · cases h
      · cases h
    · cases h
  · rename_i f hc
    simp only [hc]
    simp only [opF, orl_toF] at h
    split at h
    · rename_i g hg
      simp only [hg]
      exact by_F (effCall_F S g _) h
    · rename_i g hg
      simp only [hg]
      split at h
      · rename_i ha
        refine meets_stillE ?_ h
        have e1 : sv T Sg lim o (fun x => (opd S.tm x).er) S = pureCall Sg f ((c.args.toList.map fun x => (opd S.tm x).er) ++ []) := by simp only [sv, ho, hc]; rfl
        rw [e1, List.append_nil]
        unfold pureCall
        simp only [hg, if_pos ha]
      · cases h
    · cases h
  · rename_i x hc
    simp only [hc]
    simp only [opF, orl_toF] at h
    have e0 : O.re (toF S).f (.t x) = (opd S.tm (.tmp x)).er := re_toF S (.tmp x)
    rw [e0] at h
    split at h
    · rename_i f caps hf
      refine meets_stillE ?_ h
      simp only [sv, ho, hc, hf]
    · cases h
  · cases h

set_option maxHeartbeats 1000000 in
theorem opF_ok (o : Oper) {v : V} {F' : SF} (h : opF Sg lim (compOp T tk o.op) (toF S) = some (v, F')) : Meets S F' v (opStep T Sg lim tk o S) := by
  unfold opStep
  cases ho : o.op
  case move x =>
    simp only [ho, compOp] at h ⊢
    cases tk with
    | true =>
      simp only [if_true, opF, Option.some.injEq] at h ⊢
      exact takeTm_F S x h
    | false =>
      simp only [Bool.false_eq_true, if_false, opF] at h ⊢
      exact meets_stillE (o' := some ((opdO x).re (toF S).f)) (by simp only [sv, ho, re_toF]) h
  case assign x =>
    simp only [ho, compOp, opF, Option.some.injEq] at h ⊢
    exact takeTm_F S x h
  case pick c a b =>
    simp only [ho, compOp, opF, re_toF] at h ⊢
    exact meets_stillE (by simp only [sv, ho]; rfl) h
  case nilCheck x =>
    simp only [ho, compOp, opF, re_toF] at h ⊢
    exact meets_stillE (by simp only [sv, ho]; rfl) h
  case binOp op t x y u =>
    simp only [ho, compOp, opF, re_toF] at h ⊢
    exact meets_stillE (by simp only [sv, ho]; rfl) h
  case unOp op t x =>
    cases op <;> simp only [ho, compOp, opF, re_toF] at h ⊢ <;> first | (cases h; done) | exact meets_stillE (by simp only [sv, ho]; rfl) h
  case convert s d x =>
    simp only [ho, compOp] at h ⊢
    split at h
    · rename_i k hs hd
      simp only [opF, re_toF] at h
      exact meets_stillE (by simp only [sv, ho]; exact convV_i hs hd _) h
    · rename_i e hs hd
      split at h
      · rename_i he
        simp only [opF, re_toF] at h
        exact meets_stillE (by simp only [sv, ho]; exact convV_b hs hd he _) h
      · cases h
    · cases h
  case fieldAddr t x f =>
    simp only [ho, compOp] at h ⊢
    split at h
    · rename_i fs hs
      split at h
      · rename_i off ft hf
        split at h
        · rename_i i hi
          split at h
          · cases h
          · rename_i hz
            simp only [opF, re_toF] at h
            exact meets_stillE (by simp only [sv, ho]; exact fieldAddrV_F hs hf hi hz _) h
        · cases h
      · cases h
    · cases h
  case field t x f =>
    simp only [ho, compOp] at h ⊢
    split at h
    · rename_i fs hs
      split at h
      · rename_i off ft hf
        split at h
        · rename_i i hi
          simp only [opF, re_toF] at h
          exact meets_stillE (by simp only [sv, ho]; exact fieldV_F hs hf hi _) h
        · cases h
      · cases h
    · cases h
  case index t x i =>
    simp only [ho, compOp] at h ⊢
    split at h
    · rename_i hs
      simp only [opF, re_toF] at h
      exact meets_stillE (by simp only [sv, ho]; exact indexV_S hs _ _) h
    · rename_i n e hs
      split at h
      · rename_i ti hi
        simp only [opF, re_toF] at h
        exact meets_stillE (by simp only [sv, ho]; exact indexV_A hs hi _ _) h
      · cases h
    · cases h
  case indexAddr t x i =>
    simp only [ho, compOp] at h ⊢
    split at h
    · rename_i e hs
      split at h
      · rename_i ti hi
        simp only [opF, re_toF] at h
        exact meets_stillE (by simp only [sv, ho]; exact indexAddrV_S hs hi _ _) h
      · cases h
    · rename_i n e hs
      split at h
      · rename_i ti hi
        simp only [opF, re_toF] at h
        exact meets_stillE (by simp only [sv, ho]; exact indexAddrV_A hs hi _ _) h
      · cases h
    · cases h
  case slice t x lo hi mx =>
    simp only [ho, compOp] at h ⊢
    split at h
    · rename_i hs
      split at h
      · simp only [opF, re_toF, ore_toF] at h
        exact meets_stillE (by simp only [sv, ho]; exact sliceV_S hs _ _ _) h
      · cases h
    · rename_i e hs
      split at h
      · rename_i ti hi
        simp only [opF, re_toF, ore_toF] at h
        exact meets_stillE (by simp only [sv, ho]; exact sliceV_L hs hi _ _ _ _) h
      · cases h
    · cases h
  case extract x i =>
    have key : ∀ x, opF Sg lim (.ext (opdO x) i) (toF S) = some (v, F') → o.op = .extract x i → Meets S F' v ((sv T Sg lim o (fun x => (opd S.tm x).er) S).map fun v => (v, S)) := by
      intro x h ho
      simp only [opF, re_toF] at h
      refine meets_stillE ?_ h
      simp only [sv, ho, extF]
      rfl
    cases x with
    | tmp t =>
      simp only [ho, compOp] at h ⊢
      cases tk with
      | false =>
        simp only [Bool.false_eq_true, if_false] at h ⊢
        exact key (.tmp t) h ho
      | true =>
        simp only [if_true, opF] at h ⊢
        simp only [toF] at h
        generalize hq : S.tm.getD t vJ = u at h
        split at h
        · rename_i ws
          split at h
          · rename_i w hw
            cases h
            have ht := getD_lt hq (by simp [vJ])
            refine ⟨{ S with tm := S.tm.set t (.t (ws.set i w.er)) }, ?_, ?_, by simp⟩
            · simp only [takeEx, hq, hw]
            · simp only [toF]
              rw [upd_toF _ ht]
          · cases h
        · cases h
    | const c => simp only [ho, compOp] at h ⊢; exact key _ h ho
    | func c => simp only [ho, compOp] at h ⊢; exact key _ h ho
    | global c => simp only [ho, compOp] at h ⊢; exact key _ h ho
  case load t p =>
    simp only [ho, compOp] at h ⊢
    split at h
    · rename_i ti hi
      have key : opF Sg lim (.load ti.size ti.agg (opdO p)) (toF S) = some (v, F') → Meets S F' v ((sv T Sg lim o (fun x => (opd S.tm x).er) S).map fun v => (v, S)) := by
        intro h
        simp only [opF, re_toF, ← ld_F] at h
        refine meets_stillE ?_ h
        simp only [sv, ho, hi]
      cases tk with
      | false =>
        simp only [Bool.false_eq_true, if_false, Bool.false_and] at h ⊢
        exact key h
      | true =>
        simp only [if_true, hi, Bool.true_and] at h ⊢
        cases ha : ti.agg with
        | true =>
          simp only [ha, Bool.not_true, Bool.false_eq_true, if_false, if_true] at h ⊢
          exact key (by rw [ha]; exact h)
        | false =>
          simp only [ha, Bool.not_false, Bool.false_eq_true, if_false, if_true, opF, re_toF] at h ⊢
          exact by_F (takeLd_F S lim _) h
    · cases h
  case build t ps =>
    simp only [ho, compOp] at h ⊢
    split at h
    · rename_i ti hi
      split at h
      · rename_i fs hf
        split at h
        · rename_i l hl
          simp only [opF] at h
          refine meets_stillE (o' := (buildF ti.zero (l.map fun p => (p.1, p.2.1, (p.2.2.re (toF S).f).dcells))).map vA) ?_ (by rw [Option.map_map]; exact h)
          simp only [sv, ho, buildV, hi, hf]
          rw [fillD_st T S fs ps.toList l ti.zero hl]
        · cases h
      · rename_i n e hf
        split at h
        · rename_i te he
          simp only [opF] at h
          refine meets_stillE (o' := (buildF ti.zero ((arPlace te.size ps.toList).map fun p => (p.1, p.2.1, (p.2.2.re (toF S).f).dcells))).map vA) ?_ (by rw [Option.map_map]; exact h)
          simp only [sv, ho, buildV, hi, hf, he]
          rw [fillD_ar S te.size ps.toList ti.zero]
        · cases h
      · cases h
    · cases h
  case buildSlice t n ps =>
    simp only [ho, compOp] at h ⊢
    split at h
    · rename_i e hf
      split at h
      · rename_i te he
        simp only [opF, List.map_map] at h
        refine meets_stillE ?_ h
        simp only [sv, ho, buildSliceV, hf, he, bsliceF]
        have : (ps.toList.map fun p => (p.1, (opd S.tm p.2).er.dcells)) = ps.toList.map ((fun p : Nat × O => (p.1, (p.2.re (toF S).f).dcells)) ∘ fun p => (p.1, opdO p.2)) := by
          apply List.map_congr_left
          intro p _
          simp only [Function.comp, re_toF]
        rw [this]
      · cases h
    · cases h
  case lookup t x k ok =>
    simp only [ho, compOp] at h ⊢
    split at h
    · rename_i kk e hs
      split at h
      · rename_i te he
        simp only [opF, re_toF, ← mapOf_F] at h
        split at h
        · rename_i es hes
          refine meets_stillE ?_ h
          simp only [sv, ho, hes]
          exact lookV_F hs he _ _ _
        · cases h
      · cases h
    · cases h
  case alloc t =>
    simp only [ho, compOp] at h ⊢
    split at h
    · rename_i ti hi
      simp only [hi]
      cases h
      exact ⟨_, rfl, rfl, rfl⟩
    · cases h
  case box t x =>
    simp only [ho, compOp, opF, re_toF] at h ⊢
    split at h
    · rename_i ds hds
      simp only [hds]
      cases h
      exact ⟨_, rfl, rfl, rfl⟩
    · cases h
  case store t p x =>
    simp only [ho, compOp] at h ⊢
    split at h
    · rename_i ti hi
      simp only [opF] at h
      obtain ⟨S0, h1, h2, h3⟩ := takeTm_F S x (v := (takeF (toF S) (opdO x)).1) (F' := (takeF (toF S) (opdO x)).2) rfl
      simp only [hi, h1]
      split at h
      · rename_i cs hcs
        split at h
        · rename_i hc
          simp only [hcs, if_pos hc]
          rw [← h2, re_toF] at h
          have e0 := storeTo_F S0 (opd S.tm p).er cs
          unfold SF.by1 at h
          obtain ⟨S1, k1, k2⟩ := Option.map_eq_some_iff.1 h
          rw [k1] at e0
          simp only [e0, Option.map_some]
          cases k2
          exact ⟨_, rfl, rfl, h3⟩
        · cases h
      · cases h
    · cases h
  case makeMap t r =>
    cases r with
    | none =>
      simp only [ho, compOp, opF] at h ⊢
      cases h
      exact ⟨_, rfl, rfl, rfl⟩
    | some r => simp only [ho, compOp] at h; cases h
  case insert t m k x =>
    have q := ins_F (tk := tk) (.inl ho) (by rw [ho] at h; exact h)
    unfold opStep at q
    simp only [ho] at q ⊢
    exact q
  case mapUpdate t m k x =>
    have q := ins_F (tk := tk) (o := o) (.inr ho) (by rw [ho] at h; exact h)
    unfold opStep at q
    simp only [ho] at q ⊢
    exact q
  case makeFunc f first caps =>
    cases f with
    | func f =>
      simp only [ho, compOp] at h ⊢
      split at h
      · rename_i hc
        simp only [if_pos hc]
        simp only [opF, List.map_map] at h
        have e0 : (caps.toList.map ((fun x => O.rd (toF S).f x) ∘ opdO)) = caps.toList.map (opd S.tm) := List.map_congr_left fun x _ => rd_toF S x
        rw [e0] at h
        refine by_F ?_ h
        rw [capture_F]
        simp only [Option.map_map]
        rfl
      · cases h
    | _ => simp only [ho, compOp] at h; cases h
  case call c =>
    have q := call_F ho (by rw [ho] at h; exact h)
    unfold opStep at q
    simp only [ho] at q ⊢
    exact q
  all_goals (simp only [ho, compOp] at h; cases h)
theorem put_F {S : St} {d : Option Nat} (v : V) (hd : dstOk S.tm.length d = true) : toF (S.put d v) = (toF S).put d v ∧ (S.put d v).tm.length = S.tm.length := by
  cases d with
  | none => exact ⟨rfl, rfl⟩
  | some t =>
    have ht : t < S.tm.length := of_decide_eq_true hd
    refine ⟨?_, by simp [St.put]⟩
    simp only [St.put, SF.put, toF]
    rw [upd_toF v ht]

theorem steps_F {ops : Array Oper} {tks : Nat → Bool} {N : Nat} : ∀ (l : List Nat) (S : St) (F' : SF), S.tm.length = N → stepsF Sg lim (l.map (compStep T N tks ops)) (toF S) = some F' →
    ∃ S', steps T Sg lim tks ops l S = some S' ∧ toF S' = F' ∧ S'.tm.length = N
  | [], S, F', hN, h => by cases h; exact ⟨S, rfl, rfl, hN⟩
  | i :: r, S, F', hN, h => by
    subst hN
    simp only [List.map_cons] at h
    unfold steps step
    have bad : ∀ F'', stepsF Sg lim (⟨none, none, .bad⟩ :: r.map (compStep T S.tm.length tks ops)) (toF S) = some F'' → False := fun F'' h => by
      simp only [stepsF, opF] at h; cases h
    have done : ∀ (o : Oper) {v : V} {S1 : St}, S1.tm.length = S.tm.length → dstOk S.tm.length o.dst = true → stepsF Sg lim (r.map (compStep T S.tm.length tks ops)) ((toF S1).put o.dst v) = some F' →
        ∃ S', steps T Sg lim tks ops r (S1.put o.dst v) = some S' ∧ toF S' = F' ∧ S'.tm.length = S.tm.length := by
      intro o v S1 h1 h2 h3
      obtain ⟨p1, p2⟩ := put_F (S := S1) v (by rw [h1]; exact h2)
      rw [← p1] at h3
      exact steps_F r _ F' (p2.trans h1) h3
    cases ho : ops[i]? with
    | none => simp only [compStep, ho] at h; exact (bad _ h).elim
    | some o =>
      by_cases hd : dstOk S.tm.length o.dst = true
      · have run : ∀ (h : (match opF Sg lim (compOp T (tks i) o.op) (toF S) with
            | some (v, F'') => stepsF Sg lim (r.map (compStep T S.tm.length tks ops)) (F''.put o.dst v)
            | none => none) = some F'), ∃ S', (match (opStep T Sg lim (tks i) o S).map fun (v, S') => S'.put o.dst v with
              | some S' => steps T Sg lim tks ops r S'
              | none => none) = some S' ∧ toF S' = F' ∧ S'.tm.length = S.tm.length := by
          intro h
          split at h
          · rename_i v F1 h1
            obtain ⟨S1, q1, q2, q3⟩ := opF_ok o h1
            rw [q1]
            simp only [Option.map_some]
            rw [← q2] at h
            exact done o q3 hd h
          · cases h
        cases hg : o.guard with
        | none =>
          simp only [compStep, ho, hg, if_pos hd, stepsF] at h
          simp only [wants, hg]
          exact run h
        | some jw =>
          obtain ⟨j, want⟩ := jw
          cases hb : (ops[j]?).bind (·.dst) with
          | none => simp only [compStep, ho, hg, if_pos hd, hb] at h; exact (bad _ h).elim
          | some d =>
            simp only [compStep, ho, hg, if_pos hd, hb, stepsF] at h
            simp only [wants, hg, hb]
            have e0 : (toF S).f d = S.tm.getD d vJ := rfl
            rw [e0] at h
            split at h
            · rename_i b hb'
              simp only [hb']
              by_cases hw : b = want
              · subst hw
                simp only [if_true, beq_self_eq_true] at h ⊢
                exact run h
              · have hw' : (b == want) = false := by simpa using hw
                simp only [if_neg hw] at h
                simp only [hw']
                exact done o rfl hd h
            · rename_i ws hb'
              simp only [hb']
              exact done o rfl hd h
            · cases h
      · simp only [compStep, ho, if_neg hd] at h; exact (bad _ h).elim

theorem forget_F (K : List Nat) (n : Nat) (S : St) : toF (forget K n S) = forgetF K n (toF S) ∧ (forget K n S).tm.length = S.tm.length := by
  refine ⟨?_, by simp [forget]⟩
  simp only [toF, forget, forgetF, SF.mk.injEq, and_true]
  funext i
  simp only [List.getD_eq_getElem?_getD, List.getElem?_mapIdx]
  cases hq : S.tm[i]? with
  | none => simp only [Option.map_none, Option.getD_none]; cases K.contains i <;> rfl
  | some v => simp only [Option.map_some, Option.getD_some]

theorem rounds_F {N : Nat} {f : St → Option (X × St)} {f' : SF → Option (X × SF)} {fg : St → St} {fg' : SF → SF}
    (hf : ∀ S x F', S.tm.length = N → f' (toF S) = some (x, F') → ∃ S', f S = some (x, S') ∧ toF S' = F' ∧ S'.tm.length = N) (hg : ∀ S, toF (fg S) = fg' (toF S) ∧ (fg S).tm.length = S.tm.length) :
    ∀ (k : Nat) (S : St) (x : X) (F' : SF), S.tm.length = N → roundsF f' fg' k (toF S) = some (x, F') → ∃ S', rounds f fg k S = some (x, S') ∧ toF S' = F' ∧ S'.tm.length = N
  | 0, S, x, F', _, h => by cases h
  | k + 1, S, x, F', hN, h => by
    simp only [roundsF] at h
    rw [← (hg S).1] at h
    simp only [rounds]
    split at h
    · rename_i F1 h1
      obtain ⟨S1, q1, q2, q3⟩ := hf _ _ _ ((hg S).2.trans hN) h1
      rw [q1]
      simp only
      rw [← q2] at h
      exact rounds_F hf hg k S1 x F' q3 h
    · rename_i hne
      obtain ⟨S1, q1, q2, q3⟩ := hf _ _ _ ((hg S).2.trans hN) h
      refine ⟨S1, ?_, q2, q3⟩
      rw [q1]
      split
      · rename_i S2 h2
        cases h2
        exact (hne _ h).elim
      · rfl

theorem ev_F {okDraw : Array Oper → Bool} {K : List Nat} {n N : Nat} : ∀ (c : Code) (S : St) (x : X) (F' : SF), S.tm.length = N → evF Sg K n (comp T okDraw N c) (toF S) = some (x, F') →
    ∃ S', ev T Sg okDraw K n c S = some (x, S') ∧ toF S' = F' ∧ S'.tm.length = N := by
  intro c
  induction c with
  | skip => intro S x F' hN h; cases h; exact ⟨S, rfl, rfl, hN⟩
  | label l => intro S x F' hN h; cases h; exact ⟨S, rfl, rfl, hN⟩
  | region id ops draw =>
    intro S x F' hN h
    cases draw with
    | true =>
      by_cases hd : okDraw ops = true
      · simp only [comp, if_true, if_pos hd, evF] at h
        obtain ⟨F1, h1, h2⟩ := Option.map_eq_some_iff.1 h
        cases h2
        obtain ⟨S1, q1, q2, q3⟩ := steps_F _ _ _ hN h1
        refine ⟨S1, ?_, q2, q3⟩
        simp only [ev, if_true, if_pos hd]
        have e0 : (toF S).L.length = S.L.length := rfl
        rw [e0] at q1
        rw [q1]; rfl
      · simp only [comp, if_true, if_neg hd, evF] at h; cases h
    | false =>
      simp only [comp, Bool.false_eq_true, if_false, evF] at h
      obtain ⟨F1, h1, h2⟩ := Option.map_eq_some_iff.1 h
      cases h2
      obtain ⟨S1, q1, q2, q3⟩ := steps_F _ _ _ hN h1
      refine ⟨S1, ?_, q2, q3⟩
      simp only [ev, Bool.false_eq_true, if_false]
      rw [q1]; rfl
  | seq a b iha ihb =>
    intro S x F' hN h
    simp only [comp, evF] at h
    split at h
    · rename_i F1 h1
      obtain ⟨S1, q1, q2, q3⟩ := iha _ _ _ hN h1
      rw [← q2] at h
      obtain ⟨S2, r1, r2, r3⟩ := ihb _ _ _ q3 h
      exact ⟨S2, by simp only [ev, q1]; exact r1, r2, r3⟩
    · rename_i hne
      obtain ⟨S1, q1, q2, q3⟩ := iha _ _ _ hN h
      refine ⟨S1, ?_, q2, q3⟩
      simp only [ev, q1]
      split
      · rename_i h2; cases h2; exact (hne _ h).elim
      · rfl
  | cond c a b iha ihb =>
    intro S x F' hN h
    simp only [comp, evF, re_toF] at h
    simp only [ev]
    split at h
    · rename_i hc; rw [hc]; exact iha _ _ _ hN h
    · rename_i hc; rw [hc]; exact ihb _ _ _ hN h
    · cases h
  | block id c ih =>
    intro S x F' hN h
    simp only [comp, evF] at h
    split at h
    · rename_i j F1 h1
      obtain ⟨S1, q1, q2, q3⟩ := ih _ _ _ hN h1
      simp only [ev, q1]
      split at h
      · rename_i hj
        cases h
        exact ⟨S1, by rw [if_pos hj], q2, q3⟩
      · rename_i hj
        cases h
        exact ⟨S1, by rw [if_neg hj], q2, q3⟩
    · rename_i hne
      obtain ⟨S1, q1, q2, q3⟩ := ih _ _ _ hN h
      refine ⟨S1, ?_, q2, q3⟩
      simp only [ev, q1]
      split
      · rename_i h2; cases h2; exact (hne _ _ h).elim
      · rfl
  | loop c ih =>
    intro S x F' hN h
    simp only [comp, evF] at h
    simp only [ev]
    exact rounds_F (fun S x F' hN h => ih S x F' hN h) (forget_F K S.L.length) n S x F' hN h
  | scope c ih => intro S x F' hN h; exact ih S x F' hN h
  | exit id => intro S x F' hN h; cases h; exact ⟨S, rfl, rfl, hN⟩
  | ret => intro S x F' hN h; cases h; exact ⟨S, rfl, rfl, hN⟩
  | _ => intro S x F' hN h; cases h

/-! ### Whole functions -/
/-- A function: how many temporaries, its results' places, its code. -/
structure LF where
  n : Nat
  res : List (Nat × Option (Nat × Bool))
  code : LC

def resF (F : SF) : List (Nat × Option (Nat × Bool)) → Option (List W)
  | [] => some []
  | (t, none) :: r => match toW (F.f t), resF F r with
    | some w, some ws => some (w :: ws)
    | _, _ => none
  | (t, some (size, agg)) :: r => match (ld F.st 1099511627776 (F.f t).er size agg).bind toW, resF F r with
    | some w, some ws => some (w :: ws)
    | _, _ => none

def leaveF (F : SF) (n : Nat) (ws : List W) : Option (V × List (Option Ob)) := leave F.st n ws

def argsF (args : List V) : Nat → V := fun i => args.getD i vJ

def runF (Sg : Sig) (K : List Nat) (n : Nat) (l : LF) (args : List V) (H : List (Option Ob)) : Option (V × List (Option Ob)) :=
  match evF Sg K n l.code ⟨argsF args, H, []⟩ with
  | some (.norm, F) | some (.ret, F) => (resF F l.res).bind (leaveF F H.length)
  | _ => none

def compRes (T : Tabl) : List ResultVar → Option (List (Nat × Option (Nat × Bool)))
  | [] => some []
  | .tmp t :: r => (compRes T r).map ((t, none) :: ·)
  | .cell a t :: r => match T t, compRes T r with
    | some ti, some l => some ((a, some (ti.size, ti.agg)) :: l)
    | _, _ => none

def compF (T : Tabl) (okDraw : Array Oper → Bool) (fn : Func) : Option LF :=
  match fn.body, compRes T fn.results.toList with
  | some c, some l => if resApart fn.results.toList [] then some ⟨fn.ntmps, l, comp T okDraw fn.ntmps c⟩ else none
  | _, _ => none

theorem res_F (S : St) : ∀ (rs : List ResultVar) (l : List (Nat × Option (Nat × Bool))), compRes T rs = some l → resAll T S rs = resF (toF S) l
  | [], l, h => by cases h; rfl
  | .tmp t :: r, l, h => by
    simp only [compRes] at h
    obtain ⟨l', h1, h2⟩ := Option.map_eq_some_iff.1 h
    subst h2
    simp only [resAll, resF, resOf, Option.bind_some, res_F S r l' h1]
    rfl
  | .cell a t :: r, l, h => by
    simp only [compRes] at h
    split at h
    · rename_i ti l' h1 h2
      cases h
      simp only [resAll, resF, resOf, h1, res_F S r l' h2]
      rfl
    · cases h

theorem runF_ok {okDraw : Array Oper → Bool} {K : List Nat} {n : Nat} {fn : Func} {l : LF} (hc : compF T okDraw fn = some l) {args : List V} {H : List (Option Ob)} {r : V × List (Option Ob)} (ha : args.length ≤ fn.ntmps)
    (h : runF Sg K n l args H = some r) : fnEv T Sg okDraw K n fn args H = some r := by
  unfold compF at hc
  split at hc
  · rename_i c l' hb hl
    split at hc
    · rename_i hap
      cases hc
      unfold runF at h
      simp only at h
      have e0 : toF ⟨args ++ List.replicate (fn.ntmps - args.length) vJ, H, []⟩ = ⟨argsF args, H, []⟩ := by
        simp only [toF, SF.mk.injEq, and_true]
        funext i
        simp only [argsF, List.getD_eq_getElem?_getD, List.getElem?_append]
        split
        · rfl
        · rename_i hi
          rw [List.getElem?_replicate, List.getElem?_eq_none (by omega)]
          split <;> rfl
      rw [← e0] at h
      have hN : (⟨args ++ List.replicate (fn.ntmps - args.length) vJ, H, []⟩ : St).tm.length = fn.ntmps := by simp; omega
      have fin : ∀ x F', (x = .norm ∨ x = .ret) → evF Sg K n (comp T okDraw fn.ntmps c) (toF ⟨args ++ List.replicate (fn.ntmps - args.length) vJ, H, []⟩) = some (x, F') →
          (resF F' l').bind (leaveF F' H.length) = some r → fnEv T Sg okDraw K n fn args H = some r := by
        intro x F' hx he hr
        obtain ⟨S', q1, q2, q3⟩ := ev_F c _ x F' hN he
        subst q2
        unfold fnEv
        simp only [hb, q1]
        have : (resAll T S' fn.results.toList).bind (leave S' H.length) = some r := by
          rw [res_F S' _ l' hl]
          rw [← hr]
          congr 1
        rcases hx with rfl | rfl
        · simp only [if_pos hap]; exact this
        · simp only [if_pos hap]; exact this
      split at h
      · rename_i F he; exact fin _ _ (.inl rfl) he h
      · rename_i F he; exact fin _ _ (.inr rfl) he h
      · cases h
    · cases hc
  · cases hc

end
end Go.Ev
