/- What an argument reads as, as abstract data: every block of the first world is known and stays. -/
import Derived.Test.YtdpldomjhelfkaaDoorEvTab
import Derived.OpenShut
import Derived.ChangeArms
import Derived.ChangeStays
import Derived.ReadAgain
set_option linter.unusedVariables false
set_option linter.unusedSimpArgs false
namespace Go.Ev
open Go

section
variable {P : Program} {T : Tabl} {H : Type} {enc : TypeId × Value → H} {W : World}

/-- All that lies in cells is known for good. -/
def mAll (W : World) : M := ⟨fun b => match W.heap[b]? with | some (.cells arr _ _) => some arr.size | _ => none, fun _ => false⟩

theorem mAll_im {b n : Nat} (h : (mAll W).im b = some n) : ∃ arr e fr, W.heap[b]? = some (.cells arr e fr) ∧ n ≤ arr.size := by
  simp only [mAll] at h
  split at h
  · rename_i arr e fr hq; cases h; exact ⟨arr, e, fr, hq, Nat.le_refl _⟩
  · cases h

def TyFs (R : Nat → DataW H → List D → Prop) : List (Nat × Nat) → List (DataW H) → List D → Prop
  | [], [], ds => ds = []
  | (_, ft) :: r, p :: ps, ds => ∃ a b, ds = a ++ b ∧ R ft p a ∧ TyFs R r ps b
  | _, _, _ => False

/-- The abstract data of a datum at a type. -/
def TyD (T : Tabl) : Nat → Nat → DataW H → List D → Prop
  | 0, _, _, _ => False
  | n + 1, t, d, ds => match (T t).map TI.ty with
    | some .bool => ∃ b, d = .lit (.bool b) ∧ ds = [.bool b]
    | some (.int k) => ∃ z, d = .lit (.int k z) ∧ ds = [.int k z] ∧ (Lit.int k z).wf = true
    | some .str => ∃ s, d = .lit (.string s) ∧ ds = [.str s] ∧ s.length ≤ maxLen
    | some (.sl e) => (d = .nil ∧ ds = [.nils]) ∨ ∃ es sp sz rows, d = .slice es sp ∧ ds = [.sl false sz rows] ∧ ((T e).map TI.size) = some sz ∧ rows.length = es.length ∧ rows.length ≤ maxLen ∧
        ∀ (i : Nat) x r, es[i]? = some x → rows[i]? = some r → r.length = sz ∧ TyD T n e x r
    | some (.st fs) => ∃ ps, d = .agg ps ∧ TyFs (TyD T n) fs ps ds
    | _ => False

/-- Fields one behind the other. -/
def layB (T : Tabl) : List (Nat × Nat) → Nat → Nat → Bool
  | [], o, n => o == n
  | (off, ft) :: r, o, n => match T ft with
    | some ti => off == o && layB T r (o + ti.size) n
    | none => false

/-- A list of types that holds, of each, those of its parts; no kinds but bools, whole numbers, strings, slices of things that take room, structs. -/
def closedB (T : Tabl) (S : List Nat) : Bool := S.all fun t => match T t with
  | some ti => match ti.ty with
    | .bool | .int _ | .str => ti.size == 1
    | .sl e => ti.size == 1 && S.contains e && (match T e with | some te => decide (0 < te.size) | none => false)
    | .st fs => fs.all (fun p => S.contains p.2) && layB T fs 0 ti.size
    | _ => false
  | none => false

theorem TyOk.cellsOf {t : Nat} {ti : TI} (h : TyOk P t ti) : P.cellsOf t = ti.size := by
  obtain ⟨i, z, h1, h2, _⟩ := h.info
  simp [Program.cellsOf, h1, h2]

theorem cell_block {a : Addr} {v : Value} (h : W.cell? a = some v) : ∃ arr e fr, W.heap[a.block]? = some (.cells arr e fr) ∧ a.spot = none ∧ arr[a.off]? = some v := by
  unfold World.cell? at h
  split at h
  · rename_i c e fr hq
    split at h
    · cases h
    · rename_i hs
      exact ⟨c, e, fr, hq, by simpa using hs, h⟩
  · cases h

/-- What is asked of the cells of a datum. -/
def Reps (W : World) (ds : List D) (cs : List Value) : Prop := ds.length = cs.length ∧ ∀ (i : Nat) (d : D), ds[i]? = some d → ∃ v, cs[i]? = some v ∧ DRep (mAll W) W d v

theorem Reps.one {d : D} {v : Value} (h : DRep (mAll W) W d v) : Reps W [d] [v] := ⟨rfl, fun i x hx => by
  cases i with
  | zero => simp at hx; subst hx; exact ⟨v, rfl, h⟩
  | succ i => simp at hx⟩

/-- The fields of a struct, one behind the other. -/
theorem tyd_fields {base : Nat} {sp : Nat → Bool} {held : Bool} {n : Nat} (S : List Nat) (cs : List Value)
    (ih : ∀ t cs x, S.contains t = true → DataW.trod enc P W base sp held n t cs = some x → ∃ ds, TyD T n t x.1 ds ∧ Reps W ds cs) (hC : ∀ t ti, T t = some ti → P.cellsOf t = ti.size) :
    ∀ (fs : List (Nat × Nat)) (ps : List (DataW H)) (o : Nat), fs.all (fun p => S.contains p.2) = true → layB T fs o cs.length = true → fs.length = ps.length →
      (∀ (i : Nat) (p : Nat × Nat), fs[i]? = some p → ∃ x, DataW.trod enc P W base sp held n p.2 ((cs.drop p.1).take (P.cellsOf p.2)) = some x ∧ ps[i]? = some x.1) → o ≤ cs.length →
      ∃ ds, TyFs (TyD T n) fs ps ds ∧ Reps W ds (cs.drop o)
  | [], [], o, _, hl, _, _, ho => by
    have : o = cs.length := by simpa [layB] using hl
    subst this
    exact ⟨[], rfl, by simp [Reps]⟩
  | [], _ :: _, _, _, _, hlen, _, _ => by simp at hlen
  | _ :: _, [], _, _, _, hlen, _, _ => by simp at hlen
  | (off, ft) :: r, p :: ps, o, hS, hl, hlen, hf, ho => by
    rw [List.all_cons, Bool.and_eq_true] at hS
    unfold layB at hl
    cases hti : T ft with
    | none => rw [hti] at hl; cases hl
    | some ti =>
      rw [hti] at hl
      simp only [Bool.and_eq_true, beq_iff_eq] at hl
      obtain ⟨rfl, hl⟩ := hl
      obtain ⟨x, h1, h2⟩ := hf 0 _ rfl
      simp at h2
      subst h2
      obtain ⟨a, ha1, ha2⟩ := ih _ _ _ hS.1 h1
      have hcz := hC _ _ hti
      have hle : off + ti.size ≤ cs.length := by
        have key : ∀ (fs : List (Nat × Nat)) (o n : Nat), layB T fs o n = true → o ≤ n := by
          intro fs
          induction fs with
          | nil => intro o n h; have : o = n := by simpa [layB] using h
                   omega
          | cons q fs ihf =>
            intro o n h
            obtain ⟨qo, qt⟩ := q
            unfold layB at h
            cases hq : T qt with
            | none => rw [hq] at h; cases h
            | some tq =>
              rw [hq] at h
              simp only [Bool.and_eq_true] at h
              have := ihf _ _ h.2
              omega
        exact key _ _ _ hl
      obtain ⟨b, hb1, hb2⟩ := tyd_fields S cs ih hC r ps (off + ti.size) hS.2 hl (by simpa using hlen) (fun i q hq => hf (i + 1) q hq) hle
      refine ⟨a ++ b, ⟨a, b, rfl, ha1, hb1⟩, ?_, fun i d hd => ?_⟩
      · have q1 := ha2.1
        have q2 := hb2.1
        simp only [List.length_take, List.length_drop, hcz] at q1 q2
        simp only [List.length_append, List.length_drop, q1, q2]
        omega
      · have q1 : a.length = ti.size := by have := ha2.1; simp only [List.length_take, List.length_drop, hcz] at this; omega
        rcases Nat.lt_or_ge i a.length with hi | hi
        · rw [List.getElem?_append_left hi] at hd
          obtain ⟨v, hv1, hv2⟩ := ha2.2 i d hd
          rw [List.getElem?_take, if_pos (by rw [hcz]; omega)] at hv1
          exact ⟨v, hv1, hv2⟩
        · rw [List.getElem?_append_right hi] at hd
          obtain ⟨v, hv1, hv2⟩ := hb2.2 _ d hd
          refine ⟨v, ?_, hv2⟩
          rw [List.getElem?_drop] at hv1 ⊢
          rw [← hv1]
          congr 1
          omega

theorem tyd_of_trod (hT : TabOk P T) {S : List Nat} (hS : closedB T S = true) {held : Bool} : ∀ (n : Nat) (t : TypeId) (cs : List Value) (x : DataW H × List MemPlace), S.contains t = true →
    DataW.trod enc P W 0 (fun _ => true) held n t cs = some x → ∃ ds, TyD T n t x.1 ds ∧ Reps W ds cs := by
  intro n
  induction n with
  | zero => intro t cs x _ h; simp [DataW.trod] at h
  | succ n ih =>
    intro t cs x ht h
    have hc := List.all_eq_true.1 hS t (List.contains_iff_mem.1 ht)
    cases hti : T t with
    | none => rw [hti] at hc; cases hc
    | some ti =>
      have hok := hT t ti hti
      have hu := hok.und
      rw [hti] at hc
      simp only at hc
      have hty : (T t).map TI.ty = some ti.ty := by rw [hti]; rfl
      cases hk : ti.ty with
      | bool =>
        rw [hk] at hu hty
        obtain ⟨b, rfl, rfl⟩ := DataW.trod_bool hu h
        exact ⟨[.bool b], by simp [TyD, hty], .one (.bool b)⟩
      | int k =>
        rw [hk] at hu hty
        obtain ⟨z, rfl, rfl, hw⟩ := DataW.trod_int hu h
        exact ⟨[.int k z], by simp only [TyD, hty]; exact ⟨z, rfl, rfl, hw⟩, .one (.int k z)⟩
      | str =>
        rw [hk] at hu hty
        obtain ⟨s, rfl, rfl, hl⟩ := DataW.trod_string hu h
        have hsz : s.data.toList.length ≤ maxLen := by
          have : s.data.toList.length = s.size := by simp only [Array.length_toList]; rfl
          rw [this]; exact hl
        exact ⟨[.str s.data.toList], by simp only [TyD, hty]; exact ⟨_, rfl, rfl, hsz⟩, .one (.str s.data.toList)⟩
      | sl e =>
        rw [hk] at hu hty hc
        simp only [Bool.and_eq_true, beq_iff_eq] at hc
        obtain ⟨⟨hsz1, he⟩, hpos⟩ := hc
        cases hte : T e with
        | none => rw [hte] at hpos; cases hpos
        | some te =>
          rw [hte] at hpos
          have hpos' : 0 < te.size := of_decide_eq_true hpos
          have hcz : P.cellsOf e = te.size := (hT e te hte).cellsOf
          rcases DataW.trod_slice hu h with ⟨rfl, rfl⟩ | ⟨a, len, cap, elems, rest, n', hn, rfl, rfl, hb0, hlc, hcm, hlen, hel, hsp, _⟩
          · exact ⟨[.nils], by unfold TyD; rw [hty]; exact .inl ⟨rfl, rfl⟩, .one .nils⟩
          · cases hn
            have hsp := hsp rfl
            by_cases hcap : cap = 0
            · subst hcap
              obtain rfl : len = 0 := by omega
              have : elems = [] := List.eq_nil_of_length_eq_zero hlen
              subst this
              exact ⟨[.sl false te.size []], by
                simp only [TyD, hty, hte]
                exact .inr ⟨_, _, te.size, [], rfl, rfl, rfl, rfl, Nat.zero_le _, fun i x r hx => by simp at hx⟩, .one (.sl0 _ _ a)⟩
            · -- each element reads
              have rd : ∀ i, i < len → ∃ csi xi, W.cells? 0 (a.add (i * te.size)) te.size = some csi ∧ elems[i]? = some xi ∧ DataW.trod enc P W 0 (fun _ => true) held n e csi = some xi := by
                intro i hi
                have h1 := hel i hi
                rw [hcz] at h1
                have h2 : elems[i]? = some elems[i] := List.getElem?_eq_getElem (by omega)
                rw [h2] at h1
                obtain ⟨csi, q1, q2⟩ := Option.bind_eq_some_iff.1 h1
                exact ⟨csi, _, q1, h2, q2⟩
              -- the block
              have blk : ∃ arr e' fr, W.heap[a.block]? = some (.cells arr e' fr) ∧ a.spot = none ∧ a.off < arr.size := by
                have first : ∃ csi, W.cells? 0 (a.add 0) te.size = some csi := by
                  rcases Nat.eq_zero_or_pos len with hl0 | hl0
                  · subst hl0
                    have h1 := hsp.2 0 (by omega)
                    have hr : rest.length = cap := by rw [hsp.1]; omega
                    rw [hcz, List.getElem?_eq_getElem (by omega)] at h1
                    obtain ⟨csi, q1, _⟩ := Option.bind_eq_some_iff.1 h1
                    exact ⟨csi, by simpa using q1⟩
                  · obtain ⟨csi, _, q1, _⟩ := rd 0 hl0
                    exact ⟨csi, by simpa using q1⟩
                obtain ⟨csi, q1⟩ := first
                obtain ⟨_, q2, q3⟩ := World.cells?_some q1
                have q4 := q3 0 hpos'
                rw [List.getElem?_eq_getElem (by omega)] at q4
                obtain ⟨arr, e', fr, r1, r2, r3⟩ := cell_block q4
                have ea : (a.add 0).add 0 = a := by simp [Addr.add]
                rw [ea] at r1 r2 r3
                exact ⟨arr, e', fr, r1, r2, (Array.getElem?_eq_some_iff.1 r3).1⟩
              obtain ⟨arr, e', fr, hblk, hspot, hoff⟩ := blk
              have ex : ∀ i, i < len → ∃ r xi csi, elems[i]? = some xi ∧ W.cells? 0 (a.add (i * te.size)) te.size = some csi ∧ TyD T n e xi.1 r ∧ Reps W r csi := by
                intro i hi
                obtain ⟨csi, xi, q1, q2, q3⟩ := rd i hi
                obtain ⟨r, r1, r2⟩ := ih e csi xi he q3
                exact ⟨r, xi, csi, q2, q1, r1, r2⟩
              let row : Nat → List D := fun i => if hi : i < len then Classical.choose (ex i hi) else []
              have hrow : ∀ i (hi : i < len), ∃ xi csi, elems[i]? = some xi ∧ W.cells? 0 (a.add (i * te.size)) te.size = some csi ∧ TyD T n e xi.1 (row i) ∧ Reps W (row i) csi := by
                intro i hi
                have : row i = Classical.choose (ex i hi) := by simp only [row, dif_pos hi]
                rw [this]
                exact Classical.choose_spec (ex i hi)
              have cellAt : ∀ i (hi : i < len) (j : Nat) (d : D), (row i)[j]? = some d → ∃ v, arr[a.off + i * te.size + j]? = some v ∧ DRep (mAll W) W d v := by
                intro i hi j d hd
                obtain ⟨xi, csi, q1, q2, q3, q4⟩ := hrow i hi
                obtain ⟨v, r1, r2⟩ := q4.2 j d hd
                obtain ⟨_, q5, q6⟩ := World.cells?_some q2
                have hj : j < te.size := by have := (List.getElem?_eq_some_iff.1 r1).1; omega
                have q7 := q6 j hj
                rw [r1] at q7
                obtain ⟨arr', e2, fr2, s1, s2, s3⟩ := cell_block q7
                have ea : (a.add (i * te.size)).add j = { a with off := a.off + i * te.size + j, spot := none } := by
                  unfold Addr.add
                  split <;> split <;> simp_all <;> (cases a; simp_all)
                rw [ea] at s1 s3
                simp only at s1 s3
                rw [hblk] at s1
                cases s1
                exact ⟨v, s3, r2⟩
              have rowLen : ∀ i (hi : i < len), (row i).length = te.size := by
                intro i hi
                obtain ⟨xi, csi, q1, q2, q3, q4⟩ := hrow i hi
                rw [q4.1]
                exact (World.cells?_some q2).2.1
              have hlim : a.off + len * te.size ≤ arr.size := by
                rcases Nat.eq_zero_or_pos len with hl0 | hl0
                · subst hl0; simp; omega
                · have hi : len - 1 < len := by omega
                  have h2 : te.size - 1 < (row (len - 1)).length := by rw [rowLen _ hi]; omega
                  obtain ⟨v, q1, _⟩ := cellAt _ hi _ _ (List.getElem?_eq_getElem h2)
                  have := (Array.getElem?_eq_some_iff.1 q1).1
                  have e1 : len * te.size = (len - 1) * te.size + te.size := by rw [← Nat.succ_mul]; congr 1; omega
                  omega
              refine ⟨[.sl false te.size ((List.range len).map row)], ?_, .one ?_⟩
              · simp only [TyD, hty, hte]
                refine .inr ⟨_, _, te.size, _, rfl, rfl, rfl, by simp [hlen], by simp; omega, fun i y r hy hr => ?_⟩
                have hi : i < len := by have := (List.getElem?_eq_some_iff.1 hr).1; simpa using this
                simp only [List.getElem?_map, List.getElem?_range hi, Option.map_some, Option.some.injEq] at hr
                subst hr
                obtain ⟨xi, csi, q1, q2, q3, q4⟩ := hrow i hi
                simp only [List.getElem?_map, q1, Option.map_some, Option.some.injEq] at hy
                subst hy
                exact ⟨rowLen i hi, q3⟩
              · have hL : ((List.range len).map row).length = len := by simp
                have hlies : Lies (mAll W) W te.size ((List.range len).map row) a.off arr := by
                  constructor
                  · intro i r hr
                    have hi : i < len := by have := (List.getElem?_eq_some_iff.1 hr).1; simpa using this
                    simp only [List.getElem?_map, List.getElem?_range hi, Option.map_some, Option.some.injEq] at hr
                    subst hr
                    exact rowLen i hi
                  · intro i j r c hr hcj
                    have hi : i < len := by have := (List.getElem?_eq_some_iff.1 hr).1; simpa using this
                    simp only [List.getElem?_map, List.getElem?_range hi, Option.map_some, Option.some.injEq] at hr
                    subst hr
                    exact cellAt i hi j c hcj
                have := DRep.ofLies (full := false) (cap := cap) hlies (b := a.block) (lim := arr.size) (fr := fr) (e := e') (by simp [mAll, hblk]) (by rw [hL]; exact hlim) hblk (by rw [hL]; exact hlc) (by simp)
                rw [hL] at this
                have ea : (⟨a.block, a.off, none⟩ : Addr) = a := by cases a; simp_all
                rw [ea] at this
                exact this
      | st fs =>
        rw [hk] at hu hty hc
        simp only [Bool.and_eq_true] at hc
        obtain ⟨hall, hlay⟩ := hc
        obtain ⟨fields, hu1, hu2, _⟩ := hu
        obtain ⟨xs, n', hn, rfl, hcl, hxl, hf⟩ := DataW.trod_struct hu1 h
        cases hn
        have hcz := hok.cellsOf
        rw [hcz] at hcl
        have := tyd_fields (T := T) S cs ih (fun t ti hti => (hT t ti hti).cellsOf) fs (xs.map (·.1)) 0 hall (by rw [hcl]; exact hlay) (by rw [← hu2]; simp [hxl]) (fun i p hp => by
          rw [← hu2, List.getElem?_map] at hp
          obtain ⟨f, hf1, rfl⟩ := Option.map_eq_some_iff.1 hp
          have hi : i < xs.length := by
            have := (List.getElem?_eq_some_iff.1 hf1).1
            rw [hxl]; simpa using this
          have h2 := hf i f (by simpa using hf1)
          rw [List.getElem?_eq_getElem hi] at h2
          exact ⟨_, h2, by simp [hi]⟩) (Nat.zero_le _)
        obtain ⟨ds, q1, q2⟩ := this
        exact ⟨ds, by simp only [TyD, hty]; exact ⟨_, rfl, q1⟩, by simpa using q2⟩
      | ptr => rw [hk] at hc; cases hc
      | fn => rw [hk] at hc; cases hc
      | arr n e => rw [hk] at hc; cases hc
      | mp k e => rw [hk] at hc; cases hc

end
end Go.Ev
