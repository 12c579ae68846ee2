/- Walking the second evaluator: what is asked behind, rule by rule. -/
import Derived.Test.YtdpldomjhelfkaaDoorEvFS
set_option linter.unusedVariables false
set_option linter.unusedSimpArgs false
namespace Go.Ev
open Go

def stepsP (Sg : Sig) (lim : Nat) (ops : List L2) (F : SF) (Q : SF → Prop) : Prop := ∃ F', stepsF Sg lim ops F = some F' ∧ Q F'
def evP (Sg : Sig) (K : List Nat) (n : Nat) (c : LC) (F : SF) (Q : X → SF → Prop) : Prop := ∃ x F', evF Sg K n c F = some (x, F') ∧ Q x F'
def valP {α : Type} (o : Option α) (k : α → Prop) : Prop := ∃ v, o = some v ∧ k v
def condP (Sg : Sig) (K : List Nat) (n : Nat) (v : V) (a b : LC) (F : SF) (Q : X → SF → Prop) : Prop := v = vB true ∧ evP Sg K n a F Q ∨ v = vB false ∧ evP Sg K n b F Q
def guardP (Sg : Sig) (lim : Nat) (v : V) (want : Bool) (d : Option Nat) (op : L1) (r : List L2) (F : SF) (Q : SF → Prop) : Prop :=
  v = vB want ∧ stepsP Sg lim (⟨d, none, op⟩ :: r) F Q ∨ v = vB (!want) ∧ stepsP Sg lim r (F.put d (.t [])) Q ∨ (∃ ws, v = .t ws) ∧ stepsP Sg lim r (F.put d (.t [])) Q
def regK (Q : X → SF → Prop) (F : SF) : Prop := Q .norm F
def putK (Sg : Sig) (lim : Nat) (d : Option Nat) (r : List L2) (F : SF) (Q : SF → Prop) (v : V) : Prop := stepsP Sg lim r (F.put d v) Q
def putK2 (Sg : Sig) (lim : Nat) (d : Option Nat) (r : List L2) (Q : SF → Prop) (v : V × SF) : Prop := stepsP Sg lim r (v.2.put d v.1) Q
def boxK (Sg : Sig) (lim : Nat) (d : Option Nat) (r : List L2) (F : SF) (Q : SF → Prop) (ds : List D) : Prop := stepsP Sg lim r (SF.put ⟨F.f, F.H, F.L ++ [some (.cells (ds.map C.d))]⟩ d (vC (.loc F.L.length 0))) Q
def takeExK (Sg : Sig) (lim : Nat) (d : Option Nat) (r : List L2) (t i : Nat) (F : SF) (Q : SF → Prop) (ws : List W) : Prop :=
  valP (ws[i]?) fun w => stepsP Sg lim r (SF.put ⟨upd F.f t (.t (ws.set i w.er)), F.H, F.L⟩ d (.w w)) Q
def tupV : V → Option (List W)
  | .t ws => some ws
  | _ => none
def seqK (Sg : Sig) (K : List Nat) (n : Nat) (b : LC) (Q : X → SF → Prop) : X → SF → Prop
  | .norm, F => evP Sg K n b F Q
  | x, F => Q x F
def blkK (id : Nat) (Q : X → SF → Prop) : X → SF → Prop
  | .ex j, F => if j = id then Q .norm F else Q (.ex j) F
  | x, F => Q x F
def cutK (R : SF → Prop) (Q : X → SF → Prop) : X → SF → Prop
  | .norm, F => R F
  | x, F => Q x F
def fgtf (K : List Nat) (n : Nat) (f : Nat → V) : Nat → V := fun i => if K.contains i then dropLoc n (f i) else vJ
def loopJ (K : List Nat) (n : Nat) (J : Nat → (Nat → V) → List (Option Ob) → List (Option Ob) → Prop) (k : Nat) (Q : X → SF → Prop) : X → SF → Prop
  | .norm, F => ∃ j, j < k ∧ J j (fgtf K n F.f) F.H (F.L.take n)
  | x, F => Q x F
def loopK (I : Nat → SF → Prop) (k : Nat) (Q : X → SF → Prop) : X → SF → Prop
  | .norm, F => ∃ j, j < k ∧ I j F
  | x, F => Q x F

section
variable {Sg : Sig} {K : List Nat} {n lim : Nat} {F : SF} {f : Nat → V} {H L : List (Option Ob)} {Q : X → SF → Prop} {q : SF → Prop} {d : Option Nat} {r : List L2}

/-! ### Only the state is looked at -/
theorem stepsP_congr {ops : List L2} {F F' : SF} (h : F = F') : stepsP Sg lim ops F q = stepsP Sg lim ops F' q := by rw [h]
theorem evP_congr {c : LC} {F F' : SF} (h : F = F') : evP Sg K n c F Q = evP Sg K n c F' Q := by rw [h]
theorem valP_congr {α : Type} {o o' : Option α} {k : α → Prop} (h : o = o') : valP o k = valP o' k := by rw [h]
theorem condP_congr {v v' : V} {a b : LC} {F F' : SF} (h : v = v') (h' : F = F') : condP Sg K n v a b F Q = condP Sg K n v' a b F' Q := by rw [h, h']
theorem guardP_congr {v v' : V} {w : Bool} {op : L1} {F F' : SF} (h : v = v') (h' : F = F') : guardP Sg lim v w d op r F q = guardP Sg lim v' w d op r F' q := by rw [h, h']
theorem boxK_congr {F F' : SF} {v v' : List D} (h : F = F') (h' : v = v') : boxK Sg lim d r F q v = boxK Sg lim d r F' q v' := by rw [h, h']
theorem takeExK_congr {t i : Nat} {F F' : SF} {v v' : List W} (h : F = F') (h' : v = v') : takeExK Sg lim d r t i F q v = takeExK Sg lim d r t i F' q v' := by rw [h, h']
theorem regK_congr {F F' : SF} (h : F = F') : regK Q F = regK Q F' := by rw [h]
theorem putK_congr {F F' : SF} {v v' : V} (h : F = F') (h' : v = v') : putK Sg lim d r F q v = putK Sg lim d r F' q v' := by rw [h, h']
theorem putK2_congr {v v' : V × SF} (h' : v = v') : putK2 Sg lim d r q v = putK2 Sg lim d r q v' := by rw [h']
theorem seqK_congr {b : LC} {x x' : X} {F F' : SF} (h' : x = x') (h : F = F') : seqK Sg K n b Q x F = seqK Sg K n b Q x' F' := by rw [h, h']
theorem blkK_congr {id : Nat} {x x' : X} {F F' : SF} (h' : x = x') (h : F = F') : blkK id Q x F = blkK id Q x' F' := by rw [h, h']
theorem cutK_congr {R : SF → Prop} {x x' : X} {F F' : SF} (h' : x = x') (h : F = F') : cutK R Q x F = cutK R Q x' F' := by rw [h, h']
theorem loopK_congr {I : Nat → SF → Prop} {k : Nat} {x x' : X} {F F' : SF} (h' : x = x') (h : F = F') : loopK I k Q x F = loopK I k Q x' F' := by rw [h, h']

theorem loopJ_congr {m k : Nat} {J : Nat → (Nat → V) → List (Option Ob) → List (Option Ob) → Prop} {x x' : X} {F F' : SF} (h' : x = x') (h : F = F') : loopJ K m J k Q x F = loopJ K m J k Q x' F' := by rw [h, h']
attribute [congr] loopJ_congr boxK_congr takeExK_congr stepsP_congr evP_congr valP_congr condP_congr guardP_congr regK_congr putK_congr putK2_congr seqK_congr blkK_congr cutK_congr loopK_congr

/-! ### Values -/
theorem valP_some {α : Type} (v : α) (k : α → Prop) : valP (some v) k = k v := by
  simp [valP]
theorem valP_map {α β : Type} (o : Option α) (g : α → β) (k : β → Prop) : valP (o.map g) k = valP o (fun v => k (g v)) := by
  cases o <;> simp [valP]
theorem condP_true {a b : LC} : condP Sg K n (vB true) a b F Q = evP Sg K n a F Q := by simp [condP]
theorem condP_false {a b : LC} : condP Sg K n (vB false) a b F Q = evP Sg K n b F Q := by simp [condP]
theorem condP_of {v : Bool} {a b : LC} (h1 : v = true → evP Sg K n a F Q) (h2 : v = false → evP Sg K n b F Q) : condP Sg K n (vB v) a b F Q := by
  cases v
  · exact .inr ⟨rfl, h2 rfl⟩
  · exact .inl ⟨rfl, h1 rfl⟩
theorem guardP_tt {op : L1} : guardP Sg lim (vB true) true d op r F q = stepsP Sg lim (⟨d, none, op⟩ :: r) F q := by simp [guardP]
theorem guardP_tf {op : L1} : guardP Sg lim (vB true) false d op r F q = stepsP Sg lim r (F.put d (.t [])) q := by simp [guardP]
theorem guardP_ft {op : L1} : guardP Sg lim (vB false) true d op r F q = stepsP Sg lim r (F.put d (.t [])) q := by simp [guardP]
theorem guardP_ff {op : L1} : guardP Sg lim (vB false) false d op r F q = stepsP Sg lim (⟨d, none, op⟩ :: r) F q := by simp [guardP]
theorem guardP_t {ws : List W} {w : Bool} {op : L1} : guardP Sg lim (.t ws) w d op r F q = stepsP Sg lim r (F.put d (.t [])) q := by simp [guardP]
theorem guardP_of {b w : Bool} {op : L1} (h1 : b = w → stepsP Sg lim (⟨d, none, op⟩ :: r) F q) (h2 : b = !w → stepsP Sg lim r (F.put d (.t [])) q) : guardP Sg lim (vB b) w d op r F q := by
  cases b <;> cases w
  · exact .inl ⟨rfl, h1 rfl⟩
  · exact .inr (.inl ⟨rfl, h2 rfl⟩)
  · exact .inr (.inl ⟨rfl, h2 rfl⟩)
  · exact .inl ⟨rfl, h1 rfl⟩

theorem guardT {b : Bool} {op : L1} (h1 : b = true → stepsP Sg lim (⟨d, none, op⟩ :: r) F q) (h2 : b = false → stepsP Sg lim r (F.put d (.t [])) q) : guardP Sg lim (vB b) true d op r F q := guardP_of h1 h2
theorem guardF {b : Bool} {op : L1} (h1 : b = false → stepsP Sg lim (⟨d, none, op⟩ :: r) F q) (h2 : b = true → stepsP Sg lim r (F.put d (.t [])) q) : guardP Sg lim (vB b) false d op r F q := guardP_of h1 h2

/-! ### Reading and writing temporaries -/
theorem put_some (i : Nat) (v : V) : SF.put ⟨f, H, L⟩ (some i) v = ⟨upd f i v, H, L⟩ := rfl
theorem put_none (v : V) : SF.put ⟨f, H, L⟩ none v = ⟨f, H, L⟩ := rfl
theorem upd_same (i : Nat) (v : V) : upd f i v i = v := by simp [upd]
theorem upd_ne (i j : Nat) (v : V) (h : (j == i) = false) : upd f i v j = f j := by
  have : ¬ j = i := by simpa using h
  simp [upd, this]
theorem re_t (i : Nat) : O.re f (.t i) = (f i).er := rfl
theorem re_k (v : V) : O.re f (.k v) = v.er := rfl
theorem rd_t (i : Nat) : O.rd f (.t i) = f i := rfl
theorem rd_k (v : V) : O.rd f (.k v) = v := rfl
theorem er_D (x : D) : V.er (vD x) = vD x := rfl
theorem er_A (x : List D) : V.er (vA x) = vA x := rfl
theorem er_own (sz : Nat) (x : List (List D)) : V.er (vC (.own sz x)) = vD (.sl false sz x) := rfl
theorem er_ptr (i o : Nat) : V.er (vC (.ptr i o)) = vC (.ptr i o) := rfl
theorem er_loc (i o : Nat) : V.er (vC (.loc i o)) = vC (.loc i o) := rfl
theorem er_ml (i : Nat) : V.er (vC (.ml i)) = vC (.ml i) := rfl
theorem er_J : V.er vJ = vJ := rfl
theorem er_t (ws : List W) : V.er (.t ws) = .t (ws.map W.er) := rfl
theorem er_er (v : V) : v.er.er = v.er := by
  cases v with
  | w w => cases w with
    | c c => cases c <;> rfl
    | a x => rfl
  | t ws =>
    show V.t _ = V.t _
    rw [List.map_map]
    congr 1
    apply List.map_congr_left
    intro w _
    cases w with
    | c c => cases c <;> rfl
    | a x => rfl
theorem wer_D (x : D) : W.er (.c (.d x)) = .c (.d x) := rfl
theorem wer_A (x : List D) : W.er (.a x) = .a x := rfl
theorem wer_own (sz : Nat) (x : List (List D)) : W.er (.c (.own sz x)) = .c (.d (.sl false sz x)) := rfl
theorem wer_ptr (i o : Nat) : W.er (.c (.ptr i o)) = .c (.ptr i o) := rfl
theorem takeF_k (v : V) : takeF F (.k v) = (v, F) := rfl
theorem takeF_D {i : Nat} {x : D} (h : f i = vD x) : takeF ⟨f, H, L⟩ (.t i) = (vD x, ⟨f, H, L⟩) := by simp [takeF, h]
/-- What is taken from a slot. -/
def takeV (F : SF) (i : Nat) : V → V × SF
  | vC (.own sz rows) => (vC (.own sz rows), ⟨upd F.f i (vD (.sl false sz rows)), F.H, F.L⟩)
  | .t ws => (.t ws, ⟨upd F.f i (.t (ws.map W.er)), F.H, F.L⟩)
  | v => (v, F)
theorem takeF_t (i : Nat) : takeF F (.t i) = takeV F i (F.f i) := rfl
theorem takeV_D (i : Nat) (x : D) : takeV F i (vD x) = (vD x, F) := rfl
theorem takeV_A (i : Nat) (x : List D) : takeV F i (vA x) = (vA x, F) := rfl
theorem takeV_ptr (i a b : Nat) : takeV F i (vC (.ptr a b)) = (vC (.ptr a b), F) := rfl
theorem takeV_loc (i a b : Nat) : takeV F i (vC (.loc a b)) = (vC (.loc a b), F) := rfl
theorem takeV_ml (i a : Nat) : takeV F i (vC (.ml a)) = (vC (.ml a), F) := rfl
theorem takeV_J (i : Nat) : takeV F i vJ = (vJ, F) := rfl
theorem takeV_own (i sz : Nat) (rows : List (List D)) : takeV F i (vC (.own sz rows)) = (vC (.own sz rows), ⟨upd F.f i (vD (.sl false sz rows)), F.H, F.L⟩) := rfl
theorem takeV_tup (i : Nat) (ws : List W) : takeV F i (.t ws) = (.t ws, ⟨upd F.f i (.t (ws.map W.er)), F.H, F.L⟩) := rfl

/-! ### Code -/
theorem ev_skip : evP Sg K n .skip F Q = Q .norm F := propext ⟨fun ⟨_, _, h, hq⟩ => by cases h; exact hq, fun h => ⟨_, _, rfl, h⟩⟩
theorem ev_ret : evP Sg K n .ret F Q = Q .ret F := propext ⟨fun ⟨_, _, h, hq⟩ => by cases h; exact hq, fun h => ⟨_, _, rfl, h⟩⟩
theorem ev_exit (id : Nat) : evP Sg K n (.exit id) F Q = Q (.ex id) F := propext ⟨fun ⟨_, _, h, hq⟩ => by cases h; exact hq, fun h => ⟨_, _, rfl, h⟩⟩
theorem ev_reg (ops : List L2) : evP Sg K n (.reg false ops) F Q = stepsP Sg 1099511627776 ops F (regK Q) := by
  apply propext
  constructor
  · rintro ⟨x, F', h, hq⟩
    simp only [evF] at h
    obtain ⟨F1, h1, h2⟩ := Option.map_eq_some_iff.1 h
    cases h2
    exact ⟨_, h1, hq⟩
  · rintro ⟨F1, h1, hq⟩
    exact ⟨.norm, F1, by simp only [evF, Bool.false_eq_true, if_false]; rw [h1]; rfl, hq⟩
theorem ev_regD (ops : List L2) : evP Sg K n (.reg true ops) F Q = stepsP Sg F.L.length ops F (regK Q) := by
  apply propext
  constructor
  · rintro ⟨x, F', h, hq⟩
    simp only [evF] at h
    obtain ⟨F1, h1, h2⟩ := Option.map_eq_some_iff.1 h
    cases h2
    exact ⟨_, h1, hq⟩
  · rintro ⟨F1, h1, hq⟩
    exact ⟨.norm, F1, by simp only [evF, if_true]; rw [h1]; rfl, hq⟩
theorem ev_seq (a b : LC) : evP Sg K n (.seq a b) F Q = evP Sg K n a F (seqK Sg K n b Q) := by
  apply propext
  constructor
  · rintro ⟨x, F', h, hq⟩
    simp only [evF] at h
    split at h
    · rename_i F1 h1
      exact ⟨_, _, h1, x, F', h, hq⟩
    · rename_i hne
      refine ⟨x, F', h, ?_⟩
      cases x with
      | norm => exact (hne _ h).elim
      | _ => exact hq
  · rintro ⟨x, F', h, hq⟩
    cases x with
    | norm =>
      obtain ⟨y, F2, h2, hq2⟩ := hq
      exact ⟨y, F2, by simp only [evF, h]; exact h2, hq2⟩
    | ex j => exact ⟨_, F', by simp only [evF, h], hq⟩
    | ret => exact ⟨_, F', by simp only [evF, h], hq⟩
theorem ev_cond (c : O) (a b : LC) : evP Sg K n (.cond c a b) F Q = condP Sg K n (c.re F.f) a b F Q := by
  apply propext
  constructor
  · rintro ⟨x, F', h, hq⟩
    simp only [evF] at h
    split at h
    · rename_i hc; exact .inl ⟨hc, x, F', h, hq⟩
    · rename_i hc; exact .inr ⟨hc, x, F', h, hq⟩
    · cases h
  · rintro (⟨hc, x, F', h, hq⟩ | ⟨hc, x, F', h, hq⟩)
    · exact ⟨x, F', by simp only [evF, hc]; exact h, hq⟩
    · exact ⟨x, F', by simp only [evF, hc]; exact h, hq⟩
theorem ev_block (id : Nat) (c : LC) : evP Sg K n (.block id c) F Q = evP Sg K n c F (blkK id Q) := by
  apply propext
  constructor
  · rintro ⟨x, F', h, hq⟩
    simp only [evF] at h
    split at h
    · rename_i j F1 h1
      refine ⟨_, _, h1, ?_⟩
      unfold blkK
      split at h <;> (cases h; simp_all)
    · rename_i hne
      refine ⟨x, F', h, ?_⟩
      cases x with
      | ex j => exact (hne _ _ h).elim
      | _ => exact hq
  · rintro ⟨x, F', h, hq⟩
    cases x with
    | norm => exact ⟨_, F', by simp only [evF, h], hq⟩
    | ret => exact ⟨_, F', by simp only [evF, h], hq⟩
    | ex j =>
      have hq : if j = id then Q .norm F' else Q (.ex j) F' := hq
      by_cases hj : j = id
      · rw [if_pos hj] at hq
        exact ⟨.norm, F', by simp only [evF, h, if_pos hj], hq⟩
      · rw [if_neg hj] at hq
        exact ⟨.ex j, F', by simp only [evF, h, if_neg hj], hq⟩
theorem seqK_norm (b : LC) : seqK Sg K n b Q .norm F = evP Sg K n b F Q := rfl
theorem seqK_ret (b : LC) : seqK Sg K n b Q .ret F = Q .ret F := rfl
theorem seqK_ex (b : LC) (i : Nat) : seqK Sg K n b Q (.ex i) F = Q (.ex i) F := rfl
theorem blkK_norm (i : Nat) : blkK i Q .norm F = Q .norm F := rfl
theorem blkK_ret (i : Nat) : blkK i Q .ret F = Q .ret F := rfl
theorem blkK_same (i : Nat) : blkK i Q (.ex i) F = Q .norm F := by simp [blkK]
theorem blkK_ne (i j : Nat) (h : (j == i) = false) : blkK i Q (.ex j) F = Q (.ex j) F := by
  have : ¬ j = i := by simpa using h
  simp [blkK, this]
theorem cutK_norm (R : SF → Prop) : cutK R Q .norm F = R F := rfl
theorem cutK_ret (R : SF → Prop) : cutK R Q .ret F = Q .ret F := rfl
theorem cutK_ex (R : SF → Prop) (i : Nat) : cutK R Q (.ex i) F = Q (.ex i) F := rfl
theorem loopK_norm (I : Nat → SF → Prop) (k : Nat) : loopK I k Q .norm F = ∃ j, j < k ∧ I j F := rfl
theorem loopK_ret (I : Nat → SF → Prop) (k : Nat) : loopK I k Q .ret F = Q .ret F := rfl
theorem loopK_ex (I : Nat → SF → Prop) (k i : Nat) : loopK I k Q (.ex i) F = Q (.ex i) F := rfl
theorem regK_eq : regK Q F = Q .norm F := rfl
theorem putK_eq (v : V) : putK Sg lim d r F q v = stepsP Sg lim r (F.put d v) q := rfl
theorem putK2_eq (v : V) (F : SF) : putK2 Sg lim d r q (v, F) = stepsP Sg lim r (F.put d v) q := rfl

theorem evP_mono {c : LC} {Q' : X → SF → Prop} (h : evP Sg K n c F Q) (hq : ∀ x F', Q x F' → Q' x F') : evP Sg K n c F Q' := let ⟨x, F', h1, h2⟩ := h; ⟨x, F', h1, hq x F' h2⟩
theorem evP_cut {a b : LC} (R : SF → Prop) (h1 : evP Sg K n a F (cutK R Q)) (h2 : ∀ F', R F' → evP Sg K n b F' Q) : evP Sg K n (.seq a b) F Q := by
  rw [ev_seq]
  refine evP_mono h1 fun x F' h => ?_
  cases x with
  | norm => exact h2 F' h
  | _ => exact h

theorem evP_rounds {c : LC} {fg : SF → SF} (I : Nat → SF → Prop) (hs : ∀ k F', I k F' → evP Sg K n c (fg F') (loopK I k Q)) : ∀ (g k : Nat) (F : SF), k < g → I k F → ∃ x F', roundsF (evF Sg K n c) fg g F = some (x, F') ∧ Q x F'
  | 0, k, F, hk, _ => absurd hk (Nat.not_lt_zero _)
  | g + 1, k, F, hk, hi => by
    obtain ⟨x, F1, h1, h2⟩ := hs k F hi
    simp only [roundsF, h1]
    cases x with
    | norm =>
      obtain ⟨j, hj, hi'⟩ := h2
      exact evP_rounds I hs g j F1 (by omega) hi'
    | ex i => exact ⟨_, F1, rfl, h2⟩
    | ret => exact ⟨_, F1, rfl, h2⟩

/-- A loop: `I k`: at most `k` rounds more go on. -/
theorem evP_loop {c : LC} (I : Nat → SF → Prop) (m : Nat) (hm : m < n) (h0 : I m F) (hs : ∀ k F', I k F' → evP Sg K n c (forgetF K F.L.length F') (loopK I k Q)) : evP Sg K n (.loop c) F Q := by
  obtain ⟨x, F', h1, h2⟩ := evP_rounds I hs n m F hm h0
  exact ⟨x, F', h1, h2⟩

/-- A loop, its relation said of what a round may know: `J k`: at most `k` rounds more go on. -/
theorem evP_loopJ {c : LC} (J : Nat → (Nat → V) → List (Option Ob) → List (Option Ob) → Prop) (m : Nat) (hm : m < n) (h0 : J m (fgtf K L.length f) H (L.take L.length))
    (hs : ∀ k f' H' L', J k f' H' L' → evP Sg K n c ⟨f', H', L'⟩ (loopJ K L.length J k Q)) : evP Sg K n (.loop c) ⟨f, H, L⟩ Q := by
  refine evP_loop (fun k F => J k (fgtf K L.length F.f) F.H (F.L.take L.length)) m hm h0 fun k F' hi => ?_
  refine evP_mono (hs k _ _ _ hi) fun x F'' h => ?_
  cases x with
  | norm => exact h
  | _ => exact h
theorem loopJ_norm (m : Nat) (J : Nat → (Nat → V) → List (Option Ob) → List (Option Ob) → Prop) (k : Nat) : loopJ K m J k Q .norm ⟨f, H, L⟩ = ∃ j, j < k ∧ J j (fgtf K m f) H (L.take m) := rfl
theorem loopJ_ret (m : Nat) (J : Nat → (Nat → V) → List (Option Ob) → List (Option Ob) → Prop) (k : Nat) : loopJ K m J k Q .ret F = Q .ret F := rfl
theorem loopJ_ex (m : Nat) (J : Nat → (Nat → V) → List (Option Ob) → List (Option Ob) → Prop) (k i : Nat) : loopJ K m J k Q (.ex i) F = Q (.ex i) F := rfl

theorem fgtf_of {i m : Nat} {v : V} (h : f i = v) (hK : K.contains i = true) (hd : dropLoc m v = v) : fgtf K m f i = v := by
  unfold fgtf
  rw [if_pos hK, h, hd]

/-! ### Operations -/
theorem st_nil : stepsP Sg lim [] F q = q F := by simp [stepsP, stepsF]
theorem st_guard (t : Nat) (w : Bool) (op : L1) : stepsP Sg lim (⟨d, some (t, w), op⟩ :: r) F q = guardP Sg lim (F.f t) w d op r F q := by
  apply propext
  constructor
  · rintro ⟨F', h, hq⟩
    simp only [stepsF] at h
    split at h
    · rename_i b hb
      split at h
      · rename_i hw
        subst hw
        exact .inl ⟨hb, F', by simp only [stepsF]; exact h, hq⟩
      · rename_i hw
        refine .inr (.inl ⟨?_, F', h, hq⟩)
        rw [hb]; cases b <;> cases w <;> simp_all
    · rename_i ws hb
      exact .inr (.inr ⟨⟨ws, hb⟩, F', h, hq⟩)
    · cases h
  · rintro (⟨hb, F', h, hq⟩ | ⟨hb, F', h, hq⟩ | ⟨⟨ws, hb⟩, F', h, hq⟩)
    · exact ⟨F', by simp only [stepsF, hb, if_true] at h ⊢; exact h, hq⟩
    · refine ⟨F', ?_, hq⟩
      simp only [stepsF, hb]
      rw [if_neg (by cases w <;> simp)]
      exact h
    · exact ⟨F', by simp only [stepsF, hb]; exact h, hq⟩
theorem st_op (op : L1) : stepsP Sg lim (⟨d, none, op⟩ :: r) F q = valP (opF Sg lim op F) (putK2 Sg lim d r q) := by
  apply propext
  constructor
  · rintro ⟨F', h, hq⟩
    simp only [stepsF] at h
    split at h
    · rename_i v F1 h1
      exact ⟨(v, F1), h1, F', h, hq⟩
    · cases h
  · rintro ⟨⟨v, F1⟩, h1, F', h, hq⟩
    exact ⟨F', by simp only [stepsF, h1]; exact h, hq⟩
theorem st_still {op : L1} (o : Option V) (h : opF Sg lim op F = o.map (·, F)) : stepsP Sg lim (⟨d, none, op⟩ :: r) F q = valP o (putK Sg lim d r F q) := by
  rw [st_op, h, valP_map]; rfl
theorem st_mov (x : O) : stepsP Sg lim (⟨d, none, .mov x⟩ :: r) F q = putK Sg lim d r F q (x.re F.f) := by rw [st_op]; simp only [opF, valP_some]; rfl
theorem st_take (x : O) : stepsP Sg lim (⟨d, none, .take x⟩ :: r) F q = putK2 Sg lim d r q (takeF F x) := by rw [st_op]; simp only [opF, valP_some]
theorem st_ext (x : O) (i : Nat) : stepsP Sg lim (⟨d, none, .ext x i⟩ :: r) F q = valP (extF i (x.re F.f)) (putK Sg lim d r F q) := st_still _ rfl
theorem st_pick (c a b : O) : stepsP Sg lim (⟨d, none, .pick c a b⟩ :: r) F q = valP (pickF (c.re F.f) (a.re F.f) (b.re F.f)) (putK Sg lim d r F q) := st_still _ rfl
theorem st_nilc (x : O) : stepsP Sg lim (⟨d, none, .nilc x⟩ :: r) F q = valP (nilcF (x.re F.f)) (putK Sg lim d r F q) := st_still _ rfl
theorem st_bin (op : BinOp) (ti : Option TI) (x y : O) : stepsP Sg lim (⟨d, none, .bin op ti x y⟩ :: r) F q = valP (binV (fun _ => ti) op 0 (x.re F.f) (y.re F.f)) (putK Sg lim d r F q) := st_still _ rfl
theorem st_not (x : O) : stepsP Sg lim (⟨d, none, .not x⟩ :: r) F q = valP (notF (x.re F.f)) (putK Sg lim d r F q) := st_still _ rfl
theorem st_conv (k : IntKind) (x : O) : stepsP Sg lim (⟨d, none, .conv k x⟩ :: r) F q = valP (convF k (x.re F.f)) (putK Sg lim d r F q) := st_still _ rfl
theorem st_convB (x : O) : stepsP Sg lim (⟨d, none, .convB x⟩ :: r) F q = valP (convBF (x.re F.f)) (putK Sg lim d r F q) := st_still _ rfl
theorem st_faddr (off : Nat) (x : O) : stepsP Sg lim (⟨d, none, .faddr off x⟩ :: r) F q = valP (faddrF off (x.re F.f)) (putK Sg lim d r F q) := st_still _ rfl
theorem st_fld (off size : Nat) (agg : Bool) (x : O) : stepsP Sg lim (⟨d, none, .fld off size agg x⟩ :: r) F q = valP (fldF off size agg (x.re F.f)) (putK Sg lim d r F q) := st_still _ rfl
theorem st_idxS (x i : O) : stepsP Sg lim (⟨d, none, .idxS x i⟩ :: r) F q = valP (idxSF (x.re F.f) (i.re F.f)) (putK Sg lim d r F q) := st_still _ rfl
theorem st_idxA (m size : Nat) (agg : Bool) (x i : O) : stepsP Sg lim (⟨d, none, .idxA m size agg x i⟩ :: r) F q = valP (idxAF m size agg (x.re F.f) (i.re F.f)) (putK Sg lim d r F q) := st_still _ rfl
theorem st_iaS (size : Nat) (x i : O) : stepsP Sg lim (⟨d, none, .iaS size x i⟩ :: r) F q = valP (iaSF size (x.re F.f) (i.re F.f)) (putK Sg lim d r F q) := st_still _ rfl
theorem st_iaA (m size : Nat) (x i : O) : stepsP Sg lim (⟨d, none, .iaA m size x i⟩ :: r) F q = valP (iaAF m size (x.re F.f) (i.re F.f)) (putK Sg lim d r F q) := st_still _ rfl
theorem st_slS (x : O) (lo hi : Option O) : stepsP Sg lim (⟨d, none, .slS x lo hi⟩ :: r) F q = valP (slSF (x.re F.f) (lo.map (·.re F.f)) (hi.map (·.re F.f))) (putK Sg lim d r F q) := st_still _ rfl
theorem st_slL (size : Nat) (x : O) (lo hi mx : Option O) : stepsP Sg lim (⟨d, none, .slL size x lo hi mx⟩ :: r) F q = valP (slLF size (x.re F.f) (lo.map (·.re F.f)) (hi.map (·.re F.f)) (mx.map (·.re F.f))) (putK Sg lim d r F q) := st_still _ rfl
theorem st_load (size : Nat) (agg : Bool) (p : O) : stepsP Sg lim (⟨d, none, .load size agg p⟩ :: r) F q = valP (ld F.st lim (p.re F.f) size agg) (putK Sg lim d r F q) := st_still _ rfl
theorem st_lenS (x : O) : stepsP Sg lim (⟨d, none, .lenS x⟩ :: r) F q = valP (lenSF (x.re F.f)) (putK Sg lim d r F q) := st_still _ rfl
theorem st_lenL (x : O) : stepsP Sg lim (⟨d, none, .lenL x⟩ :: r) F q = valP (lenLF (x.re F.f)) (putK Sg lim d r F q) := st_still _ rfl
def bldP (f : Nat → V) : List (Nat × Nat × O) → List (Nat × Nat × Option (List D))
  | [] => []
  | (a, b, o) :: r => (a, b, (o.re f).dcells) :: bldP f r
theorem bldP_eq (f : Nat → V) : ∀ ps : List (Nat × Nat × O), (ps.map fun p => (p.1, p.2.1, (p.2.2.re f).dcells)) = bldP f ps
  | [] => rfl
  | (a, b, o) :: r => by simp only [List.map_cons, bldP, bldP_eq f r]
def bslP (f : Nat → V) : List (Nat × O) → List (Nat × Option (List D))
  | [] => []
  | (a, o) :: r => (a, (o.re f).dcells) :: bslP f r
theorem bslP_eq (f : Nat → V) : ∀ ps : List (Nat × O), (ps.map fun p => (p.1, (p.2.re f).dcells)) = bslP f ps
  | [] => rfl
  | (a, o) :: r => by simp only [List.map_cons, bslP, bslP_eq f r]
theorem st_build (z : List D) (ps : List (Nat × Nat × O)) : stepsP Sg lim (⟨d, none, .build z ps⟩ :: r) F q = valP ((buildF z (bldP F.f ps)).map vA) (putK Sg lim d r F q) :=
  st_still _ (by simp only [opF, bldP_eq, Option.map_map]; rfl)
theorem st_bslice (size : Nat) (z : List D) (m : Nat) (ps : List (Nat × O)) : stepsP Sg lim (⟨d, none, .bslice size z m ps⟩ :: r) F q = valP (bsliceF size z m (bslP F.f ps)) (putK Sg lim d r F q) :=
  st_still _ (by simp only [opF, bslP_eq])
theorem st_takeEx (t i : Nat) : stepsP Sg lim (⟨d, none, .takeEx t i⟩ :: r) F q = valP (tupV (F.f t)) (takeExK Sg lim d r t i F q) := by
  rw [st_op]
  simp only [opF]
  cases F.f t with
  | w w => simp [valP, tupV]
  | t ws =>
    simp only [tupV, valP_some, takeExK]
    cases hw : ws[i]? with
    | none => simp [valP]
    | some w => simp only [valP_some, putK2]
theorem takeExK_eq (t i : Nat) (ws : List W) : takeExK Sg lim d r t i F q ws = valP (ws[i]?) (fun w => stepsP Sg lim r (SF.put ⟨upd F.f t (.t (ws.set i w.er)), F.H, F.L⟩ d (.w w)) q) := rfl
theorem boxK_eq (ds : List D) : boxK Sg lim d r F q ds = stepsP Sg lim r (SF.put ⟨F.f, F.H, F.L ++ [some (.cells (ds.map C.d))]⟩ d (vC (.loc F.L.length 0))) q := rfl
theorem st_look (agg : Bool) (z : List D) (m k : O) (ok : Bool) : stepsP Sg lim (⟨d, none, .look agg z m k ok⟩ :: r) F q = valP ((mapOf F.st lim (m.re F.f)).bind fun es => lookF agg z es (k.re F.f) ok) (putK Sg lim d r F q) := by
  refine st_still _ ?_
  simp only [opF]
  cases mapOf F.st lim (m.re F.f) <;> rfl
/-- A call of a function. -/
def callO (Sg : Sig) (F : SF) (f : Nat) (args : List V) : Option (V × SF) :=
  match Sg f with
  | some (.eff g) => F.by (effCall F.st g args)
  | some (.pure g) => if args.all dataV then (g args).map (·, F) else none
  | none => none
theorem st_callF (f : Nat) (args : List O) : stepsP Sg lim (⟨d, none, .callF f args⟩ :: r) F q = valP (callO Sg F f (orl F.f args)) (putK2 Sg lim d r q) := st_op _
def callVO (Sg : Sig) (v : V) (args : List V) : Option V :=
  match v with
  | vD (.fn f caps) => pureCall Sg f (args ++ caps.map vD)
  | _ => none
theorem st_callV (x : O) (args : List O) : stepsP Sg lim (⟨d, none, .callV x args⟩ :: r) F q = valP (callVO Sg (x.re F.f) (orl F.f args)) (putK Sg lim d r F q) := by
  refine st_still _ ?_
  simp only [opF]
  generalize x.re F.f = u
  unfold callVO
  rcases u with (c | cs) | ws
  · cases c with
    | d d => cases d <;> rfl
    | _ => rfl
  · rfl
  · rfl
theorem st_app (size : Nat) (s x : O) : stepsP Sg lim (⟨d, none, .app size s x⟩ :: r) F q = valP ((rowsOf (x.re F.f) size).bind fun ys => (appendV size (takeF F s).1 ys).map fun v => (v, (takeF F s).2)) (putK2 Sg lim d r q) := by
  rw [st_op]
  simp only [opF]
  cases rowsOf (x.re F.f) size <;> rfl
theorem st_alloc (z : List D) : stepsP Sg lim (⟨d, none, .alloc z⟩ :: r) F q = stepsP Sg lim r (SF.put ⟨F.f, F.H, F.L ++ [some (.cells (z.map C.d))]⟩ d (vC (.loc F.L.length 0))) q := by
  rw [st_op]; simp only [opF, valP_some]; rfl
theorem st_box (x : O) : stepsP Sg lim (⟨d, none, .box x⟩ :: r) F q = valP ((x.re F.f).dcells) (boxK Sg lim d r F q) := by
  rw [st_op]
  simp only [opF]
  cases (x.re F.f).dcells <;> simp [valP, putK2, boxK]
def storeO (size : Nat) (p : V) (vf : V × SF) : Option (V × SF) :=
  match vf.1.cells with
  | some cs => if cs.length = size ∧ cs.all C.plain = true then vf.2.by1 (storeTo vf.2.st p cs) else none
  | none => none
theorem st_store (size : Nat) (p x : O) : stepsP Sg lim (⟨d, none, .store size p x⟩ :: r) F q = valP (storeO size (p.re F.f) (takeF F x)) (putK2 Sg lim d r q) := by
  rw [st_op]; rfl
theorem st_takeLd (p : O) : stepsP Sg lim (⟨d, none, .takeLd p⟩ :: r) F q = valP (F.by (takeLd F.st lim (p.re F.f))) (putK2 Sg lim d r q) := st_op _
theorem st_mkmap : stepsP Sg lim (⟨d, none, .mkmap⟩ :: r) F q = stepsP Sg lim r (SF.put ⟨F.f, F.H, F.L ++ [some (.map [])]⟩ d (vC (.ml F.L.length))) q := by
  rw [st_op]; simp only [opF, valP_some]; rfl
theorem st_ins (size : Nat) (m k x : O) : stepsP Sg lim (⟨d, none, .ins size m k x⟩ :: r) F q = valP (opF Sg lim (.ins size m k x) F) (putK2 Sg lim d r q) := st_op _
theorem st_mkfn (g : Nat) (caps : List O) : stepsP Sg lim (⟨d, none, .mkfn g caps⟩ :: r) F q = valP (opF Sg lim (.mkfn g caps) F) (putK2 Sg lim d r q) := st_op _

/-- How a function is walked. -/
theorem runF_of {l : LF} {args : List V} {rv : V × List (Option Ob)} (h : evP Sg K n l.code ⟨argsF args, H, []⟩ (fun x F => (x = .norm ∨ x = .ret) ∧ (resF F l.res).bind (leaveF F H.length) = some rv)) : runF Sg K n l args H = some rv := by
  obtain ⟨x, F', h1, h2, h3⟩ := h
  unfold runF
  rw [h1]
  rcases h2 with rfl | rfl <;> exact h3

end

/-! ### What operations give at values of known shape -/
def tI : Option TI := some ⟨(.int .i64), 1, [.int .i64 0], false⟩
def tS : Option TI := some ⟨.str, 1, [.str []], false⟩
def tB : Option TI := some ⟨(.int .u8), 1, [.int .u8 0], false⟩
section
variable {ti : Option TI} {k : IntKind} {x y : Int} {S : St} {lim : Nat}
theorem v_eql_str (a b : List UInt8) : binV (fun _ => ti) .eql 0 (vS a) (vS b) = some (vB (a == b)) := rfl
theorem v_neq_str (a b : List UInt8) : binV (fun _ => ti) .neq 0 (vS a) (vS b) = some (vB (!(a == b))) := rfl
theorem v_eql : binV (fun _ => ti) .eql 0 (vI k x) (vI k y) = some (vB (x == y)) := by simp [binV, intBin]
theorem v_neq : binV (fun _ => ti) .neq 0 (vI k x) (vI k y) = some (vB (x != y)) := by simp [binV, intBin]
theorem v_lss : binV (fun _ => ti) .lss 0 (vI k x) (vI k y) = some (vB (decide (x < y))) := by simp [binV, intBin]
theorem v_leq : binV (fun _ => ti) .leq 0 (vI k x) (vI k y) = some (vB (decide (x ≤ y))) := by simp [binV, intBin]
theorem v_gtr : binV (fun _ => ti) .gtr 0 (vI k x) (vI k y) = some (vB (decide (x > y))) := by simp [binV, intBin]
theorem v_geq : binV (fun _ => ti) .geq 0 (vI k x) (vI k y) = some (vB (decide (x ≥ y))) := by simp [binV, intBin]
theorem v_add : binV (fun _ => ti) .add 0 (vI k x) (vI k y) = some (vI k (k.wrap (x + y))) := by simp [binV, intBin]
theorem v_sub : binV (fun _ => ti) .sub 0 (vI k x) (vI k y) = some (vI k (k.wrap (x - y))) := by simp [binV, intBin]
theorem v_pick_t (a b : V) : pickF (vB true) a b = some a := rfl
theorem v_pick_f (a b : V) : pickF (vB false) a b = some b := rfl
theorem v_not (b : Bool) : notF (vB b) = some (vB (!b)) := rfl
theorem v_conv (k' : IntKind) : convF k' (vI k x) = some (vI k' (k'.wrap x)) := rfl
theorem v_lenS (s : List UInt8) : lenSF (vS s) = some (vI .i64 (s.length : Int)) := rfl
theorem v_lenL_nil : lenLF (vD .nils) = some (vI .i64 0) := rfl
theorem v_lenL (b : Bool) (sz : Nat) (rows : List (List D)) : lenLF (vD (.sl b sz rows)) = some (vI .i64 (rows.length : Int)) := rfl
theorem v_iaS (b : Bool) (sz : Nat) (rows : List (List D)) (j : Nat) : iaSF sz (vD (.sl b sz rows)) (vI k (j : Int)) = (rows[j]?).map fun r => vD (.imm r) := by simp [iaSF]
theorem v_idxS (s : List UInt8) (j : Nat) : idxSF (vS s) (vI k (j : Int)) = (s[j]?).map fun b => vI .u8 b.toNat := by simp [idxSF]
theorem v_idxS0 (s : List UInt8) : idxSF (vS s) (vI k 0) = (s[0]?).map fun b => vI .u8 b.toNat := rfl
theorem v_ldImm (c : D) (cs : List D) (m : Nat) : ld S lim (vD (.imm (c :: cs))) m false = some (vD c) := rfl
theorem v_ldImmA (cs : List D) : ld S lim (vD (.imm cs)) cs.length true = some (vA cs) := by simp [ld]
theorem v_nilcPtr (i o : Nat) : nilcF (vC (.ptr i o)) = some (vC (.ptr i o)) := rfl
theorem v_nilcLoc (i o : Nat) : nilcF (vC (.loc i o)) = some (vC (.loc i o)) := rfl
theorem v_nilcImm (cs : List D) : nilcF (vD (.imm cs)) = some (vD (.imm cs)) := rfl
theorem v_faPtr (off i o : Nat) : faddrF off (vC (.ptr i o)) = some (vC (.ptr i (o + off))) := rfl
theorem v_faLoc (off i o : Nat) : faddrF off (vC (.loc i o)) = some (vC (.loc i (o + off))) := rfl
theorem wrap_nat {n : Nat} (h : n < 9223372036854775808) : IntKind.i64.wrap (n : Int) = n := by
  simp [IntKind.wrap, IntKind.bits]
  omega
theorem wrap_succ {n : Nat} (h : n < 9223372036854775807) : IntKind.i64.wrap ((n : Int) + 1) = ((n + 1 : Nat) : Int) := by
  have : (n : Int) + 1 = ((n + 1 : Nat) : Int) := by omega
  rw [this]
  exact wrap_nat (by omega)
theorem orl_nil (f : Nat → V) : orl f [] = [] := rfl
theorem orl_cons (f : Nat → V) (o : O) (r : List O) : orl f (o :: r) = o.re f :: orl f r := rfl
/-- A call of a function without effect, its contract at hand. -/
theorem call_pure {Sg : Sig} {F : SF} {f : Nat} {g : List V → Option V} {args : List V} {v : V} (hf : Sg f = some (.pure g)) (ha : args.all dataV = true) (hg : g args = some v) : callO Sg F f args = some (v, F) := by
  unfold callO
  simp only [hf, ha, if_true, hg, Option.map_some]
theorem fgt_rd {K : List Nat} {m i : Nat} {F : SF} (h : K.contains i = true) : (forgetF K m F).f i = dropLoc m (F.f i) := by
  simp only [forgetF]
  rw [if_pos h]
theorem dl_D (m : Nat) (x : D) : dropLoc m (vD x) = vD x := rfl
theorem dl_A (m : Nat) (x : List D) : dropLoc m (vA x) = vA x := rfl
theorem dl_own (m sz : Nat) (x : List (List D)) : dropLoc m (vC (.own sz x)) = vC (.own sz x) := rfl
theorem dl_ptr (m i o : Nat) : dropLoc m (vC (.ptr i o)) = vC (.ptr i o) := rfl
theorem dl_J (m : Nat) : dropLoc m vJ = vJ := rfl
end
end Go.Ev
