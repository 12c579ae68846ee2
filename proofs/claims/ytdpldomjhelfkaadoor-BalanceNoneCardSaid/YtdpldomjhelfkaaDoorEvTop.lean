/- nest.topmost: a range over a function of the seat's own, walked: the topmost name that is one, ahead of the topmost one that stops. -/
import Derived.RangeFuncBox
import Derived.RangeFuncLeaves
import Derived.RangeFuncNested
import Derived.RangeFuncBound
import Derived.RangeFuncCalls
import Derived.Shelf.Abstract
import Derived.WalkKit
import Derived.OwnWalkIn
import Derived.TacticsInMore
import Derived.LoopNIn
import Derived.LoopIn
import Derived.Test.YtdpldomjhelfkaaDoorProg
import Derived.Test.YtdpldomjhelfkaaDoorChecked
set_option linter.unusedVariables false
set_option linter.unusedSimpArgs false
namespace Go.Proofs.Top
open Go.RowKit Go.Shelf Go.Proofs

attribute [local go_sem] Oper.semAt_some

theorem cell_of_box_l {W : World} {B : Nat} {v : Value} {t : TypeId} (h : W.heap[B]? = some (.cells #[v] t (0, 0))) : W.cell? ⟨B, 0, none⟩ = some v ∧ W.frozen? ⟨B, 0, none⟩ = false := by
  constructor <;> simp [World.cell?, World.frozen?, h]
theorem cell_new_l (W : World) (v : Value) (t : TypeId) : (W.alloc (.cells #[v] t)).cell? ⟨W.heap.size, 0, none⟩ = some v ∧ (W.alloc (.cells #[v] t)).frozen? ⟨W.heap.size, 0, none⟩ = false :=
  cell_of_box_l (World.alloc_heap_new W _)
theorem cell_alloc_l {W : World} {a : Addr} {v : Value} (o : Obj) (h : W.cell? a = some v) : (W.alloc o).cell? a = some v := cell_kept h (World.grownBy_alloc W o none) (fun r e => by cases e)
theorem frozen_alloc_l {W : World} {a : Addr} {v : Value} (o : Obj) (h : W.cell? a = some v) (hf : W.frozen? a = false) : (W.alloc o).frozen? a = false := (frozen_kept h (World.grownBy_alloc W o none) (fun r e => by cases e)).trans hf

abbrev encs (g : Nat → ByteArray) (x : Nat) : Array Value := #[.int .i64 (x : Int), .string (g x)]
/-- What has come when k rounds are over. -/
def upto (len k : Nat) : List Nat := (List.range k).map fun j => len - 1 - j
theorem upto_succ (len k : Nat) : upto len (k + 1) = upto len k ++ [len - 1 - k] := by simp [upto, List.range_succ]
theorem upto_length (len k : Nat) : (upto len k).length = k := by simp [upto]

set_option maxRecDepth 100000 in
set_option maxHeartbeats 2000000 in
/-- The closure that 'down' hands back: from the top, with the places. -/
theorem down1_in (F : Fence) (n : Nat) (h8 : F.fn 86) (hro : F.round = none) (hn : 1 ≤ n) (l Bs n₀ b off len cap : Nat) (g : Nat → ByteArray) (hlen : len < 1099511627776) (hb : b < n₀) (J Jx : List Nat → World → Prop)
    (hY : ∀ (pre : List Nat) (x : Nat) W, J pre W → pre.length < len → YieldAt F (n - 1) Tryd.prog l #[.int .i64 (x : Int), .string (g x)] W fun e W' =>
      (e = .returned (.bool true) ∧ J (pre ++ [x]) W' ∧ Below n₀ W W') ∨ (e = .returned (.bool false) ∧ Jx (pre ++ [x]) W'))
    (hBn : Bs < n₀)
    (W : World) (hBs : W.cell? ⟨Bs, 0, none⟩ = some (.slice (some ⟨b, off, none⟩) len cap)) (hc : ∀ j, j < len → W.cell? ⟨b, off + j, none⟩ = some (.string (g j))) (h0 : J [] W) :
    CallsIn F n Tryd.prog 86 #[.func (.yield l) #[] #[], .pointer (some ⟨Bs, 0, none⟩)] W fun e W' => (∃ v, e = .returned v) ∧
      ((∃ ys, ys = upto len len ∧ J ys W') ∨ (∃ pre, (∃ k, k ≤ len ∧ pre = upto len k) ∧ Jx pre W')) := by
  refine callsIn_of_wp Tryd.func86 rfl h8 ?_ hro
  simp only [Tryd.ntmps86, List.size_toArray, List.length_cons, List.length_nil, Nat.reduceAdd, Nat.reduceSub, Array.replicate_succ, Array.replicate_zero, List.push_toArray, List.append_toArray, List.nil_append, List.cons_append]
  have hl0 : (0 : Int) ≤ len := by omega
  have hl1 : (len : Int) < 1099511627776 := by omega
  gi_wp2
  gi_loopw [3] (fun i wr => ∃ k : Nat, k ≤ len ∧ i = .int .i64 ((len : Int) - 1 - k) ∧ J (upto len k) wr ∧ Below n₀ W wr)
    (fun i _ => (intOf i + 1).toNat)
  case atStart => exact ⟨0, Nat.zero_le _, by simp, h0, Below.refl _ _⟩
  case round =>
    obtain ⟨k, hk, rfl, hJs, hnx⟩ := hrel
    have hcB : wr.cell? ⟨Bs, 0, none⟩ = some (.slice (some ⟨b, off, none⟩) len cap) := (hnx.cell (p := ⟨Bs, 0, none⟩) hBn).trans hBs
    have hcx : k < len → wr.cell? ⟨b, off + (len - 1 - k), none⟩ = some (.string (g (len - 1 - k))) := fun h => (hnx.cell (p := ⟨b, off + (len - 1 - k), none⟩) hb).trans (hc _ (by omega))
    by_cases hlt : k < len
    · obtain ⟨i, hi⟩ : ∃ i : Nat, i = len - 1 - k := ⟨_, rfl⟩
      have hi2 : (len : Int) - 1 - k = (i : Int) := by omega
      rw [hi2]
      have hcx' := hcx hlt
      rw [← hi] at hcx'
      have hJs' := upto_succ len k
      rw [← hi] at hJs'
      obtain ⟨fn, tmps, assign, body, hy, hR⟩ := hY _ i wr hJs (by rw [upto_length]; exact hlt)
      have hil : (i : Int) < 1099511627776 := by omega
      have hil2 : i < len := by omega
      have hk1 : (len : Int) - 1 - (k + 1 : Nat) = (i : Int) - 1 := by omega
      clear hi2 hi hcx
      gi_wp2
      refine hR.mono ?_
      rintro e W3 (⟨rfl, hJ3, hk3⟩ | ⟨rfl, hJx3⟩)
      · gi_wp2
        go_roundw
        case rel => exact ⟨k + 1, by omega, by rw [hk1], by rw [hJs']; exact hJ3, hnx.trans hk3⟩
        case measure => simp [intOf]
      · gi_wp2
        refine bodyPost_ret (results_none rfl _ _ _) rfl ?_
        exact ⟨⟨_, rfl⟩, .inr ⟨_, ⟨k + 1, by omega, hJs'.symm⟩, hJx3⟩⟩
    · obtain rfl : k = len := by omega
      have hi2 : (k : Int) - 1 - k = -1 := by omega
      rw [hi2]
      gi_wp2
      go_end0
      exact ⟨⟨_, rfl⟩, .inl ⟨_, rfl, hJs⟩⟩

set_option maxRecDepth 100000 in
set_option maxHeartbeats 1000000 in
/-- .. at the nil slice: no round. -/
theorem down1_nil_in (F : Fence) (n : Nat) (h8 : F.fn 86) (hro : F.round = none) (l Bs : Nat) (J : List Nat → World → Prop) (a0 : Option Addr) (W : World) (hBs : W.cell? ⟨Bs, 0, none⟩ = some (.slice a0 0 0)) (h0 : J [] W) :
    CallsIn F n Tryd.prog 86 #[.func (.yield l) #[] #[], .pointer (some ⟨Bs, 0, none⟩)] W fun e W' => (∃ v, e = .returned v) ∧ J [] W' := by
  refine callsIn_of_wp Tryd.func86 rfl h8 ?_ hro
  simp only [Tryd.ntmps86, List.size_toArray, List.length_cons, List.length_nil, Nat.reduceAdd, Nat.reduceSub, Array.replicate_succ, Array.replicate_zero, List.push_toArray, List.append_toArray, List.nil_append, List.cons_append]
  gi_wp2
  gi_loopw [3] (fun i wr => i = .int .i64 (-1) ∧ J [] wr) (fun _ _ => 0)
  case atStart => exact ⟨rfl, h0⟩
  case round =>
    obtain ⟨rfl, hJs⟩ := hrel
    gi_wp2
    go_end0
    exact ⟨⟨_, rfl⟩, hJs⟩

/-- The slice value holds the strings g 0, .., in a block below n₀; or it is nil and there are none. -/
def Strs (n₀ : Nat) (W : World) (sv : Value) (g : Nat → ByteArray) (len : Nat) : Prop :=
  ((∃ a, sv = .slice a 0 0) ∧ len = 0) ∨ ∃ b off cap, sv = .slice (some ⟨b, off, none⟩) len cap ∧ b < n₀ ∧ ∀ j, j < len → W.cell? ⟨b, off + j, none⟩ = some (.string (g j))
theorem Strs.below {n₀ : Nat} {A B : World} (h : Below n₀ A B) {sv : Value} {g : Nat → ByteArray} {len : Nat} : Strs n₀ A sv g len → Strs n₀ B sv g len
  | .inl e => .inl e
  | .inr ⟨b, off, cap, e, hb, hc⟩ => .inr ⟨b, off, cap, e, hb, fun j hj => (h.cell (p := ⟨b, off + j, none⟩) hb).trans (hc j hj)⟩
theorem Strs.mono {n₀ n₁ : Nat} {A : World} (h : n₀ ≤ n₁) {sv : Value} {g : Nat → ByteArray} {len : Nat} : Strs n₀ A sv g len → Strs n₁ A sv g len
  | .inl e => .inl e
  | .inr ⟨b, off, cap, e, hb, hc⟩ => .inr ⟨b, off, cap, e, by omega, hc⟩

/-- The iterator's contract. -/
theorem down_stops (F : Fence) (n : Nat) (h8 : F.fn 86) (hro : F.round = none) (hn : 1 ≤ n) (Bs n₀ : Nat) (sv : Value) (g : Nat → ByteArray) (len : Nat) (hlen : len < 1099511627776) (w : World) (hn₀ : n₀ ≤ w.heap.size) (hBn : Bs < n₀)
    (hBs : w.cell? ⟨Bs, 0, none⟩ = some sv) (hL : Strs n₀ w sv g len) :
    SeqStopsK F n Tryd.prog 86 #[.pointer (some ⟨Bs, 0, none⟩)] (encs g) (Below n₀) (fun xs => xs = upto len len) (fun pre => ∃ k, k ≤ len ∧ pre = upto len k) len w := by
  intro l J Jx W hW hJ hJx hY h0
  have hW' := hW.mono hn₀
  have hBs' : W.cell? ⟨Bs, 0, none⟩ = some sv := (hW'.cell (p := ⟨Bs, 0, none⟩) hBn).trans hBs
  rcases hL.below hW' with ⟨⟨a0, rfl⟩, rfl⟩ | ⟨b, off, cap, rfl, hb, hc⟩
  · refine (down1_nil_in F n h8 hro l Bs J a0 W hBs' h0).mono ?_
    rintro e W' ⟨he, hj⟩
    exact ⟨he, .inl ⟨_, rfl, hj⟩⟩
  · exact down1_in F n h8 hro hn l Bs n₀ b off len cap g hlen hb J Jx hY hBn W hBs' hc h0

/-- What comes of it. -/
def topF (p1 p2 : Nat → Bool) : List Nat → Int
  | [] => -1
  | x :: r => if p2 x then -1 else if p1 x then (x : Int) else topF p1 p2 r
theorem topF_none (p1 p2 : Nat → Bool) : ∀ (l : List Nat), (∀ x ∈ l, p1 x = false ∧ p2 x = false) → topF p1 p2 l = -1
  | [], _ => rfl
  | x :: r, h => by
    obtain ⟨h1, h2⟩ := h x (List.mem_cons_self ..)
    simp only [topF, h1, h2, Bool.false_eq_true, if_false]
    exact topF_none p1 p2 r fun y hy => h y (List.mem_cons_of_mem _ hy)
theorem topF_at (p1 p2 : Nat → Bool) (x : Nat) (post : List Nat) (hx : p1 x = true ∨ p2 x = true) : ∀ (l : List Nat), (∀ x ∈ l, p1 x = false ∧ p2 x = false) →
    topF p1 p2 (l ++ x :: post) = if p2 x then -1 else (x : Int)
  | [], _ => by
    cases h2 : p2 x with
    | true => simp [topF, h2]
    | false =>
      have h1 : p1 x = true := by simpa [h2] using hx
      simp [topF, h1, h2]
  | y :: r, h => by
    obtain ⟨h1, h2⟩ := h y (List.mem_cons_self ..)
    simp only [List.cons_append, topF, h1, h2, Bool.false_eq_true, if_false]
    exact topF_at p1 p2 x post hx r fun y hy => h y (List.mem_cons_of_mem _ hy)

set_option maxRecDepth 100000 in
set_option maxHeartbeats 2000000 in
theorem down_any (w : World) (sa : Option Addr) (sn sc : Nat) : Calls Tryd.prog 73 #[.slice sa sn sc] w fun e w' => e = .returned (.func (.func 86) #[] #[.pointer (some ⟨w.heap.size, 0, none⟩)]) ∧ w' = w.alloc (.cells #[.slice sa sn sc] 30) := by
  go_enter Tryd.func73, Tryd.ntmps73
  go_wp2
  go_ret
  exact ⟨rfl, rfl⟩

set_option maxRecDepth 100000 in
set_option maxHeartbeats 4000000 in
theorem topmost_any (sa : Option Addr) (sn sc : Nat) (g : Nat → ByteArray) (len : Nat) (hlen : len < 1099511627776) (f1 f2 : Nat) (lb1 lb2 : Array Value) (p1 p2 : Nat → Bool) (w : World) (hL : Strs w.heap.size w (.slice sa sn sc) g len)
    (e1 : ∀ args w, (callFunc f1 args).run Tryd.prog w = .ok (.enter f1 args) w) (e2 : ∀ args w, (callFunc f2 args).run Tryd.prog w = .ok (.enter f2 args) w)
    (h1 : 0 < len → ∀ j W, Below w.heap.size w W → Calls Tryd.prog f1 (#[.string (g j)] ++ lb1) W fun e W' => e = .returned (.bool (p1 j)) ∧ Below W.heap.size W W')
    (h2 : 0 < len → ∀ j W, Below w.heap.size w W → Calls Tryd.prog f2 (#[.string (g j)] ++ lb2) W fun e W' => e = .returned (.bool (p2 j)) ∧ Below W.heap.size W W') :
    Calls Tryd.prog 56 #[.slice sa sn sc, .func (.func f1) #[] lb1, .func (.func f2) #[] lb2] w fun e w' => e = .returned (.int .i64 (topF p1 p2 (upto len len))) ∧ Below w.heap.size w w' := by
  refine (callsIn_wide (n := 9)).1 ?_
  refine callsIn_of_wp_marks Tryd.func56 rfl trivial ?_ rfl
  simp only [Tryd.ntmps56, List.size_toArray, List.length_cons, List.length_nil, Nat.reduceAdd, Nat.reduceSub, Array.replicate_succ, Array.replicate_zero, List.push_toArray, List.append_toArray, List.nil_append, List.cons_append]
  gi_wp2_with (refine ⟨trivial, ?_⟩; gi_at_call 73; refine (callsIn_wide.2 (down_any _ _ _ _)).mono ?_; rintro e w' ⟨rfl, rfl⟩)
  have c0 := cell_new_l w (.func (.func f1) #[] lb1) 59
  have c1 := cell_new_l (w.alloc (.cells #[.func (.func f1) #[] lb1] 59)) (.func (.func f2) #[] lb2) 59
  have c2 := cell_new_l ((w.alloc (.cells #[.func (.func f1) #[] lb1] 59)).alloc (.cells #[.func (.func f2) #[] lb2] 59)) (.int .i64 0) 3
  have c3 := cell_new_l (((w.alloc (.cells #[.func (.func f1) #[] lb1] 59)).alloc (.cells #[.func (.func f2) #[] lb2] 59)).alloc (.cells #[.int .i64 0] 3)) (.slice sa sn sc) 30
  simp only [World.size_alloc] at c1 c2 c3
  have hB0 : Below w.heap.size w ((((w.alloc (.cells #[.func (.func f1) #[] lb1] 59)).alloc (.cells #[.func (.func f2) #[] lb2] 59)).alloc (.cells #[.int .i64 0] 3)).alloc (.cells #[.slice sa sn sc] 30)) :=
    ((((Below.refl _ w).alloc (Nat.le_refl _) _).alloc (by simp) _).alloc (by simp; omega) _).alloc (by simp; omega) _
  have hLB := (hL.below hB0)
  obtain ⟨M, hM⟩ : ∃ M, M = upto len len := ⟨_, rfl⟩
  refine wpIn_rangeFunc_ownF rfl (by omega) (gf := 86) (lb := #[.pointer (some ⟨w.heap.size + 1 + 1 + 1, 0, none⟩)]) rfl trivial (enters_of Tryd.func86 (by kernel_rfl) rfl)
    (down_stops Fence.wide 8 trivial rfl (by omega) (w.heap.size + 1 + 1 + 1) (w.heap.size + 1 + 1 + 1 + 1) (.slice sa sn sc) g len hlen _ (by simp) (by omega) c3.1 (hLB.mono (by omega))) belowK_t (belowK_b (by simp)) (Below.refl _ _) (fun _ => rfl)
    (fun pre W => (((∀ y ∈ pre, p1 y = false ∧ p2 y = false) ∧ True) ∧ W.cell? ⟨w.heap.size, 0, none⟩ = some (.func (.func f1) #[] lb1) ∧ W.cell? ⟨w.heap.size + 1, 0, none⟩ = some (.func (.func f2) #[] lb2) ∧ W.cell? ⟨w.heap.size + 1 + 1, 0, none⟩ = some (.int .i64 0) ∧ W.frozen? ⟨w.heap.size + 1 + 1, 0, none⟩ = false ∧ W.cell? ⟨w.heap.size + 1 + 1 + 1, 0, none⟩ = some (.slice sa sn sc)) ∧ Below w.heap.size w W)
    (fun c pre W => (c = .ret ∧ (∃ pre' x, pre = pre' ++ [x] ∧ (∀ y ∈ pre', p1 y = false ∧ p2 y = false) ∧ (p1 x = true ∨ p2 x = true) ∧ W.cell? ⟨w.heap.size + 1 + 1, 0, none⟩ = some (.int .i64 (if p2 x then -1 else (x : Int))))) ∧ Below w.heap.size w W)
    (OwnFrom.and (Own.from (fun s A B row hs hg hr => ⟨hs.1, cell_kept hs.2.1 hg hr, cell_kept hs.2.2.1 hg hr, cell_kept hs.2.2.2.1 hg hr, (frozen_kept hs.2.2.2.1 hg hr).trans hs.2.2.2.2.1, cell_kept hs.2.2.2.2.2 hg hr⟩) _) (ownFrom_below (Nat.le_refl _) (by simp; omega)))
    (fun c => OwnFrom.and (Own.from (fun s A B row hs hg hr => ⟨hs.1, by obtain ⟨pre', x, q1, q2, q3, q4⟩ := hs.2; exact ⟨pre', x, q1, q2, q3, cell_kept q4 hg hr⟩⟩) _) (ownFrom_below (Nat.le_refl _) (by simp; omega)))
    ⟨⟨⟨by simp, trivial⟩, cell_alloc_l _ (cell_alloc_l _ (cell_alloc_l _ c0.1)), cell_alloc_l _ (cell_alloc_l _ c1.1), cell_alloc_l _ c2.1, frozen_alloc_l _ c2.1 c2.2, c3.1⟩, hB0⟩
    (fun x => { tmps := #[.slice sa sn sc, .func (.func f1) #[] lb1, .func (.func f2) #[] lb2, undef, .pointer (some ⟨w.heap.size, 0, none⟩), .pointer (some ⟨w.heap.size + 1, 0, none⟩), .pointer (some ⟨w.heap.size + 1 + 1, 0, none⟩), .int .i64 (x : Int), .string (g x), .slice sa sn sc, .func (.func 86) #[] #[.pointer (some ⟨w.heap.size + 1 + 1 + 1, 0, none⟩)], .int .i64 (x : Int), .string (g x), undef, undef, undef, undef, undef, undef, undef], defers := [] }) ?assign ?body ?done ?stop
  case assign =>
    intro l x W K hK
    gi_wp2
    exact hK
  case body =>
    rintro l pre x W ⟨⟨⟨hp, _⟩, hci, hcs, hcr, hfr, hcd⟩, hB⟩ hlt
    have hl0 : 0 < len := by omega
    have hsz : w.heap.size + 1 + 1 + 1 < W.heap.size := World.block_lt_of_cell? _ _ hcd
    have d2 := h2 hl0 x W hB
    have frz : ∀ {A C : World} {b : Nat}, Below A.heap.size A C → b < A.heap.size → C.frozen? ⟨b, 0, none⟩ = A.frozen? ⟨b, 0, none⟩ := fun h hb => h.frozen (p := ⟨_, 0, none⟩) hb
    gi_wp2_with fail
    refine ⟨trivial, ?_⟩
    refine (CallsIn.inRound l (callsIn_wide.2 d2)).mono ?_
    rintro e W1 ⟨rfl, hB1⟩
    have ko : KeepsOthers W W1 := ⟨hB1.size, fun k o hk _ => (hB1.block k (Array.getElem?_eq_some_iff.1 hk).1).trans hk⟩
    have hci1 := (hB1.cell (p := ⟨w.heap.size, 0, none⟩) (World.block_lt_of_cell? _ _ hci)).trans hci
    have hcs1 := (hB1.cell (p := ⟨w.heap.size + 1, 0, none⟩) (World.block_lt_of_cell? _ _ hcs)).trans hcs
    have hcr1 := (hB1.cell (p := ⟨w.heap.size + 1 + 1, 0, none⟩) (World.block_lt_of_cell? _ _ hcr)).trans hcr
    have hcd1 := (hB1.cell (p := ⟨w.heap.size + 1 + 1 + 1, 0, none⟩) hsz).trans hcd
    have hfr1 := (frz hB1 (World.block_lt_of_cell? _ _ hcr)).trans hfr
    have hBW : Below w.heap.size w W1 := hB.trans (hB1.mono hB.size)
    have hs1 := hB1.size
    cases hp2 : p2 x
    · have d1 := h1 hl0 x W1 hBW
      gi_wp2_with fail
      refine ⟨trivial, ?_⟩
      refine (CallsIn.inRound l (callsIn_wide.2 d1)).mono ?_
      rintro e W2 ⟨rfl, hB2⟩
      have ko2 : KeepsOthers W W2 := ko.trans ⟨hB2.size, fun k o hk _ => (hB2.block k (Array.getElem?_eq_some_iff.1 hk).1).trans hk⟩
      have hci2 := (hB2.cell (p := ⟨w.heap.size, 0, none⟩) (World.block_lt_of_cell? _ _ hci1)).trans hci1
      have hcs2 := (hB2.cell (p := ⟨w.heap.size + 1, 0, none⟩) (World.block_lt_of_cell? _ _ hcs1)).trans hcs1
      have hcr2 := (hB2.cell (p := ⟨w.heap.size + 1 + 1, 0, none⟩) (World.block_lt_of_cell? _ _ hcr1)).trans hcr1
      have hcd2 := (hB2.cell (p := ⟨w.heap.size + 1 + 1 + 1, 0, none⟩) (World.block_lt_of_cell? _ _ hcd1)).trans hcd1
      have hfr2 := (frz hB2 (World.block_lt_of_cell? _ _ hcr1)).trans hfr1
      have hBW2 : Below w.heap.size w W2 := hBW.trans (hB2.mono hBW.size)
      have hkp : Below (w.heap.size + 1 + 1 + 1 + 1) W W2 := (hB1.mono (by omega)).trans (hB2.mono (by omega))
      cases hp1 : p1 x
      · gi_wp2
        exact ⟨ko2, hkp, ⟨⟨fun y hy => (List.mem_append.1 hy).elim (hp y) (fun e => by simp at e; subst e; exact ⟨hp1, hp2⟩), trivial⟩, hci2, hcs2, hcr2, hfr2, hcd2⟩, hBW2⟩
      · gi_wp2
        exact ⟨ko2.trans (KeepsOthers.setCell _ _ _), ⟨rfl, pre, x, rfl, hp, .inl hp1, by rw [hp2]; exact World.cell?_setCell_same' _ _ _ (by rw [hcr2]; rfl)⟩, hBW2.setCell (p := ⟨w.heap.size + 1 + 1, 0, none⟩) (by simp; omega) _⟩
    · gi_wp2
      exact ⟨ko.trans (KeepsOthers.setCell _ _ _), ⟨rfl, pre, x, rfl, hp, .inr hp2, by rw [hp2]; exact World.cell?_setCell_same' _ _ _ (by rw [hcr1]; rfl)⟩, hBW.setCell (p := ⟨w.heap.size + 1 + 1, 0, none⟩) (by simp; omega) _⟩
  case done =>
    rintro D ys W hD rfl ⟨⟨⟨hne, _⟩, hci, hcs, hcr, hfr, _⟩, hB⟩ hK
    gi_wp2
    have hK' := (KeepsOthers.setCell W ⟨w.heap.size + 1 + 1, 0, none⟩ (.int .i64 (-1))).same D _ hK rfl
    refine ⟨by simp, .inl ⟨_, _, rfl, run_takeDeferred hK', ?_⟩⟩
    have hc5 := cell_kept (World.cell?_setCell_same' W ⟨w.heap.size + 1 + 1, 0, none⟩ (.int .i64 (-1)) (by rw [hcr]; rfl)) (grownBy_putObj' _ D (.deferred none)) (fun r e => by cases e; exact ⟨_, hK', rfl⟩)
    refine ⟨.int .i64 (-1), ?_, by rw [topF_none p1 p2 _ hne], (hB.setCell (p := ⟨w.heap.size + 1 + 1, 0, none⟩) (by simp; omega) _).trans (belowK_b (w := w) (Nat.le_refl _) _ D _ _ (by simp at hD; omega) hK' rfl rfl)⟩
    simp [results, Tryd.f56, go_sem, hc5]
  case stop =>
    rintro D c pre W hD ⟨k, hk, hpk⟩ ⟨⟨rfl, pre', x, hpx, hne, hx, hcr⟩, hB⟩ hK
    gi_wp2
    refine ⟨by simp, .inl ⟨_, _, rfl, run_takeDeferred hK, ?_⟩⟩
    have hc5 := cell_kept hcr (grownBy_putObj' _ D (.deferred none)) (fun r e => by cases e; exact ⟨_, hK, rfl⟩)
    refine ⟨.int .i64 (if p2 x then -1 else (x : Int)), ?_, ?_, hB.trans (belowK_b (w := w) (Nat.le_refl _) W D _ _ (by simp at hD; omega) hK rfl rfl)⟩
    rotate_left
    · have : upto len len = pre' ++ x :: ((List.range len).drop k).map (fun j => len - 1 - j) := by
        have e : pre' ++ x :: ((List.range len).drop k).map (fun j => len - 1 - j) = upto len k ++ ((List.range len).drop k).map (fun j => len - 1 - j) := by
          rw [← hpk, hpx]; simp
        rw [e]
        unfold upto
        rw [← List.map_append]
        congr 1
        have : List.range k = (List.range len).take k := by rw [List.take_range]; congr 1; omega
        rw [this, List.take_append_drop]
      rw [this, topF_at p1 p2 x _ hx pre' hne]
    · simp [results, Tryd.f56, go_sem, hc5]

end Go.Proofs.Top
