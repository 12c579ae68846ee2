/- The operations that only compute: what the model's run gives for values that stand for abstract ones. -/
import Derived.Test.YtdpldomjhelfkaaDoorEvRel
import Derived.Laws.Sem
import Derived.Laws.Entries
import Derived.ChangeKeysEq
import Derived.Laws.Strings
set_option linter.unusedVariables false
set_option linter.unusedSimpArgs false
namespace Go.Ev
open Go

def ZRep (ti : TI) (z : Value) : Prop :=
  z.cells.size = ti.zero.length ∧ (∀ (i : Nat) (d : D), ti.zero[i]? = some d → ∃ x, z.cells[i]? = some x ∧ ∀ m w, DRep m w d x) ∧
  (ti.agg = true → ∃ us, z = .agg us) ∧ (ti.agg = false → ∀ us, z ≠ .agg us)

def TyDesc (P : Program) (t : Nat) : Ty → Prop
  | .bool => P.underlying t = some .bool
  | .int k => P.underlying t = some (.int k)
  | .str => P.underlying t = some .string
  | .ptr => ∃ e, P.underlying t = some (.pointer e)
  | .fn => ∃ a b c, P.underlying t = some (.func a b c)
  | .sl e => P.underlying t = some (.slice e)
  | .arr n e => P.underlying t = some (.array n e)
  | .st fs => ∃ fields : Array Field, P.underlying t = some (.struct fields) ∧ fields.toList.map (fun f => (f.offset, f.type)) = fs ∧ ∀ f ∈ fields.toList, (P.info? f.type).isSome = true
  | .mp k e => P.underlying t = some (.map k e) ∧ P.underlying k = some .string

structure TyOk (P : Program) (t : Nat) (ti : TI) : Prop where
  info : ∃ i z, P.info? t = some i ∧ i.size = ti.size ∧ i.zero = some z ∧ i.bytes ≤ 4096 ∧ 0 < i.bytes ∧ ZRep ti z
  und : TyDesc P t ti.ty
  zl : ti.zero.length = ti.size
  ag : ti.agg = false → ti.size = 1

def TabOk (P : Program) (T : Tabl) : Prop := ∀ t ti, T t = some ti → TyOk P t ti

section
variable {P : Program} {T : Tabl} {B : Base} {E : Env} {S : St} {w : World}

theorem TyOk.sizeOf {t : Nat} {ti : TI} (h : TyOk P t ti) (w : World) : (sizeOf t).run P w = .ok ti.size w := by
  obtain ⟨i, z, h1, h2, _⟩ := h.info
  simp [Go.sizeOf, run_typeInfo w h1, h2]
theorem TyOk.isAgg {t : Nat} {ti : TI} (h : TyOk P t ti) (w : World) : (isAgg t).run P w = .ok ti.agg w := by
  have hu := h.und
  unfold TI.agg
  cases e : ti.ty <;> rw [e] at hu <;> simp only [TyDesc] at hu
  case ptr => obtain ⟨_, hu⟩ := hu; simp [Go.isAgg, run_underlying hu]
  case fn => obtain ⟨_, _, _, hu⟩ := hu; simp [Go.isAgg, run_underlying hu]
  case st => obtain ⟨_, hu, _⟩ := hu; simp [Go.isAgg, run_underlying hu]
  case mp => obtain ⟨hu, _⟩ := hu; simp [Go.isAgg, run_underlying hu]
  all_goals simp [Go.isAgg, run_underlying hu]
theorem TyOk.zero {t : Nat} {ti : TI} (h : TyOk P t ti) (w : World) : ∃ z, (zeroValue t).run P w = .ok z w ∧ ZRep ti z := by
  obtain ⟨i, z, h1, h2, h3, _, _, h4⟩ := h.info
  exact ⟨z, by simp [zeroValue, run_typeInfo w h1, h3], h4⟩

theorem vd_rep {d : D} {x : Value} (h : DRep E.m w d x) : VRep E w (vD d) x := h

theorem str_size (s : List UInt8) : (ByteArray.mk s.toArray).size = s.length := by simp [ByteArray.size]
theorem str_toList (s : List UInt8) : (ByteArray.mk s.toArray).toList = s := by rw [ByteArray.toList_eq]
theorem mk_append (a b : List UInt8) : (ByteArray.mk a.toArray) ++ (ByteArray.mk b.toArray) = ByteArray.mk (a ++ b).toArray := by
  apply ByteArray.ext
  simp [ByteArray.data_append]

theorem intBin_sound {op : BinOp} {k : IntKind} {a b : Int} {d : D} (h : intBin op k a b = some d) (hs : op ≠ .shl ∧ op ≠ .shr) (t : Nat) (w : World) :
    ∃ x, (binOp op t (.int k a) (.int k b)).run P w = .ok x w ∧ ∀ m w', DRep m w' d x := by
  cases op <;> simp only [intBin] at h
  case shl => exact absurd rfl hs.1
  case shr => exact absurd rfl hs.2
  case quo => split at h <;> cases h; rename_i hb; exact ⟨.int _ _, by simp [binOp, Op.intDiv, hb], fun _ _ => .int _ _⟩
  case rem => split at h <;> cases h; rename_i hb; exact ⟨.int _ _, by simp [binOp, Op.intDiv, hb], fun _ _ => .int _ _⟩
  all_goals cases h
  case add => exact ⟨.int _ _, by simp [binOp, Op.intArith], fun _ _ => .int _ _⟩
  case sub => exact ⟨.int _ _, by simp [binOp, Op.intArith], fun _ _ => .int _ _⟩
  case mul => exact ⟨.int _ _, by simp [binOp, Op.intArith], fun _ _ => .int _ _⟩
  case and => exact ⟨.int _ _, by simp [binOp, Op.intBits], fun _ _ => .int _ _⟩
  case or => exact ⟨.int _ _, by simp [binOp, Op.intBits], fun _ _ => .int _ _⟩
  case eql => exact ⟨.bool _, by simp [binOp, Op.intCmp], fun _ _ => .bool _⟩
  case neq => exact ⟨.bool _, by simp [binOp, Op.intCmp], fun _ _ => .bool _⟩
  case lss => exact ⟨.bool _, by simp [binOp, Op.intCmp], fun _ _ => .bool _⟩
  case leq => exact ⟨.bool _, by simp [binOp, Op.intCmp], fun _ _ => .bool _⟩
  case gtr => exact ⟨.bool _, by simp [binOp, Op.intCmp], fun _ _ => .bool _⟩
  case geq => exact ⟨.bool _, by simp [binOp, Op.intCmp], fun _ _ => .bool _⟩

theorem shift_sound {op : BinOp} {k k' : IntKind} {a b : Int} {d : D} (h : intBin op k a b = some d) (hs : op = .shl ∨ op = .shr) (t : Nat) (w : World) :
    ∃ x, (binOp op t (.int k a) (.int k' b)).run P w = .ok x w ∧ ∀ m w', DRep m w' d x := by
  rcases hs with rfl | rfl <;> simp only [intBin] at h <;> split at h <;> cases h <;> rename_i hb <;>
    exact ⟨.int _ _, by simp [binOp, Op.shift, hb], fun _ _ => .int _ _⟩

theorem guard_int (op : BinOp) (t : Nat) (xo yo : Operand) (k k' : IntKind) (a b : Int) (w : World) : (eqGuard op t xo yo (.int k a) (.int k' b)).run P w = .ok () w := by
  unfold eqGuard; cases op <;> simp
theorem guard_str (op : BinOp) (t : Nat) (xo yo : Operand) (a b : ByteArray) (w : World) : (eqGuard op t xo yo (.string a) (.string b)).run P w = .ok () w := by
  unfold eqGuard; cases op <;> simp
theorem guard_sl (op : BinOp) (t : Nat) (xo yo : Operand) (a : Option Addr) (n c : Nat) (y : Value) (w : World) : (eqGuard op t xo yo (.slice a n c) y).run P w = .ok () w := by
  unfold eqGuard; cases op <;> simp
theorem guard_ptr (op : BinOp) (t : Nat) (xo yo : Operand) (a : Option Addr) (y : Value) (w : World) : (eqGuard op t xo yo (.pointer a) y).run P w = .ok () w := by
  unfold eqGuard; cases op <;> simp

theorem eqd_sl_nil {t e : Nat} (hu : P.underlying t = some (.slice e)) (d : Nat) (b : Option Addr) (n c : Nat) (w : World) : (Op.equalIn (d + 1) t (.slice none n c) (.slice b 0 0)).run P w = .ok b.isNone w := by
  simp only [Op.equalIn, Sem.run_bind, run_underlying hu, Result.andThen_ok, Sem.run_pure]
theorem eqd_sl_some {t e : Nat} (hu : P.underlying t = some (.slice e)) (d : Nat) (b : Addr) (n c : Nat) (w : World) : (Op.equalIn (d + 1) t (.slice (some b) n c) (.slice none 0 0)).run P w = .ok false w := by
  simp only [Op.equalIn, Sem.run_bind, run_underlying hu, Result.andThen_ok, Sem.run_pure]
theorem eqd_ptr_nil {t e : Nat} (hu : P.underlying t = some (.pointer e)) (d : Nat) (w : World) : (Op.equalIn (d + 1) t (.pointer none) (.pointer none)).run P w = .ok true w := by
  simp only [Op.equalIn, Sem.run_bind, run_underlying hu, Result.andThen_ok, Sem.run_pure, Option.isNone_none]
theorem eqd_ptr_some {t e : Nat} (hu : P.underlying t = some (.pointer e)) (d : Nat) (a : Addr) (w : World) : (Op.equalIn (d + 1) t (.pointer (some a)) (.pointer none)).run P w = .ok false w := by
  simp only [Op.equalIn, Sem.run_bind, run_underlying hu, Result.andThen_ok, Sem.run_pure]
theorem eq_of_eqd {t : Nat} {x y : Value} {e : Bool} {w : World} (h : ∀ d, (Op.equalIn (d + 1) t x y).run P w = .ok e w) : (Op.equal t x y).run P w = .ok e w := h 9999

theorem bin_sl (t : Nat) (a : Option Addr) (n c : Nat) (y : Value) (e : Bool) (w : World) (h : (Op.equal t (.slice a n c) y).run P w = .ok e w) :
    (binOp .eql t (.slice a n c) y).run P w = .ok (.bool e) w ∧ (binOp .neq t (.slice a n c) y).run P w = .ok (.bool (!e)) w := by
  constructor <;> simp only [binOp, Sem.run_bind, h, Result.andThen_ok, Sem.run_pure]
theorem bin_ptr (t : Nat) (a : Option Addr) (y : Value) (e : Bool) (w : World) (h : (Op.equal t (.pointer a) y).run P w = .ok e w) :
    (binOp .eql t (.pointer a) y).run P w = .ok (.bool e) w ∧ (binOp .neq t (.pointer a) y).run P w = .ok (.bool (!e)) w := by
  constructor <;> simp only [binOp, Sem.run_bind, h, Result.andThen_ok, Sem.run_pure]
theorem bin_agg (t : Nat) (a b : Array Value) (e : Bool) (w : World) (h : (Op.equal t (.agg a) (.agg b)).run P w = .ok e w) :
    (binOp .eql t (.agg a) (.agg b)).run P w = .ok (.bool e) w ∧ (binOp .neq t (.agg a) (.agg b)).run P w = .ok (.bool (!e)) w := by
  constructor <;> simp only [binOp, Sem.run_bind, h, Result.andThen_ok, Sem.run_pure]

/-- What `==` of structs wants of the program. -/
def StEq (P : Program) (t : Nat) (zero : List D) : Prop :=
  ∀ (m : M) (w : World) (p q : List D) (us ws : Array Value) (e : Bool), skinds zero p = true → ARep m w p us → ARep m w q ws → deq p q = some e →
    ∀ xo yo, (∀ op, (eqGuard op t xo yo (.agg us) (.agg ws)).run P w = .ok () w) ∧ (Op.equal t (.agg us) (.agg ws)).run P w = .ok e w

def EqOk (P : Program) (T : Tabl) : Prop := ∀ t ti, T t = some ti → ti.eq = true → StEq P t ti.zero

theorem binV_sound (hT : TabOk P T) (hE : EqOk P T) {op : BinOp} {t : Nat} {x y v : V} {X Y : Value} (hx : VRep E w x X) (hy : VRep E w y Y) (h : binV T op t x y = some v)
    (xo yo : Operand) :
    ∃ z, (do eqGuard op t xo yo X Y; binOp op t X Y : Sem Value).run P w = .ok z w ∧ VRep E w v z ∧ NoOwn v := by
  unfold binV at h
  split at h
  · -- whole numbers
    rename_i k a k' b
    cases hx; cases hy
    split at h
    · obtain ⟨d, h1, rfl⟩ := Option.map_eq_some_iff.1 h
      obtain ⟨z, h2, h3⟩ := shift_sound (P := P) (k' := k') h1 (.inl rfl) t w
      exact ⟨z, by simp [guard_int, h2], h3 _ _, .d _⟩
    · obtain ⟨d, h1, rfl⟩ := Option.map_eq_some_iff.1 h
      obtain ⟨z, h2, h3⟩ := shift_sound (P := P) (k' := k') h1 (.inr rfl) t w
      exact ⟨z, by simp [guard_int, h2], h3 _ _, .d _⟩
    · rename_i n1 n2
      split at h
      · rename_i hk
        subst hk
        obtain ⟨d, h1, rfl⟩ := Option.map_eq_some_iff.1 h
        obtain ⟨z, h2, h3⟩ := intBin_sound (P := P) h1 ⟨n1, n2⟩ t w
        exact ⟨z, by simp [guard_int, h2], h3 _ _, .d _⟩
      · cases h
  · rename_i a b
    cases hx; cases hy
    split at h
    · cases h
      refine ⟨.bool (a == b), ?_, .bool _, .d _⟩
      simp [guard_str, binOp, Op.stringOp, str_toList]
    · cases h
      refine ⟨.bool (!(a == b)), ?_, .bool _, .d _⟩
      simp [guard_str, binOp, Op.stringOp, str_toList]
    · split at h
      · rename_i hl
        cases h
        refine ⟨.string ⟨(a ++ b).toArray⟩, ?_, .str _, .d _⟩
        simp only [Sem.run_bind, guard_str, Result.andThen_ok, binOp, Op.stringOp, str_size, Sem.run_ite]
        rw [if_neg]
        · rw [mk_append]; rfl
        · simp [IntKind.max, IntKind.signed, IntKind.bits]; omega
      · cases h
    · cases h
  · cases hx; cases hy
    split at h
    · rename_i ho
      obtain ⟨ti, h1, h2⟩ := Option.map_eq_some_iff.1 ho
      have hu := (hT t ti h1).und
      rw [h2] at hu
      simp only [TyDesc] at hu
      cases h
      exact ⟨_, by rw [Sem.run_bind, guard_sl, Result.andThen_ok]; exact (bin_sl t _ _ _ _ _ w (eq_of_eqd fun d => eqd_sl_nil hu d _ _ _ _)).1, .bool _, .d _⟩
    · rename_i ho
      obtain ⟨ti, h1, h2⟩ := Option.map_eq_some_iff.1 ho
      have hu := (hT t ti h1).und
      rw [h2] at hu
      simp only [TyDesc] at hu
      cases h
      exact ⟨_, by rw [Sem.run_bind, guard_sl, Result.andThen_ok]; exact (bin_sl t _ _ _ _ _ w (eq_of_eqd fun d => eqd_sl_nil hu d _ _ _ _)).2, .bool _, .d _⟩
    · cases h
  · obtain ⟨sa, sn, sc, rfl⟩ : ∃ sa sn sc, X = .slice (some sa) sn sc := by cases hx <;> exact ⟨_, _, _, rfl⟩
    cases hy
    split at h
    · rename_i ho
      obtain ⟨ti, h1, h2⟩ := Option.map_eq_some_iff.1 ho
      have hu := (hT t ti h1).und
      rw [h2] at hu
      simp only [TyDesc] at hu
      cases h
      exact ⟨_, by rw [Sem.run_bind, guard_sl, Result.andThen_ok]; exact (bin_sl t _ _ _ _ _ w (eq_of_eqd fun d => eqd_sl_some hu d _ _ _ _)).1, .bool _, .d _⟩
    · rename_i ho
      obtain ⟨ti, h1, h2⟩ := Option.map_eq_some_iff.1 ho
      have hu := (hT t ti h1).und
      rw [h2] at hu
      simp only [TyDesc] at hu
      cases h
      exact ⟨_, by rw [Sem.run_bind, guard_sl, Result.andThen_ok]; exact (bin_sl t _ _ _ _ _ w (eq_of_eqd fun d => eqd_sl_some hu d _ _ _ _)).2, .bool _, .d _⟩
    · cases h
  · cases hx; cases hy
    split at h
    · rename_i ho
      obtain ⟨ti, h1, h2⟩ := Option.map_eq_some_iff.1 ho
      have hu := (hT t ti h1).und
      rw [h2] at hu
      obtain ⟨e, hu⟩ := hu
      cases h
      exact ⟨_, by rw [Sem.run_bind, guard_ptr, Result.andThen_ok]; exact (bin_ptr t _ _ _ w (eq_of_eqd fun d => eqd_ptr_nil hu d _)).1, .bool _, .d _⟩
    · rename_i ho
      obtain ⟨ti, h1, h2⟩ := Option.map_eq_some_iff.1 ho
      have hu := (hT t ti h1).und
      rw [h2] at hu
      obtain ⟨e, hu⟩ := hu
      cases h
      exact ⟨_, by rw [Sem.run_bind, guard_ptr, Result.andThen_ok]; exact (bin_ptr t _ _ _ w (eq_of_eqd fun d => eqd_ptr_nil hu d _)).2, .bool _, .d _⟩
    · cases h
  · obtain ⟨b, _, rfl⟩ := hx
    cases hy
    split at h
    · rename_i ho
      obtain ⟨ti, h1, h2⟩ := Option.map_eq_some_iff.1 ho
      have hu := (hT t ti h1).und
      rw [h2] at hu
      obtain ⟨e, hu⟩ := hu
      cases h
      exact ⟨_, by rw [Sem.run_bind, guard_ptr, Result.andThen_ok]; exact (bin_ptr t _ _ _ w (eq_of_eqd fun d => eqd_ptr_some hu d _ _)).1, .bool _, .d _⟩
    · rename_i ho
      obtain ⟨ti, h1, h2⟩ := Option.map_eq_some_iff.1 ho
      have hu := (hT t ti h1).und
      rw [h2] at hu
      obtain ⟨e, hu⟩ := hu
      cases h
      exact ⟨_, by rw [Sem.run_bind, guard_ptr, Result.andThen_ok]; exact (bin_ptr t _ _ _ w (eq_of_eqd fun d => eqd_ptr_some hu d _ _)).2, .bool _, .d _⟩
    · cases h
  · obtain ⟨b, _, rfl⟩ := hx
    cases hy
    split at h
    · rename_i ho
      obtain ⟨ti, h1, h2⟩ := Option.map_eq_some_iff.1 ho
      have hu := (hT t ti h1).und
      rw [h2] at hu
      obtain ⟨e, hu⟩ := hu
      cases h
      exact ⟨_, by rw [Sem.run_bind, guard_ptr, Result.andThen_ok]; exact (bin_ptr t _ _ _ w (eq_of_eqd fun d => eqd_ptr_some hu d _ _)).1, .bool _, .d _⟩
    · rename_i ho
      obtain ⟨ti, h1, h2⟩ := Option.map_eq_some_iff.1 ho
      have hu := (hT t ti h1).und
      rw [h2] at hu
      obtain ⟨e, hu⟩ := hu
      cases h
      exact ⟨_, by rw [Sem.run_bind, guard_ptr, Result.andThen_ok]; exact (bin_ptr t _ _ _ w (eq_of_eqd fun d => eqd_ptr_some hu d _ _)).2, .bool _, .d _⟩
    · cases h
  · rename_i p q
    obtain ⟨us, rfl, hus⟩ := hx
    obtain ⟨ws, rfl, hws⟩ := hy
    split at h
    case h_2 => cases h
    rename_i ti hti
    split at h
    case isFalse => cases h
    rename_i hc
    rw [Bool.and_eq_true] at hc
    have hs := fun m w p q us ws e h => hE t ti hti hc.1 m w p q us ws e h
    split at h
    · obtain ⟨e, h1, rfl⟩ := Option.map_eq_some_iff.1 h
      have := hs E.m w p q us ws e hc.2 hus hws h1 xo yo
      exact ⟨.bool e, by rw [Sem.run_bind, this.1, Result.andThen_ok]; exact (bin_agg t us ws e w this.2).1, .bool _, .d _⟩
    · obtain ⟨e, h1, rfl⟩ := Option.map_eq_some_iff.1 h
      have := hs E.m w p q us ws e hc.2 hus hws h1 xo yo
      exact ⟨.bool (!e), by rw [Sem.run_bind, this.1, Result.andThen_ok]; exact (bin_agg t us ws e w this.2).2, .bool _, .d _⟩
    · cases h
  · cases h

end
end Go.Ev
