/- The arguments of a law's call: read as abstract data; read again behind the call. -/
import Derived.Test.YtdpldomjhelfkaaDoorEvRead
import Derived.Test.YtdpldomjhelfkaaDoorEvWorld
import Derived.WideShapes
set_option linter.unusedVariables false
set_option linter.unusedSimpArgs false
set_option maxRecDepth 100000
namespace Go.Ev
open Go Go.Proofs Go.RowKit

section
variable {H : Type} {enc : TypeId × Value → H} {W W' : World}

theorem slices_full : ∀ t e, t < Tryd.prog.types.size → Tryd.prog.underlying t = some (.slice e) → 0 < Tryd.prog.cellsOf e := slices_full_of Tryd.prog (by kernel_rfl)
theorem kids : Kids Tryd.prog (· < Tryd.prog.types.size) := kids_rows (by kernel_rfl) (by kernel_rfl)

theorem same_below (hb : Below W.heap.size W W') {p : MemPlace} (hp : p.block < W.heap.size) : W.sameAt W' p := by
  cases p with
  | cell b off => exact cell_of_heap (hb.block b hp)
  | map b => exact hb.block b hp

/-- What was read reads so still. -/
theorem trodAll_below (hb : Below W.heap.size W W') : ∀ {ts : List TypeId} {vs : List Value} {ds : List (DataW H)} {ps : List MemPlace}, (∀ t ∈ ts, t < Tryd.prog.types.size) → DataW.TrodAll enc Tryd.prog W 0 (fun _ => true) true ts vs ds ps →
    ∀ sp : Nat → Bool, (∀ p ∈ ps, sp p.block = true) → DataW.TrodAll enc Tryd.prog W' 0 sp true ts vs ds ps
  | [], [], [], _, _, h, _, _ => h
  | t :: ts, v :: vs, d :: ds, ps, ht, h, sp, hs => by
    have hlt := DataW.TrodAll.lt h
    obtain ⟨p, q, ⟨n, h1⟩, h2, rfl⟩ := h
    exact ⟨p, q, ⟨n, DataW.trod_stays kids (fun {t e} hT hu => slices_full t e hT hu) (fun h => by cases h) (ht t (List.mem_cons_self ..)) h1 (fun x hx => same_below hb (hlt x (List.mem_append_left _ hx))) (fun x hx => hs x (List.mem_append_left _ hx))⟩,
      trodAll_below hb (fun t h => ht t (List.mem_cons_of_mem _ h)) h2 sp (fun x hx => hs x (List.mem_append_right _ hx)), rfl⟩
  | [], _ :: _, _, _, _, h, _, _ => h.elim
  | [], [], _ :: _, _, _, h, _, _ => h.elim
  | _ :: _, [], _, _, _, h, _, _ => h.elim
  | _ :: _, _ :: _, [], _, _, h, _, _ => h.elim

/-- One argument, as abstract data. -/
theorem arg_read {S : List Nat} (hS : closedB (tabOf tab) S = true) {t : TypeId} {v : Value} {d : DataW H} {p : List MemPlace} (ht : S.contains t = true) (h : DataW.Trod enc Tryd.prog W 0 (fun _ => true) true t v d p) :
    ∃ n ds, TyD (tabOf tab) n t d ds ∧ Reps W ds v.cells.toList := by
  obtain ⟨n, hn⟩ := h
  obtain ⟨ds, h1, h2⟩ := tyd_of_trod tab_ok hS n t _ _ ht hn
  exact ⟨n, ds, h1, h2⟩

theorem arg_struct {S : List Nat} (hS : closedB (tabOf tab) S = true) {t : TypeId} {fs : Array Field} {base : Nat} {v : Value} {d : DataW H} {p : List MemPlace} (hu : Tryd.prog.underlying t = some (.struct fs)) (ht : S.contains t = true)
    (hok : Value.okWide Tryd.prog W .any base t v) (h : DataW.Trod enc Tryd.prog W 0 (fun _ => true) true t v d p) :
    ∃ n ds cs, v = .agg cs ∧ TyD (tabOf tab) n t d ds ∧ ds.length = Tryd.prog.cellsOf t ∧ VRep ⟨mAll W, fun _ => none, fun _ => none⟩ W (vA ds) v := by
  obtain ⟨cs, rfl, hsz⟩ := WideShapes.okWide_struct hu hok
  obtain ⟨n, ds, h1, h2⟩ := arg_read hS ht h
  have hl : ds.length = cs.size := h2.1
  refine ⟨n, ds, cs, rfl, h1, hl.trans hsz, ?_⟩
  show ∃ vs, Value.agg cs = .agg vs ∧ ARep (mAll W) W ds vs
  refine ⟨cs, rfl, hl.symm, fun i x hx => ?_⟩
  obtain ⟨u, q1, q2⟩ := h2.2 i x hx
  exact ⟨u, (Array.getElem?_toList ..).symm.trans q1, q2⟩

end
end Go.Ev
