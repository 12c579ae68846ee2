/- New rows: slice literals, conversions, append. -/
import Derived.Test.YtdpldomjhelfkaaDoorEvLit
import Derived.Laws.Append
set_option linter.unusedVariables false
set_option linter.unusedSimpArgs false
namespace Go.Ev
open Go

section
variable {P : Program} {T : Tabl} {B : Base} {E : Env} {S : St} {a : Array Value} {w w' : World}

/-- What a row of cells says of rows of data. -/
def Lies (m : M) (w : World) (sz : Nat) (rows : List (List D)) (off : Nat) (arr : Array Value) : Prop :=
  (∀ (i : Nat) (r : List D), rows[i]? = some r → r.length = sz) ∧
  ∀ (i j : Nat) (r : List D) (c : D), rows[i]? = some r → r[j]? = some c → ∃ x, arr[off + i * sz + j]? = some x ∧ DRep m w c x

theorem Lies.mono {m m' : M} {sz off : Nat} {rows : List (List D)} {arr : Array Value} (x : Ext m w m' w') (h : Lies m w sz rows off arr) : Lies m' w' sz rows off arr :=
  ⟨h.1, fun i j r c hr hc => let ⟨u, h1, h2⟩ := h.2 i j r c hr hc; ⟨u, h1, h2.mono x⟩⟩

theorem DRep.ofLies {m : M} {full : Bool} {sz : Nat} {rows : List (List D)} {b off cap lim : Nat} {arr : Array Value} {e : TypeId} {fr : Nat × Nat}
    (h : Lies m w sz rows off arr) (him : m.im b = some lim) (hlim : off + rows.length * sz ≤ lim) (hb : w.heap[b]? = some (.cells arr e fr)) (hcap : rows.length ≤ cap) (hf : full = true → cap = rows.length) :
    DRep m w (.sl full sz rows) (.slice (some ⟨b, off, none⟩) rows.length cap) := by
  refine .sl full sz rows b off cap lim arr e fr (fun i j => (arr[off + i * sz + j]?).getD undef) him hlim hb hcap hf h.1 (fun i j r c hr hc => ?_) (fun i j r c hr hc => ?_)
  · obtain ⟨x, h1, _⟩ := h.2 i j r c hr hc
    rw [h1]; rfl
  · obtain ⟨x, h1, h2⟩ := h.2 i j r c hr hc
    rw [h1]; exact h2

theorem DRep.lies {m : M} {full : Bool} {sz : Nat} {rows : List (List D)} {x : Value} (h : DRep m w (.sl full sz rows) x) :
    (∃ b off cap lim arr e fr, x = .slice (some ⟨b, off, none⟩) rows.length cap ∧ m.im b = some lim ∧ off + rows.length * sz ≤ lim ∧ w.heap[b]? = some (.cells arr e fr) ∧ rows.length ≤ cap ∧ (full = true → cap = rows.length) ∧ Lies m w sz rows off arr) ∨
    (rows = [] ∧ ∃ a, x = .slice (some a) 0 0) := by
  cases h with
  | sl0 full sz a => exact .inr ⟨rfl, a, rfl⟩
  | sl full sz rows b off cap lim arr e fr val him hlim hb hcap hfull hsz hval hrep =>
    exact .inl ⟨b, off, cap, lim, arr, e, fr, rfl, him, hlim, hb, hcap, hfull, hsz, fun i j r c hr hc => ⟨_, hval i j r c hr hc, hrep i j r c hr hc⟩⟩

/-- A new row, with the right to append to it. -/
theorem Rel.newRow (h : Rel B E S a w) {arr : Array Value} {e : TypeId} (g : Grow w w' (.cells arr e)) {sz cap : Nat} {rows : List (List D)} (hl : Lies E.m w sz rows 0 arr) (hs : arr.size = cap * sz) (hc : rows.length ≤ cap) :
    ∃ E', E'.ob = E.ob ∧ E'.lo = E.lo ∧ Ext E.m w E'.m w' ∧ Rel B E' { S with tm := S.tm ++ [vC (.own sz rows)] } (a.push (.slice (some ⟨w.heap.size, 0, none⟩) rows.length cap)) w' := by
  have hle : rows.length * sz ≤ arr.size := by rw [hs]; exact Nat.mul_le_mul_right _ hc
  obtain ⟨h1, x⟩ := h.newBlock g (some (rows.length * sz)) false (fun n hn => ⟨arr, e, (0, 0), rfl, by cases hn; exact hle⟩) (by simp)
  refine ⟨⟨E.m.add w.heap.size (some (rows.length * sz)) false, E.ob, E.lo⟩, rfl, rfl, x, ?_⟩
  have him : (E.m.add w.heap.size (some (rows.length * sz)) false).im w.heap.size = some (rows.length * sz) := by simp [M.add]
  refine h1.pushOwn (b := w.heap.size) (DRep.ofLies (hl.mono x) him (by simp) g.new hc (by simp)) ⟨0, rows.length, cap, arr, e, rfl, by simpa using him, g.new, by simpa using hs, hc⟩ (.inr h.kept.size) ?_
  intro ℓ sz' v ho hb
  have := h.owned_lt (h.owned_back (E' := ⟨E.m.add w.heap.size (some (rows.length * sz)) false, E.ob, E.lo⟩) (w' := w') rfl (fun _ _ => rfl) (fun b hb => g.old hb) ho) hb
  omega

theorem chunk_spec (sz : Nat) : ∀ (n : Nat) (l : List D), l.length = n * sz → (chunk sz n l).length = n ∧ ∀ (i : Nat) (r : List D), (chunk sz n l)[i]? = some r → r.length = sz ∧ ∀ (j : Nat) (c : D), r[j]? = some c → l[i * sz + j]? = some c
  | 0, l, _ => ⟨rfl, by simp [chunk]⟩
  | n + 1, l, h => by
    rw [Nat.add_mul, Nat.one_mul] at h
    obtain ⟨h1, h2⟩ := chunk_spec sz n (l.drop sz) (by simp; omega)
    refine ⟨by simp [chunk, h1], fun i r hr => ?_⟩
    cases i with
    | zero =>
      simp only [chunk, List.getElem?_cons_zero, Option.some.injEq] at hr
      subst hr
      refine ⟨by simp; omega, fun j c hc => ?_⟩
      rw [List.getElem?_take] at hc
      split at hc
      · simpa using hc
      · cases hc
    | succ i =>
      simp only [chunk, List.getElem?_cons_succ] at hr
      obtain ⟨h3, h4⟩ := h2 i r hr
      refine ⟨h3, fun j c hc => ?_⟩
      have := h4 j c hc
      rw [List.getElem?_drop] at this
      rw [← this]
      congr 1
      rw [Nat.add_mul]; omega

theorem flatten_replicate_get (l : List D) : ∀ (n i : Nat), i < n * l.length → (List.replicate n l).flatten[i]? = l[i % l.length]?
  | 0, i, h => by simp at h
  | n + 1, i, h => by
    rw [List.replicate_succ, List.flatten_cons]
    by_cases hi : i < l.length
    · rw [List.getElem?_append_left hi, Nat.mod_eq_of_lt hi]
    · rw [List.getElem?_append_right (by omega), flatten_replicate_get l n (i - l.length) (by rw [Nat.add_mul] at h; omega)]
      congr 1
      exact (Nat.mod_eq_sub_mod (by omega)).symm

theorem buildSliceV_sound (hT : TabOk P T) (h : Rel B E S a w) {t n : Nat} {ps : List (Nat × Option (List D))} {qs : Array (Nat × Value)} {v : V} (hp : Parts E w ps qs.toList) (hb : buildSliceV T t n ps = some v) :
    ∃ z w' E', (Instr.buildSlice t n qs).run P w = .ok z w' ∧ E'.ob = E.ob ∧ E'.lo = E.lo ∧ Ext E.m w E'.m w' ∧ Rel B E' { S with tm := S.tm ++ [v] } (a.push z) w' := by
  unfold buildSliceV at hb
  split at hb
  · rename_i e h1
    obtain ⟨ti, h3, h4⟩ := Option.map_eq_some_iff.1 h1
    have u1 := (hT _ _ h3).und
    rw [h4] at u1
    simp only [TyDesc] at u1
    split at hb
    · rename_i te hte
      split at hb
      · rename_i hle
        obtain ⟨hle, hzl⟩ := hle
        obtain ⟨cs, h5, rfl⟩ := Option.map_eq_some_iff.1 hb
        have hk := hT _ _ hte
        obtain ⟨z, hz, hzr⟩ := hk.zero (P := P) w
        have hzs : z.cells.size = te.size := by rw [hzr.1, hzl]
        -- the zero cells
        have run0 : ∃ z0 : Array Value, (n * te.size = 0 → z0 = #[]) ∧ (¬ n * te.size = 0 → z0 = z.cells) ∧
            ARep E.m w (List.replicate n te.zero).flatten ((Array.range (n * te.size)).map (z0[· % z0.size]!)) := by
          have hfl : (List.replicate n te.zero).flatten.length = n * te.size := by simp [hzl]
          by_cases h0 : n * te.size = 0
          · refine ⟨#[], fun _ => rfl, fun h => absurd h0 h, by simp [hfl, h0], fun i d hd => ?_⟩
            have := (List.getElem?_eq_some_iff.1 hd).1
            omega
          · refine ⟨z.cells, fun h => absurd h h0, fun _ => rfl, by simp [hzl], fun i d hd => ?_⟩
            have hi := (List.getElem?_eq_some_iff.1 hd).1
            rw [hfl] at hi
            rw [flatten_replicate_get _ _ _ (by rw [hzl]; exact hi)] at hd
            obtain ⟨x, hx1, hx2⟩ := hzr.2.1 _ _ hd
            refine ⟨x, ?_, hx2 _ _⟩
            simp only [Array.getElem?_map, Array.getElem?_range, if_pos hi, Option.map_some, Option.some.injEq]
            rw [hzs, ← hzl]
            simp [getElem!_def, hx1]
        obtain ⟨z0, hz0, hz1, hza⟩ := run0
        obtain ⟨cs', h6, h7, h8⟩ := fillD_sound _ _ (fun _ _ h => h) _ _ _ _ _ hp hza h5
        have hlen : cs.length = n * te.size := by rw [h8]; simp [hzl]
        obtain ⟨h9, h10⟩ := chunk_spec te.size n cs hlen
        have hli : Lies E.m w te.size (chunk te.size n cs) 0 cs' := by
          refine ⟨fun i r hr => (h10 i r hr).1, fun i j r c hr hc => ?_⟩
          obtain ⟨x, h11, h12⟩ := h7.2 _ _ ((h10 i r hr).2 j c hc)
          exact ⟨x, by simpa using h11, h12⟩
        obtain ⟨E', g1, g2, g3, g4⟩ := h.newRow (w' := w.alloc (.cells cs' e)) (Grow.alloc w _) hli (cap := n) (by rw [h7.1, hlen]) (by rw [h9]; exact Nat.le_refl _)
        rw [h9] at g4
        refine ⟨_, _, E', ?_, g1, g2, g3, g4⟩
        have hng : ¬ (n * te.size > 2 ^ 24) := by omega
        by_cases h0 : n * te.size = 0
        · obtain rfl := hz0 h0
          have hz' : ¬ ((0 : Nat) > 2 ^ 24) := by decide
          simp only [Instr.buildSlice, Sem.run_bind, run_underlying u1, Result.andThen_ok, hk.sizeOf, hz', if_false, h0, if_true, Sem.run_pure]
          rw [h0] at h6
          simp only [h6, newRow, Sem.run_bind, run_newObj, Result.andThen_ok, Sem.run_pure]
          rfl
        · obtain rfl := hz1 h0
          simp only [Instr.buildSlice, Sem.run_bind, run_underlying u1, Result.andThen_ok, hk.sizeOf, hng, if_false, h0, hz, Sem.run_pure, h6, newRow, run_newObj]
          rfl
      · cases hb
    · cases hb
  · cases hb

end
end Go.Ev
