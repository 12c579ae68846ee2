/- Append, whole. -/
import Derived.Test.YtdpldomjhelfkaaDoorEvMap
import Derived.Laws.AppendOwn
set_option linter.unusedVariables false
set_option linter.unusedSimpArgs false
namespace Go.Ev
open Go

section
variable {P : Program} {T : Tabl} {B : Base} {E : Env} {S : St} {a : Array Value} {w w' : World}

theorem isRow_und (hT : TabOk P T) {tx : Nat} (h : isRow (T tx) = true) : ∃ dx, P.underlying tx = some dx ∧ ∀ k, dx ≠ .int k := by
  unfold isRow at h
  split at h
  · rename_i e h1
    obtain ⟨ti, h3, h4⟩ := Option.map_eq_some_iff.1 h1
    have u1 := (hT _ _ h3).und
    rw [h4] at u1
    exact ⟨_, u1, by simp⟩
  · rename_i h1
    obtain ⟨ti, h3, h4⟩ := Option.map_eq_some_iff.1 h1
    have u1 := (hT _ _ h3).und
    rw [h4] at u1
    exact ⟨_, u1, by simp⟩
  · cases h

/-- What a row of `sz`-cell elements gives: its cells. -/
theorem olds_of {m : M} {sz : Nat} {rows : List (List D)} {b off cap : Nat} {arr : Array Value} {e : TypeId} {fr : Nat × Nat} (hl : Lies m w sz rows off arr) (hb : w.heap[b]? = some (.cells arr e fr)) (hfit : off + rows.length * sz ≤ arr.size) :
    ∃ olds, (∀ (w' : World), (∀ (b : Nat), w'.heap[b]? = w.heap[b]?) → (Builtin.firstCells sz rows.length (.slice (some ⟨b, off, none⟩) rows.length cap)).run P w' = .ok olds w') ∧ olds.size = rows.length * sz ∧ Lies m w sz rows 0 olds :=
  ⟨arr.extract off (off + rows.length * sz), fun w' hw => cells_of_row' w hb _ hfit w' hw _ _ _ rfl, by simp; omega, hl.extract hfit⟩

theorem append_grow (hT : TabOk P T) {t tx ty e : Nat} {te : TI} {dx : TypeDesc} (hu : P.underlying t = some (.slice e)) (hte : T e = some te) (hux : P.underlying tx = some dx) (hdx : ∀ k, dx ≠ .int k) (h : Rel B E S a w)
    {rows ys : List (List D)} {X : Value} {news olds : Array Value} {base : Option Addr} {sCap : Nat} (hsrc : Src P E.m w te.size ys X news) (hol : Lies E.m w te.size rows 0 olds) (hos : olds.size = rows.length * te.size)
    (ho : ∀ (w' : World), (∀ (b : Nat), w'.heap[b]? = w.heap[b]?) → (Builtin.firstCells te.size rows.length (.slice base rows.length sCap)).run P w' = .ok olds w') (hroom : sCap < rows.length + ys.length) (hb : rows.length + ys.length ≤ 17179869184) :
    ∃ z w' E', (Builtin.append_ #[t, tx] ty #[.slice base rows.length sCap, X]).run P w = .ok z w' ∧ E'.ob = E.ob ∧ Rel B E' { S with tm := S.tm ++ [vC (.own te.size (rows ++ ys))] } (a.push z) w' := by
  obtain ⟨i, zv, h1, h2, h3, h4, h5, h6⟩ := (hT _ _ hte).info
  have hzs : zv.cells.size = te.size := by rw [h6.1]; exact (hT _ _ hte).zl
  have hmul : (rows.length + ys.length) * i.bytes ≤ 17179869184 * 4096 := Nat.mul_le_mul hb h4
  have hrun := run_app_grow (P := P) (w := w) (ty := ty) (base := base) hu hux hdx h1 h3 hsrc.len (by rw [h2]; exact hsrc.cells w.drew fun _ => rfl) (by rw [h2]; exact ho w.drew fun _ => rfl) hroom (by omega) h5
  have hcap := grownCap_ge w (rows.length + ys.length) sCap e
  have hli := hol.append hos hsrc.lies hsrc.size (rest := Builtin.zeroCells zv.cells (grownCap w (rows.length + ys.length) sCap e - (rows.length + ys.length)))
  obtain ⟨E', g1, g2, g3, g4⟩ := h.newRow (Grow.drewAlloc w (.cells (olds ++ news ++ Builtin.zeroCells zv.cells (grownCap w (rows.length + ys.length) sCap e - (rows.length + ys.length))) e)) hli
    (cap := grownCap w (rows.length + ys.length) sCap e) (by
      simp only [Array.size_append, hos, hsrc.size, size_zeroCells, hzs]
      rw [← Nat.add_mul, ← Nat.add_mul]
      congr 1
      omega) (by simpa using hcap)
  rw [List.length_append] at g4
  exact ⟨_, _, E', hrun, g1, g4⟩

theorem append_sound (hT : TabOk P T) {t tx ty e : Nat} {te : TI} {v x r : V} {Z X : Value} {ys : List (List D)} (ht : (T t).map TI.ty = some (.sl e)) (hte : T e = some te) (htx : isRow (T tx) = true)
    (h : Rel B E { S with tm := S.tm ++ [v] } (a.push Z) w) (hv : VRep E w v Z) (hx : VRep E w x X) (hr : rowsOf x te.size = some ys) (hap : appendV te.size v ys = some r) :
    ∃ z w' E', (Builtin.append_ #[t, tx] ty #[Z, X]).run P w = .ok z w' ∧ E'.ob = E.ob ∧ Rel B E' { S with tm := S.tm ++ [r] } (a.push z) w' := by
  obtain ⟨ti, h3, h4⟩ := Option.map_eq_some_iff.1 ht
  have u1 := (hT _ _ h3).und
  rw [h4] at u1
  simp only [TyDesc] at u1
  obtain ⟨dx, hux, hdx⟩ := isRow_und hT htx
  have hd := h.drop
  have hk := hT _ _ hte
  obtain ⟨news, hsrc⟩ := rowsOf_src h hx hr
  have hempty : ys.isEmpty = true → ys = [] := by cases ys <;> simp
  have room0 : ∀ base n cap, n ≤ cap → ys = [] → (Builtin.append_ #[t, tx] ty #[.slice base n cap, X]).run P w = .ok (.slice base n cap) w := by
    intro base n cap hc hy
    subst hy
    have hn0 : news = #[] := Array.eq_empty_of_size_eq_zero (by have := hsrc.size; simpa using this)
    subst hn0
    have := run_app_room (P := P) (w := w) (w2 := w) (ty := ty) (base := base) (sLen := n) (sCap := cap) u1 hux hdx (fun w => hk.sizeOf w) hsrc.len (hsrc.cells w fun _ => rfl) (by simpa using hc) (fun ad _ => by simp [storeCells]) (fun _ => rfl)
    simpa using this
  have nilsGrow : ys.length ≤ 17179869184 → ys ≠ [] → ∃ z w' E', (Builtin.append_ #[t, tx] ty #[.slice none 0 0, X]).run P w = .ok z w' ∧ E'.ob = E.ob ∧ Rel B E' { S with tm := S.tm ++ [vC (.own te.size ys)] } (a.push z) w' := by
    intro hle hne
    have := append_grow hT (ty := ty) (rows := []) (olds := #[]) (base := none) (sCap := 0) u1 hte hux hdx hd hsrc ⟨by simp, by simp⟩ (by simp) (fun w' _ => by simp [Builtin.firstCells]) (by
      have : 0 < ys.length := List.length_pos_iff.2 hne
      simpa using this) (by simpa using hle)
    simpa using this
  unfold appendV at hap
  split at hap
  · cases hv
    split at hap
    · rename_i hy
      cases hap
      exact ⟨_, w, E, room0 none 0 0 (Nat.le_refl _) (hempty hy), rfl, h⟩
    · rename_i hy
      split at hap
      · rename_i hle
        cases hap
        exact nilsGrow hle (fun q => hy (by simp [q]))
      · cases hap
  · rename_i sz' rows
    split at hap
    · rename_i hsz
      subst hsz
      rcases DRep.lies hv with ⟨b, off, cap, lim, arr, e', fr, rfl, him, hlim, hb, hcap, hf, hl⟩ | ⟨rfl, a0, rfl⟩
      rotate_left
      · split at hap
        · rename_i hy
          cases hap
          exact ⟨_, w, E, room0 _ _ _ (Nat.le_refl _) (hempty hy), rfl, h⟩
        · rename_i hy
          split at hap
          · rename_i hle
            cases hap
            exact append_grow hT (ty := ty) (rows := []) (olds := #[]) (base := some a0) (sCap := 0) u1 hte hux hdx hd hsrc ⟨by simp, by simp⟩ (by simp) (fun w' _ => by simp [Builtin.firstCells, loadCells, loadCellsFrom]) (by
              have : 0 < ys.length := List.length_pos_iff.2 fun q => hy (by simp [q])
              simpa using this) (by simpa using hle)
          · cases hap
      split at hap
      · rename_i hy
        cases hap
        exact ⟨_, w, E, room0 _ _ _ hcap (hempty hy), rfl, h⟩
      · rename_i hy
        split at hap
        · rename_i hle
          cases hap
          obtain ⟨arr2, e2, fr2, hb2, hle2⟩ := hd.imw b lim him
          rw [hb] at hb2
          cases hb2
          obtain ⟨olds, k1, k2, k3⟩ := olds_of (P := P) (cap := cap) hl hb (by omega)
          have hpos : 0 < ys.length := List.length_pos_iff.2 fun q => hy (by simp [q])
          exact append_grow hT u1 hte hux hdx hd hsrc k3 k2 k1 (by rw [hf rfl]; omega) hle
        · cases hap
    · cases hap
  · rename_i sz' rows
    split at hap
    · rename_i hc
      obtain ⟨rfl, hle⟩ := hc
      cases hap
      have hlen : a.size = S.tm.length := by have := h.len; simpa using this
      have hO : Owned { S with tm := S.tm ++ [vC (.own te.size rows)] } E (a.push Z) w (.t S.tm.length) te.size Z :=
        ⟨⟨rows, by simp [at_t]⟩, by simp only [conc]; rw [Array.getElem?_push, if_pos hlen.symm]⟩
      obtain ⟨b, ⟨off, n, cap, arr, e', rfl, him, hb, hs, hn⟩, hmay⟩ := h.own _ _ _ hO
      obtain ⟨rfl, hl⟩ : n = rows.length ∧ Lies E.m w te.size rows off arr := by
        rcases DRep.lies (show DRep E.m w (.sl false te.size rows) _ from hv) with ⟨b2, off2, cap2, lim2, arr2, e2, fr2, hZ, him2, hlim2, hb2, hcap2, hf2, hl⟩ | ⟨rfl, a0, hZ⟩
        · cases hZ
          rw [hb] at hb2
          cases hb2
          exact ⟨rfl, hl⟩
        · cases hZ
          exact ⟨rfl, by simp, by simp⟩
      have hfit : off + rows.length * te.size ≤ arr.size := by rw [hs]; have := Nat.mul_le_mul_right te.size hn; omega
      by_cases hroom : rows.length + ys.length ≤ cap
      · have hm1 : (rows.length + ys.length) * te.size ≤ cap * te.size := Nat.mul_le_mul_right _ hroom
        rw [Nat.add_mul] at hm1
        have hst := run_storeCells_at (P := P) b (off + rows.length * te.size) e' news.toList 0 arr w hb (by simp [hsrc.size, hs]; omega) (fun x hx => by
          obtain ⟨j, hj⟩ := List.getElem?_of_mem hx
          rw [Array.getElem?_toList] at hj
          have hj1 : j < news.size := (Array.getElem?_eq_some_iff.1 hj).1
          rw [hsrc.size] at hj1
          have hsz : 0 < te.size := by
            rcases Nat.eq_zero_or_pos te.size with q | q
            · rw [q] at hj1; simp at hj1
            · exact q
          have hi : j / te.size < ys.length := Nat.div_lt_of_lt_mul (by rw [Nat.mul_comm]; exact hj1)
          have hr' := hsrc.lies.1 _ _ (List.getElem?_eq_getElem hi)
          have hjm : j % te.size < (ys[j / te.size]).length := by rw [hr']; exact Nat.mod_lt _ hsz
          obtain ⟨y, q1, q2⟩ := hsrc.lies.2 _ _ _ _ (List.getElem?_eq_getElem hi) (List.getElem?_eq_getElem hjm)
          have : 0 + j / te.size * te.size + j % te.size = j := by rw [Nat.zero_add, Nat.mul_comm]; exact Nat.div_add_mod j te.size
          rw [this, hj] at q1
          cases q1
          exact q2.one)
        have hrun := run_app_room (P := P) (w := w) (ty := ty) (base := some ⟨b, off, none⟩) (sLen := rows.length) (sCap := cap) (w2 := w.setRow b (laid arr (off + rows.length * te.size) news)) u1 hux hdx (fun w => hk.sizeOf w) hsrc.len (hsrc.cells w fun _ => rfl) hroom
          (fun ad hq => by cases hq; rw [addr_add]; simpa [laid] using hst) (fun q => by cases q)
        have hfit2 : off + rows.length * te.size + news.size ≤ arr.size := by rw [hsrc.size, hs]; omega
        obtain ⟨E', g1, g2, g3, g4⟩ := h.inPlace (ys := ys) (arr' := laid arr (off + rows.length * te.size) news) him hb hs hroom (laid_size _ _ _ hfit2) (fun i hi => by rw [laid_get _ _ _ hfit2, if_neg (by omega)])
          ⟨fun i r hr => by
            rcases Nat.lt_or_ge i rows.length with q | q
            · rw [List.getElem?_append_left q] at hr; exact hl.1 i r hr
            · rw [List.getElem?_append_right q] at hr; exact hsrc.lies.1 _ r hr,
           fun i j r c hr hc => by
            have hj := (List.getElem?_eq_some_iff.1 hc).1
            rcases Nat.lt_or_ge i rows.length with q | q
            · rw [List.getElem?_append_left q] at hr
              have hrs := hl.1 i r hr
              have : (i + 1) * te.size ≤ rows.length * te.size := Nat.mul_le_mul_right _ q
              rw [Nat.add_mul, Nat.one_mul] at this
              rw [laid_get _ _ _ hfit2, if_neg (by omega)]
              exact hl.2 i j r c hr hc
            · rw [List.getElem?_append_right q] at hr
              have hrs := hsrc.lies.1 _ r hr
              have hi2 := (List.getElem?_eq_some_iff.1 hr).1
              have e1 : i * te.size = rows.length * te.size + (i - rows.length) * te.size := by rw [← Nat.add_mul]; congr 1; omega
              have : (i - rows.length + 1) * te.size ≤ ys.length * te.size := Nat.mul_le_mul_right _ hi2
              rw [Nat.add_mul, Nat.one_mul] at this
              rw [laid_get _ _ _ hfit2, if_pos (by rw [hsrc.size]; omega)]
              obtain ⟨y, q1, q2⟩ := hsrc.lies.2 _ _ _ _ hr hc
              exact ⟨y, by rw [← q1]; congr 1; omega, q2⟩⟩
        exact ⟨_, _, E', hrun, g1, g4⟩
      · obtain ⟨olds, k1, k2, k3⟩ := olds_of (P := P) (cap := cap) hl hb hfit
        exact append_grow hT u1 hte hux hdx hd hsrc k3 k2 k1 (by omega) hle
    · cases hap
  · cases hap

end
end Go.Ev
