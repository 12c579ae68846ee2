/- Append. -/
import Derived.Test.YtdpldomjhelfkaaDoorEvRow
set_option linter.unusedVariables false
set_option linter.unusedSimpArgs false
namespace Go.Ev
open Go

section
variable {P : Program} {T : Tabl} {B : Base} {E : Env} {S : St} {a : Array Value} {w w' : World}

theorem run_app_room {t tx ty e size n sLen sCap : Nat} {dx : TypeDesc} {X : Value} {news : Array Value} {base : Option Addr} {w2 : World} (hu : P.underlying t = some (.slice e)) (hux : P.underlying tx = some dx) (hdx : ∀ k, dx ≠ .int k)
    (hs : ∀ w, (sizeOf e).run P w = .ok size w) (hn : ∀ w, (Builtin.lenOf X).run P w = .ok n w) (hf : (Builtin.firstCells size n X).run P w = .ok news w) (hroom : sLen + n ≤ sCap)
    (hst : ∀ ad, base = some ad → (storeCells (ad.add (sLen * size)) news.toList).run P w = .ok () w2) (hst0 : base = none → w2 = w) :
    (Builtin.append_ #[t, tx] ty #[.slice base sLen sCap, X]).run P w = .ok (.slice base (sLen + n) sCap) w2 := by
  have hm : (match dx with | .int k => true | _ => false) = false := by cases dx <;> first | rfl | exact absurd rfl (hdx _)
  cases base with
  | none =>
    obtain rfl := hst0 rfl
    simp [Builtin.append_, run_underlying hu, run_underlying hux, hs, hn, hf, hroom, hm]
  | some ad =>
    simp [Builtin.append_, run_underlying hu, run_underlying hux, hs, hn, hf, hroom, hm, hst ad rfl]

theorem run_app_grow {t tx ty e n sLen sCap : Nat} {dx : TypeDesc} {X z : Value} {i : TypeInfo} {olds news : Array Value} {base : Option Addr} (hu : P.underlying t = some (.slice e)) (hux : P.underlying tx = some dx) (hdx : ∀ k, dx ≠ .int k)
    (hi : P.info? e = some i) (hz : i.zero = some z) (hn : ∀ w, (Builtin.lenOf X).run P w = .ok n w) (hf : (Builtin.firstCells i.size n X).run P w.drew = .ok news w.drew)
    (ho : (Builtin.firstCells i.size sLen (.slice base sLen sCap)).run P w.drew = .ok olds w.drew) (hroom : sCap < sLen + n) (hb : (sLen + n) * i.bytes ≤ 140737488355328) (hb0 : 0 < i.bytes) :
    (Builtin.append_ #[t, tx] ty #[.slice base sLen sCap, X]).run P w = .ok (.slice (some ⟨w.heap.size, 0, none⟩) (sLen + n) (grownCap w (sLen + n) sCap e))
      (w.drew.alloc (.cells (olds ++ news ++ Builtin.zeroCells z.cells (grownCap w (sLen + n) sCap e - (sLen + n))) e)) := by
  have hm : (match dx with | .int k => true | _ => false) = false := by cases dx <;> first | rfl | exact absurd rfl (hdx _)
  have h1 : ¬ (sLen + n ≤ sCap) := by omega
  have h2 := growslice_fits hroom hb
  have h2' : ¬ (281474976710656 < Builtin.nextslicecap (sLen + n) sCap * i.bytes) := by omega
  have hlen : sLen + n ≤ (sLen + n) * i.bytes := Nat.le_mul_of_pos_right _ hb0
  have h3 : ¬ (9223372036854775807 < ((sLen : Int) + (n : Int))) := by omega
  simp [Builtin.append_, run_underlying hu, run_underlying hux, sizeOf, typeInfo, zeroValue, hi, hz, hn, hf, ho, h1, h2', h3, hm, Question.forced, newRow, grownCap, IntKind.max, IntKind.signed, IntKind.bits]

/-- What is appended: its length, its cells. -/
structure Src (P : Program) (m : M) (w : World) (sz : Nat) (ys : List (List D)) (X : Value) (news : Array Value) : Prop where
  len : ∀ (w' : World), (Builtin.lenOf X).run P w' = .ok ys.length w'
  cells : ∀ (w' : World), (∀ (b : Nat), w'.heap[b]? = w.heap[b]?) → (Builtin.firstCells sz ys.length X).run P w' = .ok news w'
  size : news.size = ys.length * sz
  lies : Lies m w sz ys 0 news

theorem cells_of_row' (w : World) {b off : Nat} {arr : Array Value} {e : TypeId} {fr : Nat × Nat} (h : w.heap[b]? = some (.cells arr e fr)) (n : Nat) (hn : off + n ≤ arr.size) (w' : World) (hw : ∀ (b : Nat), w'.heap[b]? = w.heap[b]?) (sz len cap : Nat) (hs : len * sz = n) :
    (Builtin.firstCells sz len (.slice (some ⟨b, off, none⟩) len cap)).run P w' = .ok (arr.extract off (off + n)) w' := by
  have h' : w'.heap[b]? = some (.cells arr e fr) := (hw b).trans h
  have := run_firstCells_some (P := P) w' sz len ⟨b, off, none⟩ len cap (arr.extract off (off + n)).toList (by simp; omega) (fun j v hv => by
    rw [addr_add, cell_of_row w' b (off + j) arr e fr h']
    rw [Array.getElem?_toList, Array.getElem?_extract] at hv
    split at hv
    · exact hv
    · cases hv)
  rw [Array.toArray_toList] at this
  exact this

theorem Lies.extract {m : M} {sz off : Nat} {rows : List (List D)} {arr : Array Value} (h : Lies m w sz rows off arr) (hb : off + rows.length * sz ≤ arr.size) : Lies m w sz rows 0 (arr.extract off (off + rows.length * sz)) := by
  refine ⟨h.1, fun i j r c hr hc => ?_⟩
  obtain ⟨x, h1, h2⟩ := h.2 i j r c hr hc
  refine ⟨x, ?_, h2⟩
  have hi : i < rows.length := (List.getElem?_eq_some_iff.1 hr).1
  have hj : j < r.length := (List.getElem?_eq_some_iff.1 hc).1
  have hs := h.1 i r hr
  have : (i + 1) * sz ≤ rows.length * sz := Nat.mul_le_mul_right _ hi
  rw [Nat.add_mul, Nat.one_mul] at this
  rw [Array.getElem?_extract, if_pos (by omega)]
  rw [← h1]
  congr 1
  omega

theorem rowsOf_src (h : Rel B E S a w) {x : V} {X : Value} {sz : Nat} {ys : List (List D)} (hx : VRep E w x X) (hr : rowsOf x sz = some ys) : ∃ news, Src P E.m w sz ys X news := by
  unfold rowsOf at hr
  split at hr
  · cases hx; cases hr
    exact ⟨#[], fun _ => by simp [Builtin.lenOf], fun _ _ => by simp [Builtin.firstCells], by simp, by simp, by simp⟩
  · rename_i full sz' rows
    split at hr
    · rename_i hsz
      subst hsz
      cases hr
      rcases DRep.lies hx with ⟨b, off, cap, lim, arr, e, fr, rfl, him, hlim, hb, hcap, hf, hl⟩ | ⟨rfl, a, rfl⟩
      rotate_left
      · exact ⟨#[], fun _ => by simp [Builtin.lenOf], fun _ _ => by simp [Builtin.firstCells, loadCells, loadCellsFrom], by simp, by simp, by simp⟩
      obtain ⟨arr', e', fr', hb', hle⟩ := h.imw b lim him
      rw [hb] at hb'
      cases hb'
      exact ⟨arr.extract off (off + ys.length * sz'), fun _ => by simp [Builtin.lenOf], fun w' hw => cells_of_row' w hb _ (by omega) w' hw _ _ _ rfl, by simp; omega, hl.extract (by omega)⟩
    · cases hr
  · rename_i s
    split at hr
    · rename_i hsz
      subst hsz
      cases hr
      cases hx
      have hlen : (bytesD s).length = s.length := by simp [bytesD]
      refine ⟨(s.toArray.map fun b => Value.int .u8 b.toNat), fun _ => by simp [Builtin.lenOf, str_size, hlen], fun w' _ => ?_, by simp [hlen], ?_, ?_⟩
      · simp only [Builtin.firstCells, hlen]
        rw [bytes_extract]
        simp
      · intro i r hr
        simp only [bytesD, List.getElem?_map, Option.map_eq_some_iff] at hr
        obtain ⟨c, _, rfl⟩ := hr
        rfl
      · intro i j r c hr hc
        simp only [bytesD, List.getElem?_map, Option.map_eq_some_iff] at hr
        obtain ⟨u, hu, rfl⟩ := hr
        cases j with
        | succ j => simp at hc
        | zero =>
          simp at hc
          subst hc
          exact ⟨.int .u8 u.toNat, by simp [hu], .int _ _⟩
    · cases hr
  · cases hr

theorem Lies.append {m : M} {sz : Nat} {xs ys : List (List D)} {olds news rest : Array Value} (hx : Lies m w sz xs 0 olds) (hs : olds.size = xs.length * sz) (hy : Lies m w sz ys 0 news) (hn : news.size = ys.length * sz) :
    Lies m w sz (xs ++ ys) 0 (olds ++ news ++ rest) := by
  refine ⟨fun i r hr => ?_, fun i j r c hr hc => ?_⟩
  · by_cases hi : i < xs.length
    · rw [List.getElem?_append_left hi] at hr; exact hx.1 i r hr
    · rw [List.getElem?_append_right (by omega)] at hr; exact hy.1 _ r hr
  · have hj : j < r.length := (List.getElem?_eq_some_iff.1 hc).1
    by_cases hi : i < xs.length
    · rw [List.getElem?_append_left hi] at hr
      obtain ⟨x, h1, h2⟩ := hx.2 i j r c hr hc
      refine ⟨x, ?_, h2⟩
      have := (Array.getElem?_eq_some_iff.1 h1).1
      rw [Array.append_assoc, Array.getElem?_append_left this]
      exact h1
    · rw [List.getElem?_append_right (by omega)] at hr
      obtain ⟨x, h1, h2⟩ := hy.2 _ j r c hr hc
      refine ⟨x, ?_, h2⟩
      have h3 := (Array.getElem?_eq_some_iff.1 h1).1
      have h4 : i * sz = (i - xs.length) * sz + xs.length * sz := by rw [← Nat.add_mul]; congr 1; omega
      rw [Array.getElem?_append_left (by simp; omega), Array.getElem?_append_right (by omega)]
      rw [← h1]
      congr 1
      omega

def M.setIm (m : M) (b n : Nat) : M := ⟨fun i => if i = b then some n else m.im i, m.mp⟩

/-- Append in place. -/
theorem Rel.inPlace {sz : Nat} {rows ys : List (List D)} {b off cap : Nat} {arr arr' : Array Value} {e : TypeId}
    (h : Rel B E { S with tm := S.tm ++ [vC (.own sz rows)] } (a.push (.slice (some ⟨b, off, none⟩) rows.length cap)) w)
    (him : E.m.im b = some (off + rows.length * sz)) (hb : w.heap[b]? = some (.cells arr e (0, 0))) (hs : arr.size = off + cap * sz) (hroom : rows.length + ys.length ≤ cap)
    (hs' : arr'.size = arr.size) (hold : ∀ i, i < off + rows.length * sz → arr'[i]? = arr[i]?) (hl : Lies E.m w sz (rows ++ ys) off arr') :
    ∃ E', E'.ob = E.ob ∧ E'.lo = E.lo ∧ Ext E.m w E'.m (w.setRow b arr') ∧ Rel B E' { S with tm := S.tm ++ [vC (.own sz (rows ++ ys))] } (a.push (.slice (some ⟨b, off, none⟩) (rows.length + ys.length) cap)) (w.setRow b arr') := by
  have hlen : a.size = S.tm.length := by have := h.len; simpa using this
  have hnew := setRow_heap w b arr arr' e (0, 0) hb
  have hoth : ∀ k, k ≠ b → (w.setRow b arr').heap[k]? = w.heap[k]? := fun k hk => setRow_other w b k arr' hk
  have hsize : (w.setRow b arr').heap.size = w.heap.size := by simp [World.setRow]
  have hgrow : rows.length * sz ≤ (rows.length + ys.length) * sz := Nat.mul_le_mul_right _ (by omega)
  have hin : (rows.length + ys.length) * sz ≤ cap * sz := Nat.mul_le_mul_right _ hroom
  have hlastO : Owned { S with tm := S.tm ++ [vC (.own sz rows)] } E (a.push (.slice (some ⟨b, off, none⟩) rows.length cap)) w (.t S.tm.length) sz (.slice (some ⟨b, off, none⟩) rows.length cap) :=
    ⟨⟨rows, by simp [at_t]⟩, by simp only [conc]; rw [Array.getElem?_push, if_pos hlen.symm]⟩
  obtain ⟨b', ⟨off', n', cap', arr2, e2, hv, hb2, _⟩, hmay⟩ := h.own _ _ _ hlastO
  cases hv
  have hmp : E.m.mp b = false := by
    cases hc : E.m.mp b with
    | false => rfl
    | true => obtain ⟨es, c, h1⟩ := h.mpw b hc; rw [hb] at h1; cases h1
  have ext : Ext E.m w (E.m.setIm b (off + (rows.length + ys.length) * sz)) (w.setRow b arr') := by
    refine ⟨fun k lim hk => ?_, fun k lim ar e0 fr hk hh => ?_, fun k hk => hk, fun k hk => hoth k (fun e => by subst e; rw [hmp] at hk; cases hk)⟩
    · by_cases ek : k = b
      · subst ek; rw [him] at hk; cases hk; exact ⟨off + (rows.length + ys.length) * sz, by omega, by simp [M.setIm]⟩
      · exact ⟨lim, Nat.le_refl _, by simpa [M.setIm, ek] using hk⟩
    · by_cases ek : k = b
      · subst ek
        rw [hb] at hh
        cases hh
        rw [him] at hk
        cases hk
        exact ⟨arr', (0, 0), hnew, hs', hold⟩
      · exact ⟨ar, fr, by rw [hoth k ek]; exact hh, rfl, fun _ _ => rfl⟩
  refine ⟨⟨E.m.setIm b (off + (rows.length + ys.length) * sz), E.ob, E.lo⟩, rfl, rfl, ext, ?_⟩
  have objne : ∀ k, E.m.im k = none → k ≠ b := fun k hk e => by subst e; rw [him] at hk; cases hk
  -- an owned place: the last one, or an elder one
  have hd : Rel B E S a w := h.drop
  have key : ∀ ℓ sz' u, Owned { S with tm := S.tm ++ [vC (.own sz (rows ++ ys))] } ⟨E.m.setIm b (off + (rows.length + ys.length) * sz), E.ob, E.lo⟩ (a.push (.slice (some ⟨b, off, none⟩) (rows.length + ys.length) cap)) (w.setRow b arr') ℓ sz' u →
      (Owned { S with tm := S.tm ++ [vC (.own sz rows)] } E (a.push (.slice (some ⟨b, off, none⟩) rows.length cap)) w ℓ sz' u ∧ ℓ ≠ .t S.tm.length) ∨ (ℓ = .t S.tm.length ∧ sz' = sz ∧ u = .slice (some ⟨b, off, none⟩) (rows.length + ys.length) cap) := by
    intro ℓ sz' u ho
    obtain ⟨⟨rows', h1⟩, h2⟩ := ho
    cases ℓ with
    | h id o =>
      left
      obtain ⟨ob, h3, h4, h5, _⟩ := hd.at_obj.1 id o _ h1
      refine ⟨⟨⟨rows', h1⟩, ?_⟩, by simp⟩
      simp only [conc, h3, Option.bind_some] at h2 ⊢
      rw [← cell_of_heap (hoth ob (objne ob h5))]; exact h2
    | l k o =>
      left
      obtain ⟨ob, h3, h4, h5, _⟩ := hd.at_obj.2 k o _ h1
      refine ⟨⟨⟨rows', h1⟩, ?_⟩, by simp⟩
      simp only [conc, h3, Option.bind_some] at h2 ⊢
      rw [← cell_of_heap (hoth ob (objne ob h5))]; exact h2
    | t i =>
      simp only [at_t] at h1
      simp only [conc] at h2
      rcases Nat.lt_trichotomy i S.tm.length with hi | hi | hi
      · left
        rw [List.getElem?_append_left hi] at h1
        rw [Array.getElem?_push, if_neg (by omega)] at h2
        refine ⟨⟨⟨rows', by simp only [at_t]; rw [List.getElem?_append_left hi]; exact h1⟩, by simp only [conc]; rw [Array.getElem?_push, if_neg (by omega)]; exact h2⟩, fun e => by cases e; omega⟩
      · right
        subst hi
        rw [List.getElem?_append_right (Nat.le_refl _), Nat.sub_self, List.getElem?_cons_zero] at h1
        simp at h1
        rw [Array.getElem?_push, if_pos hlen.symm] at h2
        exact ⟨rfl, h1.1.symm, by cases h2; rfl⟩
      · rw [List.getElem?_eq_none (by simp; omega)] at h1
        cases h1
    | tt i j =>
      simp only [at_tt] at h1
      simp only [conc] at h2
      rcases Nat.lt_trichotomy i S.tm.length with hi | hi | hi
      · left
        rw [List.getElem?_append_left hi] at h1
        rw [Array.getElem?_push, if_neg (by omega)] at h2
        refine ⟨⟨⟨rows', by simp only [at_tt]; rw [List.getElem?_append_left hi]; exact h1⟩, by simp only [conc]; rw [Array.getElem?_push, if_neg (by omega)]; exact h2⟩, fun e => by cases e⟩
      · subst hi
        rw [List.getElem?_append_right (Nat.le_refl _), Nat.sub_self, List.getElem?_cons_zero] at h1
        simp at h1
      · rw [List.getElem?_eq_none (by simp; omega)] at h1
        cases h1
  have notb : ∀ ℓ sz' u, Owned { S with tm := S.tm ++ [vC (.own sz rows)] } E (a.push (.slice (some ⟨b, off, none⟩) rows.length cap)) w ℓ sz' u → ℓ ≠ .t S.tm.length → blk u ≠ some b := by
    intro ℓ sz' u ho hne hbu
    exact hne (h.own1 ℓ _ sz' sz u _ b ho hlastO hbu rfl)
  have himn : (E.m.setIm b (off + (rows.length + ys.length) * sz)).im b = some (off + (rows.length + ys.length) * sz) := by simp [M.setIm]
  exact {
    len := by simp [hlen]
    tr := fun i u hu => by
      rcases Nat.lt_trichotomy i S.tm.length with hi | hi | hi
      · rw [List.getElem?_append_left hi] at hu
        obtain ⟨y, h1, h2⟩ := hd.tr i u hu
        exact ⟨y, by rw [Array.getElem?_push, if_neg (by omega)]; exact h1, h2.mono (E' := ⟨E.m.setIm b (off + (rows.length + ys.length) * sz), E.ob, E.lo⟩) ext (fun _ _ h => h) (fun _ _ h => h)⟩
      · subst hi
        rw [List.getElem?_append_right (Nat.le_refl _), Nat.sub_self, List.getElem?_cons_zero] at hu
        cases hu
        refine ⟨_, by rw [Array.getElem?_push, if_pos hlen.symm], ?_⟩
        have := DRep.ofLies (full := false) (hl.mono ext) himn (by simp) hnew (cap := cap) (by simpa using hroom) (by simp)
        rw [List.length_append] at this
        exact this
      · rw [List.getElem?_eq_none (by simp; omega)] at hu
        cases hu
    hr := fun id ob hob => by
      obtain ⟨k, h1, h2, h3, h4, h5⟩ := hd.hr id ob hob
      have hk := objne k h3
      exact ⟨k, h1, h2.mono ext (hoth k hk), by simpa [M.setIm, hk] using h3, h4, h5⟩
    lr := fun id ob hob => by
      obtain ⟨k, h1, h2, h3, h4, h5⟩ := hd.lr id ob hob
      have hk := objne k h3
      exact ⟨k, h1, h2.mono ext (hoth k hk), by simpa [M.setIm, hk] using h3, h4, h5⟩
    hh := hd.hh
    ll := hd.ll
    hl := hd.hl
    obl := hd.obl
    lol := hd.lol
    own := fun ℓ sz' u ho => by
      rcases key ℓ sz' u ho with ⟨h1, hne⟩ | ⟨rfl, rfl, rfl⟩
      · obtain ⟨k, ⟨o, n, c, ar, e0, rfl, h3, h4, h5⟩, h6⟩ := h.own ℓ sz' u h1
        have hk : k ≠ b := fun e => notb _ _ _ h1 hne (by subst e; rfl)
        exact ⟨k, ⟨o, n, c, ar, e0, rfl, by simpa [M.setIm, hk] using h3, by rw [hoth k hk]; exact h4, h5⟩, h6⟩
      · exact ⟨b, ⟨off, rows.length + ys.length, cap, arr', e, rfl, himn, hnew, by rw [hs', hs], hroom⟩, hmay⟩
    own1 := fun ℓ ℓ' sz1 sz2 u u' c h1 h2 h3 h4 => by
      rcases key ℓ sz1 u h1 with ⟨k1, n1⟩ | ⟨rfl, rfl, rfl⟩ <;> rcases key ℓ' sz2 u' h2 with ⟨k2, n2⟩ | ⟨rfl, rfl, rfl⟩
      · exact h.own1 ℓ ℓ' sz1 sz2 u u' c k1 k2 h3 h4
      · cases h4; exact absurd h3 (notb _ _ _ k1 n1)
      · cases h3; exact absurd h4 (notb _ _ _ k2 n2)
      · rfl
    imw := fun k n hk => by
      by_cases ek : k = b
      · subst ek
        rw [himn] at hk
        cases hk
        exact ⟨arr', e, (0, 0), hnew, by omega⟩
      · obtain ⟨ar, e0, fr, h1, h2⟩ := h.imw k n (by simpa [M.setIm, ek] using hk)
        exact ⟨ar, e0, fr, by rw [hoth k ek]; exact h1, h2⟩
    mpw := fun k hk => by
      obtain ⟨es, c, h1⟩ := h.mpw k hk
      have ek : k ≠ b := fun e => by subst e; have : E.m.mp k = true := hk; rw [hmp] at this; cases this
      exact ⟨es, c, by rw [hoth k ek]; exact h1⟩
    kept := by
      have hk := h.kept
      refine ⟨by rw [hsize]; exact hk.size, hk.os, hk.tape, hk.output, fun k hkl hkt => ?_, hk.ext.trans ext⟩
      have ek : k ≠ b := fun e => by subst e; rcases hmay with hm | hm; exact hkt hm; omega
      obtain ⟨h1, h2, h3⟩ := hk.same k hkl hkt
      exact ⟨(hoth k ek).trans h1, by simpa [M.setIm, ek] using h2, h3⟩ }

end
end Go.Ev
