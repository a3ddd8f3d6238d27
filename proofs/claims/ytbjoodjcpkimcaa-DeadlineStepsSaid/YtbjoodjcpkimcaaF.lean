/- Records of several cells, whatever they are: at a place; in rows of the call's own. -/
import Derived.Test.YtbjoodjcpkimcaaE
namespace Go.Proofs.Ytbjoodjcpkimcaa
open Go.RowKit Go.Maps Go.Sort

/-- A record's cells: n of them, one value each, and they tell the record. -/
structure Enc {α : Type} (enc : α → List Value) (n : Nat) : Prop where
  len : ∀ x, (enc x).length = n
  inj : ∀ x y, enc x = enc y → x = y
  one : ∀ x, ∀ v ∈ enc x, v.oneCell' = true
  pos : 0 < n

section
variable {α : Type} {enc : α → List Value} {n : Nat} (E : Enc enc n)
include E
theorem Enc.flat_length (xs : List α) : (xs.flatMap enc).length = xs.length * n := by
  induction xs with
  | nil => simp
  | cons k ks ih => rw [List.flatMap_cons, List.length_append, ih, E.len, List.length_cons, Nat.add_mul]; omega
theorem Enc.flat_get (xs : List α) : ∀ i c, c < n → (xs.flatMap enc)[i * n + c]? = (xs[i]?).bind fun k => (enc k)[c]? := by
  induction xs with
  | nil => intro i c _; simp
  | cons k ks ih =>
    intro i c hc
    rw [List.flatMap_cons]
    cases i with
    | zero => rw [List.getElem?_append_left (by rw [E.len]; omega)]; simp
    | succ i =>
      rw [List.getElem?_append_right (by rw [E.len, Nat.add_mul]; omega), E.len, show (i + 1) * n + c - n = i * n + c by rw [Nat.add_mul]; omega, ih i c hc]
      simp
omit E in
theorem Enc.ranged {w : World} {b o : Nat} {cs cs' : List Value} (h : w.rangeAt b o cs) (h' : w.rangeAt b o cs') (hl : cs.length = cs'.length) : cs = cs' := by
  apply List.ext_getElem?
  intro i
  by_cases hi : i < cs.length
  · have a1 : cs[i]? = some cs[i] := List.getElem?_eq_getElem hi
    have a2 : cs'[i]? = some (cs'[i]'(by omega)) := List.getElem?_eq_getElem (by omega)
    have := h i _ a1
    rw [h' i _ a2] at this
    rw [a1, a2]; exact this.symm
  · rw [List.getElem?_eq_none (by omega), List.getElem?_eq_none (by omega)]
end

open Classical in
noncomputable def pickF {α : Type} (P : α → Prop) : Option α := if h : ∃ x, P x then some h.choose else none
/-- The record that lies at a place, if one does. -/
noncomputable def recF {α : Type} (enc : α → List Value) (w : World) (b o : Nat) : Option α := pickF fun x => w.rangeAt b o (enc x)
section
variable {α : Type} {enc : α → List Value} {n : Nat}
theorem recF_eq (E : Enc enc n) {w : World} {b o : Nat} {x : α} (h : w.rangeAt b o (enc x)) : recF enc w b o = some x := by
  have hx : ∃ x, w.rangeAt b o (enc x) := ⟨x, h⟩
  unfold recF pickF
  rw [dif_pos hx]
  exact congrArg some (E.inj _ _ (Enc.ranged hx.choose_spec h (by rw [E.len, E.len])))
theorem recF_some {w : World} {b o : Nat} {x : α} (h : recF enc w b o = some x) : w.rangeAt b o (enc x) := by
  unfold recF pickF at h
  split at h
  · rename_i hx
    cases h
    exact hx.choose_spec
  · cases h
theorem recF_congr {w w' : World} {b o : Nat} (h : ∀ a : Addr, a.block = b → w'.cell? a = w.cell? a) : recF enc w' b o = recF enc w b o := by
  have e : (fun x : α => w'.rangeAt b o (enc x)) = fun x => w.rangeAt b o (enc x) := by
    funext x
    apply propext
    unfold World.rangeAt
    constructor <;> intro hh j v hv
    · rw [← h _ rfl]; exact hh j v hv
    · rw [h _ rfl]; exact hh j v hv
  have k : ∀ P Q : α → Prop, P = Q → pickF P = pickF Q := fun P _ q => by subst q; rfl
  exact k _ _ e
theorem recF_block {w w' : World} {b o : Nat} (h : w'.heap[b]? = w.heap[b]?) : recF enc w' b o = recF enc w b o :=
  recF_congr fun a ha => World.cell?_of_block (w := w) (by rw [ha]; exact h)
@[go_sem] theorem recF_alloc_past (w : World) (ob : Obj) (m i : Nat) (hm : m < w.heap.size) : recF enc (w.alloc ob) m i = recF enc w m i :=
  recF_congr fun a ha => World.cell?_alloc_lt _ _ _ (by omega)
@[go_sem] theorem recF_drew (w : World) (m i : Nat) : recF enc w.drew m i = recF enc w m i := rfl
@[go_sem] theorem recF_drewN (w : World) (k m i : Nat) : recF enc (w.drewN k) m i = recF enc w m i := rfl
@[go_sem] theorem recF_setCell (w : World) (a : Addr) (v : Value) (m i : Nat) (hm : m ≠ a.block) : recF enc (w.setCell a v) m i = recF enc w m i :=
  recF_congr fun b hb => World.cell?_setCell_other _ _ _ _ (fun e => hm (by rw [e, hb]))
theorem recF_alloc_at (E : Enc enc n) (w : World) (x : α) (t : TypeId) (m : Nat) (hm : m = w.heap.size) : recF enc (w.alloc (.cells (enc x).toArray t)) m 0 = some x := by
  subst hm
  refine recF_eq E fun j v hv => ?_
  rw [Nat.zero_add, World.cell?_alloc_new]
  simpa using hv
end

/-! ### rows of records -/
/-- The slice v holds the records, in a row of the call's own (from block 'base' on). -/
def RowE {α : Type} (enc : α → List Value) (n e : Nat) (w : World) (base : Nat) (v : Value) (xs : List α) : Prop := w.ownsRow base e n v xs.length (xs.flatMap enc)
theorem row_rowE (w : World) (base : Nat) (v : Value) (ks : List Key) : RowOf w base v ks ↔ RowE kvl 17 24 w base v ks := Iff.rfl
section
variable {α : Type} {enc : α → List Value} {n e : Nat}
theorem RowE.cells {w : World} {base g m cap : Nat} {xs : List α} (h : RowE enc n e w base (.slice (some ⟨g, 0, none⟩) m cap) xs) :
    m = xs.length ∧ base ≤ g ∧ m ≤ cap ∧ cap ≤ maxLen ∧ ∃ cur, w.heap[g]? = some (.cells cur e (0, 0)) ∧ cur.size = cap * n ∧ cur.toList.take (xs.length * n) = xs.flatMap enc := by
  rcases h.2 with ⟨q, _⟩ | ⟨g', cap', cur, q, h1, h2, h3, h4, h5, h6⟩
  · cases q
  · cases q
    exact ⟨rfl, h1, h3, h4, cur, h2, h5, h6⟩
theorem RowE.kept {w w' : World} {base : Nat} {v : Value} {xs : List α} {S : Nat → Prop} (h : RowE enc n e w base v xs) (hu : Upd S w w') (hS : ∀ i, v.ownBlock = some i → ¬ S i) : RowE enc n e w' base v xs := by
  refine ⟨h.1, ?_⟩
  rcases h.2 with h2 | ⟨g, cap, cur, rfl, h1, h2, h3⟩
  · exact .inl h2
  · exact .inr ⟨g, cap, cur, rfl, h1, by rw [hu.block g (Array.getElem?_eq_some_iff.1 h2).1 (hS g rfl)]; exact h2, h3⟩
theorem RowE.grown {w w' : World} {base : Nat} {v : Value} {xs : List α} (h : RowE enc n e w base v xs) (hg : w.grownBy w' none) : RowE enc n e w' base v xs :=
  RowE.kept (S := fun _ => False) h ⟨hg.os, hg.tape, hg.output, hg.size, fun i hi _ => hg.block i hi (by simp)⟩ (fun _ _ q => q)
theorem RowE.base_le {w : World} {base : Nat} {v : Value} {xs : List α} (h : RowE enc n e w base v xs) {i : Nat} (hi : v.ownBlock = some i) : base ≤ i := by
  rcases h.2 with ⟨rfl, _⟩ | ⟨g, cap, cur, rfl, h1, _⟩
  · cases hi
  · cases hi; exact h1
theorem RowE.lt {w : World} {base : Nat} {v : Value} {xs : List α} (h : RowE enc n e w base v xs) {i : Nat} (hi : v.ownBlock = some i) : i < w.heap.size := by
  rcases h.2 with ⟨rfl, _⟩ | ⟨g, cap, cur, rfl, h1, h2, _⟩
  · cases hi
  · cases hi; exact (Array.getElem?_eq_some_iff.1 h2).1
theorem RowE.lower {w : World} {base base' : Nat} {v : Value} {xs : List α} (h : RowE enc n e w base v xs) (hb : base' ≤ base) : RowE enc n e w base' v xs := by
  refine ⟨h.1, ?_⟩
  rcases h.2 with h2 | ⟨g, cap, cur, h0, h1, h2⟩
  · exact .inl h2
  · exact .inr ⟨g, cap, cur, h0, by omega, h2⟩
theorem RowE.raise {w : World} {base base' : Nat} {v : Value} {xs : List α} (h : RowE enc n e w base v xs) (hb : ∀ i, v.ownBlock = some i → base' ≤ i) : RowE enc n e w base' v xs := by
  refine ⟨h.1, ?_⟩
  rcases h.2 with h2 | ⟨g, cap, cur, h0, h1, h2⟩
  · exact .inl h2
  · exact .inr ⟨g, cap, cur, h0, hb g (by rw [h0]; rfl), h2⟩
theorem RowE.shape {w : World} {base : Nat} {v : Value} {xs : List α} (h : RowE enc n e w base v xs) : (v = .slice none 0 0 ∧ xs = []) ∨ ∃ g cap, v = .slice (some ⟨g, 0, none⟩) xs.length cap := by
  rcases h.2 with ⟨rfl, h0⟩ | ⟨g, cap, cur, rfl, h1, _⟩
  · exact .inl ⟨rfl, List.length_eq_zero_iff.1 h0⟩
  · exact .inr ⟨g, cap, rfl⟩
theorem RowE.len {w : World} {base : Nat} {v : Value} {xs : List α} (h : RowE enc n e w base v xs) : ∃ A cap, v = .slice A xs.length cap := by
  rcases h.shape with ⟨rfl, rfl⟩ | ⟨g, cap, rfl⟩
  · exact ⟨_, _, rfl⟩
  · exact ⟨_, _, rfl⟩
theorem RowE.at (E : Enc enc n) {w : World} {base g m cap : Nat} {xs : List α} (h : RowE enc n e w base (.slice (some ⟨g, 0, none⟩) m cap) xs) {i : Nat} {x : α} (hi : xs[i]? = some x) : w.rangeAt g (i * n) (enc x) := by
  obtain ⟨rfl, _, _, _, cur, hb, hs, ht⟩ := h.cells
  intro j v hv
  have hl : i < xs.length := (List.getElem?_eq_some_iff.1 hi).1
  have hj : j < n := by have := (List.getElem?_eq_some_iff.1 hv).1; rw [E.len] at this; exact this
  have hlt : i * n + j < xs.length * n := by
    have := Nat.mul_le_mul_right n (show i + 1 ≤ xs.length from hl)
    rw [Nat.add_mul] at this; omega
  rw [cell_of_row w g _ _ _ _ hb]
  have : cur.toList[i * n + j]? = (xs.flatMap enc)[i * n + j]? := by rw [← ht, List.getElem?_take, if_pos hlt]
  rw [← Array.getElem?_toList, this, E.flat_get _ _ _ hj, hi]
  exact hv
theorem flat_set (E : Enc enc n) {xs : List α} {i c : Nat} {x y : α} {u : Value} (hi : xs[i]? = some x) (hc : c < n) (hy : enc y = (enc x).set c u) : (xs.set i y).flatMap enc = (xs.flatMap enc).set (i * n + c) u := by
  have hl : i < xs.length := (List.getElem?_eq_some_iff.1 hi).1
  apply List.ext_getElem?
  intro t
  have ht : t = t / n * n + t % n := by rw [Nat.mul_comm]; exact (Nat.div_add_mod t n).symm
  have hm : t % n < n := Nat.mod_lt _ E.pos
  have l1 : ((xs.set i y).flatMap enc)[t]? = ((xs.set i y)[t / n]?).bind fun k => (enc k)[t % n]? := by
    have := E.flat_get (xs.set i y) (t / n) (t % n) hm; rwa [← ht] at this
  have l2 : (xs.flatMap enc)[t]? = (xs[t / n]?).bind fun k => (enc k)[t % n]? := by
    have := E.flat_get xs (t / n) (t % n) hm; rwa [← ht] at this
  rw [l1, List.getElem?_set, List.getElem?_set, l2]
  have key : (i * n + c = t) ↔ (i = t / n ∧ c = t % n) := by
    constructor
    · intro q
      subst q
      rw [Nat.mul_comm i n, Nat.mul_add_div E.pos, Nat.mul_add_mod, Nat.div_eq_of_lt hc, Nat.mod_eq_of_lt hc]
      exact ⟨by omega, rfl⟩
    · rintro ⟨q1, q2⟩
      rw [q1, q2]; exact ht.symm
  by_cases h1 : i = t / n
  · subst h1
    rw [if_pos rfl, if_pos hl, hi]
    simp only [Option.bind_some, hy, List.getElem?_set]
    by_cases h2 : c = t % n
    · rw [if_pos h2, if_pos (key.2 ⟨rfl, h2⟩), if_pos (by rw [E.len]; exact hc), if_pos]
      rw [E.flat_length]
      have := Nat.mul_le_mul_right n (show t / n + 1 ≤ xs.length from hl)
      rw [Nat.add_mul] at this; omega
    · rw [if_neg h2, if_neg (fun q => h2 (key.1 q).2)]
  · rw [if_neg h1, if_neg (fun q => h1 (key.1 q).1)]
/-- A cell of a record written. -/
theorem RowE.write (E : Enc enc n) {w : World} {base g m cap : Nat} {xs : List α} (h : RowE enc n e w base (.slice (some ⟨g, 0, none⟩) m cap) xs) {i c : Nat} {x y : α} {u : Value} (hi : xs[i]? = some x) (hc : c < n) (hy : enc y = (enc x).set c u) :
    RowE enc n e (w.setCell ⟨g, i * n + c, none⟩ u) base (.slice (some ⟨g, 0, none⟩) m cap) (xs.set i y) := by
  obtain ⟨rfl, h1, h2, h3, cur, hb, hs, ht⟩ := h.cells
  refine ⟨by rw [E.flat_length], .inr ⟨g, cap, cur.setIfInBounds (i * n + c) u, by rw [List.length_set], h1, ?_, by rw [List.length_set]; exact h2, h3, by rw [Array.size_setIfInBounds]; exact hs, ?_⟩⟩
  · rw [heap_setCell_same _ _ _ _ _ _ hb]
  · rw [List.length_set, Array.toList_setIfInBounds, List.take_set, ht, flat_set E hi hc hy]
/-- 'append' of records, of one or of many, onto a row of the call's own. -/
theorem wpList_append_rec (E : Enc enc n) {t : TypeId} (ht : Try.prog.underlying t = some (.slice e)) {z : Value} {bytes : Nat} (hz : (Try.prog.info? e).map (fun i => (i.zero, i.size, i.bytes)) = some (some z, n, bytes)) (hzs : z.cells.size = n) (hby : bytes ≤ 1000)
    {ops : Array Oper} {rest : List Oper} {o : Oper} {a : Act} {Q : Exit → Act → World → Prop} (w : World) (hgd : o.guard = none) (s x : Operand)
    (ho : o.op = .call { callee := .builtin .append, args := #[s, x], argTypes := #[t, t] }) (base : Nat) (v : Value) (xs : List α) (hs : a.eval s = v) (hown : RowE enc n e w base v xs)
    (ad : Addr) (m c : Nat) (ys : List α) (hx : a.eval x = .slice (some ad) m c) (hm : m = ys.length) (hk : ∀ j u, (ys.flatMap enc)[j]? = some u → w.cell? (ad.add j) = some u) (hn : xs.length ≤ 1000000) (hn' : ys.length ≤ 1000000) (hbase : base ≤ w.heap.size)
    (h : ∀ v' w', RowE enc n e w' base v' (xs ++ ys) → w.grownBy w' v.ownBlock → (v' = .slice none 0 0 ↔ v = .slice none 0 0 ∧ ys.length = 0) → (v'.ownBlock = v.ownBlock ∨ v'.ownBlock = some w.heap.size) → wpList Try.prog ops Q rest (a.put o.dst v') w') :
    wpList Try.prog ops Q (o :: rest) a w := by
  obtain ⟨i0, hi, hz0, hz1, hz2⟩ := info_parts hz
  subst hm
  have hb1 : (xs.length + ys.length) * bytes ≤ 2000000 * 1000 := Nat.mul_le_mul (by omega) hby
  refine wpList_append_own_at w hgd s x t ho base e i0 z n bytes ht hi hz0 hz1 hz2 hzs E.pos v xs.length _ hs hown ad ys.length c (ys.flatMap enc) hx (E.flat_length ys) hk (fun u hu => ?_) (by unfold maxLen; omega) (by omega) hbase
    (fun v' w' h1 h2 h3 h4 => h v' w' ?_ h2 h3 h4)
  · obtain ⟨y, _, hy⟩ := List.mem_flatMap.1 hu
    exact E.one y u hy
  · unfold RowE
    rw [List.length_append, List.flatMap_append]
    exact h1
end
end Go.Proofs.Ytbjoodjcpkimcaa
