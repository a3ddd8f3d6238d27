/- DeadlineSteps: the monitor and the document's answer, side by side in memory. -/
import Derived.Test.YtbjoodjcpkimcaaH2
namespace Go.Proofs.Ytbjoodjcpkimcaa
open Go.RowKit Go.Maps Go.Sort

structure Both (w wr : World) (p : Int) (om : Option Nat) (next missed : Int) (L : List Ent) (v : Value) (mr : Int) (xs : List Watch) : Prop where
  mon : MonAt wr w.heap.size p om next missed L
  box : wr.heap[w.heap.size + 1]? = some (.cells #[.int .i64 p, v, .int .u64 mr] 55 (0, 0))
  row : RowW wr (w.heap.size + 2) v xs
  below : Below w.heap.size w wr
  size : w.heap.size + 2 ≤ wr.heap.size
  om : ∀ b, om = some b → w.heap.size + 2 ≤ b
section
variable {w wr w' : World} {p next missed mr : Int} {om : Option Nat} {L : List Ent} {v : Value} {xs : List Watch}
theorem Both.grown (h : Both w wr p om next missed L v mr xs) (hb : Below wr.heap.size wr w') : Both w w' p om next missed L v mr xs :=
  ⟨h.mon.below hb, (hb.block _ (by have := h.size; omega)).trans h.box, h.row.below hb, below_below h.below h.below.size hb, Nat.le_trans h.size hb.size, h.om⟩
theorem Both.apart (h : Both w wr p om next missed L v mr xs) : ∀ j, v.ownBlock = some j → ¬ monS w.heap.size om j := by
  intro j hj
  have h1 := h.row.base_le hj
  rintro (e | e)
  · omega
  · have hm := h.mon.map
    rw [← e] at hm
    obtain ⟨D, ⟨es, clock, hb, _⟩, _⟩ := (show MapIs .u64 .u64 wr j L from hm)
    rcases h.row.2 with ⟨rfl, _⟩ | ⟨g, cap, cur, rfl, _, h2, _⟩
    · cases hj
    · cases hj
      rw [hb] at h2
      cases h2
theorem Both.monStep (h : Both w wr p om next missed L v mr xs) {om' : Option Nat} {n' m' : Int} {L' : List Ent} (hu : Upd (monS w.heap.size om) wr w') (hM : MonAt w' w.heap.size p om' n' m' L') (hom : ∀ b, om' = some b → w.heap.size + 2 ≤ b) : Both w w' p om' n' m' L' v mr xs := by
  have hs := h.size
  refine ⟨hM, ?_, h.row.kept hu h.apart, below_upd h.below h.below.size hu (fun j hj => ?_), Nat.le_trans hs hu.size, hom⟩
  · rw [hu.block _ (by omega) (fun e => by rcases e with e | e; omega; have := h.om _ e.symm; omega)]; exact h.box
  · rcases hj with rfl | e
    · exact Nat.le_refl _
    · have := h.om j e.symm; omega
/-- The reference's monitor stored anew. -/
def store3 (W : World) (b : Nat) (p : Int) (v : Value) (m : Int) : World := ((W.setCell ⟨b, 0, none⟩ (.int .i64 p)).setCell ⟨b, 1, none⟩ v).setCell ⟨b, 2, none⟩ (.int .u64 m)
theorem Both.refStep (h : Both w wr p om next missed L v mr xs) {v' : Value} {m' : Int} {xs' : List Watch} (hb : Below wr.heap.size wr w') (hr : RowW w' wr.heap.size v' xs') :
    Both w (store3 w' (w.heap.size + 1) p v' m') p om next missed L v' m' xs' := by
  have hs := h.size
  have hg := h.grown hb
  have hU : Upd (fun j => j = w.heap.size + 1) w' (store3 w' (w.heap.size + 1) p v' m') := ⟨rfl, rfl, rfl, by simp [store3], fun j hj hn => by
    unfold store3
    rw [heap_setCell_other _ _ _ _ hn, heap_setCell_other _ _ _ _ hn, heap_setCell_other _ _ _ _ hn]⟩
  refine ⟨⟨?_, ?_⟩, ?_, ?_, ?_, ?_, h.om⟩
  · rw [hU.block _ (by have := hg.size; omega) (by omega)]; exact hg.mon.blk
  · have hm := hg.mon.map
    unfold OptMap at hm ⊢
    cases hom : om with
    | none => rw [hom] at hm; exact hm
    | some b =>
      rw [hom] at hm
      have := h.om b hom
      exact hm.congr (hU.block b hm.lt (by omega))
  · unfold store3
    have e1 := heap_setCell_same _ _ 0 _ _ (.int .i64 p) hg.box
    have e2 := heap_setCell_same _ _ 1 _ _ v' e1
    have e3 := heap_setCell_same _ _ 2 _ _ (.int .u64 m') e2
    rw [e3]; rfl
  · exact (hr.kept hU (fun j hj e => by have := hr.base_le hj; omega)).lower (by omega)
  · exact below_upd hg.below hg.below.size hU (fun j e => by omega)
  · have := hU.size; have := hg.size; omega
/-- What the walk reads. -/
theorem Both.cells (h : Both w wr p om next missed L v mr xs) : wr.cell? ⟨w.heap.size + 1, 0, none⟩ = some (.int .i64 p) ∧ wr.cell? ⟨w.heap.size + 1, 1, none⟩ = some v ∧ wr.cell? ⟨w.heap.size + 1, 2, none⟩ = some (.int .u64 mr) ∧
    (∀ o, wr.frozen? ⟨w.heap.size + 1, o, none⟩ = false) ∧ w.heap.size + 1 < wr.heap.size :=
  box_cells h.box
end
/-- Ahead of each round. -/
structure SyncAt (w wr : World) (p : Int) (i : Nat) (om : Option Nat) (next missed : Int) (L : List Ent) (A : Option Addr) (cap : Nat) : Prop where
  both : Both w wr p om next missed L (.slice A L.length cap) missed (L.map pr)
  ord : Ordered L next
  n0 : 0 ≤ next
  n1 : next ≤ i
  m0 : 0 ≤ missed
  m1 : missed ≤ 200 * i
  len : L.length ≤ i
  vals : ∀ e ∈ L, 0 ≤ e.2.1 ∧ e.2.1 < 18446744073709551616
theorem vals_put {L : List Ent} {k : Key} {now at_ : Int} (h : ∀ e ∈ L, 0 ≤ e.2.1 ∧ e.2.1 < 18446744073709551616) (n0 : 0 ≤ now) (n1 : now < 18446744073709551616) : ∀ e ∈ putE L k (now, at_), 0 ≤ e.2.1 ∧ e.2.1 < 18446744073709551616 := by
  unfold putE
  split
  · intro e he
    obtain ⟨z, hz, rfl⟩ := List.mem_map.1 he
    split
    · exact ⟨n0, n1⟩
    · exact h z hz
  · intro e he
    rcases List.mem_append.1 he with he | he
    · exact h e he
    · simp at he; subst he; exact ⟨n0, n1⟩
theorem vals_hit {L : List Ent} {now p : Int} (h : ∀ e ∈ L, 0 ≤ e.2.1 ∧ e.2.1 < 18446744073709551616) (n0 : 0 ≤ now) (n1 : now < 18446744073709551616) : ∀ e ∈ hits L now p, 0 ≤ e.2.1 ∧ e.2.1 < 18446744073709551616 := by
  unfold hits
  split
  · exact h
  · intro e he
    obtain ⟨z, hz, rfl⟩ := List.mem_map.1 he
    split
    · exact ⟨n0, n1⟩
    · exact h z hz
theorem hits_length (L : List Ent) (now p : Int) : (hits L now p).length = L.length := by unfold hits; split <;> simp [hitL]
theorem hits_ordered {L : List Ent} {next : Int} (h : Ordered L next) (now p : Int) : Ordered (hits L now p) next := by unfold hits; split; exact h; exact h.hit now p
theorem outs_length (L : List Ent) (now p : Int) : (outs L now p).length ≤ L.length := by
  rw [pr_outs]; have := routs_le now p (L.map pr); simpa using this
end Go.Proofs.Ytbjoodjcpkimcaa
