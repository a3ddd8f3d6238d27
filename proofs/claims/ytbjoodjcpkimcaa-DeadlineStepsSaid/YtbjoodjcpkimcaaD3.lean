/- The monitor of deadlines: Run: who is over, in the order of coming. -/
import Derived.Test.YtbjoodjcpkimcaaD2
import Derived.Test.YtbjoodjcpkimcaaR
namespace Go.Proofs.Ytbjoodjcpkimcaa
open Go.RowKit Go.Maps Go.Sort

/-! ### storing a whole key into a block just laid -/
theorem setRow_alloc (w : World) (cs c : Array Value) (t : TypeId) : (w.alloc (.cells cs t)).setRow w.heap.size c = w.alloc (.cells c t) := by
  unfold World.setRow World.alloc
  simp only [World.mk.injEq, and_true]
  apply Array.ext_getElem?
  intro i
  rw [Array.getElem?_modify, Array.getElem?_push, Array.getElem?_push]
  by_cases h : i = w.heap.size
  · subst h; simp
  · rw [if_neg (fun e => h e.symm), if_neg h, if_neg h]
theorem setRow_alloc2 (w : World) (cs c : Array Value) (t : TypeId) (o : Obj) : ((w.alloc (.cells cs t)).alloc o).setRow w.heap.size c = (w.alloc (.cells c t)).alloc o := by
  unfold World.setRow World.alloc
  simp only [World.mk.injEq, and_true]
  apply Array.ext_getElem?
  intro i
  rw [Array.getElem?_modify, Array.getElem?_push, Array.getElem?_push, Array.getElem?_push, Array.getElem?_push]
  simp only [Array.size_push]
  by_cases h : i = w.heap.size
  · subst h; simp
  · rw [if_neg (fun e => h e.symm), if_neg h, if_neg h]
@[go_sem] theorem store_key (w : World) (cs : Array Value) (k : Key) (n : Nat) (hn : w.heap.size = n) (hcs : cs.size = 17) :
    (storeCells ⟨n, 0, none⟩ (kvl k)).run Try.prog (w.alloc (.cells cs 24)) = .ok () (w.alloc (.cells (kvs k) 24)) := by
  subst hn
  have h := run_storeCells_from (P := Try.prog) w.heap.size 24 (kvl k) 0 cs (w.alloc (.cells cs 24)) (heap_alloc_new w _) (by rw [kvl_length, hcs]) (kvl_one k)
  rw [h, setRow_alloc]; rfl
@[go_sem] theorem store_key2 (w : World) (cs : Array Value) (o : Obj) (k : Key) (n : Nat) (hn : w.heap.size = n) (hcs : cs.size = 17) :
    (storeCells ⟨n, 0, none⟩ (kvl k)).run Try.prog ((w.alloc (.cells cs 24)).alloc o) = .ok () ((w.alloc (.cells (kvs k) 24)).alloc o) := by
  subst hn
  have h := run_storeCells_from (P := Try.prog) w.heap.size 24 (kvl k) 0 cs ((w.alloc (.cells cs 24)).alloc o) (by rw [heap_alloc_old _ _ (by simp)]; exact heap_alloc_new w _) (by rw [kvl_length, hcs]) (kvl_one k)
  rw [h, setRow_alloc2]; rfl

theorem fold_set : ∀ (l : List Value) (n : Nat) (zs : Array Value), zs.size = n + l.length → List.foldl (fun cs (x : Value × Nat) => cs.setIfInBounds x.2 x.1) zs (l.zipIdx n) = (zs.toList.take n ++ l).toArray
  | [], n, zs, h => by
    simp at h
    rw [List.take_of_length_le (by simp; omega)]
    simp
  | v :: l, n, zs, h => by
    rw [List.zipIdx_cons, List.foldl_cons, fold_set l (n + 1) _ (by simp at h ⊢; omega)]
    congr 1
    simp at h
    apply List.ext_getElem?
    intro i
    simp only [Array.toList_setIfInBounds]
    by_cases h1 : i < n
    · rw [List.getElem?_append_left (by simp; omega), List.getElem?_append_left (by simp; omega), List.getElem?_take, List.getElem?_take, if_pos (by omega), if_pos h1, List.getElem?_set_ne (by omega)]
    · by_cases h2 : i = n
      · subst h2
        rw [List.getElem?_append_left (by simp; omega), List.getElem?_append_right (by simp; omega), List.getElem?_take, if_pos (by omega)]
        simp only [List.length_take, Array.length_toList]
        rw [show i - min i zs.size = 0 by omega, List.getElem?_set_self (by simp; omega)]
        rfl
      · rw [List.getElem?_append_right (by simp; omega), List.getElem?_append_right (by simp; omega)]
        simp only [List.length_take, List.length_set, Array.length_toList]
        rw [show i - min n zs.size = (i - min (n + 1) zs.size) + 1 by omega]
        simp
@[go_sem] theorem fold_key (zs : Array Value) (x : Key) (hz : zs.size = 17) : List.foldl (fun cs (x : Value × Nat) => cs.setIfInBounds x.2 x.1) zs (kvl x).zipIdx = kvs x := by
  rw [fold_set _ 0 _ (by rw [hz, kvl_length])]; rfl

/-! ### the order -/
set_option maxRecDepth 100000 in
set_option maxHeartbeats 400000 in
theorem order33 (x y : Key) (box g b : Nat) (L : List Ent) (W : World) (hbox : W.cell? ⟨box, 0, none⟩ = some (.pointer (some ⟨g, 0, none⟩))) (h1 : W.cell? ⟨g, 1, none⟩ = some (.map (some b)))
    (hb1 : box < W.heap.size) (hg1 : g < W.heap.size) (hbl : b < W.heap.size) (hF : mapF .u64 .u64 W b = some (entOf L, knownB L, L.length)) :
    Calls Try.prog 33 #[.agg (kvs x), .agg (kvs y), .pointer (some ⟨box, 0, none⟩)] W fun e w' => e = .returned (.int .i64 (cmpAt (fun k => (entOf L k).2) x y)) ∧ ∃ q os', w' = grow (W.drewN q) os' := by
  have hb2 : box < W.heap.size + 1 := by omega
  have hg2 : g < W.heap.size + 1 := by omega
  have hbl2 : b < W.heap.size + 1 := by omega
  unfold cmpAt
  by_cases h : (entOf L x).2 < (entOf L y).2
  · rw [if_pos h]
    go_enter Try.func33, Try.ntmps33
    go_wp2_with fail
    go_region
    go_wp2_with fail
    go_ret
    refine ⟨rfl, 1, #[.cells (kvs x) 24, .cells (kvs y) 24], ?_⟩
    rw [alloc_eq_grow, alloc_eq_grow, grow_grow]; rfl
  · rw [if_neg h]
    go_enter Try.func33, Try.ntmps33
    go_wp2_with fail
    go_region
    go_wp2_with fail
    go_ret
    refine ⟨rfl, 1, #[.cells (kvs x) 24, .cells (kvs y) 24], ?_⟩
    rw [alloc_eq_grow, alloc_eq_grow, grow_grow]; rfl
end Go.Proofs.Ytbjoodjcpkimcaa
