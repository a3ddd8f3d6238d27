/- The law InstanceNone, walked. -/
import Derived.Test.YtbjoodjcpkimcaaI4
import Derived.Deep.RegionHeld3
namespace Go.Proofs.Ytbjoodjcpkimcaa
open Go.RowKit Go.Maps

theorem ZeroAt.below {w w' : World} {g : Nat} (h : ZeroAt w g) (hb : Below w.heap.size w w') : ZeroAt w' g := by
  unfold ZeroAt
  rw [hb.block g (Array.getElem?_eq_some_iff.1 h).1]; exact h
theorem keyF_below {w w' : World} {b o : Nat} {k : Key} (h : keyF w b o = some k) (hlt : b < w.heap.size) (hb : Below w.heap.size w w') : keyF w' b o = some k := by
  rw [(bcellF hb).2.2.1 b o hlt]; exact h

/-- The program, its types' table a letter: for a tactic that would open every load of a long array. -/
noncomputable def withTypes (T : Array TypeInfo) : Program := { Try.prog with types := T }
theorem withTypes_eq : ∃ T, withTypes T = Try.prog := ⟨Try.prog.types, rfl⟩

/-- What holds of the world all along. -/
structure Inv36 (w w' : World) : Prop where
  below : Below w.heap.size w w'
  zero : ZeroAt w' (w.heap.size + 1)
  size : w.heap.size + 2 ≤ w'.heap.size
theorem keep36 {w w1 w2 : World} {k : Key} (hb : Below w1.heap.size w1 w2) (h : w1.rangeAt w.heap.size 0 (kvl k) ∧ Inv36 w w1) : w2.rangeAt w.heap.size 0 (kvl k) ∧ Inv36 w w2 :=
  have hk := h.1
  have hi := h.2
  ⟨keyF_some (keyF_below (keyF_eq hk) (by have := hi.size; omega) hb), ⟨below_below hi.below (by have := hi.size; omega) hb, hi.zero.below hb, by have := hi.size; have := hb.size; omega⟩⟩
theorem keepF {w w1 w2 : World} {k : Key} (hb : Below w1.heap.size w1 w2) (h : keyF w1 w.heap.size 0 = some k ∧ Inv36 w w1) : keyF w2 w.heap.size 0 = some k ∧ Inv36 w w2 :=
  have h := keep36 hb ⟨keyF_some h.1, h.2⟩
  ⟨keyF_eq h.1, h.2⟩
theorem start36 (w : World) (k : Key) : ((w.alloc (.cells (kvs k) 24)).alloc (.cells #[.int .i64 0, .int .u64 0, .map none] 48)).drew.rangeAt w.heap.size 0 (kvl k) ∧ Inv36 w ((w.alloc (.cells (kvs k) 24)).alloc (.cells #[.int .i64 0, .int .u64 0, .map none] 48)).drew :=
  ⟨keyF_some (by rw [keyF_drew, keyF_alloc_past _ _ _ _ (by simp), keyF_alloc_at _ _ _ rfl]), ⟨below2 _ _ _, heap_alloc2_new w _ _, by simp⟩⟩
theorem do_new0 (g bm : Nat) (op : Int) (k : Key) (w : World) (hr : RegAt w g bm 0 0 []) :
    Calls Try.prog 13 #[.pointer (some ⟨g, 0, none⟩), .int .i64 op, .agg (kvs k)] w fun x w' => x = .returned (.int .i64 (mayF op false 0 0)) ∧ Below w.heap.size w w' :=
  do_bad g bm op 0 0 k [] w hr _ rfl (may_zero_ne op)

set_option maxRecDepth 100000 in
set_option maxHeartbeats 4000000 in
theorem none_any (op : Int) (k : Key) (w : World) : Calls Try.prog 5 #[.int .i64 op, .agg (kvs k)] w fun x w' => x = .returned (.bool true) ∧ Below w.heap.size w w' := by
  have hst := start36 w k
  have hst' := And.intro (keyF_eq hst.1) hst.2
  clear hst
  go_enter Try.func5, Try.ntmps5
  go_wp2_with fail
  simp only [List.append_eq, List.cons_append, List.nil_append]
  obtain ⟨T, hP⟩ := withTypes_eq
  rw [← hP]
  go_region_held3 (fun w' => keyF w' w.heap.size 0 = some k ∧ Inv36 w w') (first | exact hst' | assumption | exact keepF (by assumption) (by assumption))
    (first
      | (go_at_call 13; (try rw [hP]); (with_reducible refine (do_nil op k _).mono ?_); rintro e w' ⟨rfl, hb⟩)
      | (go_at_call 13; (try rw [hP]); (with_reducible refine (do_zero (w.heap.size + 1) op k _ (And.right (by assumption : keyF _ w.heap.size 0 = some k ∧ Inv36 w _)).zero).mono ?_); rintro e w' ⟨rfl, hb⟩)
      | (go_at_call 13; (try rw [hP]); (with_reducible refine (do_new0 _ _ op k _ (by assumption)).mono ?_); rintro e w' ⟨rfl, hb⟩)
      | (go_at_call 12; (try rw [hP]); (with_reducible refine (may_nil op k _).mono ?_); rintro e w' ⟨rfl, hb⟩)
      | (go_at_call 12; (try rw [hP]); (with_reducible refine (may_zero (w.heap.size + 1) op k _ (And.right (by assumption : keyF _ w.heap.size 0 = some k ∧ Inv36 w _)).zero).mono ?_); rintro e w' ⟨rfl, hb⟩)
      | (go_at_call 16; (try rw [hP]); (with_reducible refine (state_nil k _).mono ?_); rintro e w' ⟨rfl, hb⟩)
      | (go_at_call 16; (try rw [hP]); (with_reducible refine (state_zero (w.heap.size + 1) k _ (And.right (by assumption : keyF _ w.heap.size 0 = some k ∧ Inv36 w _)).zero).mono ?_); rintro e w' ⟨rfl, hb⟩)
      | (go_at_call 15; (try rw [hP]); (with_reducible refine (len_zero (w.heap.size + 1) _ (And.right (by assumption : keyF _ w.heap.size 0 = some k ∧ Inv36 w _)).zero).mono ?_); rintro e w' ⟨rfl, rfl⟩)
      | (go_at_call 14; (try rw [hP]); (with_reducible refine (keys_zero (w.heap.size + 1) _ (And.right (by assumption : keyF _ w.heap.size 0 = some k ∧ Inv36 w _)).zero).mono ?_); rintro e w' ⟨rfl, hb⟩)
      | (go_at_call 15; (try rw [hP]); (with_reducible refine (len_nil _).mono ?_); rintro e w' ⟨rfl, rfl⟩)
      | (go_at_call 14; (try rw [hP]); (with_reducible refine (keys_nil _).mono ?_); rintro e w' ⟨rfl, hb⟩)
      | (go_at_call 9; (try rw [hP]); (with_reducible refine (awake36 _).mono ?_); rintro e w' ⟨rfl, hb⟩)
      | (go_at_call 10; (try rw [hP]); (with_reducible refine (new_any 0 _).mono ?_); rintro e w' ⟨g, bm, rfl, hg, hbm, hb, hr⟩; have hr : RegAt _ g bm 0 0 [] := hr)
      )
  (try rw [hP])
  have hI : Inv36 w _ := And.right (by assumption : keyF _ w.heap.size 0 = some k ∧ Inv36 w _)
  have hB := hI.below
  clear hI
  go_wp2
  go_ret
  exact ⟨rfl, hB⟩
end Go.Proofs.Ytbjoodjcpkimcaa
