/- The registry of instances: New, Len, State; a registry that is nil; one that no call made. -/
import Derived.Test.YtbjoodjcpkimcaaI2
import Derived.Test.YtbjoodjcpkimcaaS
namespace Go.Proofs.Ytbjoodjcpkimcaa
open Go.RowKit Go.Maps

/-- A registry that no call made lies at block g. -/
def ZeroAt (w : World) (g : Nat) : Prop := w.heap[g]? = some (.cells #[.int .i64 0, .int .u64 0, .map none] 48 (0, 0))
theorem zeroCells {w : World} {g : Nat} (h : ZeroAt w g) : w.cell? ⟨g, 0, none⟩ = some (.int .i64 0) ∧ w.cell? ⟨g, 1, none⟩ = some (.int .u64 0) ∧ w.cell? ⟨g, 2, none⟩ = some (.map none) ∧ g < w.heap.size :=
  ⟨by rw [cell_of_row w g 0 _ _ _ h]; rfl, by rw [cell_of_row w g 1 _ _ _ h]; rfl, by rw [cell_of_row w g 2 _ _ _ h]; rfl, (Array.getElem?_eq_some_iff.1 h).1⟩

/-! ### New -/
def NewDid (w : World) (n : Int) (x : Ending) (w' : World) : Prop := ∃ g bm, x = .returned (.pointer (some ⟨g, 0, none⟩)) ∧ w.heap.size ≤ g ∧ w.heap.size ≤ bm ∧ Below w.heap.size w w' ∧ RegAt w' g bm (max n 0) 0 []
theorem reg_new (w : World) (n : Int) : RegAt ((w.alloc (.map #[] 0)).alloc (.cells #[.int .i64 n, .int .u64 0, .map (some w.heap.size)] 48)) (w.heap.size + 1) w.heap.size n 0 [] :=
  ⟨heap_alloc2_new w _ _, (MapIs.made w).congr (heap_alloc_old _ _ (by simp))⟩
set_option maxHeartbeats 400000 in
theorem new_any (n : Int) (w : World) : Calls Try.prog 10 #[.int .i64 n] w (NewDid w n) := by
  have hmm := @run_makeMap Try.prog
  by_cases h : n < 0
  · go_enter Try.func10, Try.ntmps10
    go_wp2
    go_ret
    refine ⟨_, _, rfl, by omega, Nat.le_refl _, (((Below.refl _ _).alloc (Nat.le_refl _) _).alloc (by simp) _), ?_⟩
    rw [show max n 0 = 0 from by omega]
    exact reg_new w 0
  · go_enter Try.func10, Try.ntmps10
    go_wp2
    go_ret
    refine ⟨_, _, rfl, by omega, Nat.le_refl _, (((Below.refl _ _).alloc (Nat.le_refl _) _).alloc (by simp) _), ?_⟩
    rw [show max n 0 = n from by omega]
    exact reg_new w n

/-! ### Len, State -/
set_option maxHeartbeats 400000 in
theorem len_nil (w : World) : Calls Try.prog 15 #[.pointer none] w fun x w' => x = .returned (.int .i64 0) ∧ w = w' := by
  go_enter Try.func15, Try.ntmps15
  go_wp2
  go_ret
  exact ⟨rfl, rfl⟩
set_option maxHeartbeats 400000 in
theorem len_zero (g : Nat) (w : World) (h : ZeroAt w g) : Calls Try.prog 15 #[.pointer (some ⟨g, 0, none⟩)] w fun x w' => x = .returned (.int .i64 0) ∧ w = w' := by
  obtain ⟨_, _, h2, _⟩ := zeroCells h
  clear h
  go_enter Try.func15, Try.ntmps15
  go_wp2
  go_ret
  exact ⟨rfl, rfl⟩
set_option maxHeartbeats 400000 in
theorem len_any (g bm : Nat) (most next : Int) (L : List Ent) (w : World) (h : RegAt w g bm most next L) : Calls Try.prog 15 #[.pointer (some ⟨g, 0, none⟩)] w fun x w' => x = .returned (.int .i64 L.length) ∧ w = w' := by
  obtain ⟨_, _, h2, _, _, hF⟩ := regCells h
  clear h
  go_enter Try.func15, Try.ntmps15
  go_wp2
  go_ret
  exact ⟨rfl, rfl⟩
set_option maxHeartbeats 400000 in
theorem state_nil (k : Key) (w : World) : Calls Try.prog 16 #[.pointer none, .agg (kvs k)] w fun x w' => x = .returned (.int .i64 0) ∧ Below w.heap.size w w' := by
  go_enter Try.func16, Try.ntmps16
  go_wp2
  go_ret
  exact ⟨rfl, (Below.refl _ _).alloc (Nat.le_refl _) _⟩
set_option maxHeartbeats 400000 in
theorem state_zero (g : Nat) (k : Key) (w : World) (h : ZeroAt w g) : Calls Try.prog 16 #[.pointer (some ⟨g, 0, none⟩), .agg (kvs k)] w fun x w' => x = .returned (.int .i64 0) ∧ Below w.heap.size w w' := by
  obtain ⟨_, _, h2, hgl⟩ := zeroCells h
  clear h
  go_enter Try.func16, Try.ntmps16
  go_wp2
  go_quiet (fail)
  go_wp2
  go_ret
  exact ⟨rfl, below_dN ((Below.refl _ _).alloc (Nat.le_refl _) _) _⟩
set_option maxHeartbeats 400000 in
theorem state_any (g bm : Nat) (most next : Int) (k : Key) (L : List Ent) (w : World) (h : RegAt w g bm most next L) : Calls Try.prog 16 #[.pointer (some ⟨g, 0, none⟩), .agg (kvs k)] w fun x w' => x = .returned (.int .i64 (entOf L k).1) ∧ Below w.heap.size w w' := by
  obtain ⟨_, _, h2, hgl, hbl, hF⟩ := regCells h
  clear h
  go_enter Try.func16, Try.ntmps16
  go_wp2
  go_quiet (fail)
  go_wp2
  go_ret
  exact ⟨rfl, below_dN ((Below.refl _ _).alloc (Nat.le_refl _) _) _⟩

/-! ### May, Do of one that no call made -/
set_option maxHeartbeats 400000 in
theorem may_zero (g : Nat) (op : Int) (k : Key) (w : World) (h : ZeroAt w g) :
    Calls Try.prog 12 #[.pointer (some ⟨g, 0, none⟩), .int .i64 op, .agg (kvs k)] w fun e w' => e = .returned (.int .i64 (mayF op false 0 0)) ∧ Below w.heap.size w w' := by
  obtain ⟨h0, _, h2, hgl⟩ := zeroCells h
  clear h
  by_cases h1 : op = 1
  · subst h1
    rw [show mayF 1 false 0 0 = 17 from by simp [mayF]]
    go_enter Try.func12, Try.ntmps12
    go_wp2
    go_region
    go_wp2
    go_quiet (fail)
    go_wp2
    go_ret
    first | exact ⟨rfl, below_dN (below2 _ _ _) _⟩ | exact ⟨rfl, below2n _ _ _ _⟩
  · by_cases h2 : op = 2
    · subst h2
      rw [show mayF 2 false 0 0 = 18 from by simp [mayF]]
      go_enter Try.func12, Try.ntmps12
      go_wp2
      go_region
      go_wp2
      go_ret
      exact ⟨rfl, below2 _ _ _⟩
    · by_cases h3 : op = 3
      · subst h3
        rw [show mayF 3 false 0 0 = 18 from by simp [mayF]]
        go_enter Try.func12, Try.ntmps12
        go_wp2
        go_region
        go_wp2
        go_ret
        exact ⟨rfl, below2 _ _ _⟩
      · rw [show mayF op false 0 0 = 4 from by simp [mayF, h1, h2, h3]]
        have g1 : (op != 1) = true := by simpa using h1
        have g2 : (op != 2) = true := by simpa using h2
        have g3 : (op != 3) = true := by simpa using h3
        clear h1 h2 h3
        go_enter Try.func12, Try.ntmps12
        go_wp2
        go_region
        go_wp2
        go_ret
        exact ⟨rfl, below2 _ _ _⟩
theorem may_zero_ne (op : Int) : (mayF op false 0 0 != 0) = true := by
  unfold mayF
  by_cases h1 : op = 1 <;> by_cases h2 : op = 2 <;> by_cases h3 : op = 3 <;> simp_all
set_option maxHeartbeats 400000 in
theorem do_zero (g : Nat) (op : Int) (k : Key) (w : World) (h : ZeroAt w g) :
    Calls Try.prog 13 #[.pointer (some ⟨g, 0, none⟩), .int .i64 op, .agg (kvs k)] w fun x w' => x = .returned (.int .i64 (mayF op false 0 0)) ∧ Below w.heap.size w w' := by
  have hne := may_zero_ne op
  have HM := Lib.hid (may_zero g op k (w.alloc (.cells (kvs k) 24)) (by unfold ZeroAt; rw [heap_alloc_old]; exact h; exact (Array.getElem?_eq_some_iff.1 h).1))
  clear h
  generalize mayF op false 0 0 = e at *
  go_enter Try.func13, Try.ntmps13
  go_wp2_with (go_at_call 12; refine HM.out.mono ?_; rintro e w1 ⟨rfl, hb⟩)
  go_ret
  exact ⟨rfl, ((Below.refl _ _).alloc (Nat.le_refl _) _).trans (hb.mono (by simp))⟩

/-! ### Keys -/
set_option maxHeartbeats 400000 in
theorem keys_nil (w : World) : Calls Try.prog 14 #[.pointer none] w fun x w' => x = .returned (.slice none 0 0) ∧ Below w.heap.size w w' := by
  go_enter Try.func14, Try.ntmps14
  go_wp2
  go_ret
  exact ⟨rfl, (Below.refl _ _).alloc (Nat.le_refl _) _⟩
set_option maxHeartbeats 400000 in
theorem keys_zero (g : Nat) (w : World) (h : ZeroAt w g) : Calls Try.prog 14 #[.pointer (some ⟨g, 0, none⟩)] w fun x w' => x = .returned (.slice none 0 0) ∧ Below w.heap.size w w' := by
  obtain ⟨_, _, h2, hgl⟩ := zeroCells h
  clear h
  have hrg := run_range_nilMap (P := Try.prog) (w.alloc (.cells #[.pointer (some ⟨g, 0, none⟩)] 26)) 46 24 76 u46
  have hnx : ∀ ty, (Instr.next (.pointer (some ⟨(w.alloc (.cells #[.pointer (some ⟨g, 0, none⟩)] 26)).heap.size, 0, none⟩)) false ty).run Try.prog ((w.alloc (.cells #[.pointer (some ⟨g, 0, none⟩)] 26)).alloc (.mapIter none 0 #[] 0)) = _ := fun ty => run_next_nilMap _ ty 0 0 #[]
  simp only [World.size_alloc] at hrg hnx
  go_enter Try.func14, Try.ntmps14
  go_wp2_with fail
  refine wp_loop_rounds 1 ?_
  rw [rounds_succ]
  go_wp2_with (go_at_call 30; refine (sort_short none 0 0 _ _ (by omega)).mono ?_; rintro e w1 ⟨rfl, rfl⟩)
  go_ret
  exact ⟨rfl, (((Below.refl _ _).alloc (Nat.le_refl _) _).alloc (by simp) _)⟩
end Go.Proofs.Ytbjoodjcpkimcaa
