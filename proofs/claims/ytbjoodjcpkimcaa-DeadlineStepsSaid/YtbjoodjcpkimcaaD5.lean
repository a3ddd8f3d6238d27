/- The monitor of deadlines: Run at every monitor; the example. -/
import Derived.Test.YtbjoodjcpkimcaaD4
namespace Go.Proofs.Ytbjoodjcpkimcaa
open Go.RowKit Go.Maps Go.Sort

set_option maxHeartbeats 400000 in
theorem run_nil (now : Int) (w : World) : Calls Try.prog 26 #[.pointer none, .int .u64 now] w fun x w' => x = .returned (.slice none 0 0) ∧ Below w.heap.size w w' := by
  go_enter Try.func26, Try.ntmps26
  go_wp2_with fail
  go_ret
  exact ⟨rfl, (Below.refl _ _).alloc (Nat.le_refl _) _⟩
set_option maxHeartbeats 400000 in
theorem run_idle (g : Nat) (om : Option Nat) (p next missed now : Int) (L : List Ent) (w : World) (hr : MonAt w g p om next missed L) (hp : p < 1) :
    Calls Try.prog 26 #[.pointer (some ⟨g, 0, none⟩), .int .u64 now] w fun x w' => x = .returned (.slice none 0 0) ∧ Below w.heap.size w w' := by
  obtain ⟨h0, h1, h2, h3, hgl⟩ := monCells hr
  clear hr
  have hpd : decide (p < 1) = true := by simp; omega
  go_enter Try.func26, Try.ntmps26
  go_wp2_with fail
  go_ret
  exact ⟨rfl, (Below.refl _ _).alloc (Nat.le_refl _) _⟩
set_option maxHeartbeats 400000 in
theorem run_empty (g : Nat) (p next missed now : Int) (w : World) (hr : MonAt w g p none next missed []) (hp : 1 ≤ p) :
    Calls Try.prog 26 #[.pointer (some ⟨g, 0, none⟩), .int .u64 now] w fun x w' => x = .returned (.slice none 0 0) ∧ Below w.heap.size w w' := by
  obtain ⟨h0, h1, h2, h3, hgl⟩ := monCells hr
  clear hr
  have hpd : decide (p < 1) = false := by simp; omega
  have hrg := run_range_nilMap (P := Try.prog) (w.alloc (.cells #[.pointer (some ⟨g, 0, none⟩)] 51)) 71 24 81 u71
  have hnx : ∀ ty, (Instr.next (.pointer (some ⟨(w.alloc (.cells #[.pointer (some ⟨g, 0, none⟩)] 51)).heap.size, 0, none⟩)) false ty).run Try.prog ((w.alloc (.cells #[.pointer (some ⟨g, 0, none⟩)] 51)).alloc (.mapIter none 0 #[] 0)) = _ := fun ty => run_next_nilMap _ ty 0 0 #[]
  simp only [World.size_alloc] at hrg hnx
  go_enter Try.func26, Try.ntmps26
  go_wp2_with fail
  refine wp_loop_rounds 1 ?_
  rw [rounds_succ]
  go_wp2_with (go_at_call 30; refine (sort_short none 0 0 _ _ (by omega)).mono ?_; rintro e w1 ⟨rfl, rfl⟩)
  refine wp_loop_rounds 1 ?_
  rw [rounds_succ]
  go_wp2_with fail
  go_ret
  exact ⟨rfl, (((Below.refl _ _).alloc (Nat.le_refl _) _).alloc (by simp) _)⟩
end Go.Proofs.Ytbjoodjcpkimcaa
