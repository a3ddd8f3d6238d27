/- Sorting at most one element turns nothing. -/
import Derived.Test.YtbjoodjcpkimcaaM
namespace Go.Proofs.Ytbjoodjcpkimcaa
open Go.RowKit Go.Maps

set_option maxHeartbeats 400000 in
theorem insertion_short (A : Option Addr) (n c : Nat) (f : Value) (w : World) (hn : n ≤ 1) :
    Calls Try.prog 40 #[.slice A n c, .int .i64 0, .int .i64 n, f] w fun x w' => x = .returned (.tuple #[]) ∧ w' = w := by
  have h1 : decide ((1 : Int) < (n : Int)) = false := by simp; omega
  go_enter Try.func40, Try.ntmps40
  go_wp2
  refine wp_loop_rounds 1 ?_
  rw [rounds_succ]
  go_wp2
  go_end0
  exact ⟨rfl, rfl⟩

set_option maxHeartbeats 400000 in
theorem pdq_short (A : Option Addr) (n c : Nat) (l : Int) (f : Value) (w : World) (hn : n ≤ 1) :
    Calls Try.prog 36 #[.slice A n c, .int .i64 0, .int .i64 n, .int .i64 l, f] w fun x w' => x = .returned (.tuple #[]) ∧ w' = w := by
  have h1 : decide ((n : Int) ≤ 12) = true := by simp; omega
  go_enter Try.func36, Try.ntmps36
  go_wp2_with fail
  refine wp_loop_rounds 1 ?_
  rw [rounds_succ]
  go_wp2_with (go_at_call 40; refine (insertion_short A n c f w hn).mono ?_; rintro e w1 ⟨rfl, rfl⟩)
  exact bodyPost_ret (results_none rfl _ _ _) rfl ⟨rfl, rfl⟩

set_option maxRecDepth 100000 in
set_option maxHeartbeats 400000 in
theorem len64_any (n : Nat) (w : World) (hn : n ≤ 1) : Calls Try.prog 49 #[.int .u64 n] w fun x w' => (∃ l : Int, x = .returned (.int .i64 l)) ∧ w' = w := by
  obtain rfl | rfl : n = 0 ∨ n = 1 := by omega
  all_goals
    go_enter Try.func49, Try.ntmps49
    go_wp2
    go_ret
    exact ⟨⟨_, rfl⟩, rfl⟩
set_option maxHeartbeats 400000 in
theorem len_any_ (n : Nat) (w : World) (hn : n ≤ 1) : Calls Try.prog 37 #[.int .u64 n] w fun x w' => (∃ l : Int, x = .returned (.int .i64 l)) ∧ w' = w := by
  go_enter Try.func37, Try.ntmps37
  go_wp2_with (go_at_call 49; refine (len64_any n w hn).mono ?_; rintro e w1 ⟨⟨l, rfl⟩, rfl⟩)
  go_ret
  exact ⟨⟨_, rfl⟩, rfl⟩

set_option maxHeartbeats 400000 in
theorem sort_short (A : Option Addr) (n c : Nat) (f : Value) (w : World) (hn : n ≤ 1) :
    Calls Try.prog 30 #[.slice A n c, f] w fun x w' => x = .returned (.tuple #[]) ∧ w' = w := by
  go_enter Try.func30, Try.ntmps30
  go_wp2_with (first | (go_at_call 37; refine (len_any_ n w hn).mono ?_; rintro e w1 ⟨⟨l, rfl⟩, rfl⟩) | (go_at_call 36; refine (pdq_short A n c _ f _ hn).mono ?_; rintro e w1 ⟨rfl, rfl⟩))
  go_end0
  exact ⟨rfl, rfl⟩
end Go.Proofs.Ytbjoodjcpkimcaa
