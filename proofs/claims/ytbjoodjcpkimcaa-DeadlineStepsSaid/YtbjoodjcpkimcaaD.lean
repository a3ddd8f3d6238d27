/- The monitor of deadlines: the clock; New, Seen, Gone, Missed, Len. -/
import Derived.Test.YtbjoodjcpkimcaaI4
namespace Go.Proofs.Ytbjoodjcpkimcaa
open Go.RowKit Go.Maps

/-! ### the clock -/
def ageF (now then_ : Int) : Int := if now ≤ then_ then 0 else now - then_
def overF (now then_ p : Int) : Bool := decide (max p 0 ≤ ageF now then_)
set_option maxHeartbeats 400000 in
theorem beyond_int (a : Int) (w : World) (h0 : 0 ≤ a) (h1 : a < 9223372036854775808) : Calls Try.prog 35 #[.int .i64 a, .int .i64 0] w fun x w' => x = .returned (.int .i64 a) ∧ w = w' := by
  by_cases h : a ≤ 0
  · obtain rfl : a = 0 := by omega
    go_enter Try.func35, Try.ntmps35
    go_wp2
    go_ret
    exact ⟨rfl, rfl⟩
  · go_enter Try.func35, Try.ntmps35
    go_wp2
    go_ret
    exact ⟨by simp, rfl⟩
set_option maxHeartbeats 400000 in
theorem beyond_u64 (a b : Int) (w : World) (a0 : 0 ≤ a) (a1 : a < 18446744073709551616) (b0 : 0 ≤ b) (b1 : b < 18446744073709551616) :
    Calls Try.prog 39 #[.int .u64 a, .int .u64 b] w fun x w' => x = .returned (.int .u64 (ageF a b)) ∧ w = w' := by
  unfold ageF
  by_cases h : a ≤ b
  · rw [if_pos h]
    go_enter Try.func39, Try.ntmps39
    go_wp2
    go_ret
    exact ⟨rfl, rfl⟩
  · rw [if_neg h]
    go_enter Try.func39, Try.ntmps39
    go_wp2
    go_ret
    exact ⟨rfl, rfl⟩
set_option maxHeartbeats 400000 in
theorem age_any (a b : Int) (w : World) (a0 : 0 ≤ a) (a1 : a < 18446744073709551616) (b0 : 0 ≤ b) (b1 : b < 18446744073709551616) :
    Calls Try.prog 34 #[.int .u64 a, .int .u64 b] w fun x w' => x = .returned (.int .u64 (ageF a b)) ∧ w = w' := by
  go_enter Try.func34, Try.ntmps34
  go_wp2_with (go_at_call 39; refine (beyond_u64 a b w a0 a1 b0 b1).mono ?_; rintro e w1 ⟨rfl, rfl⟩)
  go_ret
  exact ⟨rfl, rfl⟩
theorem ageF_dom (a b : Int) (a0 : 0 ≤ a) (a1 : a < 18446744073709551616) (b0 : 0 ≤ b) : 0 ≤ ageF a b ∧ ageF a b < 18446744073709551616 := by
  unfold ageF; split <;> omega
set_option maxHeartbeats 400000 in
theorem over_any (a b p : Int) (w : World) (a0 : 0 ≤ a) (a1 : a < 18446744073709551616) (b0 : 0 ≤ b) (b1 : b < 18446744073709551616) (p0 : -9223372036854775808 ≤ p) (p1 : p < 9223372036854775808) :
    Calls Try.prog 29 #[.int .u64 a, .int .u64 b, .int .i64 p] w fun x w' => x = .returned (.bool (overF a b p)) ∧ w = w' := by
  have hd := ageF_dom a b a0 a1 b0
  unfold overF
  generalize hx : ageF a b = x at *
  obtain ⟨q, rfl⟩ : ∃ q, max p 0 = q := ⟨_, rfl⟩
  by_cases hp : p < 0
  · rw [show max p 0 = 0 from by omega]
    go_enter Try.func29, Try.ntmps29
    go_wp2_with (first | (go_at_call 34; refine (age_any a b _ a0 a1 b0 b1).mono ?_; rw [hx]; rintro e w1 ⟨rfl, rfl⟩) | (go_at_call 35; refine (beyond_int 0 _ (by omega) (by omega)).mono ?_; rintro e w1 ⟨rfl, rfl⟩))
    go_ret
    exact ⟨by simp [hd.1], rfl⟩
  · rw [show max p 0 = p from by omega]
    go_enter Try.func29, Try.ntmps29
    go_wp2_with (first | (go_at_call 34; refine (age_any a b _ a0 a1 b0 b1).mono ?_; rw [hx]; rintro e w1 ⟨rfl, rfl⟩) | (go_at_call 35; refine (beyond_int p _ (by omega) (by omega)).mono ?_; rintro e w1 ⟨rfl, rfl⟩))
    go_ret
    exact ⟨by simp, rfl⟩

/-! ### a monitor in memory -/
/-- What the map's cell tells. -/
def OptMap (w : World) (om : Option Nat) (L : List Ent) : Prop := match om with | some b => MapIs .u64 .u64 w b L | none => L = []
/-- A monitor lies at block g: its map's block, if it has one, is bm. -/
structure MonAt (w : World) (g : Nat) (p : Int) (om : Option Nat) (next missed : Int) (L : List Ent) : Prop where
  blk : w.heap[g]? = some (.cells #[.int .i64 p, .map om, .int .u64 next, .int .u64 missed] 73 (0, 0))
  map : OptMap w om L
theorem monCells {w : World} {g : Nat} {om : Option Nat} {p next missed : Int} {L : List Ent} (h : MonAt w g p om next missed L) :
    w.cell? ⟨g, 0, none⟩ = some (.int .i64 p) ∧ w.cell? ⟨g, 1, none⟩ = some (.map om) ∧ w.cell? ⟨g, 2, none⟩ = some (.int .u64 next) ∧ w.cell? ⟨g, 3, none⟩ = some (.int .u64 missed) ∧ g < w.heap.size := by
  have hb := h.blk
  refine ⟨by rw [cell_of_row w g 0 _ _ _ hb]; rfl, by rw [cell_of_row w g 1 _ _ _ hb]; rfl, by rw [cell_of_row w g 2 _ _ _ hb]; rfl, by rw [cell_of_row w g 3 _ _ _ hb]; rfl, (Array.getElem?_eq_some_iff.1 hb).1⟩
theorem monFroz {w : World} {g : Nat} {om : Option Nat} {p next missed : Int} {L : List Ent} (h : MonAt w g p om next missed L) (o : Nat) : w.frozen? ⟨g, o, none⟩ = false :=
  frozen_of_row w g o _ _ h.blk
theorem MonAt.below {w W : World} {g : Nat} {om : Option Nat} {p next missed : Int} {L : List Ent} (h : MonAt w g p om next missed L) (hb : Below w.heap.size w W) : MonAt W g p om next missed L := by
  refine ⟨(hb.block g (Array.getElem?_eq_some_iff.1 h.blk).1).trans h.blk, ?_⟩
  have hm := h.map
  cases om with
  | none => exact hm
  | some b => exact MapIs.congr hm (hb.block b (MapIs.lt hm))
theorem MonAt.lt {w : World} {g : Nat} {om : Option Nat} {p next missed : Int} {L : List Ent} (h : MonAt w g p om next missed L) : g < w.heap.size := (Array.getElem?_eq_some_iff.1 h.blk).1
theorem MonAt.ne {w : World} {g b : Nat} {p next missed : Int} {L : List Ent} (h : MonAt w g p (some b) next missed L) : g ≠ b := by
  rintro rfl
  obtain ⟨D, ⟨es, clock, hb, _⟩, _⟩ := h.map
  rw [h.blk] at hb
  cases hb

/-! ### New, Missed, Len -/
set_option maxHeartbeats 400000 in
theorem mnew_any (n : Int) (w : World) : Calls Try.prog 19 #[.int .i64 n] w fun x w' => x = .returned (.pointer (some ⟨w.heap.size, 0, none⟩)) ∧ w' = w.alloc (.cells #[.int .i64 n, .map none, .int .u64 0, .int .u64 0] 73) := by
  go_enter Try.func19, Try.ntmps19
  go_wp2
  go_ret
  exact ⟨rfl, rfl⟩
theorem mon_new (w : World) (n : Int) : MonAt (w.alloc (.cells #[.int .i64 n, .map none, .int .u64 0, .int .u64 0] 73)) w.heap.size n none 0 0 [] := ⟨heap_alloc_new w _, rfl⟩
set_option maxHeartbeats 400000 in
theorem missed_any (g : Nat) (om : Option Nat) (p next missed : Int) (L : List Ent) (w : World) (h : MonAt w g p om next missed L) : Calls Try.prog 27 #[.pointer (some ⟨g, 0, none⟩)] w fun x w' => x = .returned (.int .u64 missed) ∧ w = w' := by
  obtain ⟨_, _, _, h3, _⟩ := monCells h
  clear h
  go_enter Try.func27, Try.ntmps27
  go_wp2
  go_ret
  exact ⟨rfl, rfl⟩
set_option maxHeartbeats 400000 in
theorem missed_nil (w : World) : Calls Try.prog 27 #[.pointer none] w fun x w' => x = .returned (.int .u64 0) ∧ w = w' := by
  go_enter Try.func27, Try.ntmps27
  go_wp2
  go_ret
  exact ⟨rfl, rfl⟩
set_option maxHeartbeats 400000 in
theorem mlen_nil (w : World) : Calls Try.prog 28 #[.pointer none] w fun x w' => x = .returned (.int .i64 0) ∧ w = w' := by
  go_enter Try.func28, Try.ntmps28
  go_wp2
  go_ret
  exact ⟨rfl, rfl⟩
set_option maxHeartbeats 400000 in
theorem mlen_any (g : Nat) (om : Option Nat) (p next missed : Int) (L : List Ent) (w : World) (h : MonAt w g p om next missed L) : Calls Try.prog 28 #[.pointer (some ⟨g, 0, none⟩)] w fun x w' => x = .returned (.int .i64 L.length) ∧ w = w' := by
  obtain ⟨_, h1, _, _, _⟩ := monCells h
  have hm := h.map
  clear h
  cases om with
  | none =>
    obtain rfl : L = [] := hm
    go_enter Try.func28, Try.ntmps28
    go_wp2
    go_ret
    exact ⟨rfl, rfl⟩
  | some b =>
    have hF := mapF_eq hm
    clear hm
    go_enter Try.func28, Try.ntmps28
    go_wp2
    go_ret
    exact ⟨rfl, rfl⟩
end Go.Proofs.Ytbjoodjcpkimcaa
