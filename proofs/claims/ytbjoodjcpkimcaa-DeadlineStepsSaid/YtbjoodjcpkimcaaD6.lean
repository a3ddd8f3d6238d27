/- The monitor of deadlines: the example. -/
import Derived.Test.YtbjoodjcpkimcaaP
namespace Go.Proofs.Ytbjoodjcpkimcaa
open Go.RowKit Go.Maps Go.Sort

theorem row_len {w : World} {base : Nat} {v : Value} {ks : List Key} (h : RowOf w base v ks) : ∃ A cap, v = .slice A ks.length cap := by
  rcases row_shape h with ⟨rfl, rfl⟩ | ⟨g, cap, rfl⟩
  · exact ⟨_, _, rfl⟩
  · exact ⟨_, _, rfl⟩
theorem key00 : kvs (key2 0 0) = #[.int .u8 0, .int .u8 0, .int .u8 0, .int .u8 0, .int .u8 0, .int .u8 0, .int .u8 0, .int .u8 0, .int .u8 0, .int .u8 0, .int .u8 0, .int .u8 0, .int .u8 0, .int .u8 0, .int .u8 0, .int .u8 0, .int .u8 0] := rfl
/-- Run, where the outcome is known. -/
theorem run_to (g b : Nat) (p next missed now : Int) (L : List Ent) (n : Nat) (L' : List Ent) (w : World) (hr : MonAt w g p (some b) next missed L) (p1 : p < 9223372036854775808) (now0 : 0 ≤ now) (now1 : now < 18446744073709551616)
    (hL : ∀ e ∈ L, 0 ≤ e.2.1 ∧ e.2.1 < 18446744073709551616) (hn : L.length ≤ 1000000) (n0 : 0 ≤ next) (n1 : next < 9223372036854775807) (m0 : 0 ≤ missed) (m1 : missed + 1000000 < 9223372036854775807) (ho : Ordered L next)
    (e1 : (outs L now p).length = n) (e2 : hits L now p = L') :
    Calls Try.prog 26 #[.pointer (some ⟨g, 0, none⟩), .int .u64 now] w fun x w' => (∃ A cap, x = .returned (.slice A n cap)) ∧ Upd (monS g (some b)) w w' ∧ MonAt w' g p (some b) next (missed + n) L' :=
  (run_any g (some b) p next missed now L w hr p1 now0 now1 hL hn n0 n1 m0 m1 ho).mono fun x w' ⟨v, h1, h2, h3, h4⟩ => by
    obtain ⟨A, cap, hv⟩ := row_len h3
    rw [e1] at hv h4
    rw [e2] at h4
    exact ⟨⟨A, cap, by rw [h1, hv]⟩, h2, h4⟩

set_option maxRecDepth 100000 in
set_option maxHeartbeats 1000000 in
theorem awake39 (w : World) : Calls Try.prog 18 #[] w fun x w' => x = .returned (.bool true) ∧ Below w.heap.size w w' := by
  go_enter Try.func18, Try.ntmps18
  go_wp2_with fail
  refine (mnew_any 2 _).mono ?_
  rintro e w1 ⟨rfl, h1⟩
  have hr1 := mon_new w 2
  rw [← h1] at hr1
  have hb1 : Below w.heap.size w w1 := by rw [h1]; exact (Below.refl _ _).alloc (Nat.le_refl _) _
  have hz1 : w1.heap.size = w.heap.size + 1 := by rw [h1]; simp
  clear h1
  go_wp2_with fail
  rw [← key00]
  refine (seen_any w.heap.size none 2 0 0 (key2 0 0) 4 [] w1 hr1 (by decide) (by decide) (by decide)).mono ?_
  rintro e w2 ⟨rfl, b, hb, hu2, hr2⟩
  have hbn : w1.heap.size ≤ b := by rcases hb with h | h; cases h; exact h.2
  clear hb
  have ho2 : Ordered [(key2 0 0, ((4 : Int), (0 : Int)))] 1 := Ordered.nil.seen (by decide) (key2 0 0) 4
  have hr2 : MonAt w2 w.heap.size 2 (some b) 1 0 [(key2 0 0, (4, 0))] := hr2
  have hS : ∀ i, monS w.heap.size (some b) i → w.heap.size ≤ i := fun i hi => by rcases hi with rfl | e; omega; cases e; omega
  have hb2 : Below w.heap.size w w2 := below_upd hb1 hb1.size hu2 (fun i hi => by rcases hi with rfl | e; omega; cases e)
  go_wp2_with fail
  refine (run_to w.heap.size b 2 1 0 5 _ 0 [(key2 0 0, (4, 0))] w2 hr2 (by decide) (by decide) (by decide) (by decide) (by decide) (by decide) (by decide) (by decide) (by decide) ho2 (by decide) (by decide)).mono ?_
  rintro e w3 ⟨⟨A1, c1, rfl⟩, hu3, hr3⟩
  have hb3 := below_upd hb2 hb2.size hu3 hS
  go_wp2_with fail
  refine (run_to w.heap.size b 2 1 0 6 _ 1 [(key2 0 0, (6, 0))] w3 hr3 (by decide) (by decide) (by decide) (by decide) (by decide) (by decide) (by decide) (by decide) (by decide) ho2 (by decide) (by decide)).mono ?_
  rintro e w4 ⟨⟨A2, c2, rfl⟩, hu4, hr4⟩
  have hb4 := below_upd hb3 hb3.size hu4 hS
  have ho4 : Ordered [(key2 0 0, ((6 : Int), (0 : Int)))] 1 := ho2.hit 6 2
  go_wp2_with fail
  refine (run_to w.heap.size b 2 1 1 7 _ 0 [(key2 0 0, (6, 0))] w4 hr4 (by decide) (by decide) (by decide) (by decide) (by decide) (by decide) (by decide) (by decide) (by decide) ho4 (by decide) (by decide)).mono ?_
  rintro e w5 ⟨⟨A3, c3, rfl⟩, hu5, hr5⟩
  have hb5 := below_upd hb4 hb4.size hu5 hS
  go_wp2_with fail
  refine (run_to w.heap.size b 2 1 1 8 _ 1 [(key2 0 0, (8, 0))] w5 hr5 (by decide) (by decide) (by decide) (by decide) (by decide) (by decide) (by decide) (by decide) (by decide) ho4 (by decide) (by decide)).mono ?_
  rintro e w6 ⟨⟨A4, c4, rfl⟩, hu6, hr6⟩
  have hb6 := below_upd hb5 hb5.size hu6 hS
  clear hr1 hr2 hr3 hr4 hr5 hu2 hu3 hu4 hu5 hu6 hb1 hb2 hb3 hb4 hb5 hz1
  go_wp2_with (go_at_call 27; refine (missed_any w.heap.size (some b) 2 1 _ _ w6 hr6).mono ?_; rintro e w7 ⟨rfl, rfl⟩)
  go_ret
  exact ⟨rfl, hb6⟩
end Go.Proofs.Ytbjoodjcpkimcaa
