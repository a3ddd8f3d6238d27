/- The law DeadlineNone, walked. -/
import Derived.Test.YtbjoodjcpkimcaaD6
import Derived.Deep.RegionHeld3
namespace Go.Proofs.Ytbjoodjcpkimcaa
open Go.RowKit Go.Maps Go.Sort

theorem mon_zero (w : World) : MonAt (w.alloc (.cells #[.int .i64 0, .map none, .int .u64 0, .int .u64 0] 73)) w.heap.size 0 none 0 0 [] := ⟨heap_alloc_new w _, rfl⟩
theorem mon_block {w : World} {g b : Nat} {p next missed : Int} {L : List Ent} (h : MonAt w g p (some b) next missed L) : b < w.heap.size := (show MapIs .u64 .u64 w b L from h.map).lt
theorem MonAt.below_at {w W : World} {g b B : Nat} {p next missed : Int} {L : List Ent} (h : MonAt w g p (some b) next missed L) (hb : Below B w W) (hg : g < B) (hbl : b < B) : MonAt W g p (some b) next missed L :=
  ⟨(hb.block g hg).trans h.blk, (show MapIs .u64 .u64 w b L from h.map).congr (hb.block b hbl)⟩
set_option maxRecDepth 100000 in
set_option maxHeartbeats 4000000 in
theorem dnone_any (k : Key) (now period : Int) (w : World) : Calls Try.prog 8 #[.agg (kvs k), .int .u64 now, .int .i64 period] w fun x w' => x = .returned (.bool true) ∧ Below w.heap.size w w' := by
  go_enter Try.func8, Try.ntmps8
  go_wp2_with fail
  refine (seen_nil k now _).mono ?_
  rintro e w1 ⟨rfl, hb1⟩
  have hk1 : keyF w1 w.heap.size 0 = some k := by rw [(bcellF hb1).2.2.1 _ _ (by simp), keyF_alloc_at _ _ _ rfl]
  go_wp2_with fail
  refine (gone_nil k _).mono ?_
  rintro e w2 ⟨rfl, hb2⟩
  have hk2 : keyF w2 w.heap.size 0 = some k := by rw [(bcellF hb2).2.2.1 _ _ (by have := hb1.size; simp at this; omega)]; exact hk1
  have hB2 : Below w.heap.size w w2 := below_below (below_below ((Below.refl _ _).alloc (Nat.le_refl _) _) (by simp) hb1) (by have := hb1.size; simp at this; omega) hb2
  have hz2 : w.heap.size < w2.heap.size := by have := hb1.size; have := hb2.size; simp at *; omega
  clear hk1 hb1 hb2
  go_wp2_with fail
  refine (seen_any w2.heap.size none 0 0 0 k now [] _ (mon_zero w2) (by decide) (by decide) (by decide)).mono ?_
  rintro e w3 ⟨rfl, b, hb, hu3, hr3⟩
  have hr3 : MonAt w3 w2.heap.size 0 (some b) 1 0 [(k, (now, 0))] := hr3
  have hbn : w2.heap.size + 1 ≤ b := by rcases hb with h | h; cases h; simpa using h.2
  have hS : ∀ i, monS w2.heap.size none i → w2.heap.size ≤ i := fun i hi => by rcases hi with rfl | e; omega; cases e
  have hb3 : Below w2.heap.size w2 w3 := below_upd ((Below.refl _ _).alloc (Nat.le_refl _) _) (by simp) hu3 hS
  have hk3 : keyF w3 w.heap.size 0 = some k := by rw [(bcellF hb3).2.2.1 _ _ (by omega)]; exact hk2
  have hB3 : Below w.heap.size w w3 := below_below hB2 (by omega) hb3
  have hz3 : w2.heap.size < w3.heap.size := hr3.lt
  clear hk2 hb hu3
  go_wp2_with fail
  have hq : min period 0 < 1 := by omega
  generalize min period 0 = q at hq
  refine (mnew_any q w3).mono ?_
  rintro e w4 ⟨rfl, h4⟩
  have hr4 := mon_new w3 q
  rw [← h4] at hr4
  have hb4 : Below w3.heap.size w3 w4 := by rw [h4]; exact (Below.refl _ _).alloc (Nat.le_refl _) _
  have hz4 : w4.heap.size = w3.heap.size + 1 := by rw [h4]; simp
  clear h4
  have hk4 : keyF w4 w.heap.size 0 = some k := by rw [(bcellF hb4).2.2.1 _ _ (by omega)]; exact hk3
  have hB4 : Below w.heap.size w w4 := below_below hB3 (by omega) hb4
  have hM4 := hr3.below hb4
  have hr3' := hr3
  clear hk3 hb4 hr3 hB3 hB2 hb3
  go_wp2_with fail
  refine (seen_any w3.heap.size none q 0 0 k now [] w4 hr4 (by decide) (by decide) (by decide)).mono ?_
  rintro e w5 ⟨rfl, b', hb', hu5, hr5⟩
  have hr5 : MonAt w5 w3.heap.size q (some b') 1 0 [(k, (now, 0))] := hr5
  have hb5 : Below w3.heap.size w4 w5 := hu5.below _ (by omega) (fun i hi e => by rcases e with rfl | e; omega; cases e)
  have hM5 : MonAt w5 w2.heap.size 0 (some b) 1 0 [(k, (now, 0))] := by
    have hbl : b < w3.heap.size := mon_block hr3'
    exact hM4.below_at hb5 (by omega) hbl
  have hk5 : keyF w5 w.heap.size 0 = some k := by rw [(bcellF hb5).2.2.1 _ _ (by omega)]; exact hk4
  have hB5 : Below w.heap.size w w5 := hB4.trans (hb5.mono (by omega))
  clear hk4 hB4 hM4 hr4 hb' hu5 hb5 hr3'
  go_wp2_with fail
  refine (run_nil now w5).mono ?_
  rintro e w6 ⟨rfl, hb6⟩
  have hM6 := hM5.below hb6
  have hr6 := hr5.below hb6
  have hB6 := below_below hB5 hB5.size hb6
  clear hM5 hr5 hb6 hB5 hk5
  go_wp2_with (first | (go_at_call 27; refine (missed_nil _).mono ?_; rintro e w7 ⟨rfl, rfl⟩) | (go_at_call 28; refine (mlen_nil _).mono ?_; rintro e w7 ⟨rfl, rfl⟩) | fail)
  refine (run_idle w2.heap.size (some b) 0 1 0 18446744073709551615 _ w6 hM6 (by decide)).mono ?_
  rintro e w7 ⟨rfl, hb7⟩
  have hM7 := hM6.below hb7
  have hr7 := hr6.below hb7
  have hB7 := below_below hB6 hB6.size hb7
  clear hM6 hr6 hb7 hB6
  go_wp2_with (first | (go_at_call 28; refine (mlen_any _ (some b) 0 1 0 _ w7 hM7).mono ?_; rintro e w8 ⟨rfl, rfl⟩) | fail)
  refine (run_idle w3.heap.size (some b') q 1 0 18446744073709551615 _ w7 hr7 hq).mono ?_
  rintro e w8 ⟨rfl, hb8⟩
  have hr8 := hr7.below hb8
  have hB8 := below_below hB7 hB7.size hb8
  clear hM7 hr7 hb8 hB7
  go_wp2_with (first | (go_at_call 27; refine (missed_any _ (some b') q 1 0 _ w8 hr8).mono ?_; rintro e w9 ⟨rfl, rfl⟩) | fail)
  refine (awake39 w8).mono ?_
  rintro e w9 ⟨rfl, hb9⟩
  have hB9 := below_below hB8 hB8.size hb9
  clear hr8 hb9 hB8
  go_wp2_with fail
  go_ret
  exact ⟨rfl, hB9⟩
end Go.Proofs.Ytbjoodjcpkimcaa
