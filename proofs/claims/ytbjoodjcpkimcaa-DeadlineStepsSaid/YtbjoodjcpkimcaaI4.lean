/- The example of the chapter on instances holds. -/
import Derived.Test.YtbjoodjcpkimcaaI3
namespace Go.Proofs.Ytbjoodjcpkimcaa
open Go.RowKit Go.Maps

theorem below_upd {B : Nat} {S : Nat → Prop} {w w1 w2 : World} (h : Below B w w1) (hB : B ≤ w1.heap.size) (hu : Upd S w1 w2) (hs : ∀ i, S i → B ≤ i) : Below B w w2 :=
  h.trans (hu.below B hB (fun i hi hn => by have := hs i hn; omega))
theorem below_below {B : Nat} {w w1 w2 : World} (h : Below B w w1) (hB : B ≤ w1.heap.size) (h2 : Below w1.heap.size w1 w2) : Below B w w2 := h.trans (h2.mono hB)

def key2 (a b : UInt8) : Key := ⟨[a, b, 0, 0, 0, 0, 0, 0, 0, 0, 0, 0, 0, 0, 0, 0, 0], rfl⟩
theorem key17 : kvs (key2 1 7) = #[.int .u8 1, .int .u8 7, .int .u8 0, .int .u8 0, .int .u8 0, .int .u8 0, .int .u8 0, .int .u8 0, .int .u8 0, .int .u8 0, .int .u8 0, .int .u8 0, .int .u8 0, .int .u8 0, .int .u8 0, .int .u8 0, .int .u8 0] := rfl
theorem key18 : kvs (key2 1 8) = #[.int .u8 1, .int .u8 8, .int .u8 0, .int .u8 0, .int .u8 0, .int .u8 0, .int .u8 0, .int .u8 0, .int .u8 0, .int .u8 0, .int .u8 0, .int .u8 0, .int .u8 0, .int .u8 0, .int .u8 0, .int .u8 0, .int .u8 0] := rfl

set_option maxHeartbeats 1000000 in
theorem awake36 (w : World) : Calls Try.prog 9 #[] w fun x w' => x = .returned (.bool true) ∧ Below w.heap.size w w' := by
  go_enter Try.func9, Try.ntmps9
  go_wp2_with fail
  refine (new_any 1 _).mono ?_
  rintro e w1 ⟨g, bm, rfl, hg, hbm, hb1, hr1⟩
  go_wp2_with fail
  rw [← key17]
  refine (do_1n g bm _ _ (key2 1 7) _ _ hr1 rfl (by decide) (by decide) (by decide) (by decide)).mono ?_
  rintro e w2 ⟨rfl, hu2, hr2⟩
  go_wp2_with fail
  rw [← key18]
  refine (do_bad g bm 1 _ _ (key2 1 8) _ _ hr2 17 (by decide) rfl).mono ?_
  rintro e w3 ⟨rfl, hb3⟩
  have hr3 := hr2.below hb3
  go_wp2_with fail
  rw [← key17]
  refine (do_3 g bm _ _ (key2 1 7) _ _ hr3 (by decide)).mono ?_
  rintro e w4 ⟨rfl, hu4, hr4⟩
  go_wp2_with fail
  rw [← key18]
  refine (do_1n g bm _ _ (key2 1 8) _ _ hr4 (by decide) (by decide) (by decide) (by decide) (by decide)).mono ?_
  rintro e w5 ⟨rfl, hu5, hr5⟩
  go_wp2_with fail
  rw [← key18]
  refine (state_any g bm _ _ (key2 1 8) _ _ hr5).mono ?_
  rintro e w6 ⟨rfl, hb6⟩
  have he : (entOf (putE (delE (putE [] (key2 1 7) (1, 0)) (key2 1 7)) (key2 1 8) (1, 0 + 1)) (key2 1 8)).1 = 1 := by decide
  rw [he]
  go_wp2_with fail
  go_ret
  have s1 := hb1.size
  have b2 := below_upd hb1 s1 hu2 (fun i hi => by rcases hi with rfl | rfl <;> assumption)
  have b3 := below_below b2 b2.size hb3
  have b4 := below_upd b3 b3.size hu4 (fun i hi => by rcases hi with rfl | rfl <;> assumption)
  have b5 := below_upd b4 b4.size hu5 (fun i hi => by rcases hi with rfl | rfl <;> assumption)
  exact ⟨rfl, below_below b5 b5.size hb6⟩
end Go.Proofs.Ytbjoodjcpkimcaa
