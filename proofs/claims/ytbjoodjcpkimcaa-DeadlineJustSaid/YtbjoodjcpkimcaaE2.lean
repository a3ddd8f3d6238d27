/- The law DeadlineJust, walked. -/
import Derived.Test.YtbjoodjcpkimcaaE
namespace Go.Proofs.Ytbjoodjcpkimcaa
open Go.RowKit Go.Maps Go.Sort

theorem key15 : kvs (key2 1 5) = #[.int .u8 1, .int .u8 5, .int .u8 0, .int .u8 0, .int .u8 0, .int .u8 0, .int .u8 0, .int .u8 0, .int .u8 0, .int .u8 0, .int .u8 0, .int .u8 0, .int .u8 0, .int .u8 0, .int .u8 0, .int .u8 0, .int .u8 0] := rfl

/-- Who is watched in DeadlineJust. -/
def justL (known : Bool) (last : Int) : List Ent := if known then [(key2 1 5, (last, 0))] else []
theorem just_ordered (kn : Bool) (la : Int) : Ordered (justL kn la) (if kn then 1 else 0) := by
  cases kn
  · exact Ordered.nil
  · exact Ordered.nil.seen (by decide) (key2 1 5) la
theorem just_outs (kn : Bool) (la now p : Int) (hp : 1 ≤ p) : outs (justL kn la) now p = if kn && overF now la p then [key2 1 5] else [] := by
  unfold outs outOf justL
  rw [if_neg (by omega)]
  cases kn
  · rfl
  · cases h : overF now la p <;> simp [h]
theorem just_hits (kn : Bool) (la now p : Int) (hp : 1 ≤ p) : hits (justL kn la) now p = justL kn (if kn && overF now la p then now else la) := by
  unfold hits hitL justL
  rw [if_neg (by omega)]
  cases kn
  · rfl
  · cases h : overF now la p <;> simp [h]
theorem just_seen (kn : Bool) (la now : Int) : putE (justL kn la) (key2 1 5) (now, doAt (justL kn la) (key2 1 5) (if kn then 1 else 0)) = justL true now ∧ doNext (justL kn la) (key2 1 5) (if kn then 1 else 0) = 1 := by
  cases kn
  · exact ⟨rfl, rfl⟩
  · have hk : knownB (justL true la) (key2 1 5) = true := rfl
    unfold doNext doAt
    rw [hk]
    exact ⟨rfl, rfl⟩
theorem just_gone (kn : Bool) (la : Int) : delE (justL kn la) (key2 1 5) = [] := by cases kn <;> rfl
theorem just_vals (kn : Bool) (la : Int) (h0 : 0 ≤ la) (h1 : la < 18446744073709551616) : ∀ e ∈ justL kn la, 0 ≤ e.2.1 ∧ e.2.1 < 18446744073709551616 := by
  cases kn
  · simp [justL]
  · intro e he; simp [justL] at he; subst he; exact ⟨h0, h1⟩
theorem just_len (kn : Bool) (la : Int) : (justL kn la).length ≤ 1 := by cases kn <;> simp [justL]
/-- What holds ahead of each round. -/
structure JustAt (w wr : World) (p : Int) (i : Nat) (kn : Bool) (la : Int) (om : Option Nat) (missed : Int) : Prop where
  mon : MonAt wr w.heap.size p om (if kn then 1 else 0) missed (justL kn la)
  key : keyF wr (w.heap.size + 1) 0 = some (key2 1 5)
  below : Below w.heap.size w wr
  size : w.heap.size + 2 ≤ wr.heap.size
  om : ∀ b, om = some b → w.heap.size + 2 ≤ b
  m0 : 0 ≤ missed
  m1 : missed ≤ i
  la0 : 0 ≤ la
  la1 : la < 18446744073709551616
theorem JustAt.upd {w wr w' : World} {p : Int} {i : Nat} {kn : Bool} {la : Int} {om : Option Nat} {missed : Int} (h : JustAt w wr p i kn la om missed) (hu : Upd (monS w.heap.size om) wr w') :
    keyF w' (w.heap.size + 1) 0 = some (key2 1 5) ∧ Below w.heap.size w w' ∧ w.heap.size + 2 ≤ w'.heap.size := by
  have h1 := h.size
  have h2 := hu.size
  refine ⟨?_, below_upd h.below (by omega) hu (fun i hi => by rcases hi with rfl | e; omega; have := h.om i e.symm; omega), by omega⟩
  have hb := hu.block (w.heap.size + 1) (by omega) (fun e => by rcases e with e | e; omega; have := h.om _ e.symm; omega)
  rw [keyF_block hb]; exact h.key
theorem JustAt.drewN {w wr : World} {p : Int} {i : Nat} {kn : Bool} {la : Int} {om : Option Nat} {missed : Int} (h : JustAt w wr p i kn la om missed) (q : Nat) : JustAt w (wr.drewN q) p i kn la om missed :=
  ⟨h.mon.below (below_dN (Below.refl _ _) q), by rw [keyF_drewN]; exact h.key, below_dN h.below q, h.size, h.om, h.m0, h.m1, h.la0, h.la1⟩
/-- Behind Run. -/
theorem JustAt.ran {w wr w' : World} {p : Int} {i : Nat} {kn : Bool} {la : Int} {om : Option Nat} {missed now : Int} (h : JustAt w wr p i kn la om missed) (hu : Upd (monS w.heap.size om) wr w') (hp : 1 ≤ p) (n0 : 0 ≤ now) (n1 : now < 18446744073709551616)
    (hM : MonAt w' w.heap.size p om (if kn then 1 else 0) (missed + (outs (justL kn la) now p).length) (hits (justL kn la) now p)) :
    JustAt w w' p (i + 1) kn (if kn && overF now la p then now else la) om (missed + (if kn && overF now la p then 1 else 0)) := by
  obtain ⟨h1, h2, h3⟩ := h.upd hu
  have a := h.m0; have b := h.m1; have c := h.la0; have d := h.la1
  rw [just_outs _ _ _ _ hp, just_hits _ _ _ _ hp] at hM
  cases hc : (kn && overF now la p)
  · simp only [hc, Bool.false_eq_true, if_false] at hM ⊢
    exact ⟨by simpa using hM, h1, h2, h3, h.om, by omega, by omega, c, d⟩
  · simp only [hc, if_true] at hM ⊢
    exact ⟨by simpa using hM, h1, h2, h3, h.om, by omega, by omega, n0, n1⟩
/-- Behind Seen. -/
theorem JustAt.saw {w wr w' : World} {p : Int} {i : Nat} {kn : Bool} {la : Int} {om : Option Nat} {missed now : Int} {x : Ending} (h : JustAt w wr p i kn la om missed) (n0 : 0 ≤ now) (n1 : now < 18446744073709551616)
    (hs : SeenDid wr w.heap.size p om (if kn then 1 else 0) missed (justL kn la) (key2 1 5) now x w') : x = .returned (.tuple #[]) ∧ ∃ b, JustAt w w' p i true now (some b) missed := by
  obtain ⟨hx, b, hb, hu, hM⟩ := hs
  obtain ⟨h1, h2, h3⟩ := h.upd hu
  obtain ⟨e1, e2⟩ := just_seen kn la now
  rw [e1, e2] at hM
  refine ⟨hx, b, hM, h1, h2, h3, fun b' e => ?_, h.m0, h.m1, n0, n1⟩
  cases e
  rcases hb with e | ⟨_, e⟩
  · exact h.om b e
  · have := h.size; omega
theorem just_run {w wr : World} {p : Int} {i : Nat} {kn : Bool} {la : Int} {om : Option Nat} {missed now : Int} (h : JustAt w wr p i kn la om missed) (hp : 1 ≤ p) (p1 : p < 9223372036854775808) (n0 : 0 ≤ now) (n1 : now < 18446744073709551616) (hi : i ≤ 200) :
    Calls Try.prog 26 #[.pointer (some ⟨w.heap.size, 0, none⟩), .int .u64 now] wr fun x w' => ∃ A c, x = .returned (.slice A (if kn && overF now la p then 1 else 0) c) ∧ ((kn && overF now la p) = true → ∃ b, A = some ⟨b, 0, none⟩ ∧ keyF w' b 0 = some (key2 1 5)) ∧
      JustAt w w' p (i + 1) kn (if kn && overF now la p then now else la) om (missed + (if kn && overF now la p then 1 else 0)) := by
  have a := h.m0; have b := h.m1
  refine (run_any w.heap.size om p _ missed now _ wr h.mon p1 n0 n1 (just_vals _ _ h.la0 h.la1) (by have := just_len kn la; omega) (by cases kn <;> decide) (by cases kn <;> decide) a (by omega) (just_ordered _ _)).mono ?_
  rintro x w' ⟨v, hx, hu, hrow, hM⟩
  have hj := h.ran hu hp n0 n1 hM
  rw [just_outs _ _ _ _ hp] at hrow
  cases hc : (kn && overF now la p)
  · simp only [hc, Bool.false_eq_true, if_false] at hrow hj ⊢
    obtain ⟨A, c, rfl⟩ := row_len hrow
    exact ⟨A, c, hx, fun e => (by cases e), hj⟩
  · simp only [hc, if_true] at hrow hj ⊢
    rcases row_shape hrow with ⟨_, e⟩ | ⟨g, c, rfl⟩
    · cases e
    · exact ⟨_, c, hx, fun _ => ⟨g, rfl, row_key hrow (i := 0) rfl⟩, hj⟩

theorem run_end (g : Nat) (om : Option Nat) (p next missed now : Int) (w : World) (hr : MonAt w g p om next missed []) (p1 : p < 9223372036854775808) (now0 : 0 ≤ now) (now1 : now < 18446744073709551616)
    (n0 : 0 ≤ next) (n1 : next < 9223372036854775807) (m0 : 0 ≤ missed) (m1 : missed + 1000000 < 9223372036854775807) :
    Calls Try.prog 26 #[.pointer (some ⟨g, 0, none⟩), .int .u64 now] w fun x w' => ∃ A c, x = .returned (.slice A 0 c) ∧ Upd (monS g om) w w' ∧ MonAt w' g p om next missed [] := by
  have e1 : outs [] now p = [] := by unfold outs; split <;> rfl
  have e2 : hits [] now p = [] := by unfold hits; split <;> rfl
  refine (run_any g om p next missed now [] w hr p1 now0 now1 (by simp) (by simp) n0 n1 m0 m1 ⟨.nil, .nil, by simp⟩).mono ?_
  rintro x w' ⟨v, hx, hu, hrow, hM⟩
  rw [e1] at hrow hM
  rw [e2] at hM
  obtain ⟨A, c, rfl⟩ := row_len hrow
  exact ⟨A, c, hx, hu, by simpa using hM⟩

set_option maxRecDepth 100000 in
set_option maxHeartbeats 4000000 in
theorem just_any (p start : Int) (v : Value) (n : Nat) (B : Nat → Bool) (w : World) (hv : BoolsAt w v n B) (p1 : p < 9223372036854775808) (s0 : 0 ≤ start) :
    Calls Try.prog 7 #[.int .i64 p, v, .int .u64 start] w fun x w' => x = .returned (.bool true) ∧ Below w.heap.size w w' := by
  obtain ⟨A, cap, rfl, hB⟩ := hv
  by_cases hg : (n : Int) ≤ 200 ∧ 1 ≤ p ∧ start ≤ 9223372036854775808
  · obtain ⟨g1, g2, g3⟩ := hg
    have d1 : decide ((200 : Int) < (n : Int)) = false := by simp; omega
    have d2 : decide (p < 1) = false := by simp; omega
    have d3 : decide ((9223372036854775808 : Int) < start) = false := by simp; omega
    have HB := Lib.hid hB
    clear hB
    go_enter Try.func7, Try.ntmps7
    go_wp2_with fail
    refine (mnew_any p _).mono ?_
    rintro e w1 ⟨rfl, h1⟩
    have hJ : JustAt w (w1.alloc (.cells (kvs (key2 1 5)) 24)) p 0 false 0 none 0 := by
      subst h1
      refine ⟨?_, ?_, ?_, by simp, by simp, by omega, by omega, by omega, by omega⟩
      · exact (mon_new w p).below ((Below.refl _ _).alloc (Nat.le_refl _) _)
      · exact keyF_alloc_at _ _ _ (by simp)
      · exact ((Below.refl _ _).alloc (Nat.le_refl _) _).alloc (by simp) _
    have hz1 : w1.heap.size = w.heap.size + 1 := by rw [h1]; simp
    clear h1
    go_wp2_with fail
    rw [← key15]
    go_loopw [9, 10, 11] (fun v9 v10 v11 wr => ∃ (i : Nat) (la : Int) (kn : Bool) (om : Option Nat) (missed : Int), v9 = .int .u64 la ∧ v10 = .bool kn ∧ v11 = .int .i64 i ∧ i ≤ n ∧ JustAt w wr p i kn la om missed) (fun _ _ v11 _ => n - (intOf v11).toNat)
    case atStart => exact ⟨0, 0, false, none, 0, rfl, rfl, rfl, by omega, hJ⟩
    case round =>
      clear hJ
      obtain ⟨i, la, kn, om, missed, rfl, rfl, rfl, hi, hJ⟩ := hrel
      have hk := hJ.key
      have hsz := hJ.size
      have HJ := Lib.hid hJ
      clear hJ
      by_cases hlt : i < n
      · obtain ⟨ad, hA, hab, hac⟩ := HB.out i hlt
        subst hA
        have hcell : wr.cell? (ad.add i) = some (.bool (B i)) := by rw [HJ.out.below.cell (by rw [block_add]; exact hab)]; exact hac
        have s2 : start + (i : Int) < 18446744073709551616 := by omega
        have s3 : 0 ≤ start + (i : Int) := by omega
        clear hac hab
        cases hBi : B i
        · rw [hBi] at hcell
          cases kn
          · go_wp2_with fail
            refine (just_run HJ.out g2 p1 s3 s2 (by omega)).mono ?_
            rintro e w5 ⟨A5, c5, rfl, _, hJ5⟩
            simp only [Bool.false_and, Bool.false_eq_true, if_false] at hJ5 ⊢
            have hk5 := hJ5.key
            have hz5 := hJ5.size
            have HJ5 := Lib.hid hJ5
            clear hJ5 hk hcell hsz
            go_wp2_with fail
            go_quiet (fail)
            go_wp2_with fail
            exact ⟨⟨i + 1, la, false, om, missed + 0, rfl, rfl, by go_num, by omega, HJ5.out.drewN nq⟩, by simp [intOf]; omega⟩
          · go_wp2_with fail
            cases hov : overF (start + (i : Int)) la p
            · refine (just_run HJ.out g2 p1 s3 s2 (by omega)).mono ?_
              rintro e w5 ⟨A5, c5, rfl, _, hJ5⟩
              simp only [hov, Bool.true_and, Bool.false_eq_true, if_false] at hJ5 ⊢
              have hk5 := hJ5.key
              have hz5 := hJ5.size
              have HJ5 := Lib.hid hJ5
              clear hJ5 hk hcell hsz
              go_wp2_with (first | (go_at_call 29; refine (over_any (start + (i : Int)) la p _ s3 s2 HJ.out.la0 HJ.out.la1 (by omega) p1).mono ?_; rw [hov]; rintro e w6 ⟨rfl, rfl⟩) | fail)
              go_quiet (fail)
              go_wp2_with fail
              exact ⟨⟨i + 1, la, true, om, missed + 0, rfl, rfl, by go_num, by omega, HJ5.out.drewN nq⟩, by simp [intOf]; omega⟩
            · refine (just_run HJ.out g2 p1 s3 s2 (by omega)).mono ?_
              rintro e w5 ⟨A5, c5, rfl, hkk, hJ5⟩
              simp only [hov, Bool.true_and, if_true] at hJ5 hkk ⊢
              obtain ⟨gb, rfl, hkr⟩ := hkk trivial
              have hk5 := hJ5.key
              have hz5 := hJ5.size
              have HJ5 := Lib.hid hJ5
              clear hJ5 hk hcell hsz hkk
              go_wp2_with (first | (go_at_call 29; refine (over_any (start + (i : Int)) la p _ s3 s2 HJ.out.la0 HJ.out.la1 (by omega) p1).mono ?_; rw [hov]; rintro e w6 ⟨rfl, rfl⟩) | fail)
              go_quiet (fail)
              go_wp2_with fail
              exact ⟨⟨i + 1, start + (i : Int), true, om, missed + 1, rfl, rfl, by go_num, by omega, HJ5.out.drewN nq⟩, by simp [intOf]; omega⟩
        · rw [hBi] at hcell
          go_wp2_with fail
          refine (seen_any w.heap.size om p _ missed (key2 1 5) (start + (i : Int)) _ wr HJ.out.mon (by have := just_len kn la; unfold maxLen; omega) (by cases kn <;> decide) (by cases kn <;> decide)).mono ?_
          rintro e w4 hs4
          obtain ⟨rfl, b4, hJ4⟩ := HJ.out.saw s3 s2 hs4
          clear HJ hs4 hk hsz
          have hk := hJ4.key
          have hsz := hJ4.size
          have HJ := Lib.hid hJ4
          clear hJ4
          go_wp2_with fail
          cases hov : overF (start + (i : Int)) (start + (i : Int)) p
          · refine (just_run HJ.out g2 p1 s3 s2 (by omega)).mono ?_
            rintro e w5 ⟨A5, c5, rfl, _, hJ5⟩
            simp only [hov, Bool.true_and, Bool.false_eq_true, if_false] at hJ5 ⊢
            have hk5 := hJ5.key
            have hz5 := hJ5.size
            have HJ5 := Lib.hid hJ5
            clear hJ5 hk hcell hsz
            go_wp2_with (first | (go_at_call 29; refine (over_any (start + (i : Int)) (start + (i : Int)) p _ s3 s2 HJ.out.la0 HJ.out.la1 (by omega) p1).mono ?_; rw [hov]; rintro e w6 ⟨rfl, rfl⟩) | fail)
            go_quiet (fail)
            go_wp2_with fail
            exact ⟨⟨i + 1, (start + (i : Int)), true, (some b4), missed + 0, rfl, rfl, by go_num, by omega, HJ5.out.drewN nq⟩, by simp [intOf]; omega⟩
          · refine (just_run HJ.out g2 p1 s3 s2 (by omega)).mono ?_
            rintro e w5 ⟨A5, c5, rfl, hkk, hJ5⟩
            simp only [hov, Bool.true_and, if_true] at hJ5 hkk ⊢
            obtain ⟨gb, rfl, hkr⟩ := hkk trivial
            have hk5 := hJ5.key
            have hz5 := hJ5.size
            have HJ5 := Lib.hid hJ5
            clear hJ5 hk hcell hsz hkk
            go_wp2_with (first | (go_at_call 29; refine (over_any (start + (i : Int)) (start + (i : Int)) p _ s3 s2 HJ.out.la0 HJ.out.la1 (by omega) p1).mono ?_; rw [hov]; rintro e w6 ⟨rfl, rfl⟩) | fail)
            go_quiet (fail)
            go_wp2_with fail
            exact ⟨⟨i + 1, start + (i : Int), true, (some b4), missed + 1, rfl, rfl, by go_num, by omega, HJ5.out.drewN nq⟩, by simp [intOf]; omega⟩
      · obtain rfl : i = n := by omega
        go_wp2_with fail
        refine (gone_any w.heap.size om p _ missed (key2 1 5) _ wr HJ.out.mon).mono ?_
        rintro e w5 ⟨rfl, hu5, hr5⟩
        rw [just_gone] at hr5
        obtain ⟨hk5, hb5, hz5⟩ := HJ.out.upd hu5
        have q0 : 0 ≤ start + (i : Int) + min p 1048576 := by omega
        have q1 : start + (i : Int) + min p 1048576 < 18446744073709551616 := by omega
        have q2 : start + (i : Int) < 18446744073709551616 := by omega
        have q3 : 0 ≤ min p 1048576 := by omega
        have q4 : min p 1048576 < 18446744073709551616 := by omega
        have hrun := run_end w.heap.size om p (if kn then 1 else 0) missed (start + (i : Int) + min p 1048576) w5 hr5 p1 q0 q1 (by cases kn <;> decide) (by cases kn <;> decide) HJ.out.m0 (by have := HJ.out.m1; omega)
        have hom := HJ.out.om
        clear hr5 hu5 HJ hk hsz
        go_wp2_with fail
        refine hrun.mono ?_
        rintro e w6 ⟨A6, c6, rfl, hu6, hM6⟩
        have hb6 := below_upd hb5 hb5.size hu6 (fun j hj => by rcases hj with rfl | e; omega; have := hom j e.symm; omega)
        clear hrun hu6 hk5 hb5 hz5
        go_wp2_with (first | (go_at_call 28; refine (mlen_any w.heap.size om p _ missed [] w6 hM6).mono ?_; rintro e w7 ⟨rfl, rfl⟩) | fail)
        refine (awake39 w6).mono ?_
        rintro e w7 ⟨rfl, hb7⟩
        have hb8 := below_below hb6 hb6.size hb7
        clear hb7 hM6 hb6
        go_wp2_with fail
        go_ret
        exact ⟨rfl, hb8⟩
  · have hg' : 200 < (n : Int) ∨ ((n : Int) ≤ 200 ∧ p < 1) ∨ ((n : Int) ≤ 200 ∧ 1 ≤ p ∧ 9223372036854775808 < start) := by omega
    clear hB hg
    rcases hg' with g | ⟨g, g'⟩ | ⟨g, g', g''⟩
    · have d1 : decide ((200 : Int) < (n : Int)) = true := by simp; omega
      go_enter Try.func7, Try.ntmps7
      go_wp2_with (first | (go_at_call 18; refine (awake39 _).mono ?_; rintro e w7 ⟨rfl, hb7⟩) | fail)
      go_ret
      exact ⟨rfl, hb7⟩
    · have d1 : decide ((200 : Int) < (n : Int)) = false := by simp; omega
      have d2 : decide (p < 1) = true := by simp; omega
      go_enter Try.func7, Try.ntmps7
      go_wp2_with (first | (go_at_call 18; refine (awake39 _).mono ?_; rintro e w7 ⟨rfl, hb7⟩) | fail)
      go_ret
      exact ⟨rfl, hb7⟩
    · have d1 : decide ((200 : Int) < (n : Int)) = false := by simp; omega
      have d2 : decide (p < 1) = false := by simp; omega
      have d3 : decide ((9223372036854775808 : Int) < start) = true := by simp; omega
      go_enter Try.func7, Try.ntmps7
      go_wp2_with (first | (go_at_call 18; refine (awake39 _).mono ?_; rintro e w7 ⟨rfl, hb7⟩) | fail)
      go_ret
      exact ⟨rfl, hb7⟩
end Go.Proofs.Ytbjoodjcpkimcaa
