/- The document's answer: Gone; its clock. -/
import Derived.Test.YtbjoodjcpkimcaaG2
namespace Go.Proofs.Ytbjoodjcpkimcaa
open Go.RowKit Go.Maps Go.Sort

set_option maxHeartbeats 400000 in
theorem rage_any (a b : Int) (w : World) (a0 : 0 ≤ a) (a1 : a < 18446744073709551616) (b0 : 0 ≤ b) (b1 : b < 18446744073709551616) :
    Calls Try.prog 38 #[.int .u64 a, .int .u64 b] w fun x w' => x = .returned (.int .u64 (ageF a b)) ∧ w' = w := by
  unfold ageF
  by_cases h : a < b
  · rw [if_pos (by omega)]
    go_enter Try.func38, Try.ntmps38
    go_wp2
    go_ret
    exact ⟨rfl, rfl⟩
  · have e : (if a ≤ b then 0 else a - b) = a - b := by split <;> omega
    rw [e]
    go_enter Try.func38, Try.ntmps38
    go_wp2
    go_ret
    exact ⟨rfl, rfl⟩
set_option maxHeartbeats 400000 in
theorem rover_any (a b p : Int) (w : World) (a0 : 0 ≤ a) (a1 : a < 18446744073709551616) (b0 : 0 ≤ b) (b1 : b < 18446744073709551616) (p0 : 1 ≤ p) (p1 : p < 9223372036854775808) :
    Calls Try.prog 32 #[.int .u64 a, .int .u64 b, .int .i64 p] w fun x w' => x = .returned (.bool (overF a b p)) ∧ w' = w := by
  have hpd : decide (p < 1) = false := by simp; omega
  unfold overF
  rw [show max p 0 = p from by omega]
  go_enter Try.func32, Try.ntmps32
  go_wp2_with (first | (go_at_call 38; refine (rage_any a b _ a0 a1 b0 b1).mono ?_; rintro e w1 ⟨rfl, rfl⟩) | fail)
  go_ret
  exact ⟨by simp, rfl⟩

theorem keyF_below' {B : Nat} {w w' : World} (hb : Below B w w') {b o : Nat} (h : b < B) : keyF w' b o = keyF w b o := (bcellF hb).2.2.1 b o h
theorem filter_take {xs : List Watch} {i : Nat} {x : Watch} (f : Watch → Bool) (h : xs[i]? = some x) : (xs.take (i + 1)).filter f = (xs.take i).filter f ++ (if f x then [x] else []) := by
  rw [List.take_add_one, h, List.filter_append]
  congr 1
  show List.filter f [x] = _
  cases hf : f x <;> simp [hf]
def isNot (k : Key) (x : Watch) : Bool := !decide (x.1 = k)
set_option maxRecDepth 100000 in
set_option maxHeartbeats 1000000 in
theorem rgone_any (p missed : Int) (base : Nat) (v : Value) (xs : List Watch) (k : Key) (w : World) (hrow : RowW w base v xs) (hn : xs.length ≤ 1000) :
    Calls Try.prog 23 #[mv p v missed, .agg (kvs k)] w fun x w' => ∃ v', x = .returned (mv p v' missed) ∧ RowW w' w.heap.size v' (xs.filter (isNot k)) ∧ Below w.heap.size w w' := by
  unfold mv
  obtain ⟨A, cap, rfl⟩ := hrow.len
  have hA : ∀ i, i < xs.length → ∃ g, A = some ⟨g, 0, none⟩ := fun i hi => by
    rcases hrow.shape with ⟨_, rfl⟩ | ⟨g, c, e⟩
    · simp at hi
    · cases e; exact ⟨g, rfl⟩
  have HR := Lib.hid hrow
  have HA := Lib.hid hA
  clear hrow hA
  go_enter Try.func23, Try.ntmps23
  go_wp2_with fail
  go_loopw [5, 6] (fun v5 v6 wr => ∃ i : Nat, v6 = .int .i64 i ∧ i ≤ xs.length ∧ RowW wr (w.heap.size + 3) v5 ((xs.take i).filter (isNot k)) ∧ Below (w.heap.size + 3) (w3 w p missed (.slice A xs.length cap) k) wr) (fun _ v6 _ => xs.length - (intOf v6).toNat)
  case atStart => exact ⟨0, rfl, Nat.zero_le _, World.ownsRow_nil _ _ _ _, Below.refl _ _⟩
  case round =>
    obtain ⟨i, rfl, hi, hrow, hb⟩ := hrel
    have hbw : Below w.heap.size w wr := (below_w3 w p missed _ k).trans (hb.mono (by omega))
    have hsz : w.heap.size + 3 ≤ wr.heap.size := by have := hb.size; rw [size_w3] at this; exact this
    have hs := HR.out.below hbw
    have mb : wr.heap[w.heap.size]? = some (.cells #[.int .i64 p, .slice A xs.length cap, .int .u64 missed] 55 (0, 0)) := by
      rw [hb.block _ (by omega)]; unfold w3
      rw [heap_alloc_old _ _ (by simp; omega), heap_alloc_old _ _ (by simp)]; exact heap_alloc_new w _
    have rb : wr.heap[w.heap.size + 1 + 1]? = some (.cells #[.int .i64 0, .slice none 0 0, .int .u64 0] 55 (0, 0)) := by
      rw [hb.block _ (by omega)]
      have := heap_alloc_new ((w.alloc (.cells #[.int .i64 p, .slice A xs.length cap, .int .u64 missed] 55)).alloc (.cells (kvs k) 24)) (.cells #[.int .i64 0, .slice none 0 0, .int .u64 0] 55)
      simp only [World.size_alloc] at this
      exact this
    have hk : keyF wr (w.heap.size + 1) 0 = some k := by
      rw [keyF_below' hb (by omega)]; unfold w3
      rw [keyF_alloc_past _ _ _ _ (by simp), keyF_alloc_at _ _ _ (by simp)]
    have m0 := (box_cells mb).1
    have m1 := (box_cells mb).2.1
    have m2 := (box_cells mb).2.2.1
    have mf := (box_cells mb).2.2.2.1
    have r0 := (box_cells rb).1
    have r1 := (box_cells rb).2.1
    have r2 := (box_cells rb).2.2.1
    have rf := (box_cells rb).2.2.2.1
    have hz0 : w.heap.size < wr.heap.size := by omega
    have hz1 : w.heap.size + 1 < wr.heap.size := by omega
    have hz2 : w.heap.size + 1 + 1 < wr.heap.size := by omega
    have HB := Lib.hid hb
    have HBw := Lib.hid hbw
    have HRow := Lib.hid hrow
    have HRb := Lib.hid rb
    clear hb hbw hrow mb rb
    by_cases hlt : i < xs.length
    · obtain ⟨g, hAg⟩ := HA.out i hlt
      subst hAg
      obtain ⟨x, hx⟩ : ∃ x, xs[i]? = some x := ⟨_, List.getElem?_eq_getElem hlt⟩
      have hat := hs.at encW hx
      have hkx := watch_key hat
      have hrx := recF_eq encW hat
      have hgl : g < wr.heap.size := hs.lt rfl
      have hft := filter_take (isNot k) hx
      have HF := Lib.hid hft
      clear hs hat hx hft
      go_wp2_with fail
      go_quiet (fail)
      cases hxk : decide (x.1 = k)
      · have hq : ∀ o, RowW ((wr.drewN nq).alloc o) (w.heap.size + 3) u5 ((xs.take i).filter (isNot k)) := fun o => HRow.out.below ((below_dN (Below.refl _ _) nq).alloc (by simp) o)
        have hlen : ((xs.take i).filter (isNot k)).length ≤ 1000000 := by have := List.length_filter_le (isNot k) (xs.take i); have := List.length_take_le i xs; have := List.length_take (i := i) (l := xs); omega
        have HQ := Lib.hid hq
        have HL := Lib.hid hlen
        clear hq hlen
        go_wp2_with (first | (at_builtin; refine wpList_append_watch _ rfl _ _ rfl (w.heap.size + 3) _ _ rfl (HQ.out _) wr.heap.size 1 x rfl (recF_alloc_at encW _ _ _ _ rfl) HL.out (by simp; omega) ?_) | fail)
        intro v7 w7 hrow7 hg7 _
        have hb7 : Below (w.heap.size + 3) (w3 w p missed (.slice (some ⟨g, 0, none⟩) xs.length cap) k) w7 :=
          below_grown (row := u5.ownBlock) (((below_dN HB.out nq).alloc (by simp; omega) _)) hg7 (fun j hj => HRow.out.base_le hj) (by simp; omega)
        have hf : (xs.take (i + 1)).filter (isNot k) = (xs.take i).filter (isNot k) ++ [x] := by rw [HF.out, if_pos (by simpa [isNot] using hxk)]
        rw [← hf] at hrow7
        have HR7 := Lib.hid hrow7
        have HB7 := Lib.hid hb7
        clear hrow7 hg7 hb7 hf
        go_wp2_with fail
        exact ⟨⟨i + 1, by go_num, by omega, HR7.out, HB7.out⟩, by simp [intOf]; omega⟩
      · go_wp2_with fail
        have hf : (xs.take (i + 1)).filter (isNot k) = (xs.take i).filter (isNot k) := by rw [HF.out, if_neg (by simpa [isNot] using hxk), List.append_nil]
        exact ⟨⟨i + 1, by go_num, by omega, by rw [hf]; exact HRow.out.below (below_dN (Below.refl _ _) nq), below_dN HB.out nq⟩, by simp [intOf]; omega⟩
    · obtain rfl : i = xs.length := by omega
      rw [List.take_length] at HRow
      clear hs
      obtain ⟨A5, c5, rfl⟩ := HRow.out.len
      have hx5 : ∀ j, (Value.slice A5 (xs.filter (isNot k)).length c5).ownBlock = some j → w.heap.size + 3 ≤ j := fun j hj => HRow.out.base_le hj
      have HX5 := Lib.hid hx5
      clear hx5
      obtain ⟨f1, f2⟩ := backW_is (b0 := w.heap.size) (p := p) (missed := missed) (v' := .slice A5 (xs.filter (isNot k)).length c5) HRb.out (by omega)
      have F1 := Lib.hid f1
      have F2 := Lib.hid f2
      clear f1 f2
      generalize hl : (xs.filter (isNot k)).length = n5 at *
      go_wp2_with fail
      refine ret55 rfl rfl rfl F1.out ⟨_, rfl, ?_, ?_⟩
      · exact (HRow.out.kept F2.out (fun j hj e => by have := HX5.out j hj; rcases e with e | e <;> omega)).lower (by omega)
      · exact below_upd HBw.out (by omega) F2.out (fun j e => by rcases e with e | e <;> omega)
end Go.Proofs.Ytbjoodjcpkimcaa
