/- The monitor of deadlines: Run, walked. -/
import Derived.Test.YtbjoodjcpkimcaaD3
namespace Go.Proofs.Ytbjoodjcpkimcaa
open Go.RowKit Go.Maps Go.Sort


/-- What the first loop has gathered: those who are over, of those that have come. -/
def Got (L : List Ent) (now p : Int) (ks : List Key) (left : Lit → Bool) : Prop := ks.Nodup ∧ ∀ k, k ∈ ks ↔ knownB L k = true ∧ overF now (entOf L k).1 p = true ∧ left (kl k) = false
theorem Got.start {D : DataW Unit} {L : List Ent} {now p : Int} (h : Rep .u64 .u64 D L) : Got L now p [] (Maps.has D) :=
  ⟨.nil, fun k => ⟨fun h => by simp at h, fun ⟨h1, _, h3⟩ => by rw [h.has] at h3; unfold knownB at h1; rw [h3] at h1; cases h1⟩⟩
theorem same_kl (a b : Key) : (kl a).sameKey (kl b) = decide (a = b) := by
  by_cases h : a = b
  · subst h; simp [WideAt.sameKey_self (kl_key a)]
  · simp only [h, decide_false]
    cases hs : (kl a).sameKey (kl b) with
    | false => rfl
    | true => exact absurd (kl_inj (WideAt.sameKey_eq hs)) h
theorem Got.skip {L : List Ent} {now p : Int} {ks : List Key} {left : Lit → Bool} (h : Got L now p ks left) {x : Key} {c d : Int} (he : entOf L x = (c, d)) (ho : overF now c p = false) : Got L now p ks fun z => left z && !z.sameKey (kl x) := by
  refine ⟨h.1, fun k => ?_⟩
  rw [h.2]
  by_cases hk : k = x
  · subst hk; simp [he, ho]
  · simp [same_kl, hk]
theorem Got.hit {L : List Ent} {now p : Int} {ks : List Key} {left : Lit → Bool} (h : Got L now p ks left) {x : Key} {c d : Int} (hkn : knownB L x = true) (he : entOf L x = (c, d)) (ho : overF now c p = true) (hl : left (kl x) = true) :
    Got L now p (ks ++ [x]) fun z => left z && !z.sameKey (kl x) := by
  have hx : x ∉ ks := fun hm => by have := ((h.2 x).1 hm).2.2; rw [hl] at this; cases this
  refine ⟨List.nodup_append.2 ⟨h.1, by simp, fun a ha b hb e => by simp at hb; subst hb; subst e; exact hx ha⟩, fun k => ?_⟩
  rw [List.mem_append, h.2]
  by_cases hk : k = x
  · subst hk; simp [he, ho, hkn, same_kl]
  · simp [same_kl, hk]
theorem RowOf.grown {w w' : World} {base : Nat} {v : Value} {ks : List Key} (h : RowOf w base v ks) (hg : w.grownBy w' none) : RowOf w' base v ks :=
  RowOf.kept (S := fun _ => False) h ⟨hg.os, hg.tape, hg.output, hg.size, fun i hi _ => hg.block i hi (by simp)⟩ (fun _ _ e => e)
theorem Got.done {L : List Ent} {now p : Int} {ks : List Key} {left : Lit → Bool} (h : Got L now p ks left) (hl : ∀ q, left q = false) : ks.Nodup ∧ ∀ k, k ∈ ks ↔ knownB L k = true ∧ overF now (entOf L k).1 p = true :=
  ⟨h.1, fun k => by rw [h.2]; simp [hl]⟩
/-- Behind the box of the receiver. -/
theorem below_old {w W : World} {g : Nat} {o : Obj} (_ : g < w.heap.size) (hb : RowKit.Below (w.heap.size + 1) (w.alloc o) W) : RowKit.Below w.heap.size w W :=
  ((Below.refl _ _).alloc (Nat.le_refl _) o).trans (hb.mono (by omega))
theorem order_in {w W : World} {g b : Nat} {p next missed : Int} {L : List Ent} (h : MonAt w g p (some b) next missed L) (hb : RowKit.Below (w.heap.size + 1) (w.alloc (.cells #[.pointer (some ⟨g, 0, none⟩)] 51)) W) (x y : Key) :
    Calls Try.prog 33 (#[.agg (kvs x), .agg (kvs y)] ++ #[.pointer (some ⟨w.heap.size, 0, none⟩)]) W fun e w' => e = .returned (.int .i64 (cmpAt (fun k => (entOf L k).2) x y)) ∧ ∃ q os', w' = grow (W.drewN q) os' := by
  have hM := h.below (below_old h.lt hb)
  have hs := hb.size
  simp at hs
  have hm : MapIs .u64 .u64 W b L := hM.map
  have hlt := h.lt
  have hbl : b < w.heap.size := (show MapIs .u64 .u64 w b L from h.map).lt
  exact order33 x y w.heap.size g b L W (by rw [hb.cell (by show w.heap.size < _; omega)]; simp) (monCells hM).2.1 (by omega) (by omega) (by omega) (mapF_eq hm)
theorem got_perm {L : List Ent} {now p : Int} {ks ks' : List Key} (h : ks.Nodup ∧ ∀ k, k ∈ ks ↔ knownB L k = true ∧ overF now (entOf L k).1 p = true) (hp : ks'.Perm ks) : ks'.Nodup ∧ ∀ k, k ∈ ks' ↔ knownB L k = true ∧ overF now (entOf L k).1 p = true :=
  ⟨hp.nodup_iff.2 h.1, fun k => by rw [hp.mem_iff, h.2]⟩
/-- Each of the keys seen at 'now'. -/
def hitAll (L : List Ent) (ks : List Key) (now : Int) : List Ent := ks.foldl (fun L k => putE L k (now, (entOf L k).2)) L
theorem known_put (L : List Ent) (k k' : Key) (x : Int × Int) : knownB (putE L k x) k' = (knownB L k' || decide (k' = k)) := by
  unfold knownB putE
  cases hl : L.lookup k with
  | none =>
    simp only [Option.isSome_none, Bool.false_eq_true, if_false]
    rw [lookup_append]
    cases hl' : L.lookup k' with
    | none => by_cases h : k' = k <;> simp [h]
    | some z => simp
  | some z =>
    simp only [Option.isSome_some, if_true]
    rw [lookup_setE]
    by_cases h : k' = k
    · subst h; simp [hl]
    · simp [h]
theorem put_length (L : List Ent) (k : Key) (x : Int × Int) (h : knownB L k = true) : (putE L k x).length = L.length := by
  unfold knownB at h
  unfold putE
  rw [if_pos h, setE_length]
theorem hit_known (L : List Ent) (now : Int) : ∀ (ks : List Key) (k : Key), knownB L k = true → knownB (hitAll L ks now) k = true := by
  intro ks
  unfold hitAll
  induction ks generalizing L with
  | nil => intro k h; exact h
  | cons z ks ih => intro k h; rw [List.foldl_cons]; exact ih _ k (by rw [known_put, h]; rfl)
theorem hit_length (L : List Ent) (now : Int) : ∀ (ks : List Key), (∀ k ∈ ks, knownB L k = true) → (hitAll L ks now).length = L.length := by
  intro ks
  unfold hitAll
  induction ks generalizing L with
  | nil => intro _; rfl
  | cons z ks ih =>
    intro h
    rw [List.foldl_cons, ih _ (fun k hk => by rw [known_put, h k (List.mem_cons_of_mem _ hk)]; rfl), put_length _ _ _ (h z List.mem_cons_self)]
theorem hit_snoc (L : List Ent) (now : Int) (ks : List Key) (k : Key) : hitAll L (ks ++ [k]) now = putE (hitAll L ks now) k (now, (entOf (hitAll L ks now) k).2) := by
  unfold hitAll; rw [List.foldl_append]; rfl
theorem RowOf.lower {w : World} {base base' : Nat} {v : Value} {ks : List Key} (h : RowOf w base v ks) (hb : base' ≤ base) : RowOf w base' v ks := by
  refine ⟨h.1, ?_⟩
  rcases h.2 with h2 | ⟨g, cap, cur, h0, h1, h2⟩
  · exact .inl h2
  · exact .inr ⟨g, cap, cur, h0, by omega, h2⟩
theorem row_shape {w : World} {base : Nat} {v : Value} {ks : List Key} (h : RowOf w base v ks) : (v = .slice none 0 0 ∧ ks = []) ∨ ∃ g cap, v = .slice (some ⟨g, 0, none⟩) ks.length cap := by
  rcases h.2 with ⟨rfl, h0⟩ | ⟨g, cap, cur, rfl, h1, _⟩
  · exact .inl ⟨rfl, List.length_eq_zero_iff.1 h0⟩
  · exact .inr ⟨g, cap, rfl⟩
/-- Who is over. -/
def isOver (L : List Ent) (now p : Int) (k : Key) : Prop := knownB L k = true ∧ overF now (entOf L k).1 p = true
def RunDid (w : World) (g : Nat) (p : Int) (om : Option Nat) (next missed : Int) (L : List Ent) (now : Int) (x : Ending) (w' : World) : Prop :=
  ∃ v ks, x = .returned v ∧ Upd (monS g om) w w' ∧ RowOf w' w.heap.size v ks ∧ ks.Nodup ∧ (∀ k, k ∈ ks ↔ isOver L now p k) ∧ ks.Pairwise (fun a b => (entOf L a).2 ≤ (entOf L b).2) ∧ MonAt w' g p om next (missed + ks.length) (hitAll L ks now)

theorem ent_mem {L : List Ent} {k : Key} (h : knownB L k = true) : (k, entOf L k) ∈ L := by
  unfold knownB at h
  unfold entOf
  cases hl : L.lookup k with
  | none => rw [hl] at h; cases h
  | some x => exact lookup_mem hl
theorem row_base {w : World} {base : Nat} {v : Value} {ks : List Key} (h : RowOf w base v ks) {i : Nat} (hi : v.ownBlock = some i) : base ≤ i := by
  rcases h.2 with ⟨rfl, _⟩ | ⟨g, cap, cur, rfl, h1, _⟩
  · cases hi
  · cases hi; exact h1
theorem drewN_grown (w : World) (n : Nat) : w.grownBy (w.drewN n) none := ⟨rfl, rfl, rfl, Nat.le_refl _, fun _ _ _ => rfl⟩
theorem below_grown {B : Nat} {w w1 w2 : World} {row : Option Nat} (h : RowKit.Below B w w1) (hg : w1.grownBy w2 row) (hr : ∀ i, row = some i → B ≤ i) (hB : B ≤ w1.heap.size) : RowKit.Below B w w2 :=
  ⟨hg.os.trans h.os, hg.tape.trans h.tape, hg.output.trans h.output, Nat.le_trans h.size hg.size, fun i hi => (hg.block i (by omega) (fun e => by have := hr i e.symm; omega)).trans (h.block i hi)⟩
theorem entry_is {D : DataW Unit} {L : List Ent} (h : Rep .u64 .u64 D L) {x : Key} {c : Int × Int} {q : Lit} {y : DataW Unit × List MemPlace} (hkey : keyOf Try.prog 24 (.agg (kvs x)) = some q) (hv : pR .u64 .u64 (pv .u64 .u64 c) = some y)
    (hat : ∀ zd, D.atKey q zd = y.1) : q = kl x ∧ knownB L x = true ∧ entOf L x = c := by
  rw [key_kl] at hkey
  cases hkey
  rw [pR_pv] at hv
  cases hv
  have h1 := hat .nil
  have h2 := hat (pd .u64 .u64 (c.1 + 1, c.2))
  rw [h.at_] at h1 h2
  refine ⟨rfl, ?_⟩
  unfold knownB entOf
  cases hl : L.lookup x with
  | none =>
    rw [hl] at h1
    simp [pd] at h1
  | some z =>
    rw [hl] at h1
    exact ⟨rfl, pd_inj h1⟩

theorem take_snoc {l : List Key} {i : Nat} {k : Key} (h : l[i]? = some k) : l.take (i + 1) = l.take i ++ [k] := by
  rw [List.take_add_one, h]; rfl
theorem mon_old {w : World} {g b : Nat} {p next missed : Int} {L : List Ent} (h : MonAt w g p (some b) next missed L) {i : Nat} (hi : w.heap.size ≤ i) : ¬ monS g (some b) i := by
  have h1 := h.lt
  have h2 : b < w.heap.size := (show MapIs .u64 .u64 w b L from h.map).lt
  rintro (rfl | e)
  · omega
  · cases e; omega
/-- What a round of the second loop leaves. -/
theorem round_end {w wr w4 : World} {g b gg cap n : Nat} {p next missed m : Int} {L L' : List Ent} {ks : List Key} {o : Obj} {x : Value} (h : MonAt w g p (some b) next missed L) (hrow : RowOf wr (w.heap.size + 2) (.slice (some ⟨gg, 0, none⟩) n cap) ks) (hu : Upd (monS g (some b)) w wr)
    (hu4 : Upd (monS g (some b)) (wr.alloc o) w4) (hM : MonAt w4 g p (some b) next m L') (hX : w4.heap[w.heap.size]? = some (.cells #[x] 51 (0, 0))) (q : Int) (hsz : w.heap.size + 2 ≤ wr.heap.size) :
    MonAt (w4.setCell ⟨g, 3, none⟩ (.int .u64 q)) g p (some b) next q L' ∧ RowOf (w4.setCell ⟨g, 3, none⟩ (.int .u64 q)) (w.heap.size + 2) (.slice (some ⟨gg, 0, none⟩) n cap) ks ∧ Upd (monS g (some b)) w (w4.setCell ⟨g, 3, none⟩ (.int .u64 q)) ∧
      (w4.setCell ⟨g, 3, none⟩ (.int .u64 q)).heap[w.heap.size]? = some (.cells #[x] 51 (0, 0)) ∧ w.heap.size + 2 ≤ (w4.setCell ⟨g, 3, none⟩ (.int .u64 q)).heap.size := by
  have hlt := h.lt
  have hb : w.heap.size + 2 ≤ gg := row_base hrow rfl
  have hA : Upd (monS g (some b)) wr w4 := (Upd.of_below (S := monS g (some b)) ((Below.refl wr.heap.size wr).alloc (Nat.le_refl _) o)).trans hu4 (fun _ _ e => e)
  have hu2 : Upd (monS g (some b)) w w4 := hu.trans hA (fun _ _ e => e)
  obtain ⟨u, r⟩ := (mon_cell (S := monS g (some b)) hM hu2 (.inl rfl)).2.1 q
  have hU : Upd (monS g (some b)) wr (w4.setCell ⟨g, 3, none⟩ (.int .u64 q)) := ((mon_cell (S := monS g (some b)) hM hA (.inl rfl)).2.1 q).1
  refine ⟨r, hrow.kept hU (fun i hi => by cases hi; exact mon_old h (show w.heap.size ≤ gg by omega)), u, ?_, ?_⟩
  · rw [heap_setCell_other _ _ _ _ (show w.heap.size ≠ g by omega)]; exact hX
  · have := hU.size; omega

set_option maxRecDepth 100000 in
set_option maxHeartbeats 1000000 in
theorem run_some (g b : Nat) (p next missed now : Int) (L : List Ent) (w : World) (hr : MonAt w g p (some b) next missed L) (hp : 1 ≤ p) (p1 : p < 9223372036854775808) (now0 : 0 ≤ now) (now1 : now < 18446744073709551616)
    (hL : ∀ e ∈ L, 0 ≤ e.2.1 ∧ e.2.1 < 18446744073709551616) (hn : L.length ≤ 1000000) (n0 : 0 ≤ next) (n1 : next < 9223372036854775807) (m0 : 0 ≤ missed) (m1 : missed + 1000000 < 9223372036854775807) :
    Calls Try.prog 26 #[.pointer (some ⟨g, 0, none⟩), .int .u64 now] w (RunDid w g p (some b) next missed L now) := by
  obtain ⟨h0, h1, h2, h3, hgl⟩ := monCells hr
  have hbl := (show MapIs .u64 .u64 w b L from hr.map).lt
  obtain ⟨D, hown, hrep⟩ := (show MapIs .u64 .u64 w b L from hr.map)
  have hown1 := hown.kept (World.grownBy_alloc w (.cells #[.pointer (some ⟨g, 0, none⟩)] 51) none) (by simp)
  have hpd : decide (p < 1) = false := by simp; omega
  have HR := Lib.hid hr
  have HRep := Lib.hid hrep
  have HL := Lib.hid hL
  clear hr hown hrep hL
  go_enter Try.func26, Try.ntmps26
  go_wp2_with (first | (at_range; refine wpList_range_own _ rfl _ 71 rfl 24 81 law24 u71 _ b L.length D rfl hown1 ?_; intro w0 hrg0 hg0 hs0) | fail)
  go_frame
  simp only [World.size_alloc] at hrg0 hs0 ⊢
  go_loopw [5] (fun v wr => ∃ (ks : List Key) (left : Lit → Bool) (cnt : Nat), RowOf wr (w.heap.size + 2) v ks ∧ wr.ranges Try.prog 24 (pR .u64 .u64) b (w.heap.size + 1) L.length D left cnt ∧ Got L now p ks left ∧
      Below (w.heap.size + 1) (w.alloc (.cells #[.pointer (some ⟨g, 0, none⟩)] 51)) wr ∧ ks.length + cnt ≤ L.length) (fun _ wr => wr.rangeLeft b (w.heap.size + 1))
  case atStart =>
    exact ⟨[], _, _, World.ownsRow_nil _ _ _ _, hrg0, Got.start HRep.out, ⟨hg0.os, hg0.tape, hg0.output, hg0.size, fun i hi => hg0.block i (by simpa using hi) (by simp)⟩, by rw [HRep.out.size]; simp⟩
  case round =>
    obtain ⟨ks, left, cnt, hrow, hrg, hgot, hbe, hle⟩ := hrel
    go_wp2_with (first
      | (at_next; refine wpList_next_ranges _ rfl _ rfl 24 law24 (pR .u64 .u64) (fun k : Key => .agg (kvs k)) (pv .u64 .u64) (fun key kl h => (key_inv h).imp fun k e => e.1) (fun v y h => (pR_inv h).imp fun x e => e.1) b (w.heap.size + 1) L.length _ _ _ rfl hrg ?_ ?_)
      | fail)
    · intro hc0 hl0
      have hMr : MonAt wr g p (some b) next missed L := HR.out.below (below_old HR.out.lt hbe)
      have hbx : ∀ W, Upd (fun i => u5.ownBlock = some i) wr W → RowKit.Below (w.heap.size + 1) (w.alloc (.cells #[.pointer (some ⟨g, 0, none⟩)] 51)) W := fun W hu =>
        hbe.trans (hu.below _ (by have := hbe.size; simp at this; omega) (fun i hi e => by have := row_base hrow e; omega))
      have hcl : ∀ W, Upd (fun i => u5.ownBlock = some i) wr W → ∀ x y : Key, Calls Try.prog 33 (#[.agg (kvs x), .agg (kvs y)] ++ #[.pointer (some ⟨w.heap.size, 0, none⟩)]) W fun e w' => e = .returned (.int .i64 (cmpAt (fun k => (entOf L k).2) x y)) ∧ ∃ q os', w' = grow (W.drewN q) os' := fun W hu x y =>
        order_in HR.out (hbx W hu) x y
      have hsort := sort_any 33 #[.pointer (some ⟨w.heap.size, 0, none⟩)] (fun k => (entOf L k).2) (w.heap.size + 2) u5 ks wr hrow (enters_of Try.func33 (by kernel_rfl) rfl) (by omega) hcl
      have hGot := Lib.hid (hgot.done hl0)
      have HB := Lib.hid hbx
      clear hcl hbx hrow hrg hgot hbe hMr hl0
      have HRow := Lib.hid (show ks.length ≤ 1000000 by omega)
      clear hle
      go_wp2_with fail
      refine hsort.mono ?_
      rintro e w3 ⟨rfl, ks', hperm, hord, hrow3, hu3⟩
      clear hsort
      have hbe3 := HB.out w3 hu3
      have hn3 : ks'.length ≤ 1000000 := by rw [hperm.length_eq]; exact HRow.out
      have hM3 : MonAt w3 g p (some b) next missed L := HR.out.below (below_old HR.out.lt hbe3)
      have hbox3 : w3.heap[w.heap.size]? = some (.cells #[.pointer (some ⟨g, 0, none⟩)] 51 (0, 0)) := by rw [hbe3.block _ (by omega)]; exact heap_alloc_new w _
      have hu3' : Upd (monS g (some b)) w w3 := Upd.of_below (below_old HR.out.lt hbe3)
      have HG := Lib.hid (got_perm hGot.out hperm)
      have HO := Lib.hid hord
      clear hGot HB HRow hperm hord hu3
      have hshape := row_shape hrow3
      rcases hshape with ⟨rfl, rfl⟩ | ⟨gg, cap, rfl⟩
      · go_wp2_with fail
        refine wp_loop_rounds 1 ?_
        rw [rounds_succ]
        go_wp2_with fail
        go_ret
        exact ⟨_, [], rfl, hu3', hrow3.lower (by omega), HG.out.1, HG.out.2, .nil, by simpa [hitAll] using hM3⟩
      · have hgg : w.heap.size + 2 ≤ gg := row_base hrow3 rfl
        go_wp2_with fail
        go_loopw [47] (fun vi wr2 => ∃ i : Nat, i ≤ ks'.length ∧ vi = .int .i64 i ∧ MonAt wr2 g p (some b) next (missed + i) (hitAll L (ks'.take i) now) ∧ RowOf wr2 (w.heap.size + 2) (.slice (some ⟨gg, 0, none⟩) ks'.length cap) ks' ∧ Upd (monS g (some b)) w wr2 ∧
          wr2.heap[w.heap.size]? = some (.cells #[.pointer (some ⟨g, 0, none⟩)] 51 (0, 0)) ∧ w.heap.size + 2 ≤ wr2.heap.size) (fun vi _ => ks'.length - (intOf vi).toNat)
        case atStart => exact ⟨0, Nat.zero_le _, rfl, by simpa [hitAll] using hM3, hrow3, hu3', hbox3, by have := hbe3.size; have := (row_cells hrow3).2.2.2.2; obtain ⟨cur, h5, _⟩ := this; have := (Array.getElem?_eq_some_iff.1 h5).1; omega⟩
        case round =>
          obtain ⟨i, hi, rfl, hM, hrow, hu, hbox, hsz⟩ := hrel
          by_cases hlt : i < ks'.length
          · obtain ⟨k, hk⟩ : ∃ k, ks'[i]? = some k := ⟨_, List.getElem?_eq_getElem hlt⟩
            have hkF := row_key hrow hk
            have hkn := ((HG.out.2 k).1 (List.mem_iff_getElem?.2 ⟨i, hk⟩)).1
            have hMa : MonAt (wr.alloc (.cells (kvs k) 24)) g p (some b) next (missed + i) (hitAll L (ks'.take i) now) := hM.below ((Below.refl _ _).alloc (Nat.le_refl _) _)
            have hlen := hit_length L now (ks'.take i) (fun z hz => ((HG.out.2 z).1 (List.mem_of_mem_take hz)).1)
            have hknw := hit_known L now (ks'.take i) k hkn
            have hS := seen_any g (some b) p next (missed + i) k now _ _ hMa (by rw [hlen]; unfold maxLen; omega) n0 n1
            have hbz : w.heap.size < wr.heap.size := by omega
            have hbc : wr.cell? ⟨w.heap.size, 0, none⟩ = some (.pointer (some ⟨g, 0, none⟩)) := by rw [cell_of_row wr w.heap.size 0 _ _ _ hbox]; rfl
            have HX := Lib.hid hbox
            have HM := Lib.hid hM
            have HW := Lib.hid hrow
            have HU := Lib.hid hu
            have HS := Lib.hid hS
            have HK := Lib.hid hk
            have HN := Lib.hid hknw
            clear hM hrow hu hS hMa hk hknw hkn hbox
            go_wp2_with fail
            refine HS.out.mono ?_
            rintro e w4 ⟨rfl, b', hb', hu4, hM4⟩
            have eb : b' = b := by rcases hb' with h | h <;> simp at h; exact h.symm
            subst eb
            clear hb'
            have e1 : doNext (hitAll L (ks'.take i) now) k next = next := by unfold doNext; rw [HN.out]; rfl
            have e2 : doAt (hitAll L (ks'.take i) now) k next = (entOf (hitAll L (ks'.take i) now) k).2 := by unfold doAt; rw [HN.out]; rfl
            rw [e1, e2, ← hit_snoc, ← take_snoc HK.out] at hM4
            have hX4 : w4.heap[w.heap.size]? = some (.cells #[.pointer (some ⟨g, 0, none⟩)] 51 (0, 0)) := by
              rw [hu4.block _ (by simp; omega) (mon_old HR.out (Nat.le_refl _)), heap_alloc_old _ _ hbz]; exact HX.out
            have hbc4 : w4.cell? ⟨w.heap.size, 0, none⟩ = some (.pointer (some ⟨g, 0, none⟩)) := by rw [cell_of_row w4 w.heap.size 0 _ _ _ hX4]; rfl
            have c43 := (monCells hM4).2.2.2.1
            have f43 := monFroz hM4 3
            have hE := Lib.hid (fun q => round_end HR.out HW.out HU.out hu4 hM4 hX4 q hsz)
            clear hM4 hX4 e1 e2 hu4 hbc
            go_wp2_with fail
            obtain ⟨q1, q2, q3, q4, q5⟩ := hE.out (missed + i + 1)
            exact ⟨⟨i + 1, by omega, by go_num, by rw [show missed + ((i + 1 : Nat) : Int) = missed + i + 1 by omega]; exact q1, q2, q3, q4, q5⟩, by simp [intOf]; omega⟩
          · have hi' : i = ks'.length := by omega
            subst hi'
            rw [List.take_length] at hM
            go_wp2_with fail
            go_ret
            exact ⟨_, ks', rfl, hu, hrow.lower (by omega), HG.out.1, HG.out.2, HO.out, hM⟩
    · intro x c d q y1 y2 w1 cnt1 hkey hlx hv hat hrg1 hlt hg1 hs1 hen
      obtain ⟨rfl, hkn, hec⟩ := entry_is HRep.out hkey hv hat
      have hbe1 : Below (w.heap.size + 1) (w.alloc (.cells #[.pointer (some ⟨g, 0, none⟩)] 51)) w1 := ⟨hg1.os.trans hbe.os, hg1.tape.trans hbe.tape, hg1.output.trans hbe.output, Nat.le_trans hbe.size hg1.size, fun i hi => (hg1.block i (by have := hrg.lt; omega) (fun e => by injection e with e; omega)).trans (hbe.block i hi)⟩
      have c0 : w1.cell? ⟨w.heap.size, 0, none⟩ = some (.pointer (some ⟨g, 0, none⟩)) := by rw [hbe1.cell (by show w.heap.size < _; omega)]; simp
      have cg0 : w1.cell? ⟨g, 0, none⟩ = some (.int .i64 p) := by rw [hbe1.cell (by show g < _; omega), World.cell?_alloc_lt _ _ _ hgl]; exact h0
      have z1 : w.heap.size + 2 ≤ w1.heap.size := by have := hrg1.lt; omega
      have zb : w.heap.size < wr.heap.size := by omega
      have zg : g < wr.heap.size := by omega
      have zb1 : w.heap.size < wr.heap.size + 1 := by omega
      have zg1 : g < wr.heap.size + 1 := by omega
      obtain ⟨hc0, hc1⟩ := HL.out (x, (c, d)) (by rw [← hec]; exact ent_mem hkn)
      have hrow1 : RowOf w1 (w.heap.size + 2) u5 ks := RowOf.kept (S := fun i => i = w.heap.size + 1) hrow ⟨hg1.os, hg1.tape, hg1.output, hg1.size, fun i hi hn => hg1.block i hi (fun e => by injection e with e; exact hn e)⟩ (fun i hi e => by have := row_base hrow hi; omega)
      unfold pv at hen ⊢
      clear hat hv hkey
      go_wp2_with fail
      go_quiet ((go_at_call 29; exact Calls.quiet_of_same ((over_any now c p _ now0 now1 hc0 hc1 (by omega) p1).mono fun _ _ h => ⟨h.1, h.2.symm⟩)))
      have hgW : w1.grownBy (((w1.alloc (.cells (kvs x) 24)).alloc (.cells #[.int .u64 c, .int .u64 d] 81)).drewN nq) none :=
        ((World.grownBy_alloc w1 (.cells (kvs x) 24) none).trans (World.grownBy_alloc _ (.cells #[.int .u64 c, .int .u64 d] 81) none)).trans (drewN_grown _ _)
      cases hov : overF now c p
      · go_wp2_with fail
        have hrg2 := hrg1.kept hgW (by simp) (by simp)
        refine ⟨⟨ks, _, cnt1, hrow1.grown hgW, hrg2, hgot.skip hec hov, below_grown hbe1 hgW (fun i e => by cases e) (by omega), by omega⟩, ?_⟩
        rw [hrg2.left_eq, hrg.left_eq]; exact hlt
      · go_wp2_with (first
          | (at_builtin; refine wpList_append_key _ rfl _ _ rfl (w.heap.size + 2) _ ks rfl (hrow1.grown (hgW.trans (World.grownBy_alloc _ _ _))) (wr.heap.size + 1 + 1) 1 x rfl (by go_simp) (by omega) (by simp; omega) ?_)
          | fail)
        intro v' w2 hrow2 hg2
        have hB2 : ∀ i, u5.ownBlock = some i → w.heap.size + 2 ≤ i := fun i hi => row_base hrow hi
        have hgW1 := hgW.trans (World.grownBy_alloc _ (.cells (kvs x) 24) none)
        have hrg2 := (hrg1.kept hgW1 (by simp) (by simp)).kept hg2 (fun e => by have := hB2 _ e.symm; omega) (fun e => by have := hB2 _ e.symm; omega)
        have hbe2 := below_grown (below_grown hbe1 hgW1 (fun i e => by cases e) (by omega)) hg2 (fun i e => by have := hB2 i e; omega) (by simp; omega)
        have hgot2 := hgot.hit hkn hec hov hlx
        clear hrow1 hrow hgot hbe hbe1 hgW hgW1 c0 cg0 hg2
        go_wp2_with fail
        refine ⟨⟨ks ++ [x], _, cnt1, hrow2, hrg2, hgot2, hbe2, by simp; omega⟩, ?_⟩
        rw [hrg2.left_eq, hrg.left_eq]; exact hlt
end Go.Proofs.Ytbjoodjcpkimcaa
