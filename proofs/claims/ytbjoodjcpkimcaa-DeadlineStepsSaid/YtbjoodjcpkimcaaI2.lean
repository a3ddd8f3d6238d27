/- The registry of instances: Do, by what May answers. -/
import Derived.Test.YtbjoodjcpkimcaaI
namespace Go.Proofs.Ytbjoodjcpkimcaa
open Go.RowKit Go.Maps

theorem Upd.refl (S : Nat → Prop) (w : World) : Upd S w w := ⟨rfl, rfl, rfl, Nat.le_refl _, fun _ _ _ => rfl⟩
theorem Upd.of_below {S : Nat → Prop} {w w' : World} (h : Below w.heap.size w w') : Upd S w w' := ⟨h.os, h.tape, h.output, h.size, fun i hi _ => h.block i hi⟩
theorem Upd.trans {S S' : Nat → Prop} {w w1 w2 : World} (h : Upd S w w1) (h' : Upd S' w1 w2) (hs : ∀ i, i < w.heap.size → S' i → S i) : Upd S w w2 :=
  ⟨h'.os.trans h.os, h'.tape.trans h.tape, h'.output.trans h.output, Nat.le_trans h.size h'.size, fun i hi hn => (h'.block i (Nat.lt_of_lt_of_le hi h.size) (fun e => hn (hs i hi e))).trans (h.block i hi hn)⟩
theorem Upd.mono {S S' : Nat → Prop} {w w' : World} (h : Upd S w w') (hs : ∀ i, i < w.heap.size → S i → S' i) : Upd S' w w' := ⟨h.os, h.tape, h.output, h.size, fun i hi hn => h.block i hi (fun e => hn (hs i hi e))⟩
theorem Upd.below {S : Nat → Prop} {w w' : World} (h : Upd S w w') (B : Nat) (hB : B ≤ w.heap.size) (hs : ∀ i, i < B → ¬ S i) : Below B w w' := ⟨h.os, h.tape, h.output, h.size, fun i hi => h.block i (by omega) (hs i hi)⟩

/-- What the walk needs of a world behind a call that has turned nothing below B: each fact a rule. -/
theorem bcellF {B : Nat} {W w1 : World} (hb : Below B W w1) : (∀ b o, b < B → w1.cell? ⟨b, o, none⟩ = W.cell? ⟨b, o, none⟩) ∧ (∀ b o, b < B → w1.frozen? ⟨b, o, none⟩ = W.frozen? ⟨b, o, none⟩) ∧
    (∀ b o, b < B → keyF w1 b o = keyF W b o) ∧ (∀ ka kb b, b < B → mapF ka kb w1 b = mapF ka kb W b) :=
  ⟨fun b o h => hb.cell (p := ⟨b, o, none⟩) h, fun b o h => hb.frozen (p := ⟨b, o, none⟩) h, fun b o h => keyF_congr fun a ha => hb.cell (by omega), fun ka kb b h => mapF_congr (hb.block b h)⟩

def doAt (L : List Ent) (k : Key) (next : Int) : Int := if knownB L k then (entOf L k).2 else next
def doNext (L : List Ent) (k : Key) (next : Int) : Int := if knownB L k then next else next + 1

set_option maxHeartbeats 400000 in
theorem do_bad (g bm : Nat) (op most next : Int) (k : Key) (L : List Ent) (w : World) (hr : RegAt w g bm most next L) (e : Int) (he : mayF op (knownB L k) L.length most = e) (hne : (e != 0) = true) :
    Calls Try.prog 13 #[.pointer (some ⟨g, 0, none⟩), .int .i64 op, .agg (kvs k)] w fun x w' => x = .returned (.int .i64 e) ∧ Below w.heap.size w w' := by
  have hm := fun W (h : RegAt W g bm most next L) => may_any g bm op most next k L W h
  rw [he] at hm
  have hr' : RegAt (w.alloc (.cells (kvs k) 24)) g bm most next L := ⟨by rw [heap_alloc_old]; exact hr.blk; exact (Array.getElem?_eq_some_iff.1 hr.blk).1, hr.map.congr (heap_alloc_old _ _ hr.map.lt)⟩
  have HM := Lib.hid (hm _ hr')
  clear hm he hr hr'
  go_enter Try.func13, Try.ntmps13
  go_wp2_with (go_at_call 12; refine HM.out.mono ?_; rintro e w1 ⟨rfl, hb⟩)
  go_ret
  exact ⟨rfl, ((Below.refl _ _).alloc (Nat.le_refl _) _).trans (hb.mono (by simp))⟩

set_option maxHeartbeats 400000 in
theorem do_nil (op : Int) (k : Key) (w : World) : Calls Try.prog 13 #[.pointer none, .int .i64 op, .agg (kvs k)] w fun x w' => x = .returned (.int .i64 20) ∧ Below w.heap.size w w' := by
  go_enter Try.func13, Try.ntmps13
  go_wp2_with (go_at_call 12; refine (may_nil _ _ _).mono ?_; rintro e w1 ⟨rfl, hb⟩)
  go_ret
  exact ⟨rfl, ((Below.refl _ _).alloc (Nat.le_refl _) _).trans (hb.mono (by simp))⟩


theorem RegAt.ne {w : World} {g bm : Nat} {most next : Int} {L : List Ent} (h : RegAt w g bm most next L) : g ≠ bm := by
  rintro rfl
  obtain ⟨D, ⟨es, clock, hb, _⟩, _⟩ := h.map
  rw [h.blk] at hb
  cases hb
theorem RegAt.below {w W : World} {g bm : Nat} {most next : Int} {L : List Ent} (h : RegAt w g bm most next L) (hb : Below w.heap.size w W) : RegAt W g bm most next L :=
  ⟨(hb.block g (Array.getElem?_eq_some_iff.1 h.blk).1).trans h.blk, h.map.congr (hb.block bm h.map.lt)⟩
theorem upd_turned {w W : World} {S : Nat → Prop} {b : Nat} (hu : Upd S w W) {W' : World} (ht : W.mapTurned W' b) (hs : S b) : Upd S w W' := by
  have hg := ht.grown
  refine ⟨hg.os.trans hu.os, hg.tape.trans hu.tape, hg.output.trans hu.output, Nat.le_trans hu.size hg.size, fun i hi hn => ?_⟩
  rw [hg.block i (Nat.lt_of_lt_of_le hi hu.size) (fun e => by injection e with e; subst e; exact hn hs)]
  exact hu.block i hi hn
theorem reg_del {w W : World} {g bm : Nat} {most next : Int} {L : List Ent} (hr : RegAt w g bm most next L) (hb : Below w.heap.size w W) (k : Key) :
    Upd (fun i => i = bm) w (del46 W bm k) ∧ RegAt (del46 W bm k) g bm most next (delE L k) := by
  have hW := hr.below hb
  obtain ⟨h1, h2⟩ := del46_is hW.map k
  refine ⟨upd_turned (Upd.of_below hb) h2 rfl, ⟨?_, h1⟩⟩
  rw [h2.grown.block g (Array.getElem?_eq_some_iff.1 hW.blk).1 (fun e => by injection e with e; exact hr.ne e)]
  exact hW.blk
theorem reg_put {w W : World} {g bm : Nat} {most next : Int} {L : List Ent} (hW : RegAt W g bm most next L) (hu : Upd (fun i => i = g ∨ i = bm) w W) (hn : L.length < maxLen) (k : Key) (x y : Int) :
    Upd (fun i => i = g ∨ i = bm) w (put46 W bm k x y) ∧ RegAt (put46 W bm k x y) g bm most next (putE L k (x, y)) := by
  obtain ⟨h1, h2⟩ := put46_is hW.map hn k x y
  refine ⟨upd_turned hu h2 (.inr rfl), ⟨?_, h1⟩⟩
  rw [h2.grown.block g (Array.getElem?_eq_some_iff.1 hW.blk).1 (fun e => by injection e with e; exact hW.ne e)]
  exact hW.blk
theorem reg_next {w W : World} {g bm : Nat} {most next : Int} {L : List Ent} (hr : RegAt w g bm most next L) (hb : Below w.heap.size w W) (n : Int) :
    RegAt (W.setCell ⟨g, 1, none⟩ (.int .u64 n)) g bm most n L ∧ Upd (fun i => i = g ∨ i = bm) w (W.setCell ⟨g, 1, none⟩ (.int .u64 n)) := by
  have hW := hr.below hb
  refine ⟨⟨by rw [heap_setCell_same _ _ _ _ _ _ hW.blk]; rfl, hW.map.congr (heap_setCell_other _ _ _ _ hr.ne.symm)⟩, ?_⟩
  exact ⟨hb.os, hb.tape, hb.output, by simp; exact hb.size, fun i hi hn => by rw [heap_setCell_other _ _ _ _ (fun e => hn (.inl e))]; exact hb.block i hi⟩

def Did (w : World) (g bm : Nat) (most next : Int) (L : List Ent) (x : Ending) (w' : World) : Prop :=
  x = .returned (.int .i64 0) ∧ Upd (fun i => i = g ∨ i = bm) w w' ∧ RegAt w' g bm most next L

set_option maxHeartbeats 400000 in
theorem do_3 (g bm : Nat) (most next : Int) (k : Key) (L : List Ent) (w : World) (hr : RegAt w g bm most next L) (hk : knownB L k = true) :
    Calls Try.prog 13 #[.pointer (some ⟨g, 0, none⟩), .int .i64 3, .agg (kvs k)] w (Did w g bm most next (delE L k)) := by
  have hm := fun W (h : RegAt W g bm most next L) => may_any g bm 3 most next k L W h
  rw [show mayF 3 (knownB L k) L.length most = 0 from by simp [mayF, hk]] at hm
  obtain ⟨hg0, hg1, hg2, hgl, hbl, hF⟩ := regCells hr
  have hr' : RegAt (w.alloc (.cells (kvs k) 24)) g bm most next L := ⟨by rw [heap_alloc_old]; exact hr.blk; exact (Array.getElem?_eq_some_iff.1 hr.blk).1, hr.map.congr (heap_alloc_old _ _ hr.map.lt)⟩
  have HM := Lib.hid (hm _ hr')
  have HR := Lib.hid hr
  clear hm hr hr'
  go_enter Try.func13, Try.ntmps13
  go_wp2_with fail
  refine HM.out.mono ?_
  rintro e w1 ⟨rfl, hb⟩
  obtain ⟨hc, hf, hkF, hmF⟩ := bcellF hb
  have hz := hb.size
  have HB := Lib.hid hb
  clear hb
  simp only [World.size_alloc] at hc hf hkF hmF hz
  have z0 : w.heap.size < w1.heap.size := by omega
  have zg : g < w1.heap.size := by omega
  have zb : bm < w1.heap.size := by omega
  have ne1 : w.heap.size ≠ g := by omega
  go_wp2_with fail
  go_region
  go_wp2_with fail
  go_region
  go_wp2_with fail
  go_ret
  have hB : Below w.heap.size w (w1.alloc (.cells #[.int .i64 (entOf L k).1, .int .u64 (entOf L k).2] 76)).drew.drew :=
    ((((((Below.refl _ _).alloc (Nat.le_refl _) _).trans (HB.out.mono (by simp))).alloc (by omega) _).drew).drew)
  obtain ⟨h1, h2⟩ := reg_del HR.out hB k
  exact ⟨rfl, h1.mono fun i _ e => .inr e, h2⟩

set_option maxHeartbeats 400000 in
theorem do_2 (g bm : Nat) (most next : Int) (k : Key) (L : List Ent) (w : World) (hr : RegAt w g bm most next L) (hk : knownB L k = true) (hn : L.length < maxLen) :
    Calls Try.prog 13 #[.pointer (some ⟨g, 0, none⟩), .int .i64 2, .agg (kvs k)] w (Did w g bm most next (putE L k (2, (entOf L k).2))) := by
  have hm := fun W (h : RegAt W g bm most next L) => may_any g bm 2 most next k L W h
  rw [show mayF 2 (knownB L k) L.length most = 0 from by simp [mayF, hk]] at hm
  obtain ⟨hg0, hg1, hg2, hgl, hbl, hF⟩ := regCells hr
  have hr' : RegAt (w.alloc (.cells (kvs k) 24)) g bm most next L := ⟨by rw [heap_alloc_old]; exact hr.blk; exact (Array.getElem?_eq_some_iff.1 hr.blk).1, hr.map.congr (heap_alloc_old _ _ hr.map.lt)⟩
  have HM := Lib.hid (hm _ hr')
  have HR := Lib.hid hr
  have ne2 : bm ≠ g := hr.ne.symm
  clear hm hr hr'
  have hfr : ∀ W : World, Below w.heap.size w W → W.frozen? ⟨g, 1, none⟩ = false := fun W hW => by rw [hW.frozen (p := ⟨g, 1, none⟩) hgl]; exact frozen_of_row w g 1 _ _ HR.out.blk
  have HFR := Lib.hid hfr
  clear hfr
  go_enter Try.func13, Try.ntmps13
  go_wp2_with fail
  refine HM.out.mono ?_
  rintro e w1 ⟨rfl, hb⟩
  obtain ⟨hc, hf, hkF, hmF⟩ := bcellF hb
  have hz := hb.size
  have hf1 := HFR.out w1 (((Below.refl _ _).alloc (Nat.le_refl _) _).trans (hb.mono (by simp)))
  have HB := Lib.hid hb
  clear hb hf
  simp only [World.size_alloc] at hc hkF hmF hz
  have z0 : w.heap.size < w1.heap.size := by omega
  have zg : g < w1.heap.size := by omega
  have zb : bm < w1.heap.size := by omega
  have ne1 : w.heap.size ≠ g := by omega
  go_wp2_with fail
  go_region
  go_wp2_with fail
  go_region
  go_wp2_with fail
  go_ret
  have hB0 : Below w.heap.size w w1 := ((Below.refl _ _).alloc (Nat.le_refl _) _).trans (HB.out.mono (by simp))
  have hB : Below w.heap.size w (w1.alloc (.cells #[.int .i64 2, .int .u64 (entOf L k).2] 76)).drew.drew := ((hB0.alloc (by omega) _).drew).drew
  obtain ⟨h1, h2⟩ := reg_put (HR.out.below hB) (Upd.of_below hB) hn k 2 (entOf L k).2
  exact ⟨rfl, h1, h2⟩

set_option maxHeartbeats 400000 in
theorem do_1k (g bm : Nat) (most next : Int) (k : Key) (L : List Ent) (w : World) (hr : RegAt w g bm most next L) (hk : knownB L k = true) (hn : L.length < maxLen) :
    Calls Try.prog 13 #[.pointer (some ⟨g, 0, none⟩), .int .i64 1, .agg (kvs k)] w (Did w g bm most next (putE L k (1, (entOf L k).2))) := by
  have hm := fun W (h : RegAt W g bm most next L) => may_any g bm 1 most next k L W h
  rw [show mayF 1 (knownB L k) L.length most = 0 from by simp [mayF, hk]] at hm
  obtain ⟨hg0, hg1, hg2, hgl, hbl, hF⟩ := regCells hr
  have hr' : RegAt (w.alloc (.cells (kvs k) 24)) g bm most next L := ⟨by rw [heap_alloc_old]; exact hr.blk; exact (Array.getElem?_eq_some_iff.1 hr.blk).1, hr.map.congr (heap_alloc_old _ _ hr.map.lt)⟩
  have HM := Lib.hid (hm _ hr')
  have HR := Lib.hid hr
  have ne2 : bm ≠ g := hr.ne.symm
  clear hm hr hr'
  have hfr : ∀ W : World, Below w.heap.size w W → W.frozen? ⟨g, 1, none⟩ = false := fun W hW => by rw [hW.frozen (p := ⟨g, 1, none⟩) hgl]; exact frozen_of_row w g 1 _ _ HR.out.blk
  have HFR := Lib.hid hfr
  clear hfr
  go_enter Try.func13, Try.ntmps13
  go_wp2_with fail
  refine HM.out.mono ?_
  rintro e w1 ⟨rfl, hb⟩
  obtain ⟨hc, hf, hkF, hmF⟩ := bcellF hb
  have hz := hb.size
  have hf1 := HFR.out w1 (((Below.refl _ _).alloc (Nat.le_refl _) _).trans (hb.mono (by simp)))
  have HB := Lib.hid hb
  clear hb hf
  simp only [World.size_alloc] at hc hkF hmF hz
  have z0 : w.heap.size < w1.heap.size := by omega
  have zg : g < w1.heap.size := by omega
  have zb : bm < w1.heap.size := by omega
  have ne1 : w.heap.size ≠ g := by omega
  go_wp2_with fail
  go_region
  go_wp2_with fail
  go_region
  go_wp2_with fail
  go_ret
  have hB0 : Below w.heap.size w w1 := ((Below.refl _ _).alloc (Nat.le_refl _) _).trans (HB.out.mono (by simp))
  have hB : Below w.heap.size w (w1.alloc (.cells #[.int .i64 1, .int .u64 (entOf L k).2] 76)).drew.drew := ((hB0.alloc (by omega) _).drew).drew
  obtain ⟨h1, h2⟩ := reg_put (HR.out.below hB) (Upd.of_below hB) hn k 1 (entOf L k).2
  exact ⟨rfl, h1, h2⟩

set_option maxHeartbeats 400000 in
theorem do_1n (g bm : Nat) (most next : Int) (k : Key) (L : List Ent) (w : World) (hr : RegAt w g bm most next L) (hk : knownB L k = false) (hl : (L.length : Int) < most) (hn : L.length < maxLen) (n0 : 0 ≤ next) (n1 : next < 9223372036854775807) :
    Calls Try.prog 13 #[.pointer (some ⟨g, 0, none⟩), .int .i64 1, .agg (kvs k)] w (Did w g bm most (next + 1) (putE L k (1, next))) := by
  have hm := fun W (h : RegAt W g bm most next L) => may_any g bm 1 most next k L W h
  rw [show mayF 1 (knownB L k) L.length most = 0 from by simp [mayF, hk, Int.not_le.2 hl]] at hm
  obtain ⟨hg0, hg1, hg2, hgl, hbl, hF⟩ := regCells hr
  have hr' : RegAt (w.alloc (.cells (kvs k) 24)) g bm most next L := ⟨by rw [heap_alloc_old]; exact hr.blk; exact (Array.getElem?_eq_some_iff.1 hr.blk).1, hr.map.congr (heap_alloc_old _ _ hr.map.lt)⟩
  have HM := Lib.hid (hm _ hr')
  have HR := Lib.hid hr
  have ne2 : bm ≠ g := hr.ne.symm
  clear hm hr hr'
  have hfr : ∀ W : World, Below w.heap.size w W → W.frozen? ⟨g, 1, none⟩ = false := fun W hW => by rw [hW.frozen (p := ⟨g, 1, none⟩) hgl]; exact frozen_of_row w g 1 _ _ HR.out.blk
  have HFR := Lib.hid hfr
  clear hfr
  go_enter Try.func13, Try.ntmps13
  go_wp2_with fail
  refine HM.out.mono ?_
  rintro e w1 ⟨rfl, hb⟩
  obtain ⟨hc, hf, hkF, hmF⟩ := bcellF hb
  have hz := hb.size
  have hf1 := HFR.out w1 (((Below.refl _ _).alloc (Nat.le_refl _) _).trans (hb.mono (by simp)))
  have HB := Lib.hid hb
  clear hb hf
  simp only [World.size_alloc] at hc hkF hmF hz
  have z0 : w.heap.size < w1.heap.size := by omega
  have zg : g < w1.heap.size := by omega
  have zb : bm < w1.heap.size := by omega
  have ne1 : w.heap.size ≠ g := by omega
  go_wp2_with fail
  go_region
  go_wp2_with fail
  go_region
  go_wp2_with fail
  go_ret
  have hB0 : Below w.heap.size w w1 := ((Below.refl _ _).alloc (Nat.le_refl _) _).trans (HB.out.mono (by simp))
  obtain ⟨r1, u1⟩ := reg_next HR.out hB0 (next + 1)
  have hA : ∀ o : Obj, Below (w1.setCell ⟨g, 1, none⟩ (.int .u64 (next + 1))).heap.size (w1.setCell ⟨g, 1, none⟩ (.int .u64 (next + 1))) ((w1.setCell ⟨g, 1, none⟩ (.int .u64 (next + 1))).alloc o).drew.drew := fun o =>
    (((Below.refl _ _).alloc (Nat.le_refl _) _).drew).drew
  have hB := hA (.cells #[.int .i64 1, .int .u64 next] 76)
  obtain ⟨h1, h2⟩ := reg_put (r1.below hB) (u1.trans (Upd.of_below (S := fun _ => False) hB) (fun _ _ e => e.elim)) hn k 1 next
  exact ⟨rfl, h1, h2⟩
end Go.Proofs.Ytbjoodjcpkimcaa
