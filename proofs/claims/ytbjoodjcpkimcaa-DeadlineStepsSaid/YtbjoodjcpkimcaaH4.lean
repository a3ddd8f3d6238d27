/- The law DeadlineSteps, walked. -/
import Derived.Test.YtbjoodjcpkimcaaH3
namespace Go.Proofs.Ytbjoodjcpkimcaa
open Go.RowKit Go.Maps Go.Sort

@[go_sem] theorem svl0 (s : Step) : (svl s)[0]? = some (.int .i64 s.kind) := rfl
@[go_sem] theorem svl18 (s : Step) : (svl s)[18]? = some (.int .u64 s.now) := by
  unfold svl; rw [List.getElem?_cons_succ, List.getElem?_append_right (by rw [kvl_length]; omega), kvl_length]; rfl
@[go_sem] theorem svl0' (s : Step) (h : 0 < (svl s).length) : (svl s)[0] = .int .i64 s.kind := rfl
@[go_sem] theorem svl18' (s : Step) (h : 18 < (svl s).length) : (svl s)[18] = .int .u64 s.now := by
  have := svl18 s
  rw [List.getElem?_eq_getElem h] at this
  exact Option.some.inj this
@[go_sem] theorem keyF_step_at (w : World) (s : Step) (m : Nat) (hm : m = w.heap.size) : keyF (w.alloc (.cells (svl s).toArray 57)) m 1 = some s.key := by
  subst hm
  have h : (w.alloc (.cells (svl s).toArray 57)).rangeAt w.heap.size 0 (svl s) := recF_some (recF_step_at w s _ rfl)
  simpa using (step_parts h).2.1
theorem step_at (w : World) (s : Step) : (w.alloc (.cells (svl s).toArray 57)).cell? ⟨w.heap.size, 0, none⟩ = some (.int .i64 s.kind) ∧ keyF (w.alloc (.cells (svl s).toArray 57)) w.heap.size 1 = some s.key ∧ (w.alloc (.cells (svl s).toArray 57)).cell? ⟨w.heap.size, 18, none⟩ = some (.int .u64 s.now) := by
  have h : (w.alloc (.cells (svl s).toArray 57)).rangeAt w.heap.size 0 (svl s) := recF_some (recF_step_at w s _ rfl)
  have := step_parts h
  simpa using this
/-- The step's own block stands. -/
def StepBlk (w : World) (b : Nat) (s : Step) : Prop := w.heap[b]? = some (.cells (svl s).toArray 57 (0, 0))
theorem StepBlk.cells {w : World} {b : Nat} {s : Step} (h : StepBlk w b s) : w.cell? ⟨b, 0, none⟩ = some (.int .i64 s.kind) ∧ keyF w b 1 = some s.key ∧ w.cell? ⟨b, 18, none⟩ = some (.int .u64 s.now) ∧ b < w.heap.size := by
  have hr : w.rangeAt b 0 (svl s) := fun j u hj => by
    rw [Nat.zero_add, cell_of_row w b j _ _ _ h]; simpa using hj
  obtain ⟨h1, h2, h3⟩ := step_parts hr
  exact ⟨h1, by simpa using h2, by simpa using h3, (Array.getElem?_eq_some_iff.1 h).1⟩

theorem wp_at {P : Program} {c : Code} {Q : Exit → Act → World → Prop} {a : Act} {w w' : World} (h : w = w') (hw : c.wp P Q a w') : c.wp P Q a w := h ▸ hw
theorem SyncAt.drewN {w wr : World} {p : Int} {i : Nat} {om : Option Nat} {next missed : Int} {L : List Ent} {A : Option Addr} {cap : Nat} (h : SyncAt w wr p i om next missed L A cap) (q : Nat) : SyncAt w (wr.drewN q) p i om next missed L A cap :=
  ⟨h.both.grown (below_dN (Below.refl _ _) q), h.ord, h.n0, h.n1, h.m0, h.m1, h.len, h.vals⟩
theorem Both.blk {w wr w' : World} {p next missed mr : Int} {om : Option Nat} {L : List Ent} {v : Value} {xs : List Watch} {s : Step} (h : Both w wr p om next missed L v mr xs) (hB : StepBlk (wr.alloc (.cells (svl s).toArray 57)) wr.heap.size s) (hu : Upd (monS w.heap.size om) (wr.alloc (.cells (svl s).toArray 57)) w') : StepBlk w' wr.heap.size s := by
  have hs := h.size
  unfold StepBlk at hB ⊢
  rw [hu.block _ (by simp) (fun e => by
    rcases e with e | e
    · omega
    · have hm := h.mon
      rw [← e] at hm
      have := (show MapIs .u64 .u64 wr _ L from hm.map).lt
      omega)]
  exact hB
/-- Behind Seen, on both sides. -/
theorem SyncAt.saw {w wr w4 : World} {p : Int} {i : Nat} {om om' : Option Nat} {next missed : Int} {L : List Ent} {A A' : Option Addr} {cap cap' : Nat} {k : Key} {now : Int} (h : SyncAt w wr p i om next missed L A cap) (n0 : 0 ≤ now) (n1 : now < 18446744073709551616)
    (hb : Both w w4 p om' (doNext L k next) missed (putE L k (now, doAt L k next)) (.slice A' (rseen (L.map pr) k now).length cap') missed (rseen (L.map pr) k now)) : SyncAt w w4 p (i + 1) om' (doNext L k next) missed (putE L k (now, doAt L k next)) A' cap' := by
  have e := pr_seen h.ord k now
  rw [← e] at hb
  rw [List.length_map] at hb
  have a := h.n0; have b := h.n1; have c := h.m0; have d := h.m1; have l := h.len
  have l2 := putE_length L k (now, doAt L k next)
  refine ⟨hb, h.ord.seen h.n0 k now, ?_, ?_, c, by omega, by omega, vals_put h.vals n0 n1⟩
  · unfold doNext; split <;> omega
  · unfold doNext; split <;> omega
theorem SyncAt.gone {w wr w4 : World} {p : Int} {i : Nat} {om : Option Nat} {next missed : Int} {L : List Ent} {A A' : Option Addr} {cap cap' : Nat} {k : Key} (h : SyncAt w wr p i om next missed L A cap)
    (hb : Both w w4 p om next missed (delE L k) (.slice A' ((L.map pr).filter (isNot k)).length cap') missed ((L.map pr).filter (isNot k))) : SyncAt w w4 p (i + 1) om next missed (delE L k) A' cap' := by
  rw [← pr_gone] at hb
  rw [List.length_map] at hb
  have a := h.n0; have b := h.n1; have c := h.m0; have d := h.m1; have l := h.len
  have l2 := delE_le L k
  exact ⟨hb, h.ord.gone k, a, by omega, c, by omega, by omega, fun e he => h.vals e (List.mem_filter.1 he).1⟩
theorem SyncAt.ran {w wr w4 : World} {p : Int} {i : Nat} {om : Option Nat} {next missed : Int} {L : List Ent} {A A' : Option Addr} {cap cap' : Nat} {now : Int} (h : SyncAt w wr p i om next missed L A cap) (n0 : 0 ≤ now) (n1 : now < 18446744073709551616) (hi : i ≤ 200)
    (hb : Both w w4 p om next (missed + (outs L now p).length) (hits L now p) (.slice A' ((L.map pr).map (hitw now p)).length cap') (missed + (outs L now p).length) ((L.map pr).map (hitw now p))) : SyncAt w w4 p (i + 1) om next (missed + (outs L now p).length) (hits L now p) A' cap' := by
  rw [← pr_hits] at hb
  rw [List.length_map] at hb
  have a := h.n0; have b := h.n1; have c := h.m0; have d := h.m1; have l := h.len
  have l2 := outs_length L now p
  have l3 := hits_length L now p
  exact ⟨hb, hits_ordered h.ord now p, a, by omega, by omega, by omega, by omega, vals_hit h.vals n0 n1⟩

theorem StepBlk.below {w w' : World} {b : Nat} {s : Step} (h : StepBlk w b s) (hb : Below w.heap.size w w') : StepBlk w' b s := (hb.block b h.cells.2.2.2).trans h
/-- The keys that the reference's Run handed out stand, behind what comes. -/
theorem out_kept {w wa w3 : World} {p next missed mr : Int} {om : Option Nat} {L : List Ent} {v u : Value} {xs : List Watch} {ks : List Key} (h : Both w wa p om next missed L v mr xs) (ho : RowOf w3 wa.heap.size u ks) (o : Obj) (p' : Int) (v' : Value) (m' : Int) :
    RowOf ((store3 w3 (w.heap.size + 1) p' v' m').alloc o) wa.heap.size u ks ∧ ∀ j, u.ownBlock = some j → ¬ monS w.heap.size om j := by
  have hs := h.size
  have hbl : ∀ j, u.ownBlock = some j → wa.heap.size ≤ j := fun j hj => RowE.base_le ho hj
  have hU : Upd (fun j => j = w.heap.size + 1) w3 (store3 w3 (w.heap.size + 1) p' v' m') := ⟨rfl, rfl, rfl, by simp [store3], fun j hj hn => by
    unfold store3
    rw [heap_setCell_other _ _ _ _ hn, heap_setCell_other _ _ _ _ hn, heap_setCell_other _ _ _ _ hn]⟩
  refine ⟨RowE.grown (RowE.kept ho hU (fun j hj e => by have := hbl j hj; omega)) (World.grownBy_alloc _ o none), fun j hj e => ?_⟩
  have := hbl j hj
  rcases e with e | e
  · omega
  · have hm := h.mon
    rw [← e] at hm
    have := (show MapIs .u64 .u64 wa _ L from hm.map).lt
    omega
set_option maxRecDepth 100000 in
set_option maxHeartbeats 4000000 in
theorem steps_any (p : Int) (v : Value) (n : Nat) (S : Nat → Step) (w : World) (hv : StepsAt w v n S) (p1 : p < 9223372036854775808) :
    Calls Try.prog 6 #[.int .i64 p, v] w fun x w' => x = .returned (.bool true) ∧ Below w.heap.size w w' := by
  obtain ⟨A0, cap0, rfl, hS⟩ := hv
  by_cases hg : (n : Int) ≤ 200
  · have d1 : decide ((200 : Int) < (n : Int)) = false := by simp; omega
    have HS := Lib.hid hS
    clear hS
    go_enter Try.func6, Try.ntmps6
    go_wp2_with fail
    refine (mnew_any p _).mono ?_
    rintro e w1 ⟨rfl, h1⟩
    have hJ : SyncAt w (w1.alloc (.cells #[.int .i64 p, .slice none 0 0, .int .u64 0] 55)) p 0 none 0 0 [] none 0 := by
      subst h1
      refine ⟨⟨?_, ?_, World.ownsRow_nil _ _ _ _, ?_, by simp, by simp⟩, Ordered.nil, by omega, by omega, by omega, by omega, by simp, by simp⟩
      · exact (mon_new w p).below ((Below.refl _ _).alloc (Nat.le_refl _) _)
      · exact heap_alloc2_new w _ _
      · exact ((Below.refl _ _).alloc (Nat.le_refl _) _).alloc (by simp) _
    have hz1 : w1.heap.size = w.heap.size + 1 := by rw [h1]; simp
    have HJ0 := Lib.hid hJ
    clear h1 hJ
    go_wp2_with fail
    go_loopw [7] (fun v7 wr => ∃ (i : Nat) (om : Option Nat) (next missed : Int) (L : List Ent) (A : Option Addr) (cap : Nat), v7 = .int .i64 i ∧ i ≤ n ∧ SyncAt w wr p i om next missed L A cap) (fun v7 _ => n - (intOf v7).toNat)
    case atStart => exact ⟨0, none, 0, 0, [], none, 0, rfl, by omega, HJ0.out⟩
    case round =>
      obtain ⟨i, om, next, missed, L, A, cap, rfl, hi, hJ⟩ := hrel
      by_cases hlt : i < n
      · obtain ⟨b, o, hA, hbl, hr, hok⟩ := HS.out i hlt
        subst hA
        have hb2 := hJ.both.below
        have hrx : recF svl wr b (o + i * 19) = some (S i) := recF_eq encS fun j u hj => by rw [hb2.cell (by show b < _; exact hbl)]; exact hr j u hj
        obtain ⟨s, hs⟩ : ∃ s, s = S i := ⟨_, rfl⟩
        rw [← hs] at hrx hok
        clear hr hs hbl hb2
        have hW := hJ.both.grown (w' := wr.alloc (.cells (svl s).toArray 57)) ((Below.refl _ _).alloc (Nat.le_refl _) _)
        have hB : StepBlk (wr.alloc (.cells (svl s).toArray 57)) wr.heap.size s := heap_alloc_new wr _
        have HJ := Lib.hid hJ
        have HW := Lib.hid hW
        have HB := Lib.hid hB
        clear hJ hW hB
        by_cases k1 : s.kind = 1
        · go_wp2_with fail
          refine (seen_any w.heap.size om p next missed s.key s.now L _ HW.out.mon (by have := HJ.out.len; unfold maxLen; omega) HJ.out.n0 (by have := HJ.out.n1; omega)).mono ?_
          rintro e w2 ⟨rfl, b', hb', hu2, hM2⟩
          have hBo := HW.out.monStep hu2 hM2 (fun j e => by cases e; rcases hb' with e | ⟨_, e⟩; exact HW.out.om _ e; have := HJ.out.both.size; simp at e; omega)
          have hSB := HJ.out.both.blk HB.out hu2
          obtain ⟨d0, d1, d2, dz⟩ := hSB.cells
          obtain ⟨c0, c1, c2, cf, cz⟩ := hBo.cells
          have HBo := Lib.hid hBo
          clear hBo hSB hu2 hM2 hb'
          go_wp2_with fail
          refine (rseen_any p missed s.now _ _ _ s.key w2 HBo.out.row (by rw [List.length_map]; have := HJ.out.len; omega)).mono ?_
          rintro e w3 ⟨v3, rfl, hr3, hb3⟩
          obtain ⟨A3, cap3, rfl⟩ := hr3.len
          have hN := HJ.out.saw hok.2.1 hok.2.2 (HBo.out.refStep hb3 hr3)
          obtain ⟨e0, e1, e2, ef, ez⟩ := (HBo.out.grown hb3).cells
          clear hr3 hb3 c0 c1 c2 cf cz d0 d1 d2 dz
          unfold mv
          go_wp2_with fail
          clear e0 e1 e2 ef ez
          refine wp_at (w' := (store3 w3 (w.heap.size + 1) p (.slice A3 (rseen (L.map pr) s.key s.now).length cap3) missed)) rfl ?_
          generalize (store3 w3 (w.heap.size + 1) p (.slice A3 (rseen (L.map pr) s.key s.now).length cap3) missed) = w4 at hN ⊢
          obtain ⟨om4, n4, m4, L4, A4, c4, hN⟩ : ∃ om4 n4 m4 L4 A4 c4, SyncAt w w4 p (i + 1) om4 n4 m4 L4 A4 c4 := ⟨_, _, _, _, _, _, hN⟩
          have HN := Lib.hid hN
          have hMq : ∀ q, MonAt (w4.drewN q) w.heap.size p om4 n4 m4 L4 := fun q => (HN.out.drewN q).both.mon
          obtain ⟨c0, c1, c2, cf, cz⟩ := HN.out.both.cells
          have HMq := Lib.hid hMq
          clear hN hMq
          go_quiet (first | (go_at_call 27; exact Calls.quiet_of_same ((missed_any _ _ p _ _ _ _ (HMq.out _)).mono fun _ _ h => ⟨h.1, h.2.symm⟩)) | (go_at_call 28; exact Calls.quiet_of_same ((mlen_any _ _ p _ _ _ _ (HMq.out _)).mono fun _ _ h => ⟨h.1, h.2.symm⟩)))
          go_wp2_with fail
          exact ⟨⟨i + 1, om4, n4, m4, L4, A4, c4, by go_num, by omega, HN.out.drewN nq⟩, by simp [intOf]; omega⟩
        · by_cases k2 : s.kind = 2
          · go_wp2_with fail
            refine (gone_any w.heap.size om p next missed s.key L _ HW.out.mon).mono ?_
            rintro e w2 ⟨rfl, hu2, hM2⟩
            have hBo := HW.out.monStep hu2 hM2 HW.out.om
            have hSB := HJ.out.both.blk HB.out hu2
            obtain ⟨d0, d1, d2, dz⟩ := hSB.cells
            obtain ⟨c0, c1, c2, cf, cz⟩ := hBo.cells
            have HBo := Lib.hid hBo
            clear hBo hSB hu2 hM2
            go_wp2_with fail
            refine (rgone_any p missed _ _ _ s.key w2 HBo.out.row (by rw [List.length_map]; have := HJ.out.len; omega)).mono ?_
            rintro e w3 ⟨v3, rfl, hr3, hb3⟩
            obtain ⟨A3, cap3, rfl⟩ := hr3.len
            have hN := HJ.out.gone (HBo.out.refStep hb3 hr3)
            obtain ⟨e0, e1, e2, ef, ez⟩ := (HBo.out.grown hb3).cells
            clear hr3 hb3 c0 c1 c2 cf cz d0 d1 d2 dz
            unfold mv
            go_wp2_with fail
            clear e0 e1 e2 ef ez
            refine wp_at (w' := (store3 w3 (w.heap.size + 1) p (.slice A3 ((L.map pr).filter (isNot s.key)).length cap3) missed)) rfl ?_
            generalize (store3 w3 (w.heap.size + 1) p (.slice A3 ((L.map pr).filter (isNot s.key)).length cap3) missed) = w4 at hN ⊢
            obtain ⟨om4, n4, m4, L4, A4, c4, hN⟩ : ∃ om4 n4 m4 L4 A4 c4, SyncAt w w4 p (i + 1) om4 n4 m4 L4 A4 c4 := ⟨_, _, _, _, _, _, hN⟩
            have HN := Lib.hid hN
            have hMq : ∀ q, MonAt (w4.drewN q) w.heap.size p om4 n4 m4 L4 := fun q => (HN.out.drewN q).both.mon
            obtain ⟨c0, c1, c2, cf, cz⟩ := HN.out.both.cells
            have HMq := Lib.hid hMq
            clear hN hMq
            go_quiet (first | (go_at_call 27; exact Calls.quiet_of_same ((missed_any _ _ p _ _ _ _ (HMq.out _)).mono fun _ _ h => ⟨h.1, h.2.symm⟩)) | (go_at_call 28; exact Calls.quiet_of_same ((mlen_any _ _ p _ _ _ _ (HMq.out _)).mono fun _ _ h => ⟨h.1, h.2.symm⟩)))
            go_wp2_with fail
            exact ⟨⟨i + 1, om4, n4, m4, L4, A4, c4, by go_num, by omega, HN.out.drewN nq⟩, by simp [intOf]; omega⟩
          · obtain ⟨c0, c1, c2, cf, cz⟩ := HW.out.cells
            go_wp2_with fail
            refine (rrun_any p missed s.now _ _ _ _ HW.out.row (by rw [List.length_map]; have := HJ.out.len; omega) p1 hok.2.1 hok.2.2 (fun x hx => by
              obtain ⟨e, he, rfl⟩ := List.mem_map.1 hx
              exact HJ.out.vals e he) HJ.out.m0 (by have := HJ.out.m1; omega)).mono ?_
            rintro e w3 ⟨v3, u3, rfl, hr3, ho3, hb3⟩
            obtain ⟨A3, cap3, rfl⟩ := hr3.len
            rw [← pr_outs] at ho3 ⊢
            have hl3 : ((L.map pr).map (hitw s.now p)).length = L.length := by simp
            rw [hl3] at hr3 ⊢
            have hB5 := (HW.out.refStep (m' := missed + (outs L s.now p).length) hb3 hr3).grown (w' := ((store3 w3 (w.heap.size + 1) p (.slice A3 L.length cap3) (missed + (outs L s.now p).length)).alloc (.cells #[.int .i64 p, .slice A3 L.length cap3, .int .u64 (missed + (outs L s.now p).length)] 55))) ((Below.refl _ _).alloc (Nat.le_refl _) _)
            obtain ⟨d0, d1, d2, df, dz⟩ := (HW.out.grown hb3).cells
            have hz3 := hb3.size
            simp only [World.size_alloc] at hz3
            have hq0 := HB.out.below hb3
            obtain ⟨g0, g1, g2, gz⟩ := hq0.cells
            have hz4 : wr.heap.size < w3.heap.size := gz
            have ho5 := out_kept HW.out ho3 (.cells #[.int .i64 p, .slice A3 L.length cap3, .int .u64 (missed + (outs L s.now p).length)] 55) p (.slice A3 L.length cap3) (missed + (outs L s.now p).length)
            have hb5s : (wr.alloc (.cells (svl s).toArray 57)).heap.size ≤ ((store3 w3 (w.heap.size + 1) p (.slice A3 L.length cap3) (missed + (outs L s.now p).length)).alloc (.cells #[.int .i64 p, .slice A3 L.length cap3, .int .u64 (missed + (outs L s.now p).length)] 55)).heap.size := by simp [store3]; omega
            have HB5 := Lib.hid hB5
            have HO5 := Lib.hid ho5
            clear hB5 ho5 ho3 hr3 hb3 hq0 c0 c1 c2 cf cz g1
            unfold mv
            go_wp2_with fail
            show Calls Try.prog 26 _ ((store3 w3 (w.heap.size + 1) p (.slice A3 L.length cap3) (missed + (outs L s.now p).length)).alloc (.cells #[.int .i64 p, .slice A3 L.length cap3, .int .u64 (missed + (outs L s.now p).length)] 55)) _
            clear d0 d1 d2 df dz g0 g2 gz hz3 hz4
            generalize ((store3 w3 (w.heap.size + 1) p (.slice A3 L.length cap3) (missed + (outs L s.now p).length)).alloc (.cells #[.int .i64 p, .slice A3 L.length cap3, .int .u64 (missed + (outs L s.now p).length)] 55)) = w5 at HB5 HO5 hb5s ⊢
            refine (run_any w.heap.size om p next missed s.now L w5 HB5.out.mon p1 hok.2.1 hok.2.2 HJ.out.vals (by have := HJ.out.len; omega) HJ.out.n0 (by have := HJ.out.n1; omega) HJ.out.m0 (by have := HJ.out.m1; omega) HJ.out.ord).mono ?_
            rintro e w6 ⟨v6, rfl, hu6, hr6, hM6⟩
            have hB6 := HB5.out.monStep hu6 hM6 HB5.out.om
            have ho6 := RowE.kept HO5.out.1 hu6 HO5.out.2
            have hol := outs_length L s.now p
            have hsame := same_any _ _ v6 u3 (outs L s.now p) w6 hr6 ho6 (by have := HJ.out.len; omega)
            rw [← hl3] at hB6
            have hN0 := HJ.out.ran hok.2.1 hok.2.2 (by omega) hB6
            clear hu6 hM6 hr6 hB6 ho6 hl3
            go_wp2_with fail
            refine hsame.mono ?_
            rintro e w7 ⟨rfl, q7, hw7⟩
            have hN := hN0.drewN q7
            rw [← hw7] at hN
            clear hsame hN0 hw7 hol
            go_wp2_with fail
            obtain ⟨om4, n4, m4, L4, A4, c4, hN⟩ : ∃ om4 n4 m4 L4 A4 c4, SyncAt w w7 p (i + 1) om4 n4 m4 L4 A4 c4 := ⟨_, _, _, _, _, _, hN⟩
            have HN := Lib.hid hN
            have hMq : ∀ q, MonAt (w7.drewN q) w.heap.size p om4 n4 m4 L4 := fun q => (HN.out.drewN q).both.mon
            obtain ⟨c0, c1, c2, cf, cz⟩ := HN.out.both.cells
            have HMq := Lib.hid hMq
            clear hN hMq
            go_quiet (first | (go_at_call 27; exact Calls.quiet_of_same ((missed_any _ _ p _ _ _ _ (HMq.out _)).mono fun _ _ h => ⟨h.1, h.2.symm⟩)) | (go_at_call 28; exact Calls.quiet_of_same ((mlen_any _ _ p _ _ _ _ (HMq.out _)).mono fun _ _ h => ⟨h.1, h.2.symm⟩)))
            go_wp2_with fail
            exact ⟨⟨i + 1, om4, n4, m4, L4, A4, c4, by go_num, by omega, HN.out.drewN nq⟩, by simp [intOf]; omega⟩
      · obtain rfl : i = n := by omega
        go_wp2_with fail
        refine (awake39 _).mono ?_
        rintro e w7 ⟨rfl, hb7⟩
        have hb8 := below_below hJ.both.below hJ.both.below.size hb7
        clear hb7 hJ
        go_wp2_with fail
        go_ret
        exact ⟨rfl, hb8⟩
  · have d1 : decide ((200 : Int) < (n : Int)) = true := by simp; omega
    clear hS
    go_enter Try.func6, Try.ntmps6
    go_wp2_with (first | (go_at_call 18; refine (awake39 _).mono ?_; rintro e w7 ⟨rfl, hb7⟩) | fail)
    go_ret
    exact ⟨rfl, hb7⟩
end Go.Proofs.Ytbjoodjcpkimcaa
