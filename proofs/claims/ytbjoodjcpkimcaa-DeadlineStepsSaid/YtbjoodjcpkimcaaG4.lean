/- The document's answer: Run. -/
import Derived.Test.YtbjoodjcpkimcaaG3
import Derived.Laws.ResultCell
namespace Go.Proofs.Ytbjoodjcpkimcaa
open Go.RowKit Go.Maps Go.Sort

/-- 'append' of one key onto a row of the call's own; where the new row lies. -/
theorem wpList_append_key_at {ops : Array Oper} {rest : List Oper} {o : Oper} {a : Act} {Q : Exit → Act → World → Prop} (w : World) (hgd : o.guard = none) (s x : Operand)
    (ho : o.op = .call { callee := .builtin .append, args := #[s, x], argTypes := #[35, 35] }) (base : Nat) (v : Value) (xs : List Key) (hs : a.eval s = v) (hown : RowOf w base v xs)
    (b c : Nat) (y : Key) (hx : a.eval x = .slice (some ⟨b, 0, none⟩) 1 c) (hk : keyF w b 0 = some y) (hn : xs.length ≤ 1000000) (hbase : base ≤ w.heap.size)
    (h : ∀ v' w', RowOf w' base v' (xs ++ [y]) → w.grownBy w' v.ownBlock → (v'.ownBlock = v.ownBlock ∨ v'.ownBlock = some w.heap.size) → wpList Try.prog ops Q rest (a.put o.dst v') w') :
    wpList Try.prog ops Q (o :: rest) a w := by
  refine wpList_append_rec encK u35 info24k (kvs_size _) (by decide) w hgd s x ho base v xs hs hown ⟨b, 0, none⟩ 1 c [y] hx rfl (fun j u hj => ?_) hn (by simp) hbase (fun v' w' h1 h2 _ h4 => h v' w' h1 h2 h4)
  have := keyF_some hk j u (by simpa using hj)
  rw [Nat.zero_add] at this
  rw [← this]
  congr 1
  unfold Addr.add; simp; exact fun e => e.symm

/-- Is one over? -/
def ovr (now p : Int) (x : Watch) : Bool := decide (1 ≤ p) && overF now x.2 p
def hitw (now p : Int) (x : Watch) : Watch := if ovr now p x then (x.1, now) else x
def routs (now p : Int) (xs : List Watch) : List Key := (xs.filter (ovr now p)).map (·.1)
/-- The row in the course of the loop. -/
def midw (now p : Int) (xs : List Watch) (i : Nat) : List Watch := (xs.take i).map (hitw now p) ++ xs.drop i
theorem midw_length (now p : Int) (xs : List Watch) (i : Nat) (h : i ≤ xs.length) : (midw now p xs i).length = xs.length := by simp [midw]; omega
theorem midw_get {now p : Int} {xs : List Watch} {i : Nat} {x : Watch} (h : xs[i]? = some x) : (midw now p xs i)[i]? = some x := by
  have hl := (List.getElem?_eq_some_iff.1 h).1
  unfold midw
  rw [List.getElem?_append_right (by simp; omega)]
  simp only [List.length_map, List.length_take]
  rw [show i - min i xs.length = 0 by omega, List.getElem?_drop, Nat.add_zero]; exact h
theorem midw_succ {now p : Int} {xs : List Watch} {i : Nat} {x : Watch} (h : xs[i]? = some x) : midw now p xs (i + 1) = (midw now p xs i).set i (hitw now p x) := by
  have hl := (List.getElem?_eq_some_iff.1 h).1
  unfold midw
  rw [List.take_add_one, h, List.map_append, List.set_append_right _ _ (by simp; omega)]
  simp only [List.length_map, List.length_take]
  rw [show i - min i xs.length = 0 by omega, List.drop_eq_getElem_cons hl, List.set_cons_zero, List.append_assoc]
  rfl
theorem midw_same {now p : Int} {xs : List Watch} {i : Nat} {x : Watch} (h : xs[i]? = some x) (ho : ovr now p x = false) : midw now p xs (i + 1) = midw now p xs i := by
  rw [midw_succ h]
  unfold hitw
  rw [if_neg (by simp [ho])]
  have h2 := midw_get (now := now) (p := p) h
  apply List.ext_getElem?
  intro j
  rw [List.getElem?_set]
  by_cases e : i = j
  · subst e
    rw [if_pos rfl, if_pos (List.getElem?_eq_some_iff.1 h2).1, h2]
  · rw [if_neg e]
theorem midw_end (now p : Int) (xs : List Watch) : midw now p xs xs.length = xs.map (hitw now p) := by simp [midw]
theorem routs_succ {now p : Int} {xs : List Watch} {i : Nat} {x : Watch} (h : xs[i]? = some x) : routs now p (xs.take (i + 1)) = routs now p (xs.take i) ++ (if ovr now p x then [x.1] else []) := by
  unfold routs
  rw [filter_take _ h, List.map_append]
  cases ovr now p x <;> rfl
theorem routs_le (now p : Int) (xs : List Watch) : (routs now p xs).length ≤ xs.length := by unfold routs; rw [List.length_map]; exact List.length_filter_le _ _

/-- What holds ahead of each round of Run. -/
structure RrAt (w wr : World) (p missed now : Int) (v : Value) (xs : List Watch) (g cap i : Nat) (v6 : Value) : Prop where
  outs : RowOf wr (w.heap.size + 2) v6 (routs now p (xs.take i))
  row : RowW wr (w.heap.size + 2) (.slice (some ⟨g, 0, none⟩) xs.length cap) (midw now p xs i)
  below : Below w.heap.size w wr
  box : wr.heap[w.heap.size]? = some (.cells #[.int .i64 p, v, .int .u64 (missed + (routs now p (xs.take i)).length)] 55 (0, 0))
  res : wr.heap[w.heap.size + 1]? = some (.cells #[.int .i64 0, .slice none 0 0, .int .u64 0] 55 (0, 0))
  size : w.heap.size + 3 ≤ wr.heap.size
  apart : v6.ownBlock ≠ some g
theorem RowOf.below {w w' : World} {base : Nat} {v : Value} {ks : List Key} (h : RowOf w base v ks) (hb : Below w.heap.size w w') : RowOf w' base v ks :=
  RowOf.kept (S := fun _ => False) h (Upd.of_below hb) (fun _ _ q => q)
theorem RrAt.grown {w wr w' : World} {p missed now : Int} {v : Value} {xs : List Watch} {g cap i : Nat} {v6 : Value} (h : RrAt w wr p missed now v xs g cap i v6) (hg : Below wr.heap.size wr w') : RrAt w w' p missed now v xs g cap i v6 :=
  ⟨h.outs.below hg, h.row.below hg, below_below h.below h.below.size hg, (hg.block _ (by have := h.size; omega)).trans h.box, (hg.block _ (by have := h.size; omega)).trans h.res, Nat.le_trans h.size hg.size, h.apart⟩
theorem RrAt.skip {w wr : World} {p missed now : Int} {v : Value} {xs : List Watch} {g cap i : Nat} {v6 : Value} {x : Watch} (h : RrAt w wr p missed now v xs g cap i v6) (hx : xs[i]? = some x) (ho : ovr now p x = false) : RrAt w wr p missed now v xs g cap (i + 1) v6 := by
  have e1 := midw_same hx ho
  have e2 : routs now p (xs.take (i + 1)) = routs now p (xs.take i) := by rw [routs_succ hx, if_neg (by simp [ho]), List.append_nil]
  exact ⟨by rw [e2]; exact h.outs, by rw [e1]; exact h.row, h.below, by rw [e2]; exact h.box, h.res, h.size, h.apart⟩
/-- Behind the append: everything else stands. -/
theorem RrAt.apd {w wr w7 : World} {p missed now : Int} {v : Value} {xs : List Watch} {g cap i q : Nat} {v6 v7 : Value} {o : Obj} (h : RrAt w wr p missed now v xs g cap i v6) (hg : ((wr.drewN q).alloc o).grownBy w7 v6.ownBlock) (ha : v7.ownBlock = v6.ownBlock ∨ v7.ownBlock = some (wr.heap.size + 1)) :
    w7.heap[w.heap.size]? = wr.heap[w.heap.size]? ∧ w7.heap[w.heap.size + 1]? = wr.heap[w.heap.size + 1]? ∧ w7.heap[g]? = wr.heap[g]? ∧ Below w.heap.size w w7 ∧ wr.heap.size + 1 ≤ w7.heap.size ∧ v7.ownBlock ≠ some g := by
  have hs := hg.size
  have hs : wr.heap.size + 1 ≤ w7.heap.size := by simpa using hs
  have hz := h.size
  have hgl : g < wr.heap.size := h.row.lt rfl
  have hb6 : ∀ j, v6.ownBlock = some j → w.heap.size + 2 ≤ j := fun j hj => RowE.base_le h.outs hj
  have hb : ∀ i, i < wr.heap.size → v6.ownBlock ≠ some i → w7.heap[i]? = wr.heap[i]? := fun i hi hn => by
    rw [hg.block i (by simp; omega) (fun e => hn e.symm), heap_alloc_old _ _ (by simpa using hi)]; rfl
  refine ⟨hb _ (by omega) (fun e => by have := hb6 _ e; omega), hb _ (by omega) (fun e => by have := hb6 _ e; omega), hb _ hgl h.apart, ?_, hs, ?_⟩
  · exact below_grown (row := v6.ownBlock) (((below_dN h.below q).alloc (by simp; omega) o)) hg (fun j hj => by have := hb6 j hj; omega) (by simp; omega)
  · rcases ha with e | e
    · rw [e]; exact h.apart
    · rw [e]; simp; omega
theorem RrAt.hit {w wr w7 : World} {p missed now : Int} {v : Value} {xs : List Watch} {g cap i q : Nat} {v6 v7 : Value} {o : Obj} {x : Watch} (h : RrAt w wr p missed now v xs g cap i v6) (hg : ((wr.drewN q).alloc o).grownBy w7 v6.ownBlock) (ha : v7.ownBlock = v6.ownBlock ∨ v7.ownBlock = some (wr.heap.size + 1))
    (hrow : RowOf w7 (w.heap.size + 2) v7 (routs now p (xs.take i) ++ [x.1])) (hx : xs[i]? = some x) (ho : ovr now p x = true) :
    RrAt w ((w7.setCell ⟨g, i * 18 + 17, none⟩ (.int .u64 now)).setCell ⟨w.heap.size, 2, none⟩ (.int .u64 (missed + (routs now p (xs.take i)).length + 1))) p missed now v xs g cap (i + 1) v7 := by
  obtain ⟨a1, a2, a3, a4, a5, a6⟩ := h.apd hg ha
  have hz := h.size
  have hgb : w.heap.size + 2 ≤ g := h.row.base_le rfl
  have hgl : g < wr.heap.size := h.row.lt rfl
  have e2 : routs now p (xs.take (i + 1)) = routs now p (xs.take i) ++ [x.1] := by rw [routs_succ hx, if_pos ho]
  have hrow7 : RowW w7 (w.heap.size + 2) (.slice (some ⟨g, 0, none⟩) xs.length cap) (midw now p xs i) := by
    refine ⟨h.row.1, ?_⟩
    rcases h.row.2 with h2 | ⟨g', cap', cur, hv, h1, h2, h3⟩
    · exact .inl h2
    · have hv' := hv
      simp only [Value.slice.injEq, Option.some.injEq, Addr.mk.injEq] at hv'
      obtain ⟨⟨rfl, _⟩, _, _⟩ := hv'
      exact .inr ⟨_, cap', cur, hv, h1, by rw [a3]; exact h2, h3⟩
  have hw := hrow7.write encW (midw_get hx) (c := 17) (y := hitw now p x) (u := .int .u64 now) (by omega) (by unfold hitw; rw [if_pos ho]; exact wvl_set x now)
  rw [← midw_succ hx] at hw
  have hU1 : Upd (fun j => j = g) w7 (w7.setCell ⟨g, i * 18 + 17, none⟩ (.int .u64 now)) := ⟨rfl, rfl, rfl, by simp, fun j hj hn => by rw [heap_setCell_other _ _ _ _ hn]⟩
  have hU2 : Upd (fun j => j = w.heap.size) (w7.setCell ⟨g, i * 18 + 17, none⟩ (.int .u64 now)) ((w7.setCell ⟨g, i * 18 + 17, none⟩ (.int .u64 now)).setCell ⟨w.heap.size, 2, none⟩ (.int .u64 (missed + (routs now p (xs.take i)).length + 1))) := ⟨rfl, rfl, rfl, by simp, fun j hj hn => by rw [heap_setCell_other _ _ _ _ hn]⟩
  have hb7 : ∀ j, v7.ownBlock = some j → w.heap.size + 2 ≤ j := fun j hj => RowE.base_le hrow hj
  refine ⟨?_, hw.kept hU2 (fun j hj e => ?_), ?_, ?_, ?_, by simp; omega, a6⟩
  · rw [e2]
    exact RowE.kept (RowE.kept hrow hU1 (fun j hj e => a6 (by rw [hj, e]))) hU2 (fun j hj e => by have := hb7 j hj; omega)
  · have hj' : g = j := by simpa [Value.ownBlock] using hj
    omega
  · exact below_upd (below_upd a4 (by omega) hU1 (fun j e => by omega)) (by have := hU1.size; omega) hU2 (fun j e => by omega)
  · have e0 : (w7.setCell ⟨g, i * 18 + 17, none⟩ (.int .u64 now)).heap[w.heap.size]? = some (.cells #[.int .i64 p, v, .int .u64 (missed + (routs now p (xs.take i)).length)] 55 (0, 0)) := by
      rw [heap_setCell_other _ _ _ _ (show w.heap.size ≠ g by omega), a1]; exact h.box
    rw [heap_setCell_same _ _ 2 _ _ (.int .u64 (missed + (routs now p (xs.take i)).length + 1)) e0, e2]
    simp only [List.length_append, List.length_cons, List.length_nil]
    rw [show missed + (((routs now p (xs.take i)).length + (0 + 1) : Nat) : Int) = missed + (routs now p (xs.take i)).length + 1 by omega]
    rfl
  · rw [heap_setCell_other _ _ _ _ (show w.heap.size + 1 ≠ w.heap.size by omega), heap_setCell_other _ _ _ _ (show w.heap.size + 1 ≠ g by omega), a2]; exact h.res
theorem rr_start {w w4 : World} {p missed now : Int} {v : Value} {xs : List Watch} {g cap : Nat} (hg : (((w.alloc (.cells #[.int .i64 p, v, .int .u64 missed] 55)).alloc (.cells #[.int .i64 0, .slice none 0 0, .int .u64 0] 55)).alloc (.cells #[] 84)).grownBy w4 (some (w.heap.size + 1 + 1)))
    (hrow : RowW w4 (w.heap.size + 1 + 1) (.slice (some ⟨g, 0, none⟩) xs.length cap) xs) : RrAt w w4 p missed now v xs g cap 0 (.slice none 0 0) := by
  have hsz := hg.size
  simp only [World.size_alloc] at hsz
  have hb : ∀ i, i < w.heap.size + 2 → w4.heap[i]? = ((w.alloc (.cells #[.int .i64 p, v, .int .u64 missed] 55)).alloc (.cells #[.int .i64 0, .slice none 0 0, .int .u64 0] 55)).heap[i]? := fun i hi => by
    rw [hg.block i (by simp; omega) (fun e => by injection e with e; omega), heap_alloc_old _ _ (by simp; omega)]
  refine ⟨World.ownsRow_nil _ _ _ _, by simpa [midw] using hrow, ?_, ?_, ?_, by omega, by simp [Value.ownBlock]⟩
  · exact ⟨hg.os, hg.tape, hg.output, by omega, fun i hi => by rw [hb i (by omega), heap_alloc_old _ _ (by simp; omega), heap_alloc_old _ _ hi]⟩
  · rw [hb _ (by omega), heap_alloc_old _ _ (by simp), heap_alloc_new]; simp [routs]
  · rw [hb _ (by omega)]; exact heap_alloc2_new w _ _
/-- The return of a monitor out of its cell, and of what a slot holds. -/
theorem ret55_2 {fn : Func} {b u : Tmp} (hf : fn.results = #[.cell b 55, .tmp u]) {R : Ending → World → Prop} {a : Act} {w : World} {g : Nat} {p missed : Int} {v : Value} (hp : a.tmps.getD b undef = .pointer (some ⟨g, 0, none⟩)) (hd : a.defers = [])
    (hg : w.heap[g]? = some (.cells #[.int .i64 p, v, .int .u64 missed] 55 (0, 0))) (hR : R (.returned (.tuple #[mv p v missed, a.tmps.getD u undef])) w) : bodyPost Try.prog fn R .ret a w := by
  cases hu : Try.prog.underlying 55 with
  | none => have := u55; rw [hu] at this; cases this
  | some d =>
    have hu5 := u55
    rw [hu] at hu5
    refine bodyPost_ret ?_ hd hR
    rw [results_cell_tmp hf, hp]
    have := run_loadVar_row (P := Try.prog) w g 55 55 _ (0, 0) d hg hu (by cases d <;> first | rfl | (exact absurd hu5 (by intro h; cases h))) (by rw [info55]; rfl)
    simp [asAddr, this, Result.andThen, mv]
def RrDid (w : World) (p missed now : Int) (xs : List Watch) (x : Ending) (w' : World) : Prop :=
  ∃ v' u, x = .returned (.tuple #[mv p v' (missed + (routs now p xs).length), u]) ∧ RowW w' w.heap.size v' (xs.map (hitw now p)) ∧ RowOf w' w.heap.size u (routs now p xs) ∧ Below w.heap.size w w'
set_option maxRecDepth 100000 in
set_option maxHeartbeats 2000000 in
theorem rrun_any (p missed now : Int) (base : Nat) (v : Value) (xs : List Watch) (w : World) (hrow : RowW w base v xs) (hn : xs.length ≤ 1000) (p1 : p < 9223372036854775808) (now0 : 0 ≤ now) (now1 : now < 18446744073709551616)
    (hX : ∀ x ∈ xs, 0 ≤ x.2 ∧ x.2 < 18446744073709551616) (m0 : 0 ≤ missed) (m1 : missed + 1000000 < 9223372036854775807) :
    Calls Try.prog 24 #[mv p v missed, .int .u64 now] w (RrDid w p missed now xs) := by
  unfold mv
  have hbw : Below w.heap.size w (((w.alloc (.cells #[.int .i64 p, v, .int .u64 missed] 55)).alloc (.cells #[.int .i64 0, .slice none 0 0, .int .u64 0] 55)).alloc (.cells #[] 84)) := (((Below.refl _ _).alloc (Nat.le_refl _) _).alloc (by simp) _).alloc (by simp; omega) _
  have HR := Lib.hid (hrow.below hbw)
  have hblk : (((w.alloc (.cells #[.int .i64 p, v, .int .u64 missed] 55)).alloc (.cells #[.int .i64 0, .slice none 0 0, .int .u64 0] 55)).alloc (.cells #[] 84)).heap[w.heap.size + 1 + 1]? = some (.cells #[] 84 (0, 0)) := by
    have := heap_alloc_new ((w.alloc (.cells #[.int .i64 p, v, .int .u64 missed] 55)).alloc (.cells #[.int .i64 0, .slice none 0 0, .int .u64 0] 55)) (.cells #[] 84)
    simp only [World.size_alloc] at this
    exact this
  have HX := Lib.hid hblk
  have HV := Lib.hid hX
  clear hrow hbw hblk hX
  go_enter Try.func24, Try.ntmps24
  go_wp2_with (first | (at_builtin; refine wpList_copy_watch _ rfl _ _ rfl (w.heap.size + 1 + 1) rfl HX.out base v xs rfl HR.out (by omega) (by simp) ?_) | fail)
  intro g cap w4 hrow4 hg4
  have hJ := rr_start hg4 hrow4 (p := p) (now := now)
  have HJ0 := Lib.hid hJ
  have hgl : g < w4.heap.size := hrow4.lt rfl
  clear hJ hg4 hrow4
  go_wp2_with fail
  go_loopw [6, 8] (fun v6 v8 wr => ∃ i : Nat, v8 = .int .i64 i ∧ i ≤ xs.length ∧ RrAt w wr p missed now v xs g cap i v6) (fun _ v8 _ => xs.length - (intOf v8).toNat)
  case atStart => exact ⟨0, rfl, Nat.zero_le _, HJ0.out⟩
  case round =>
    obtain ⟨i, rfl, hi, hJ⟩ := hrel
    have b0 := (box_cells hJ.box).1
    have b1 := (box_cells hJ.box).2.1
    have b2 := (box_cells hJ.box).2.2.1
    have bf := (box_cells hJ.box).2.2.2.1
    have r0 := (box_cells hJ.res).1
    have r1 := (box_cells hJ.res).2.1
    have r2 := (box_cells hJ.res).2.2.1
    have rf := (box_cells hJ.res).2.2.2.1
    have hsz := hJ.size
    have hz0 : w.heap.size < wr.heap.size := by omega
    have hz1 : w.heap.size + 1 < wr.heap.size := by omega
    have hgr : g < wr.heap.size := hJ.row.lt rfl
    have hgb : w.heap.size + 2 ≤ g := hJ.row.base_le rfl
    have hro : (routs now p (xs.take i)).length ≤ 1000 := by have := routs_le now p (xs.take i); have := List.length_take (i := i) (l := xs); omega
    have HJ := Lib.hid hJ
    clear hJ
    by_cases hlt : i < xs.length
    · obtain ⟨x, hx⟩ : ∃ x, xs[i]? = some x := ⟨_, List.getElem?_eq_getElem hlt⟩
      have hat := HJ.out.row.at encW (midw_get hx)
      have hkx := watch_key hat
      have hfx := watch_from hat
      have hfz : wr.frozen? ⟨g, i * 18 + 17, none⟩ = false := by obtain ⟨_, _, _, _, cur, h5, _⟩ := HJ.out.row.cells; exact frozen_of_row wr g _ _ _ h5
      obtain ⟨x0, x1⟩ := HV.out x (List.mem_iff_getElem?.2 ⟨i, hx⟩)
      have hrs := routs_succ (now := now) (p := p) hx
      have HXi := Lib.hid hx
      have HRs := Lib.hid hrs
      clear hx hat hrs
      by_cases hp : 1 ≤ p
      · have hpd : decide (0 < p) = true := by simp; omega
        have hov : ovr now p x = overF now x.2 p := by unfold ovr; simp [hp]
        have HO := Lib.hid hov
        clear hov
        go_wp2_with fail
        go_quiet ((go_at_call 32; exact Calls.quiet_of_same (rover_any now x.2 p _ now0 now1 x0 x1 hp p1)))
        cases hv : overF now x.2 p
        · go_wp2_with fail
          exact ⟨⟨i + 1, by go_num, by omega, (HJ.out.grown (below_dN (Below.refl _ _) nq)).skip HXi.out (by rw [HO.out]; exact hv)⟩, by simp [intOf]; omega⟩
        · have hq : ∀ o, RowOf ((wr.drewN nq).alloc o) (w.heap.size + 2) u6 (routs now p (xs.take i)) := fun o => RowOf.below HJ.out.outs ((below_dN (Below.refl _ _) nq).alloc (by simp) o)
          have HQ := Lib.hid hq
          clear hq
          go_wp2_with (first | (at_builtin; refine wpList_append_key_at _ rfl _ _ rfl (w.heap.size + 2) _ _ rfl (HQ.out _) wr.heap.size 1 x.1 rfl (keyF_alloc_at _ _ _ rfl) (by omega) (by simp; omega) ?_) | fail)
          intro v7 w7 hrow7 hg7 ha7
          obtain ⟨a1, a2, a3, a4, a5, a6⟩ := HJ.out.apd hg7 ha7
          have hend := HJ.out.hit hg7 ha7 hrow7 HXi.out (by rw [HO.out]; exact hv)
          have c1 : w7.cell? ⟨g, i * 18 + 17, none⟩ = some (.int .u64 x.2) := (World.cell?_of_block (w := wr) (a := ⟨g, i * 18 + 17, none⟩) a3).trans hfx
          have c2 : w7.frozen? ⟨g, i * 18 + 17, none⟩ = false := (World.frozen?_of_block (w := wr) (a := ⟨g, i * 18 + 17, none⟩) a3).trans hfz
          have hb7 := a1.trans HJ.out.box
          have d0 := (box_cells hb7).1
          have d1 := (box_cells hb7).2.1
          have d2 := (box_cells hb7).2.2.1
          have df := (box_cells hb7).2.2.2.1
          have ne0 : g ≠ w.heap.size := by omega
          have HE := Lib.hid hend
          clear hend hrow7 hg7 ha7 a1 a2 a3 a4 a6 hb7
          go_wp2_with fail
          exact ⟨⟨i + 1, by go_num, by omega, HE.out⟩, by simp [intOf]; omega⟩
      · have hpd : decide (0 < p) = false := by simp; omega
        have hov : ovr now p x = false := by unfold ovr; simp [hp]
        have HO := Lib.hid hov
        clear hov
        go_wp2_with fail
        go_quiet (fail)
        go_wp2_with fail
        exact ⟨⟨i + 1, by go_num, by omega, (HJ.out.grown (below_dN (Below.refl _ _) nq)).skip HXi.out HO.out⟩, by simp [intOf]; omega⟩
    · obtain rfl : i = xs.length := by omega
      go_wp2_with fail
      obtain ⟨f1, f2⟩ := backW_is (b0 := w.heap.size) (p := p) (missed := missed + (routs now p xs).length) (v' := .slice (some ⟨g, 0, none⟩) xs.length cap) HJ.out.res (by omega)
      have ho := HJ.out.outs
      rw [List.take_length] at ho
      have hr := HJ.out.row
      rw [midw_end] at hr
      refine ret55_2 rfl rfl rfl f1 ⟨_, _, rfl, ?_, ?_, ?_⟩
      · exact RowE.lower (hr.kept f2 (fun j hj e => by have hj' : g = j := (by simpa [Value.ownBlock] using hj); rcases e with e | e <;> omega)) (by omega)
      · exact RowE.lower (RowE.kept ho f2 (fun j hj e => by have := RowE.base_le ho hj; rcases e with e | e <;> omega)) (by omega)
      · exact below_upd HJ.out.below (by omega) f2 (fun j e => by rcases e with e | e <;> omega)
end Go.Proofs.Ytbjoodjcpkimcaa
