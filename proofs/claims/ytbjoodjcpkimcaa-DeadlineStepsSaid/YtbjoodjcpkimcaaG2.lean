/- The document's answer: Seen. -/
import Derived.Test.YtbjoodjcpkimcaaG
import Derived.Laws.AppendOwnNone
namespace Go.Proofs.Ytbjoodjcpkimcaa
open Go.RowKit Go.Maps Go.Sort

abbrev RowW := RowE wvl 18 84
def mv (p : Int) (v : Value) (missed : Int) : Value := .agg #[.int .i64 p, v, .int .u64 missed]
def rseen (xs : List Watch) (k : Key) (now : Int) : List Watch := match xs.findIdx? (fun x => decide (x.1 = k)) with | some i => xs.set i (k, now) | none => xs ++ [(k, now)]

/-- A row that came in, copied onto a row just made: 'append([]Watch{}, l...)'. -/
theorem wpList_copy_watch {ops : Array Oper} {rest : List Oper} {o : Oper} {a : Act} {Q : Exit → Act → World → Prop} (w : World) (hgd : o.guard = none) (s x : Operand)
    (ho : o.op = .call { callee := .builtin .append, args := #[s, x], argTypes := #[53, 53] }) (b : Nat) (hs : a.eval s = .slice (some ⟨b, 0, none⟩) 0 0) (hb : w.heap[b]? = some (.cells #[] 84 (0, 0)))
    (base : Nat) (v : Value) (xs : List Watch) (hx : a.eval x = v) (hrow : RowW w base v xs) (hn : xs.length ≤ 1000000) (hbase : b ≤ w.heap.size)
    (h : ∀ g cap w', RowW w' b (.slice (some ⟨g, 0, none⟩) xs.length cap) xs → w.grownBy w' (some b) → wpList Try.prog ops Q rest (a.put o.dst (.slice (some ⟨g, 0, none⟩) xs.length cap)) w') : wpList Try.prog ops Q (o :: rest) a w := by
  have hown : RowW w b (.slice (some ⟨b, 0, none⟩) 0 0) [] := ⟨rfl, .inr ⟨b, 0, #[], rfl, Nat.le_refl _, hb, Nat.le_refl _, by decide, rfl, rfl⟩⟩
  rcases hrow.shape with ⟨rfl, rfl⟩ | ⟨g, cap, rfl⟩
  · obtain ⟨i0, hi, _⟩ := info_parts info84k
    exact wpList_append_own_none hgd s x 53 ho b 84 i0 18 u53 hi _ 0 [] hs hown hx (h b 0 w hown ⟨rfl, rfl, rfl, Nat.le_refl _, fun _ _ _ => rfl⟩)
  · refine wpList_append_rec encW u53 info84k (by simp [wvl_length, Value.cells]) (by decide) w hgd s x ho b _ [] hs hown ⟨g, 0, none⟩ xs.length cap xs hx rfl (fun j u hj => ?_) (by simp) hn hbase (fun v' w' h1 h2 h3 _ => ?_)
    rotate_right
    · rcases h1.shape with ⟨e, _⟩ | ⟨g', cap', rfl⟩
      · cases (h3.1 e).1
      · simp only [List.nil_append] at h1 ⊢
        exact h g' cap' w' h1 h2
    obtain ⟨_, _, _, _, cur, hbg, hsz, ht⟩ := hrow.cells
    have hj' : j < xs.length * 18 := by have := (List.getElem?_eq_some_iff.1 hj).1; rwa [encW.flat_length] at this
    have e : (⟨g, 0, none⟩ : Addr).add j = ⟨g, j, none⟩ := by unfold Addr.add; simp; exact fun e => e.symm
    rw [e, cell_of_row w g _ _ _ _ hbg, ← Array.getElem?_toList]
    rw [← ht, List.getElem?_take, if_pos hj'] at hj
    exact hj

/-- 'append' of one watch onto a row of the call's own. -/
theorem wpList_append_watch {ops : Array Oper} {rest : List Oper} {o : Oper} {a : Act} {Q : Exit → Act → World → Prop} (w : World) (hgd : o.guard = none) (s x : Operand)
    (ho : o.op = .call { callee := .builtin .append, args := #[s, x], argTypes := #[53, 53] }) (base : Nat) (v : Value) (xs : List Watch) (hs : a.eval s = v) (hown : RowW w base v xs)
    (b c : Nat) (y : Watch) (hx : a.eval x = .slice (some ⟨b, 0, none⟩) 1 c) (hk : recF wvl w b 0 = some y) (hn : xs.length ≤ 1000000) (hbase : base ≤ w.heap.size)
    (h : ∀ v' w', RowW w' base v' (xs ++ [y]) → w.grownBy w' v.ownBlock → (v'.ownBlock = v.ownBlock ∨ v'.ownBlock = some w.heap.size) → wpList Try.prog ops Q rest (a.put o.dst v') w') :
    wpList Try.prog ops Q (o :: rest) a w := by
  refine wpList_append_rec encW u53 info84k (by simp [wvl_length, Value.cells]) (by decide) w hgd s x ho base v xs hs hown ⟨b, 0, none⟩ 1 c [y] hx rfl (fun j u hj => ?_) hn (by simp) hbase (fun v' w' h1 h2 _ h4 => h v' w' h1 h2 h4)
  have := recF_some hk j u (by simpa using hj)
  rw [Nat.zero_add] at this
  rw [← this]
  congr 1
  unfold Addr.add; simp; exact fun e => e.symm
/-- The blocks that Seen, Gone, Run of the document's answer begin with. -/
def w3 (w : World) (p missed : Int) (v : Value) (k : Key) : World := ((w.alloc (.cells #[.int .i64 p, v, .int .u64 missed] 55)).alloc (.cells (kvs k) 24)).alloc (.cells #[.int .i64 0, .slice none 0 0, .int .u64 0] 55)
theorem below_w3 (w : World) (p missed : Int) (v : Value) (k : Key) : Below w.heap.size w (w3 w p missed v k) := (((Below.refl _ _).alloc (Nat.le_refl _) _).alloc (by simp) _).alloc (by simp; omega) _
theorem size_w3 (w : World) (p missed : Int) (v : Value) (k : Key) : (w3 w p missed v k).heap.size = w.heap.size + 3 := by simp [w3]
theorem box_cells {w : World} {b : Nat} {p missed : Int} {v : Value} (h : w.heap[b]? = some (.cells #[.int .i64 p, v, .int .u64 missed] 55 (0, 0))) :
    w.cell? ⟨b, 0, none⟩ = some (.int .i64 p) ∧ w.cell? ⟨b, 1, none⟩ = some v ∧ w.cell? ⟨b, 2, none⟩ = some (.int .u64 missed) ∧ (∀ o, w.frozen? ⟨b, o, none⟩ = false) ∧ b < w.heap.size :=
  ⟨by rw [cell_of_row w b 0 _ _ _ h]; rfl, by rw [cell_of_row w b 1 _ _ _ h]; rfl, by rw [cell_of_row w b 2 _ _ _ h]; rfl, fun o => frozen_of_row w b o _ _ h, (Array.getElem?_eq_some_iff.1 h).1⟩
theorem w3_parts {w w4 : World} {p missed : Int} {v : Value} {k : Key} {o : Obj} (hg : ((w3 w p missed v k).alloc o).grownBy w4 (some (w.heap.size + 1 + 1 + 1))) :
    w4.heap[w.heap.size]? = some (.cells #[.int .i64 p, v, .int .u64 missed] 55 (0, 0)) ∧ keyF w4 (w.heap.size + 1) 0 = some k ∧ w4.heap[w.heap.size + 1 + 1]? = some (.cells #[.int .i64 0, .slice none 0 0, .int .u64 0] 55 (0, 0)) ∧
      w.heap.size + 4 ≤ w4.heap.size ∧ Below w.heap.size w w4 := by
  have hs := size_w3 w p missed v k
  have hsz := hg.size
  simp only [World.size_alloc, hs] at hsz
  have hb : ∀ i, i < w.heap.size + 3 → w4.heap[i]? = (w3 w p missed v k).heap[i]? := fun i hi => by
    rw [hg.block i (by simp [hs]; omega) (fun e => by injection e with e; omega), heap_alloc_old _ _ (by omega)]
  refine ⟨?_, ?_, ?_, by omega, ?_⟩
  · rw [hb _ (by omega)]; unfold w3
    rw [heap_alloc_old _ _ (by simp; omega), heap_alloc_old _ _ (by simp)]; exact heap_alloc_new w _
  · rw [keyF_block (hb _ (by omega))]; unfold w3
    rw [keyF_alloc_past _ _ _ _ (by simp), keyF_alloc_at _ _ _ (by simp)]
  · rw [hb _ (by omega)]
    have := heap_alloc_new ((w.alloc (.cells #[.int .i64 p, v, .int .u64 missed] 55)).alloc (.cells (kvs k) 24)) (.cells #[.int .i64 0, .slice none 0 0, .int .u64 0] 55)
    simp only [World.size_alloc] at this
    exact this
  · have h0 := below_w3 w p missed v k
    exact ⟨hg.os.trans h0.os, hg.tape.trans h0.tape, hg.output.trans h0.output, by omega, fun i hi => (hb i (by omega)).trans (h0.block i hi)⟩
theorem RowE.below {α : Type} {enc : α → List Value} {n e : Nat} {w w' : World} {base : Nat} {v : Value} {xs : List α} (h : RowE enc n e w base v xs) (hb : Below w.heap.size w w') : RowE enc n e w' base v xs :=
  h.kept (Upd.of_below (S := fun _ => False) hb) (fun _ _ q => q)

theorem u55 : (Try.prog.underlying 55).map (fun d => match d with | .struct _ | .array _ _ => true | _ => false) = some true := by kernel_rfl
theorem info55 : (Try.prog.info? 55).map (·.size) = some 3 := by kernel_rfl
/-- The world behind 'm.L = v'; return m'. -/
def backW (W : World) (b0 b2 : Nat) (p missed : Int) (v' : Value) : World :=
  (((W.setCell ⟨b0, 1, none⟩ v').setCell ⟨b2, 0, none⟩ (.int .i64 p)).setCell ⟨b2, 1, none⟩ v').setCell ⟨b2, 2, none⟩ (.int .u64 missed)
theorem backW_is {W : World} {b0 b2 : Nat} {p missed : Int} {v' : Value} (h2 : W.heap[b2]? = some (.cells #[.int .i64 0, .slice none 0 0, .int .u64 0] 55 (0, 0))) (ne : b2 ≠ b0) :
    (backW W b0 b2 p missed v').heap[b2]? = some (.cells #[.int .i64 p, v', .int .u64 missed] 55 (0, 0)) ∧ Upd (fun i => i = b0 ∨ i = b2) W (backW W b0 b2 p missed v') := by
  unfold backW
  constructor
  · have e0 : (W.setCell ⟨b0, 1, none⟩ v').heap[b2]? = some (.cells #[.int .i64 0, .slice none 0 0, .int .u64 0] 55 (0, 0)) := by rw [heap_setCell_other _ _ _ _ ne]; exact h2
    have e1 := heap_setCell_same _ _ 0 _ _ (.int .i64 p) e0
    have e2 := heap_setCell_same _ _ 1 _ _ v' e1
    have e3 := heap_setCell_same _ _ 2 _ _ (.int .u64 missed) e2
    rw [e3]; rfl
  · refine ⟨rfl, rfl, rfl, by simp, fun i hi hn => ?_⟩
    have n1 : i ≠ b0 := fun e => hn (.inl e)
    have n2 : i ≠ b2 := fun e => hn (.inr e)
    rw [heap_setCell_other _ _ _ _ n2, heap_setCell_other _ _ _ _ n2, heap_setCell_other _ _ _ _ n2, heap_setCell_other _ _ _ _ n1]
/-- The return of a monitor out of its cell. -/
theorem ret55 {fn : Func} {b : Tmp} (hf : fn.results = #[.cell b 55]) {R : Ending → World → Prop} {a : Act} {w : World} {g : Nat} {p missed : Int} {v : Value} (hp : a.tmps.getD b undef = .pointer (some ⟨g, 0, none⟩)) (hd : a.defers = [])
    (hg : w.heap[g]? = some (.cells #[.int .i64 p, v, .int .u64 missed] 55 (0, 0))) (hR : R (.returned (mv p v missed)) w) : bodyPost Try.prog fn R .ret a w := by
  cases hu : Try.prog.underlying 55 with
  | none => have := u55; rw [hu] at this; cases this
  | some d =>
    have hu5 := u55
    rw [hu] at hu5
    exact bodyPost_ret (results_cell_row hf a.tmps w g 55 _ (0, 0) d hp hg hu (by cases d <;> first | rfl | (exact absurd hu5 (by intro h; cases h))) (by rw [info55]; rfl)) hd hR
theorem first_more {xs : List Watch} {k : Key} {i : Nat} {x : Watch} (h : ∀ j x, j < i → xs[j]? = some x → x.1 ≠ k) (hx : xs[i]? = some x) (hk : x.1 ≠ k) : ∀ j x, j < i + 1 → xs[j]? = some x → x.1 ≠ k := by
  intro j y hj hy
  by_cases e : j = i
  · subst e; rw [hx] at hy; cases hy; exact hk
  · exact h j y (by omega) hy
theorem rseen_hit {xs : List Watch} {k : Key} {now : Int} {i : Nat} {x : Watch} (h : ∀ j x, j < i → xs[j]? = some x → x.1 ≠ k) (hx : xs[i]? = some x) (hk : x.1 = k) : rseen xs k now = xs.set i (k, now) := by
  have e : xs.findIdx? (fun x => decide (x.1 = k)) = some i := by
    rw [List.findIdx?_eq_some_iff_getElem]
    obtain ⟨hl, hxe⟩ := List.getElem?_eq_some_iff.1 hx
    refine ⟨hl, by rw [hxe]; simpa using hk, fun j hj => ?_⟩
    have := h j xs[j] hj (List.getElem?_eq_getElem (by omega))
    simpa using this
  unfold rseen; rw [e]
theorem rseen_new {xs : List Watch} {k : Key} {now : Int} (h : ∀ j x, j < xs.length → xs[j]? = some x → x.1 ≠ k) : rseen xs k now = xs ++ [(k, now)] := by
  have e : xs.findIdx? (fun x => decide (x.1 = k)) = none := by
    rw [List.findIdx?_eq_none_iff]
    intro x hx
    obtain ⟨j, hj⟩ := List.mem_iff_getElem?.1 hx
    have := h j x (List.getElem?_eq_some_iff.1 hj).1 hj
    simpa using this
  unfold rseen; rw [e]

set_option maxRecDepth 100000 in
set_option maxHeartbeats 1000000 in
theorem rseen_any (p missed now : Int) (base : Nat) (v : Value) (xs : List Watch) (k : Key) (w : World) (hrow : RowW w base v xs) (hn : xs.length ≤ 1000) :
    Calls Try.prog 21 #[mv p v missed, .agg (kvs k), .int .u64 now] w fun x w' => ∃ v', x = .returned (mv p v' missed) ∧ RowW w' w.heap.size v' (rseen xs k now) ∧ Below w.heap.size w w' := by
  unfold mv
  have hbw : Below w.heap.size w ((w3 w p missed v k).alloc (.cells #[] 84)) := (below_w3 w p missed v k).alloc (by rw [size_w3]; omega) _
  have HR := Lib.hid (hrow.below hbw)
  have HB := Lib.hid hbw
  have hblk : ((w3 w p missed v k).alloc (.cells #[] 84)).heap[w.heap.size + 1 + 1 + 1]? = some (.cells #[] 84 (0, 0)) := by
    have := heap_alloc_new (w3 w p missed v k) (.cells #[] 84); rwa [size_w3] at this
  have HX := Lib.hid hblk
  clear hrow hbw hblk
  go_enter Try.func21, Try.ntmps21
  go_wp2_with (first | (at_builtin; refine wpList_copy_watch _ rfl _ _ rfl (w.heap.size + 1 + 1 + 1) rfl HX.out base v xs rfl HR.out (by omega) (by simp) ?_) | fail)
  intro g cap w4 hrow4 hg4
  obtain ⟨hm4, hk4, hr4, hz4, hB4⟩ := w3_parts hg4
  clear hg4
  have HRow := Lib.hid hrow4
  have HB4 := Lib.hid hB4
  have m0 := (box_cells hm4).1
  have m1 := (box_cells hm4).2.1
  have m2 := (box_cells hm4).2.2.1
  have mf := (box_cells hm4).2.2.2.1
  have r0 := (box_cells hr4).1
  have r1 := (box_cells hr4).2.1
  have r2 := (box_cells hr4).2.2.1
  have rf := (box_cells hr4).2.2.2.1
  have hz0 : w.heap.size < w4.heap.size := by omega
  have hz1 : w.heap.size + 1 < w4.heap.size := by omega
  have hz2 : w.heap.size + 1 + 1 < w4.heap.size := by omega
  · have hgb : w.heap.size + 1 + 1 + 1 ≤ g := hrow4.base_le rfl
    have hgl : g < w4.heap.size := hrow4.lt rfl
    have ne0 : g ≠ w.heap.size := by omega
    have ne1 : g ≠ w.heap.size + 1 := by omega
    have ne2 : g ≠ w.heap.size + 1 + 1 := by omega
    have HM := Lib.hid hm4
    have HRes := Lib.hid hr4
    clear hrow4 hm4 hr4 hB4
    go_wp2_with fail
    go_loopw [8] (fun v8 wr => ∃ i q : Nat, v8 = .int .i64 i ∧ i ≤ xs.length ∧ wr = w4.drewN q ∧ ∀ j x, j < i → xs[j]? = some x → x.1 ≠ k) (fun v8 _ => xs.length - (intOf v8).toNat)
    case atStart => exact ⟨0, 0, rfl, Nat.zero_le _, rfl, fun j x hj => absurd hj (by omega)⟩
    case round =>
      obtain ⟨i, q, rfl, hi, rfl, hno⟩ := hrel
      have HN := Lib.hid hno
      clear hno
      by_cases hlt : i < xs.length
      · obtain ⟨x, hx⟩ : ∃ x, xs[i]? = some x := ⟨_, List.getElem?_eq_getElem hlt⟩
        have hat := HRow.out.at encW hx
        have hkx := watch_key hat
        have hfx := watch_from hat
        have hfz : w4.frozen? ⟨g, i * 18 + 17, none⟩ = false := by obtain ⟨_, _, _, _, cur, h5, _⟩ := HRow.out.cells; exact frozen_of_row w4 g _ _ _ h5
        have HX := Lib.hid hx
        clear hx hat
        go_wp2_with fail
        go_quiet (fail)
        cases hxk : decide (x.1 = k)
        · go_wp2_with fail
          exact ⟨⟨i + 1, q + nq, by go_num, by omega, rfl, first_more HN.out HX.out (by simpa using hxk)⟩, by simp [intOf]; omega⟩
        · go_wp2_with fail
          have hrowq : RowW (w4.drewN (q + nq)) (w.heap.size + 1 + 1 + 1) (.slice (some ⟨g, 0, none⟩) xs.length cap) xs := HRow.out.below (below_dN (Below.refl _ _) _)
          have hxe : x.1 = k := by simpa using hxk
          have hw := hrowq.write encW HX.out (c := 17) (y := (k, now)) (u := .int .u64 now) (by omega) (by rw [← hxe]; exact wvl_set x now)
          have hr6 : ((w4.drewN (q + nq)).setCell ⟨g, i * 18 + 17, none⟩ (.int .u64 now)).heap[w.heap.size + 1 + 1]? = some (.cells #[.int .i64 0, .slice none 0 0, .int .u64 0] 55 (0, 0)) := by
            rw [heap_setCell_other _ _ _ _ (show w.heap.size + 1 + 1 ≠ g by omega)]; exact HRes.out
          obtain ⟨f1, f2⟩ := backW_is (b0 := w.heap.size) (p := p) (missed := missed) (v' := .slice (some ⟨g, 0, none⟩) xs.length cap) hr6 (by omega)
          refine ret55 rfl rfl rfl f1 ⟨_, rfl, ?_, ?_⟩
          · rw [rseen_hit HN.out HX.out (by simpa using hxk)]
            exact (hw.kept f2 (fun j hj e => by have hj' : g = j := (by simpa [Value.ownBlock] using hj); rcases e with e | e <;> omega)).lower (by omega)
          · have u1 : Upd (fun i => i = g) w4 ((w4.drewN (q + nq)).setCell ⟨g, i * 18 + 17, none⟩ (.int .u64 now)) := ⟨rfl, rfl, rfl, by simp, fun j hj hn => by rw [heap_setCell_other _ _ _ _ hn]; rfl⟩
            exact below_upd (below_upd HB4.out (by omega) u1 (fun j e => by omega)) (by have := u1.size; omega) f2 (fun j e => by rcases e with e | e <;> omega)
      · obtain rfl : i = xs.length := by omega
        have hrowq : ∀ o, RowW ((w4.drewN q).alloc o) (w.heap.size + 1 + 1 + 1) (.slice (some ⟨g, 0, none⟩) xs.length cap) xs := fun o => HRow.out.below ((below_dN (Below.refl _ _) q).alloc (by simp) o)
        have HQ := Lib.hid hrowq
        clear hrowq
        go_wp2_with (first | (at_builtin; refine wpList_append_watch _ rfl _ _ rfl (w.heap.size + 1 + 1 + 1) _ xs rfl (HQ.out _) w4.heap.size 1 (k, now) rfl (recF_alloc_at encW _ _ _ _ rfl) (by omega) (by simp; omega) ?_) | fail)
        intro v5 w5 hrow5 hg5 hat5
        obtain ⟨A5, c5, rfl⟩ := hrow5.len
        have hlen : (xs ++ [(k, now)]).length = xs.length + 1 := by simp
        rw [hlen] at hrow5 hat5 ⊢
        have hb5 : ∀ j, j < w.heap.size + 3 → w5.heap[j]? = w4.heap[j]? := fun j hj => by
          rw [hg5.block j (by simp; omega) (fun e => by simp [Value.ownBlock] at e; omega), heap_alloc_old _ _ (by simp; omega)]; rfl
        have hm5 := (hb5 w.heap.size (by omega)).trans HM.out
        have hr5 := (hb5 (w.heap.size + 1 + 1) (by omega)).trans HRes.out
        have hs5 := hg5.size
        have hs5 : w4.heap.size + 1 ≤ w5.heap.size := by simpa using hs5
        have n0 := (box_cells hm5).1
        have n1 := (box_cells hm5).2.1
        have n2 := (box_cells hm5).2.2.1
        have nf := (box_cells hm5).2.2.2.1
        have s0 := (box_cells hr5).1
        have s1 := (box_cells hr5).2.1
        have s2 := (box_cells hr5).2.2.1
        have sf := (box_cells hr5).2.2.2.1
        have HM5 := Lib.hid hm5
        have HR5 := Lib.hid hr5
        have HW5 := Lib.hid hrow5
        have HG5 := Lib.hid hg5
        clear hm5 hr5 hrow5 hg5 hb5 hat5
        go_wp2_with fail
        have hgl5 : ∀ j, (Value.slice A5 (xs.length + 1) c5).ownBlock = some j → w.heap.size + 1 + 1 + 1 ≤ j := fun j hj => HW5.out.base_le hj
        obtain ⟨f1, f2⟩ := backW_is (b0 := w.heap.size) (p := p) (missed := missed) (v' := .slice A5 (xs.length + 1) c5) HR5.out (by omega)
        refine ret55 rfl rfl rfl f1 ⟨_, rfl, ?_, ?_⟩
        · rw [rseen_new HN.out]
          exact (HW5.out.kept f2 (fun j hj e => by have := hgl5 j hj; rcases e with e | e <;> omega)).lower (by omega)
        · have hb5 : Below w.heap.size w w5 := below_grown (row := some g) HB4.out (show w4.grownBy w5 (some g) from ⟨HG5.out.os, HG5.out.tape, HG5.out.output, by omega, fun j hj hn => by
            rw [HG5.out.block j (by simp; omega) hn, heap_alloc_old _ _ (by simpa using hj)]; rfl⟩) (fun j e => by cases e; omega) (by omega)
          exact below_upd hb5 (by omega) f2 (fun j e => by rcases e with e | e <;> omega)
end Go.Proofs.Ytbjoodjcpkimcaa
