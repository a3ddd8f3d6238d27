/- Rows of keys that the call owns; sorting them by a number that each has. -/
import Derived.Test.YtbjoodjcpkimcaaI4
import Derived.Test.YtbjoodjcpkimcaaSh
import Derived.Maps.AppendAt
namespace Go.Proofs.Ytbjoodjcpkimcaa
open Go.RowKit Go.Maps Go.Sort

instance : Inhabited Key := ⟨key2 0 0⟩

/-- The slice v holds the keys ks, in a row of the call's own (from block 'base' on). -/
def RowOf (w : World) (base : Nat) (v : Value) (ks : List Key) : Prop := w.ownsRow base 24 17 v ks.length (ks.flatMap kvl)
theorem flat_length (ks : List Key) : (ks.flatMap kvl).length = ks.length * 17 := by
  induction ks with
  | nil => rfl
  | cons k ks ih => rw [List.flatMap_cons, List.length_append, ih, kvl_length, List.length_cons]; omega
theorem flat_get (ks : List Key) : ∀ i c, c < 17 → (ks.flatMap kvl)[i * 17 + c]? = (ks[i]?).bind fun k => (kvl k)[c]? := by
  induction ks with
  | nil => intro i c _; simp
  | cons k ks ih =>
    intro i c hc
    rw [List.flatMap_cons]
    cases i with
    | zero => rw [List.getElem?_append_left (by rw [kvl_length]; omega)]; simp
    | succ i =>
      rw [List.getElem?_append_right (by rw [kvl_length]; omega), kvl_length, show (i + 1) * 17 + c - 17 = i * 17 + c by omega, ih i c hc]
      simp
theorem flatA_size (ks : List Key) : (ks.flatMap kvl).toArray.size = ks.length * 17 := by rw [List.size_toArray, flat_length]
theorem flat_eq (ks : List Key) : flatK kvl 17 ks.toArray = (ks.flatMap kvl).toArray := by
  refine ext_get! (by rw [size_flatK, flatA_size, List.size_toArray]) fun t ht => ?_
  have ht' : t < ks.length * 17 := by simpa using ht
  rw [get_flatK _ _ _ _ (by simpa using ht')]
  have h := flat_get ks (t / 17) (t % 17) (Nat.mod_lt _ (by omega))
  have e : t / 17 * 17 + t % 17 = t := by omega
  have h1 : t / 17 < ks.length := by omega
  rw [e, List.getElem?_eq_getElem h1] at h
  simp only [Option.bind_some] at h
  rw [getElem!_pos ks.toArray (t / 17) (by simpa using h1)]
  simp only [List.getElem_toArray]
  rw [getElem!_pos (ks.flatMap kvl).toArray t (by rw [flatA_size]; exact ht'), List.getElem_toArray]
  have hm : t % 17 < (kvl ks[t / 17]).length := by rw [kvl_length]; omega
  rw [getElem!_pos (kvl ks[t / 17]) (t % 17) hm]
  rw [List.getElem?_eq_getElem hm, List.getElem?_eq_getElem (by rw [flat_length]; exact ht')] at h
  exact (Option.some.inj h).symm

theorem row_cells {w : World} {base g n cap : Nat} {ks : List Key} (h : RowOf w base (.slice (some ⟨g, 0, none⟩) n cap) ks) : n = ks.length ∧ base ≤ g ∧ n ≤ cap ∧ cap ≤ maxLen ∧ ∃ cur, w.heap[g]? = some (.cells cur 24 (0, 0)) ∧ cur.size = cap * 17 ∧ cur.toList.take (ks.length * 17) = ks.flatMap kvl := by
  rcases h.2 with ⟨e, _⟩ | ⟨g', cap', cur, e, h1, h2, h3, h4, h5, h6⟩
  · cases e
  · cases e
    exact ⟨rfl, h1, h3, h4, cur, h2, h5, h6⟩
theorem row_holds {w : World} {base g n cap : Nat} {ks : List Key} (h : RowOf w base (.slice (some ⟨g, 0, none⟩) n cap) ks) : HoldsK kvl 17 w g 0 ks.toArray := by
  obtain ⟨rfl, _, _, _, cur, hb, hs, ht⟩ := row_cells h
  intro j hj
  rw [flat_eq] at hj ⊢
  have hj' : j < ks.length * 17 := by rw [flatA_size] at hj; exact hj
  refine ⟨?_, frozen_of_row w g _ _ _ hb⟩
  rw [Nat.zero_add, cell_of_row w g j _ _ _ hb, getElem!_pos _ j hj]
  have : cur.toList[j]? = (ks.flatMap kvl)[j]? := by rw [← ht, List.getElem?_take, if_pos hj']
  rw [← Array.getElem?_toList, this, List.getElem?_eq_getElem (by rw [flat_length]; exact hj')]
  simp
theorem row_key {w : World} {base g n cap : Nat} {ks : List Key} (h : RowOf w base (.slice (some ⟨g, 0, none⟩) n cap) ks) {i : Nat} {k : Key} (hi : ks[i]? = some k) : keyF w g (i * 17) = some k := by
  obtain ⟨rfl, _, _, _, cur, hb, hs, ht⟩ := row_cells h
  refine keyF_eq fun j v hv => ?_
  have hl : i < ks.length := (List.getElem?_eq_some_iff.1 hi).1
  have hj : j < 17 := by have := (List.getElem?_eq_some_iff.1 hv).1; rw [kvl_length] at this; exact this
  rw [cell_of_row w g _ _ _ _ hb]
  have : cur.toList[i * 17 + j]? = (ks.flatMap kvl)[i * 17 + j]? := by rw [← ht, List.getElem?_take, if_pos (by omega)]
  rw [← Array.getElem?_toList, this, flat_get _ _ _ hj, hi]
  exact hv
theorem RowOf.kept {w w' : World} {base : Nat} {v : Value} {ks : List Key} {S : Nat → Prop} (h : RowOf w base v ks) (hu : Upd S w w') (hS : ∀ i, v.ownBlock = some i → ¬ S i) : RowOf w' base v ks := by
  refine ⟨h.1, ?_⟩
  rcases h.2 with h2 | ⟨g, cap, cur, rfl, h1, h2, h3⟩
  · exact .inl h2
  · exact .inr ⟨g, cap, cur, rfl, h1, by rw [hu.block g (Array.getElem?_eq_some_iff.1 h2).1 (hS g rfl)]; exact h2, h3⟩

theorem info24k : (Try.prog.info? 24).map (fun i => (i.zero, i.size, i.bytes)) = some (some (.agg (kvs default)), 17, 17) := by kernel_rfl
theorem u35 : Try.prog.underlying 35 = some (.slice 24) := by kernel_rfl
theorem RowOf.append {w' : World} {base : Nat} {v' : Value} {ks : List Key} {x : Key} (h : w'.ownsRow base 24 17 v' (ks.length + 1) (ks.flatMap kvl ++ kvl x)) : RowOf w' base v' (ks ++ [x]) := by
  unfold RowOf
  rw [List.length_append, List.flatMap_append, List.flatMap_singleton]
  exact h
theorem kvl_one (k : Key) : ∀ v ∈ kvl k, v.oneCell' = true := fun v hv => by simp [kvl, bcell] at hv; obtain ⟨b, _, rfl⟩ := hv; rfl
set_option maxRecDepth 100000 in
/-- 'append' of one key onto a row of the call's own. -/
theorem wpList_append_key {ops : Array Oper} {rest : List Oper} {o : Oper} {a : Act} {Q : Exit → Act → World → Prop} (w : World) (hgd : o.guard = none) (s x : Operand)
    (ho : o.op = .call { callee := .builtin .append, args := #[s, x], argTypes := #[35, 35] }) (base : Nat) (v : Value) (ks : List Key) (hs : a.eval s = v) (hown : RowOf w base v ks)
    (b c : Nat) (k : Key) (hx : a.eval x = .slice (some ⟨b, 0, none⟩) 1 c) (hk : keyF w b 0 = some k) (hn : ks.length ≤ 1000000) (hbase : base ≤ w.heap.size)
    (h : ∀ v' w', RowOf w' base v' (ks ++ [k]) → w.grownBy w' v.ownBlock → wpList Try.prog ops Q rest (a.put o.dst v') w') :
    wpList Try.prog ops Q (o :: rest) a w := by
  obtain ⟨i0, hi, hz0, hz1, hz2⟩ := info_parts info24k
  refine wpList_append_own w hgd s x 35 ho base 24 i0 (.agg (kvs default)) 17 17 u35 hi hz0 hz1 hz2 (kvs_size default) (by decide) v ks.length _ hs hown ⟨b, 0, none⟩ 1 c (kvl k) hx (kvl_length k) (fun j u hj => ?_) (kvl_one k) (by unfold maxLen; omega) (by omega) hbase
    (fun v' w' h1 h2 _ => h v' w' (RowOf.append h1) h2)
  have := keyF_some hk j u hj
  rw [Nat.zero_add] at this
  rw [← this]
  congr 1
  unfold Addr.add; simp; exact fun e => e.symm
theorem get_heap_grow (w : World) (os : Array Obj) (i : Nat) (h : i < w.heap.size) : (grow w os).heap[i]? = w.heap[i]? := by
  unfold grow; exact Array.getElem?_append_left h
theorem row_sorted {w : World} {base g n cap : Nat} {ks ks' : List Key} (h : RowOf w base (.slice (some ⟨g, 0, none⟩) n cap) ks) (hl : ks'.length = ks.length) (q : Nat) (os : Array Obj) :
    RowOf (sortWorldK kvl 17 w g 0 q ks'.toArray os) base (.slice (some ⟨g, 0, none⟩) n cap) ks' ∧ Upd (fun i => i = g) w (sortWorldK kvl 17 w g 0 q ks'.toArray os) := by
  obtain ⟨rfl, h1, h2, h3, cur, hb, hs, ht⟩ := row_cells h
  have hlt := (Array.getElem?_eq_some_iff.1 hb).1
  have hsz : (putRowK kvl 17 (Sort.ahead w q) g 0 ks'.toArray).heap.size = w.heap.size := by simp [putRowK, putRow, mapBlock, Sort.ahead]
  constructor
  · refine ⟨by rw [flat_length], .inr ⟨g, cap, putCells id 0 (flatK kvl 17 ks'.toArray) cur, by rw [hl], h1, ?_, by omega, h3, by simp [putCells, hs], ?_⟩⟩
    · unfold sortWorldK
      rw [get_heap_grow _ _ _ (by rw [hsz]; exact hlt)]
      unfold putRowK putRow mapBlock
      simp only [Sort.ahead, Array.getElem?_modify, if_true, hb, Option.map_some, onCells]
    · rw [flat_eq]
      apply List.ext_getElem?
      intro j
      rw [List.getElem?_take]
      by_cases hj : j < ks'.length * 17
      · rw [if_pos hj]
        have hj2 : j < cur.size := by rw [hs]; have := Nat.mul_le_mul_right 17 h2; omega
        unfold putCells
        rw [Array.getElem?_toList, Array.getElem?_mapIdx, Array.getElem?_eq_getElem hj2]
        simp only [Option.map_some, Nat.zero_le, Nat.zero_add, true_and, id, List.size_toArray, flat_length, hj, if_true, Nat.sub_zero]
        rw [getElem!_pos (ks'.flatMap kvl).toArray j (by rw [flatA_size]; exact hj), List.getElem?_eq_getElem (by rw [flat_length]; exact hj)]
        simp
      · rw [if_neg hj, List.getElem?_eq_none (by rw [flat_length]; omega)]
  · refine ⟨rfl, rfl, rfl, by unfold sortWorldK; rw [size_grow, hsz]; omega, fun i hi hn => ?_⟩
    unfold sortWorldK
    rw [get_heap_grow _ _ _ (by rw [hsz]; exact hi)]
    unfold putRowK putRow mapBlock
    simp only [Sort.ahead, Array.getElem?_modify]
    rw [if_neg (fun e => hn e.symm)]

/-! ### sorting -/
def cmpAt (at_ : Key → Int) (x y : Key) : Int := if at_ x < at_ y then -1 else 1
theorem ltOf_cmpAt (at_ : Key → Int) (x y : Key) : ltOf (cmpAt at_) x y = decide (at_ x < at_ y) := by
  unfold ltOf cmpAt; by_cases h : at_ x < at_ y <;> simp [h]
theorem swo_cmpAt (at_ : Key → Int) : SWO (ltOf (cmpAt at_)) where
  irrefl x := by rw [ltOf_cmpAt]; simp
  trans x y z h1 h2 := by rw [ltOf_cmpAt] at *; simp at *; omega
  ntrans x y z h1 h2 := by rw [ltOf_cmpAt] at *; simp at *; omega
theorem sorted_pairwise {at_ : Key → Int} {ks : List Key} (h : SortedIn (ltOf (cmpAt at_)) 0 ks.length ks.toArray) : ks.Pairwise fun a b => at_ a ≤ at_ b := by
  rw [List.pairwise_iff_getElem]
  intro i j hi hj hij
  have := h i j (Nat.zero_le _) hij hj
  rw [ltOf_cmpAt, getElem!_pos _ i (by simpa using hi), getElem!_pos _ j (by simpa using hj)] at this
  simpa using this

theorem sort_any (f : Nat) (cb : Array Value) (at_ : Key → Int) (base : Nat) (v : Value) (ks : List Key) (w : World) (hrow : RowOf w base v ks) (eg : ∀ args w, (callFunc f args).run Try.prog w = .ok (.enter f args) w) (hn : ks.length < 4611686018427387904)
    (hcl : ∀ W, Upd (fun i => v.ownBlock = some i) w W → ∀ x y : Key, Calls Try.prog f (#[.agg (kvs x), .agg (kvs y)] ++ cb) W fun e w' => e = .returned (.int .i64 (cmpAt at_ x y)) ∧ ∃ q os', w' = grow (W.drewN q) os') :
    Calls Try.prog 30 #[v, .func (.func f) #[] cb] w fun x w' => x = .returned (.tuple #[]) ∧ ∃ ks', ks'.Perm ks ∧ ks'.Pairwise (fun a b => at_ a ≤ at_ b) ∧ RowOf w' base v ks' ∧ Upd (fun i => v.ownBlock = some i) w w' := by
  rcases hrow.2 with ⟨rfl, h0⟩ | ⟨g, cap, cur, hv, _, hb, _⟩
  · obtain rfl : ks = [] := List.length_eq_zero_iff.1 h0
    exact (sort_short none 0 0 _ w (by omega)).mono fun e w' ⟨h1, h2⟩ => ⟨h1, [], .refl _, .nil, h2 ▸ hrow, h2 ▸ Upd.refl _ _⟩
  · subst hv
    have hH := row_holds hrow
    have hcmp : CmpLays Try.prog f cb kvl 17 (cmpAt at_) g 0 ks.toArray.size w := fun m os dk hs x y => by
      obtain ⟨l, rfl⟩ : ∃ l : List Key, dk = l.toArray := ⟨dk.toList, by simp⟩
      have hu := (row_sorted hrow (by simpa using hs) m os).2
      exact hcl _ (hu.mono fun i _ e => by subst e; rfl) x y
    have hcon := AnyQ.slices_SortFunc Try.sortKey 17 Try.isAgg24 Try.sizeOf24 kvl kvl_length (fun x v hv => by simp [kvl, bcell] at hv; obtain ⟨b, _, rfl⟩ := hv; rfl) (cmpAt at_) (swo_cmpAt at_) f cb g 0 cap ks.toArray w eg hcmp hH (Array.getElem?_eq_some_iff.1 hb).1 (by simpa using hn)
    change Calls Try.prog 30 _ _ _ at hcon
    simp only [List.size_toArray] at hcon
    refine hcon.mono fun e w' ⟨he, d', q, os, hp, hs, hw⟩ => ?_
    obtain ⟨l, rfl⟩ : ∃ l : List Key, d' = l.toArray := ⟨d'.toList, by simp⟩
    obtain ⟨p1, _, p3⟩ := hp
    have hl : l.length = ks.length := by simpa using p1
    have e1 : (l.toArray.extract 0 ks.length).toList = l := by simp [← hl]
    have e2 : (ks.toArray.extract 0 ks.length).toList = ks := by simp
    rw [e1, e2] at p3
    subst hw
    obtain ⟨r, u⟩ := row_sorted hrow hl q os
    exact ⟨he, l, p3, sorted_pairwise (by rw [hl]; exact hs), r, u.mono fun i _ e => by subst e; rfl⟩
end Go.Proofs.Ytbjoodjcpkimcaa
