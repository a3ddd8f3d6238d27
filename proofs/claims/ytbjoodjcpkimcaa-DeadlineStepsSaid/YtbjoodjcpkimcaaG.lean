/- The watches of the document's answer (18 cells), the law's steps (19 cells): in memory. -/
import Derived.Test.YtbjoodjcpkimcaaF
namespace Go.Proofs.Ytbjoodjcpkimcaa
open Go.RowKit Go.Maps Go.Sort

abbrev Watch := Key × Int
def wvl (x : Watch) : List Value := kvl x.1 ++ [.int .u64 x.2]
structure Step where
  kind : Int
  key : Key
  now : Int
def svl (s : Step) : List Value := .int .i64 s.kind :: (kvl s.key ++ [.int .u64 s.now])
theorem wvl_length (x : Watch) : (wvl x).length = 18 := by simp [wvl, kvl_length]
theorem svl_length (s : Step) : (svl s).length = 19 := by simp [svl, kvl_length]
theorem encW : Enc wvl 18 where
  len := wvl_length
  inj := fun x y h => by
    unfold wvl at h
    obtain ⟨h1, h2⟩ := List.append_inj h (by rw [kvl_length, kvl_length])
    simp at h2
    exact Prod.ext (kvl_inj h1) h2
  one := fun x v hv => by
    unfold wvl at hv
    rcases List.mem_append.1 hv with h | h
    · exact kvl_one _ v h
    · simp at h; subst h; rfl
  pos := by omega
theorem encS : Enc svl 19 where
  len := svl_length
  inj := fun x y h => by
    unfold svl at h
    injection h with h0 h
    obtain ⟨h1, h2⟩ := List.append_inj h (by rw [kvl_length, kvl_length])
    simp at h0 h2
    have := kvl_inj h1
    cases x; cases y; simp_all
  one := fun x v hv => by
    unfold svl at hv
    rcases List.mem_cons.1 hv with h | h
    · subst h; rfl
    · rcases List.mem_append.1 h with h | h
      · exact kvl_one _ v h
      · simp at h; subst h; rfl
  pos := by omega
theorem encK : Enc kvl 17 := ⟨kvl_length, fun _ _ => kvl_inj, kvl_one, by omega⟩

/-! ### parts of a record -/
theorem watch_key {w : World} {b o : Nat} {x : Watch} (h : w.rangeAt b o (wvl x)) : keyF w b o = some x.1 :=
  keyF_eq fun j v hv => h j v (by unfold wvl; rw [List.getElem?_append_left (by have := (List.getElem?_eq_some_iff.1 hv).1; exact this)]; exact hv)
theorem watch_from {w : World} {b o : Nat} {x : Watch} (h : w.rangeAt b o (wvl x)) : w.cell? ⟨b, o + 17, none⟩ = some (.int .u64 x.2) :=
  h 17 _ (by unfold wvl; rw [List.getElem?_append_right (by rw [kvl_length]; omega), kvl_length]; rfl)
theorem wvl_set (x : Watch) (now : Int) : wvl (x.1, now) = (wvl x).set 17 (.int .u64 now) := by
  unfold wvl
  rw [List.set_append_right _ _ (by rw [kvl_length]; omega), kvl_length]; rfl
theorem step_parts {w : World} {b o : Nat} {s : Step} (h : w.rangeAt b o (svl s)) : w.cell? ⟨b, o, none⟩ = some (.int .i64 s.kind) ∧ keyF w b (o + 1) = some s.key ∧ w.cell? ⟨b, o + 18, none⟩ = some (.int .u64 s.now) := by
  refine ⟨h 0 _ rfl, keyF_eq fun j v hv => ?_, ?_⟩
  · have := h (j + 1) v (by
      unfold svl
      rw [List.getElem?_cons_succ, List.getElem?_append_left (by have := (List.getElem?_eq_some_iff.1 hv).1; exact this)]; exact hv)
    rwa [Nat.add_assoc, Nat.add_comm 1 j]
  · exact h 18 _ (by unfold svl; rw [List.getElem?_cons_succ, List.getElem?_append_right (by rw [kvl_length]; omega), kvl_length]; rfl)

/-! ### the operations on a whole record -/
theorem info84 : (Try.prog.info? 84).map (·.size) = some 18 := by kernel_rfl
theorem info57 : (Try.prog.info? 57).map (·.size) = some 19 := by kernel_rfl
theorem rows84 : ∃ d, Try.prog.underlying 84 = some d ∧ d.isRow = true := by
  have h : (Try.prog.underlying 84).map (·.isRow) = some true := by kernel_rfl
  cases hd : Try.prog.underlying 84 with
  | none => rw [hd] at h; cases h
  | some d => rw [hd] at h; exact ⟨d, rfl, by simpa using h⟩
theorem rows57 : ∃ d, Try.prog.underlying 57 = some d ∧ d.isRow = true := by
  have h : (Try.prog.underlying 57).map (·.isRow) = some true := by kernel_rfl
  cases hd : Try.prog.underlying 57 with
  | none => rw [hd] at h; cases h
  | some d => rw [hd] at h; exact ⟨d, rfl, by simpa using h⟩
noncomputable def loadRec (t : TypeId) (v : Value) : Sem Next := do pure (.value (← Instr.loadAt t v))
noncomputable def loadRecElse (t : TypeId) (w : World) (b o : Nat) : Result Next := (loadRec t (.pointer (some ⟨b, o, none⟩))).run Try.prog w
@[go_sem ↓] theorem execOp_load84 (ρ : Operand → Value) (dst : Option Tmp) (x : Operand) (ty : TypeId) (pos : String) (aft : Array Edge) (guard : Option (Nat × Bool)) :
    execOp ρ { dst := dst, op := .load 84 x, type := ty, pos := pos, after := aft, guard := guard } = loadRec 84 (ρ x) := rfl
@[go_sem ↓] theorem execOp_load57 (ρ : Operand → Value) (dst : Option Tmp) (x : Operand) (ty : TypeId) (pos : String) (aft : Array Edge) (guard : Option (Nat × Bool)) :
    execOp ρ { dst := dst, op := .load 57 x, type := ty, pos := pos, after := aft, guard := guard } = loadRec 57 (ρ x) := rfl
@[go_sem] theorem run_load84 (w : World) (b o : Nat) : (loadRec 84 (.pointer (some ⟨b, o, none⟩))).run Try.prog w =
    match recF wvl w b o with | some x => .ok (.value (.agg (wvl x).toArray)) w | none => loadRecElse 84 w b o := by
  cases h : recF wvl w b o with
  | none => rfl
  | some x =>
    obtain ⟨d, hd, hr⟩ := rows84
    have hr := run_loadAt_mid (P := Try.prog) w b o 84 (wvl x) d (recF_some h) hd hr (by rw [info84, wvl_length])
    simp [loadRec, hr]
@[go_sem] theorem run_load57 (w : World) (b o : Nat) : (loadRec 57 (.pointer (some ⟨b, o, none⟩))).run Try.prog w =
    match recF svl w b o with | some x => .ok (.value (.agg (svl x).toArray)) w | none => loadRecElse 57 w b o := by
  cases h : recF svl w b o with
  | none => rfl
  | some x =>
    obtain ⟨d, hd, hr⟩ := rows57
    have hr := run_loadAt_mid (P := Try.prog) w b o 57 (svl x) d (recF_some h) hd hr (by rw [info57, svl_length])
    simp [loadRec, hr]
@[go_sem] theorem store_step (w : World) (cs : Array Value) (s : Step) (m : Nat) (hm : w.heap.size = m) (hcs : cs.size = 19) :
    (storeCells ⟨m, 0, none⟩ (svl s)).run Try.prog (w.alloc (.cells cs 57)) = .ok () (w.alloc (.cells (svl s).toArray 57)) := by
  subst hm
  have h := run_storeCells_from (P := Try.prog) w.heap.size 57 (svl s) 0 cs (w.alloc (.cells cs 57)) (heap_alloc_new w _) (by rw [svl_length, hcs]) (encS.one s)
  rw [h, setRow_alloc]; rfl
@[go_sem] theorem fold_watch (zs : Array Value) (x : Watch) (hz : zs.size = 18) : List.foldl (fun cs (x : Value × Nat) => cs.setIfInBounds x.2 x.1) zs (wvl x).zipIdx = (wvl x).toArray := by
  rw [fold_set _ 0 _ (by rw [hz, wvl_length])]; rfl
theorem fold_get : ∀ (l : List Value) (n : Nat) (zs : Array Value) (i : Nat), n + l.length ≤ zs.size → (List.foldl (fun cs (x : Value × Nat) => cs.setIfInBounds x.2 x.1) zs (l.zipIdx n))[i]? = if n ≤ i ∧ i < n + l.length then l[i - n]? else zs[i]?
  | [], n, zs, i, _ => by simp; omega
  | v :: l, n, zs, i, h => by
    simp only [List.length_cons] at h
    rw [List.zipIdx_cons, List.foldl_cons, fold_get l (n + 1) _ i (by simp; omega)]
    simp only [List.length_cons]
    by_cases h1 : n + 1 ≤ i ∧ i < n + 1 + l.length
    · rw [if_pos h1, if_pos (by omega), show i - n = (i - (n + 1)) + 1 by omega]; rfl
    · rw [if_neg h1]
      by_cases h2 : i = n
      · subst h2
        rw [if_pos (by omega), Array.getElem?_setIfInBounds_self_of_lt (by omega)]
        simp
      · rw [if_neg (by omega), Array.getElem?_setIfInBounds_ne (by omega)]
theorem fold_size : ∀ (l : List (Value × Nat)) (zs : Array Value), (List.foldl (fun cs (x : Value × Nat) => cs.setIfInBounds x.2 x.1) zs l).size = zs.size
  | [], _ => rfl
  | x :: l, zs => by rw [List.foldl_cons, fold_size l, Array.size_setIfInBounds]
@[go_sem] theorem fold_key_size (zs : Array Value) (k : Key) : (List.foldl (fun cs (x : Value × Nat) => cs.setIfInBounds x.2 x.1) zs (kvl k).zipIdx).size = zs.size := fold_size _ _
@[go_sem] theorem build_watch (zs : Array Value) (k : Key) (now : Int) (hz : zs.size = 18) : (List.foldl (fun cs (x : Value × Nat) => cs.setIfInBounds x.2 x.1) zs (kvl k).zipIdx).setIfInBounds 17 (.int .u64 now) = (wvl (k, now)).toArray := by
  apply Array.ext_getElem?
  intro i
  have hg := fold_get (kvl k) 0 zs i (by rw [kvl_length, hz]; omega)
  have hg17 := fold_get (kvl k) 0 zs 17 (by rw [kvl_length, hz]; omega)
  have hsz : 17 < (List.foldl (fun cs (x : Value × Nat) => cs.setIfInBounds x.2 x.1) zs (kvl k).zipIdx).size := by
    rw [if_neg (by rw [kvl_length]; omega), Array.getElem?_eq_getElem (show 17 < zs.size by omega)] at hg17
    exact (Array.getElem?_eq_some_iff.1 hg17).1
  have e : (wvl (k, now)).toArray[i]? = (wvl (k, now))[i]? := by simp
  rw [e]
  unfold wvl
  by_cases h : i = 17
  · subst h
    rw [Array.getElem?_setIfInBounds_self_of_lt hsz, List.getElem?_append_right (by rw [kvl_length]; omega), kvl_length]; rfl
  · rw [Array.getElem?_setIfInBounds_ne (by omega), hg]
    by_cases h2 : i < 17
    · rw [if_pos (by rw [kvl_length]; omega), List.getElem?_append_left (by rw [kvl_length]; omega)]; rfl
    · rw [if_neg (by rw [kvl_length]; omega), List.getElem?_append_right (by rw [kvl_length]; omega), kvl_length, Array.getElem?_eq_none (by omega), List.getElem?_eq_none (by simp; omega)]
attribute [go_sem] wvl_length svl_length
@[go_sem] theorem recF_watch_at (w : World) (x : Watch) (m : Nat) (hm : m = w.heap.size) : recF wvl (w.alloc (.cells (wvl x).toArray 84)) m 0 = some x := recF_alloc_at encW w x 84 m hm
@[go_sem] theorem recF_step_at (w : World) (x : Step) (m : Nat) (hm : m = w.heap.size) : recF svl (w.alloc (.cells (svl x).toArray 57)) m 0 = some x := recF_alloc_at encS w x 57 m hm
theorem u53 : Try.prog.underlying 53 = some (.slice 84) := by kernel_rfl
theorem info84k : (Try.prog.info? 84).map (fun i => (i.zero, i.size, i.bytes)) = some (some (.agg (wvl (key2 0 0, 0)).toArray), 18, 32) := by kernel_rfl
end Go.Proofs.Ytbjoodjcpkimcaa
