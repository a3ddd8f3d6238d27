/- The law's steps as they come in: a slice of records of 19 cells. -/
import Derived.Test.YtbjoodjcpkimcaaG5
import Derived.Deep.Strs
namespace Go.Proofs.Ytbjoodjcpkimcaa
open Go.RowKit Go.Maps Go.Sort

set_option maxRecDepth 100000 in
theorem f57 : ∃ f0 f1 f2 : Field, Try.prog.underlying 57 = some (.struct #[f0, f1, f2]) ∧ (f0.type = 3 ∧ f0.offset = 0) ∧ (f1.type = 24 ∧ f1.offset = 1) ∧ (f2.type = 45 ∧ f2.offset = 18) := by
  have h : (Try.prog.underlying 57).map (fun d => match d with | .struct fs => fs.toList.map (fun f => (f.type, f.offset)) | _ => []) = some [(3, 0), (24, 1), (45, 18)] := by kernel_rfl
  cases hd : Try.prog.underlying 57 with
  | none => rw [hd] at h; cases h
  | some d =>
    rw [hd] at h
    cases d <;> simp only [Option.map_some, Option.some.injEq] at h <;> try (exact absurd h (by simp))
    rename_i fs
    obtain ⟨l⟩ := fs
    match l, h with
    | [f0, f1, f2], h =>
      simp at h
      exact ⟨f0, f1, f2, rfl, h.1, h.2.1, h.2.2⟩
theorem cellsOf57 : Try.prog.cellsOf 57 = 19 := by kernel_rfl
theorem u50 : Try.prog.underlying 50 = some (.slice 57) := by kernel_rfl
theorem u45 : Try.prog.underlying 45 = some (.int .u64) := by kernel_rfl
theorem u3 : Try.prog.underlying 3 = some (.int .i64) := by kernel_rfl
def Step.ok (s : Step) : Prop := (-9223372036854775808 ≤ s.kind ∧ s.kind < 9223372036854775808) ∧ 0 ≤ s.now ∧ s.now < 18446744073709551616
theorem cells_step {H : Type} {enc : TypeId × Value → H} {W : World} {base fuel : Nat} {sp : Nat → Bool} {held : Bool} {cs : List Value} {z : DataW H × List MemPlace} (hf : DataW.trod enc Try.prog W base sp held fuel 57 cs = some z) : ∃ s : Step, cs = svl s ∧ s.ok := by
  obtain ⟨f0, f1, f2, hu, ⟨t0, o0⟩, ⟨t1, o1⟩, t2, o2⟩ := f57
  obtain ⟨y0, y1, y2, n, _, hl, h0, h1, h2⟩ := Go.Deep.trod_struct3 hu hf
  rw [t0, o0, show Try.prog.cellsOf 3 = 1 from by kernel_rfl] at h0
  rw [t1, o1, arr24.size] at h1
  rw [t2, o2, show Try.prog.cellsOf 45 = 1 from by kernel_rfl] at h2
  rw [cellsOf57] at hl
  obtain ⟨a, ha, _, wa⟩ := DataW.trod_int u3 h0
  obtain ⟨k, hk⟩ := cells_key h1
  obtain ⟨b, hb, _, wb⟩ := DataW.trod_int u45 h2
  refine ⟨⟨a, k, b⟩, ?_, wf_i64 wa, wf_u64 wb⟩
  unfold svl
  rw [List.drop_zero] at ha
  have e1 : cs = cs.take 1 ++ ((cs.drop 1).take 17 ++ (cs.drop 18).take 1) := by
    have e2 : (cs.drop 18).take 1 = cs.drop 18 := List.take_of_length_le (by simp; omega)
    rw [e2]
    have e3 : (cs.drop 1).take 17 ++ cs.drop 18 = cs.drop 1 := by
      have := List.take_append_drop 17 (cs.drop 1)
      rwa [List.drop_drop] at this
    rw [e3, List.take_append_drop]
  rw [ha, hk, hb] at e1
  simpa using e1

/-- A slice of steps that came in. -/
def StepsAt (w : World) (v : Value) (n : Nat) (S : Nat → Step) : Prop := ∃ A cap, v = .slice A n cap ∧ ∀ i, i < n → ∃ b o, A = some ⟨b, o, none⟩ ∧ b < w.heap.size ∧ w.rangeAt b (o + i * 19) (svl (S i)) ∧ (S i).ok
theorem mapM_get {α : Type} {f : Nat → Option α} : ∀ {is : List Nat} {l : List α}, is.mapM f = some l → ∀ j i : Nat, is[j]? = some i → l[j]? = f i
  | [], l, h, j, i, hj => by simp at hj
  | x :: is, l, h, j, i, hj => by
    rw [List.mapM_cons] at h
    simp only [bind, Option.bind_eq_some_iff, pure, Option.some.injEq] at h
    obtain ⟨y, hy, ys, hys, rfl⟩ := h
    cases j with
    | zero => simp at hj; subst hj; simpa using hy.symm
    | succ j => simpa using mapM_get hys j i (by simpa using hj)
theorem cells_range {w : World} {base : Nat} {a : Addr} {n : Nat} {cs : List Value} (h : w.cells? base a n = some cs) : base ≤ a.block ∧ ∀ i, i < n → w.cell? (a.add i) = cs[i]? := by
  unfold World.cells? at h
  split at h
  · rename_i hb
    exact ⟨hb, fun i hi => (mapM_get h i i (by simp [hi])).symm⟩
  · cases h
theorem add_plain (x : Addr) (m : Nat) (h : x.spot = none) : x.add m = ⟨x.block, x.off + m, none⟩ := by
  unfold Addr.add
  split <;> (cases x; simp_all)
theorem spot_none {w : World} {a : Addr} {v : Value} (h : w.cell? a = some v) : a.spot = none := by
  unfold World.cell? at h
  split at h
  · split at h
    · cases h
    · rename_i hs; simpa using hs
  · cases h
set_option maxRecDepth 100000 in
theorem open_steps {H : Type} {enc : TypeId × Value → H} {w : World} {b0 : Nat} {r : Reach} {base : Nat} {held : Bool} {v : Value} {d : DataW H} {ps : List MemPlace} (hval : Value.okWide Try.prog w r b0 50 v)
    (hd : DataW.Trod enc Try.prog w base (fun _ => true) held 50 v d ps) : ∃ n S, StepsAt w v n S := by
  obtain ⟨fuel, hf⟩ := hd
  obtain ⟨a, len, cap, rfl⟩ := Go.WideShapes.okWide_slice u50 hval
  rcases Go.Deep.open_slice u50 hf with ⟨h1, _⟩ | ⟨ad, len', cap', m, n, D, Pl, h1, _, hl, _, hm, _, hc⟩
  · simp [Value.cells] at h1
    obtain ⟨rfl, rfl, rfl⟩ := h1
    exact ⟨0, fun _ => ⟨0, default, 0⟩, none, 0, rfl, fun i hi => absurd hi (by omega)⟩
  · simp [Value.cells] at h1
    obtain ⟨rfl, rfl, rfl⟩ := h1
    simp only [if_true] at hm
    subst hm
    have hs : ∀ i, i < len → ∃ s : Step, s.ok ∧ ∀ j, j < 19 → w.cell? ((ad.add (i * 19)).add j) = (svl s)[j]? := fun i hi => by
      obtain ⟨cs, h2, h3⟩ := hc i (by omega)
      obtain ⟨s, rfl, hok⟩ := cells_step h3
      rw [cellsOf57] at h2
      exact ⟨s, hok, (cells_range h2).2⟩
    have hch : ∃ S : Nat → Step, ∀ i, i < len → (S i).ok ∧ ∀ j, j < 19 → w.cell? ((ad.add (i * 19)).add j) = (svl (S i))[j]? := by
      refine ⟨fun i => if h : i < len then (hs i h).choose else ⟨0, default, 0⟩, fun i hi => ?_⟩
      simp only [dif_pos hi]
      exact (hs i hi).choose_spec
    obtain ⟨S, hS⟩ := hch
    refine ⟨len, S, some ad, _, rfl, fun i hi => ?_⟩
    have h0 := (hS 0 (by omega)).2 0 (by omega)
    have e0 : (ad.add (0 * 19)).add 0 = ad := by simp [Addr.add]
    rw [e0] at h0
    have hsp := spot_none (h0.trans (by unfold svl; rfl : (svl (S 0))[0]? = some (.int .i64 (S 0).kind)))
    have hbl := World.block_lt_of_cell? _ _ (h0.trans (by unfold svl; rfl : (svl (S 0))[0]? = some (.int .i64 (S 0).kind)))
    obtain ⟨b, o, sp⟩ := ad
    simp only at hsp hbl
    subst hsp
    refine ⟨b, o, rfl, hbl, fun j u hj => ?_, (hS i hi).1⟩
    have hj19 : j < 19 := by have := (List.getElem?_eq_some_iff.1 hj).1; rw [svl_length] at this; exact this
    have := (hS i hi).2 j hj19
    rw [hj] at this
    rw [← this, add_plain ⟨b, o, none⟩ (i * 19) rfl, add_plain _ j rfl]
end Go.Proofs.Ytbjoodjcpkimcaa
