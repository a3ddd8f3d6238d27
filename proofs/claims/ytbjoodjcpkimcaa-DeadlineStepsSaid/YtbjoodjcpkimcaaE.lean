/- Keys compared; rows of bools that came in. -/
import Derived.Test.YtbjoodjcpkimcaaD6
import Derived.Deep.Grids
import Derived.Deep.RegionHeld
namespace Go.Proofs.Ytbjoodjcpkimcaa
open Go.RowKit Go.Maps Go.Sort

set_option maxRecDepth 100000 in
theorem equal24 (a b : Key) (w : World) : (Op.equal 24 (.agg (kvs a)) (.agg (kvs b))).run Try.prog w = .ok (decide (a = b)) w := by
  obtain ⟨r, hr, hi⟩ := run_equal_deep (P := Try.prog) w (m := 3) (by decide) (k := 24) (by kernel_rfl) (by rw [u23]) (key_kl a) (key_kl b)
  rw [hr]
  congr 1
  by_cases h : a = b
  · subst h; simpa using hi.2 rfl
  · simp only [h, decide_false]
    cases r with
    | false => rfl
    | true => exact absurd (kl_inj (hi.1 rfl)) h
@[go_sem ↓] theorem run_eql24 (a b : Key) (w : World) : (binOp .eql 24 (.agg (kvs a)) (.agg (kvs b))).run Try.prog w = .ok (.bool (decide (a = b))) w := by
  simp only [binOp, Sem.run_bind, equal24, Result.andThen_ok, Sem.run_pure]
@[go_sem ↓] theorem run_neq24 (a b : Key) (w : World) : (binOp .neq 24 (.agg (kvs a)) (.agg (kvs b))).run Try.prog w = .ok (.bool (!decide (a = b))) w := by
  simp only [binOp, Sem.run_bind, equal24, Result.andThen_ok, Sem.run_pure]
theorem guard24 : Try.prog.eqGuardType Try.prog.depth 24 = false := by kernel_rfl
@[go_sem ↓] theorem run_guard24 (op : BinOp) (x y : Operand) (a b : Key) (w : World) : (eqGuard op 24 x y (.agg (kvs a)) (.agg (kvs b))).run Try.prog w = .ok () w := run_eqGuard_agg w op 24 x y _ _ guard24

theorem wf_i64 {a : Int} (h : (Lit.int .i64 a).wf = true) : -9223372036854775808 ≤ a ∧ a < 9223372036854775808 := by
  simp [Lit.wf, IntKind.min, IntKind.max, IntKind.signed, IntKind.bits] at h; omega
theorem wf_u64 {a : Int} (h : (Lit.int .u64 a).wf = true) : 0 ≤ a ∧ a < 18446744073709551616 := by
  simp [Lit.wf, IntKind.min, IntKind.max, IntKind.signed, IntKind.bits] at h; omega
/-- A slice of bools that came in: element i is B i. -/
def BoolsAt (w : World) (v : Value) (n : Nat) (B : Nat → Bool) : Prop := ∃ A cap, v = .slice A n cap ∧ ∀ i, i < n → ∃ ad, A = some ad ∧ ad.block < w.heap.size ∧ w.cell? (ad.add i) = some (.bool (B i))
theorem block_add (a : Addr) (i : Nat) : (a.add i).block = a.block := by unfold Addr.add; split <;> rfl
theorem keyF_block {w w' : World} {b o : Nat} (h : w'.heap[b]? = w.heap[b]?) : keyF w' b o = keyF w b o :=
  keyF_congr fun a ha => World.cell?_of_block (w := w) (by rw [ha]; exact h)
theorem u68 : Try.prog.underlying 68 = some (.slice 4) := by kernel_rfl
set_option maxRecDepth 100000 in
theorem open_bools_at {H : Type} {enc : TypeId × Value → H} {w : World} {b0 : Nat} {r : Reach} {base : Nat} {held : Bool} {v : Value} {d : DataW H} {ps : List MemPlace} (hval : Value.okWide Try.prog w r b0 68 v)
    (hd : DataW.Trod enc Try.prog w base (fun _ => true) held 68 v d ps) : ∃ n B, BoolsAt w v n B ∧ n ≤ maxLen := by
  obtain ⟨fuel, hf⟩ := hd
  obtain ⟨a, len, cap, rfl⟩ := Go.WideShapes.okWide_slice u68 hval
  rcases Go.Deep.open_bools u68 Try.underlying4 (by kernel_rfl) hf with ⟨h1, _⟩ | ⟨ad, len', cap', B, h1, _, hl, hm, _, hc⟩
  · simp [Value.cells] at h1
    obtain ⟨rfl, rfl, rfl⟩ := h1
    exact ⟨0, fun _ => false, ⟨none, 0, rfl, fun i hi => absurd hi (by omega)⟩, by omega⟩
  · simp [Value.cells] at h1
    obtain ⟨rfl, rfl, rfl⟩ := h1
    refine ⟨len, B, ⟨some ad, cap, rfl, fun i hi => ⟨ad, rfl, ?_, hc i (by omega)⟩⟩, by omega⟩
    have := World.block_lt_of_cell? _ _ (hc i (by omega))
    rwa [block_add] at this
end Go.Proofs.Ytbjoodjcpkimcaa
