/- The monitor of deadlines: Seen, Gone. -/
import Derived.Test.YtbjoodjcpkimcaaD
namespace Go.Proofs.Ytbjoodjcpkimcaa
open Go.RowKit Go.Maps

@[go_sem] theorem run_eql71 (b : Nat) (w : World) : Sem.run Try.prog (binOp .eql 71 (.map (some b)) (.map none)) w = .ok (.bool false) w := by kernel_rfl
@[go_sem] theorem run_eql71_nil (w : World) : Sem.run Try.prog (binOp .eql 71 (.map none) (.map none)) w = .ok (.bool true) w := by kernel_rfl
@[go_sem] theorem mapF_made {ka kb : IntKind} (w : World) (n : Nat) (hn : n = w.heap.size) : mapF ka kb (w.alloc (.map #[] 0)) n = some (entOf [], knownB [], 0) := by
  subst hn; exact mapF_eq (MapIs.made w)

theorem mon_put {w W : World} {g b : Nat} {p next missed : Int} {L : List Ent} {S : Nat → Prop} (hW : MonAt W g p (some b) next missed L) (hu : Upd S w W) (hS : b < w.heap.size → S b) (hn : L.length < maxLen) (k : Key) (x y : Int) :
    Upd S w (put71 W b k x y) ∧ MonAt (put71 W b k x y) g p (some b) next missed (putE L k (x, y)) := by
  obtain ⟨h1, h2⟩ := put71_is hW.map hn k x y
  have hg := h2.grown
  refine ⟨⟨hg.os.trans hu.os, hg.tape.trans hu.tape, hg.output.trans hu.output, Nat.le_trans hu.size hg.size, fun i hi hn => ?_⟩, ⟨?_, h1⟩⟩
  · rw [hg.block i (Nat.lt_of_lt_of_le hi hu.size) (fun e => by injection e with e; subst e; exact hn (hS hi))]
    exact hu.block i hi hn
  · rw [h2.grown.block g hW.lt (fun e => by injection e with e; exact hW.ne e)]
    exact hW.blk
theorem mon_del {w W : World} {g b : Nat} {p next missed : Int} {L : List Ent} {S : Nat → Prop} (hW : MonAt W g p (some b) next missed L) (hu : Upd S w W) (hS : b < w.heap.size → S b) (k : Key) :
    Upd S w (del71 W b k) ∧ MonAt (del71 W b k) g p (some b) next missed (delE L k) := by
  obtain ⟨h1, h2⟩ := del71_is hW.map k
  have hg := h2.grown
  refine ⟨⟨hg.os.trans hu.os, hg.tape.trans hu.tape, hg.output.trans hu.output, Nat.le_trans hu.size hg.size, fun i hi hn => ?_⟩, ⟨?_, h1⟩⟩
  · rw [hg.block i (Nat.lt_of_lt_of_le hi hu.size) (fun e => by injection e with e; subst e; exact hn (hS hi))]
    exact hu.block i hi hn
  · rw [h2.grown.block g hW.lt (fun e => by injection e with e; exact hW.ne e)]
    exact hW.blk
/-- A cell of the monitor written. -/
theorem mon_cell {w W : World} {g : Nat} {om : Option Nat} {p next missed : Int} {L : List Ent} {S : Nat → Prop} (hW : MonAt W g p om next missed L) (hu : Upd S w W) (hS : S g) :
    (∀ n, Upd S w (W.setCell ⟨g, 2, none⟩ (.int .u64 n)) ∧ MonAt (W.setCell ⟨g, 2, none⟩ (.int .u64 n)) g p om n missed L) ∧
    (∀ n, Upd S w (W.setCell ⟨g, 3, none⟩ (.int .u64 n)) ∧ MonAt (W.setCell ⟨g, 3, none⟩ (.int .u64 n)) g p om next n L) ∧
    (∀ b L', b ≠ g → MapIs .u64 .u64 W b L' → Upd S w (W.setCell ⟨g, 1, none⟩ (.map (some b))) ∧ MonAt (W.setCell ⟨g, 1, none⟩ (.map (some b))) g p (some b) next missed L') := by
  have hm := hW.map
  have hU : ∀ o v, Upd S w (W.setCell ⟨g, o, none⟩ v) := fun o v => ⟨hu.os, hu.tape, hu.output, by simp; exact hu.size, fun i hi hn => by rw [heap_setCell_other _ _ _ _ (fun e => by obtain rfl : i = g := e; exact hn hS)]; exact hu.block i hi hn⟩
  have hM : ∀ o v, OptMap (W.setCell ⟨g, o, none⟩ v) om L := fun o v => by
    unfold OptMap at hm ⊢
    cases om with
    | none => exact hm
    | some b => exact hm.congr (heap_setCell_other _ _ _ _ hW.ne.symm)
  refine ⟨fun n => ⟨hU _ _, ⟨by rw [heap_setCell_same _ _ _ _ _ _ hW.blk]; rfl, hM _ _⟩⟩, fun n => ⟨hU _ _, ⟨by rw [heap_setCell_same _ _ _ _ _ _ hW.blk]; rfl, hM _ _⟩⟩,
    fun b L' hb hb' => ⟨hU _ _, ⟨by rw [heap_setCell_same _ _ _ _ _ _ hW.blk]; rfl, hb'.congr (heap_setCell_other _ _ _ _ hb)⟩⟩⟩

def monS (g : Nat) (om : Option Nat) (i : Nat) : Prop := i = g ∨ some i = om
/-- What Seen does. -/
def SeenDid (w : World) (g : Nat) (p : Int) (om : Option Nat) (next missed : Int) (L : List Ent) (k : Key) (now : Int) (x : Ending) (w' : World) : Prop :=
  x = .returned (.tuple #[]) ∧ ∃ b, (om = some b ∨ om = none ∧ w.heap.size ≤ b) ∧ Upd (monS g om) w w' ∧ MonAt w' g p (some b) (doNext L k next) missed (putE L k (now, doAt L k next))

set_option maxHeartbeats 400000 in
theorem seen_nil (k : Key) (now : Int) (w : World) : Calls Try.prog 20 #[.pointer none, .agg (kvs k), .int .u64 now] w fun x w' => x = .returned (.tuple #[]) ∧ Below w.heap.size w w' := by
  go_enter Try.func20, Try.ntmps20
  go_wp2
  exact bodyPost_ret (results_none rfl _ _ _) rfl ⟨rfl, (Below.refl _ _).alloc (Nat.le_refl _) _⟩

set_option maxRecDepth 100000 in
set_option maxHeartbeats 400000 in
theorem seen_known (g b : Nat) (p next missed : Int) (k : Key) (now : Int) (L : List Ent) (w : World) (hr : MonAt w g p (some b) next missed L) (hk : knownB L k = true) (hn : L.length < maxLen) :
    Calls Try.prog 20 #[.pointer (some ⟨g, 0, none⟩), .agg (kvs k), .int .u64 now] w (SeenDid w g p (some b) next missed L k now) := by
  obtain ⟨h0, h1, h2, h3, hgl⟩ := monCells hr
  have hF := mapF_eq (show MapIs .u64 .u64 w b L from hr.map)
  have hbl := (show MapIs .u64 .u64 w b L from hr.map).lt
  have hne := hr.ne
  have hne' := hne.symm
  have HR := Lib.hid hr
  clear hr
  go_enter Try.func20, Try.ntmps20
  go_wp2_with fail
  go_region
  go_wp2_with fail
  go_region
  go_wp2_with fail
  go_end0
  have hB : Below w.heap.size w ((w.alloc (.cells (kvs k) 24)).alloc (.cells #[.int .u64 now, .int .u64 (entOf L k).2] 81)).drew.drew := (below2 _ _ _).drew
  obtain ⟨u, r⟩ := mon_put (HR.out.below hB) (Upd.of_below (S := monS g (some b)) hB) (fun _ => .inr rfl) hn k now (entOf L k).2
  refine ⟨rfl, b, .inl rfl, u, ?_⟩
  unfold doNext doAt
  rw [hk]
  exact r

set_option maxRecDepth 100000 in
set_option maxHeartbeats 400000 in
theorem seen_new (g b : Nat) (p next missed : Int) (k : Key) (now : Int) (L : List Ent) (w : World) (hr : MonAt w g p (some b) next missed L) (hk : knownB L k = false) (hn : L.length < maxLen) (n0 : 0 ≤ next) (n1 : next < 9223372036854775807) :
    Calls Try.prog 20 #[.pointer (some ⟨g, 0, none⟩), .agg (kvs k), .int .u64 now] w (SeenDid w g p (some b) next missed L k now) := by
  obtain ⟨h0, h1, h2, h3, hgl⟩ := monCells hr
  have hF := mapF_eq (show MapIs .u64 .u64 w b L from hr.map)
  have hbl := (show MapIs .u64 .u64 w b L from hr.map).lt
  have hne := hr.ne
  have hne' := hne.symm
  have hfr := monFroz hr 2
  have HR := Lib.hid hr
  clear hr
  go_enter Try.func20, Try.ntmps20
  go_wp2_with fail
  go_region
  go_wp2_with fail
  go_region
  go_wp2_with fail
  go_end0
  obtain ⟨u1, r1⟩ := (mon_cell (S := monS g (some b)) HR.out (Upd.refl _ _) (.inl rfl)).1 (next + 1)
  have hB := fun W : World => ((below2 W (.cells (kvs k) 24) (.cells #[.int .u64 now, .int .u64 next] 81))).drew
  obtain ⟨u, r⟩ := mon_put (S := monS g (some b)) (r1.below (hB _)) (u1.trans (Upd.of_below (S := fun _ => False) (hB _)) (fun _ _ e => e.elim)) (fun _ => .inr rfl) hn k now next
  refine ⟨rfl, b, .inl rfl, u, ?_⟩
  unfold doNext doAt
  rw [hk]
  exact r

theorem seen_first_end {g : Nat} {p next missed : Int} {k : Key} {now : Int} {w : World} (hr : MonAt w g p none next missed []) :
    SeenDid w g p none next missed [] k now (.returned (.tuple #[])) (put71 (((((w.setCell ⟨g, 1, none⟩ (.map (some (w.heap.size + 1)))).setCell ⟨g, 2, none⟩ (.int .u64 (next + 1))).alloc (.cells (kvs k) 24)).alloc (.map #[] 0)).alloc (.cells #[.int .u64 now, .int .u64 next] 81)).drew.drew (w.heap.size + 1) k now next) := by
  have hl := hr.lt
  have hM : MonAt (((((w.setCell ⟨g, 1, none⟩ (.map (some (w.heap.size + 1)))).setCell ⟨g, 2, none⟩ (.int .u64 (next + 1))).alloc (.cells (kvs k) 24)).alloc (.map #[] 0)).alloc (.cells #[.int .u64 now, .int .u64 next] 81)).drew.drew g p (some (w.heap.size + 1)) (next + 1) missed [] := by
    refine ⟨?_, ?_⟩
    · show (((((w.setCell ⟨g, 1, none⟩ (.map (some (w.heap.size + 1)))).setCell ⟨g, 2, none⟩ (.int .u64 (next + 1))).alloc (.cells (kvs k) 24)).alloc (.map #[] 0)).alloc (.cells #[.int .u64 now, .int .u64 next] 81)).heap[g]? = _
      rw [heap_alloc_old _ _ (by simp; omega), heap_alloc_old _ _ (by simp; omega), heap_alloc_old _ _ (by simp; omega)]
      rw [heap_setCell_same _ _ _ _ _ _ (heap_setCell_same _ _ _ _ _ _ hr.blk)]
      rfl
    · have hm := MapIs.made (ka := .u64) (kb := .u64) (((w.setCell ⟨g, 1, none⟩ (.map (some (w.heap.size + 1)))).setCell ⟨g, 2, none⟩ (.int .u64 (next + 1))).alloc (.cells (kvs k) 24))
      have hs : (((w.setCell ⟨g, 1, none⟩ (.map (some (w.heap.size + 1)))).setCell ⟨g, 2, none⟩ (.int .u64 (next + 1))).alloc (.cells (kvs k) 24)).heap.size = w.heap.size + 1 := by simp
      rw [hs] at hm
      exact hm.congr (heap_alloc_old _ _ (by simp))
  have hU : Upd (monS g none) w (((((w.setCell ⟨g, 1, none⟩ (.map (some (w.heap.size + 1)))).setCell ⟨g, 2, none⟩ (.int .u64 (next + 1))).alloc (.cells (kvs k) 24)).alloc (.map #[] 0)).alloc (.cells #[.int .u64 now, .int .u64 next] 81)).drew.drew := by
    refine ⟨rfl, rfl, rfl, by simp; omega, fun i hi hn => ?_⟩
    have hig : i ≠ g := fun e => hn (.inl e)
    show (((((w.setCell ⟨g, 1, none⟩ (.map (some (w.heap.size + 1)))).setCell ⟨g, 2, none⟩ (.int .u64 (next + 1))).alloc (.cells (kvs k) 24)).alloc (.map #[] 0)).alloc (.cells #[.int .u64 now, .int .u64 next] 81)).heap[i]? = _
    rw [heap_alloc_old _ _ (by simp; omega), heap_alloc_old _ _ (by simp; omega), heap_alloc_old _ _ (by simp; omega)]
    rw [heap_setCell_other _ _ _ _ hig, heap_setCell_other _ _ _ _ hig]
  obtain ⟨u, r⟩ := mon_put hM hU (fun h => absurd h (by omega)) (by decide) k now next
  exact ⟨rfl, _, .inr ⟨rfl, by omega⟩, u, r⟩

set_option maxRecDepth 100000 in
set_option maxHeartbeats 400000 in
theorem seen_first (g : Nat) (p next missed : Int) (k : Key) (now : Int) (w : World) (hr : MonAt w g p none next missed []) (n0 : 0 ≤ next) (n1 : next < 9223372036854775807) :
    Calls Try.prog 20 #[.pointer (some ⟨g, 0, none⟩), .agg (kvs k), .int .u64 now] w (SeenDid w g p none next missed [] k now) := by
  obtain ⟨h0, h1, h2, h3, hgl⟩ := monCells hr
  have hfr := monFroz hr
  have hk : knownB [] k = false := rfl
  have hmm := @run_makeMap Try.prog
  have ne1 : w.heap.size + 1 ≠ g := by omega
  have hg1 : g < w.heap.size + 1 := by omega
  have hg2 : g < w.heap.size + 1 + 1 := by omega
  have hg3 : g < w.heap.size + 1 + 1 + 1 := by omega
  have hm0 : (0 : Nat) < maxLen := by decide
  have HR := Lib.hid hr
  clear hr
  go_enter Try.func20, Try.ntmps20
  go_wp2_with fail
  go_region
  go_wp2_with fail
  go_region
  go_wp2_with fail
  go_end0
  exact seen_first_end HR.out

theorem seen_any (g : Nat) (om : Option Nat) (p next missed : Int) (k : Key) (now : Int) (L : List Ent) (w : World) (hr : MonAt w g p om next missed L) (hn : L.length < maxLen) (n0 : 0 ≤ next) (n1 : next < 9223372036854775807) :
    Calls Try.prog 20 #[.pointer (some ⟨g, 0, none⟩), .agg (kvs k), .int .u64 now] w (SeenDid w g p om next missed L k now) := by
  cases om with
  | none =>
    obtain rfl : L = [] := hr.map
    exact seen_first g p next missed k now w hr n0 n1
  | some b =>
    cases hk : knownB L k
    · exact seen_new g b p next missed k now L w hr hk hn n0 n1
    · exact seen_known g b p next missed k now L w hr hk hn

/-! ### Gone -/
set_option maxHeartbeats 400000 in
theorem gone_nil (k : Key) (w : World) : Calls Try.prog 22 #[.pointer none, .agg (kvs k)] w fun x w' => x = .returned (.tuple #[]) ∧ Below w.heap.size w w' := by
  go_enter Try.func22, Try.ntmps22
  go_wp2
  go_end0
  exact ⟨rfl, (Below.refl _ _).alloc (Nat.le_refl _) _⟩
@[go_sem ↓] theorem run_del71_nil (w : World) (ty : TypeId) (k : Key) : (Builtin.delete_ #[71, 24] ty #[.map none, .agg (kvs k)]).run Try.prog w = .ok (.tuple #[]) w :=
  Maps.drop_nil law24 u71 (key_kl k) ty
def GoneDid (w : World) (g : Nat) (p : Int) (om : Option Nat) (next missed : Int) (L : List Ent) (k : Key) (x : Ending) (w' : World) : Prop :=
  x = .returned (.tuple #[]) ∧ Upd (monS g om) w w' ∧ MonAt w' g p om next missed (delE L k)
set_option maxHeartbeats 400000 in
theorem gone_any (g : Nat) (om : Option Nat) (p next missed : Int) (k : Key) (L : List Ent) (w : World) (hr : MonAt w g p om next missed L) :
    Calls Try.prog 22 #[.pointer (some ⟨g, 0, none⟩), .agg (kvs k)] w (GoneDid w g p om next missed L k) := by
  obtain ⟨h0, h1, h2, h3, hgl⟩ := monCells hr
  cases om with
  | none =>
    obtain rfl : L = [] := hr.map
    have HR := Lib.hid hr
    clear hr
    go_enter Try.func22, Try.ntmps22
    go_wp2_with fail
    go_region
    go_wp2_with fail
    go_end0
    have hB : Below w.heap.size w (w.alloc (.cells (kvs k) 24)).drew := ((Below.refl _ _).alloc (Nat.le_refl _) _).drew
    exact ⟨rfl, Upd.of_below hB, HR.out.below hB⟩
  | some b =>
    have hF := mapF_eq (show MapIs .u64 .u64 w b L from hr.map)
    have hbl := (show MapIs .u64 .u64 w b L from hr.map).lt
    have HR := Lib.hid hr
    clear hr
    go_enter Try.func22, Try.ntmps22
    go_wp2_with fail
    go_region
    go_wp2_with fail
    go_end0
    have hB : Below w.heap.size w (w.alloc (.cells (kvs k) 24)).drew := ((Below.refl _ _).alloc (Nat.le_refl _) _).drew
    obtain ⟨u, r⟩ := mon_del (HR.out.below hB) (Upd.of_below (S := monS g (some b)) hB) (fun _ => .inr rfl) k
    exact ⟨rfl, u, r⟩
end Go.Proofs.Ytbjoodjcpkimcaa
