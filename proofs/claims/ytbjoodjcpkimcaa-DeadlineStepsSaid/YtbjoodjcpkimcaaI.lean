/- The registry of instances: what each of its functions does, as a plain list of what is known. -/
import Derived.Test.YtbjoodjcpkimcaaM
namespace Go.Proofs.Ytbjoodjcpkimcaa
open Go.RowKit Go.Maps

/-- Nothing but the blocks of S, and new ones, has turned. -/
structure Upd (S : Nat → Prop) (w w' : World) : Prop where
  os : w'.os = w.os
  tape : w'.tape = w.tape
  output : w'.output = w.output
  size : w.heap.size ≤ w'.heap.size
  block : ∀ i, i < w.heap.size → ¬ S i → w'.heap[i]? = w.heap[i]?

/-- A registry lies at block g: its size, its count, its map (block bm). -/
structure RegAt (w : World) (g bm : Nat) (most next : Int) (L : List Ent) : Prop where
  blk : w.heap[g]? = some (.cells #[.int .i64 most, .int .u64 next, .map (some bm)] 48 (0, 0))
  map : MapIs .i64 .u64 w bm L

def mayF (op : Int) (known : Bool) (len most : Int) : Int :=
  if op ≠ 1 ∧ op ≠ 2 ∧ op ≠ 3 then 4 else if op ≠ 1 ∧ known = false then 18 else if op = 1 ∧ known = false ∧ most ≤ len then 17 else 0

theorem regCells {w : World} {g bm : Nat} {most next : Int} {L : List Ent} (h : RegAt w g bm most next L) :
    w.cell? ⟨g, 0, none⟩ = some (.int .i64 most) ∧ w.cell? ⟨g, 1, none⟩ = some (.int .u64 next) ∧ w.cell? ⟨g, 2, none⟩ = some (.map (some bm)) ∧ g < w.heap.size ∧ bm < w.heap.size ∧ mapF .i64 .u64 w bm = some (entOf L, knownB L, L.length) := by
  have hb := h.blk
  refine ⟨by rw [cell_of_row w g 0 _ _ _ hb]; rfl, by rw [cell_of_row w g 1 _ _ _ hb]; rfl, by rw [cell_of_row w g 2 _ _ _ hb]; rfl, (Array.getElem?_eq_some_iff.1 hb).1, h.map.lt, mapF_eq h.map⟩

theorem below_dN {B : Nat} {w w1 : World} (h : Below B w w1) (n : Nat) : Below B w (w1.drewN n) := ⟨h.os, h.tape, h.output, h.size, h.block⟩
theorem below2n (w : World) (a b : Obj) (n : Nat) : Below w.heap.size w (((w.alloc a).alloc b).drewN n) := below_dN (((Below.refl _ _).alloc (Nat.le_refl _) _).alloc (by simp) _) n
theorem below2 (w : World) (a b : Obj) : Below w.heap.size w ((w.alloc a).alloc b).drew := ((((Below.refl _ _).alloc (Nat.le_refl _) _).alloc (by simp) _)).drew


section
variable (g bm : Nat) (most : Int) (k : Key) (L : List Ent) (w : World) (hg0 : w.cell? ⟨g, 0, none⟩ = some (.int .i64 most)) (hg2 : w.cell? ⟨g, 2, none⟩ = some (.map (some bm)))
  (hgl : g < w.heap.size) (hbl : bm < w.heap.size) (hF : mapF .i64 .u64 w bm = some (entOf L, knownB L, L.length))
include hg0 hg2 hgl hbl hF
omit hg0 in
set_option maxHeartbeats 400000 in
theorem may_kind (op : Int) (h1 : (op != 1) = true) (h2 : (op != 2) = true) (h3 : (op != 3) = true) :
    Calls Try.prog 12 #[.pointer (some ⟨g, 0, none⟩), .int .i64 op, .agg (kvs k)] w fun e w' => e = .returned (.int .i64 4) ∧ Below w.heap.size w w' := by
  go_enter Try.func12, Try.ntmps12
  go_wp2
  go_region
  go_wp2
  go_ret
  exact ⟨rfl, below2 _ _ _⟩
set_option maxHeartbeats 400000 in
theorem may_w1 (hk : knownB L k = false) (hm : decide (most ≤ (L.length : Int)) = true) :
    Calls Try.prog 12 #[.pointer (some ⟨g, 0, none⟩), .int .i64 1, .agg (kvs k)] w fun e w' => e = .returned (.int .i64 17) ∧ Below w.heap.size w w' := by
  go_enter Try.func12, Try.ntmps12
  go_wp2
  go_region
  go_wp2
  go_quiet (fail)
  go_wp2
  go_ret
  first | exact ⟨rfl, below_dN (below2 _ _ _) _⟩ | exact ⟨rfl, below2n _ _ _ _⟩
set_option maxHeartbeats 400000 in
theorem may_w0 (hk : knownB L k = false) (hm : decide (most ≤ (L.length : Int)) = false) :
    Calls Try.prog 12 #[.pointer (some ⟨g, 0, none⟩), .int .i64 1, .agg (kvs k)] w fun e w' => e = .returned (.int .i64 0) ∧ Below w.heap.size w w' := by
  go_enter Try.func12, Try.ntmps12
  go_wp2
  go_region
  go_wp2
  go_quiet (fail)
  go_wp2
  go_ret
  first | exact ⟨rfl, below_dN (below2 _ _ _) _⟩ | exact ⟨rfl, below2n _ _ _ _⟩
omit hg0 in
set_option maxHeartbeats 400000 in
theorem may_wk (hk : knownB L k = true) :
    Calls Try.prog 12 #[.pointer (some ⟨g, 0, none⟩), .int .i64 1, .agg (kvs k)] w fun e w' => e = .returned (.int .i64 0) ∧ Below w.heap.size w w' := by
  go_enter Try.func12, Try.ntmps12
  go_wp2
  go_region
  go_wp2
  go_quiet (fail)
  go_wp2
  go_ret
  first | exact ⟨rfl, below_dN (below2 _ _ _) _⟩ | exact ⟨rfl, below2n _ _ _ _⟩
omit hg0 in
set_option maxHeartbeats 400000 in
theorem may_2 (b : Bool) (hk : knownB L k = b) :
    Calls Try.prog 12 #[.pointer (some ⟨g, 0, none⟩), .int .i64 2, .agg (kvs k)] w fun e w' => e = .returned (.int .i64 (if b then 0 else 18)) ∧ Below w.heap.size w w' := by
  cases b
  all_goals
    go_enter Try.func12, Try.ntmps12
    go_wp2
    go_region
    go_wp2
  · go_ret
    exact ⟨rfl, below2 _ _ _⟩
  · go_quiet (fail)
    go_wp2
    go_ret
    first | exact ⟨rfl, below_dN (below2 _ _ _) _⟩ | exact ⟨rfl, below2n _ _ _ _⟩
omit hg0 in
set_option maxHeartbeats 400000 in
theorem may_3 (b : Bool) (hk : knownB L k = b) :
    Calls Try.prog 12 #[.pointer (some ⟨g, 0, none⟩), .int .i64 3, .agg (kvs k)] w fun e w' => e = .returned (.int .i64 (if b then 0 else 18)) ∧ Below w.heap.size w w' := by
  cases b
  all_goals
    go_enter Try.func12, Try.ntmps12
    go_wp2
    go_region
    go_wp2
  · go_ret
    exact ⟨rfl, below2 _ _ _⟩
  · go_quiet (fail)
    go_wp2
    go_ret
    first | exact ⟨rfl, below_dN (below2 _ _ _) _⟩ | exact ⟨rfl, below2n _ _ _ _⟩
end
theorem may_any (g bm : Nat) (op most next : Int) (k : Key) (L : List Ent) (w : World) (hr : RegAt w g bm most next L) :
    Calls Try.prog 12 #[.pointer (some ⟨g, 0, none⟩), .int .i64 op, .agg (kvs k)] w fun e w' => e = .returned (.int .i64 (mayF op (knownB L k) L.length most)) ∧ Below w.heap.size w w' := by
  obtain ⟨hg0, _, hg2, hgl, hbl, hF⟩ := regCells hr
  clear hr
  by_cases h1 : op = 1
  · subst h1
    cases hk : knownB L k
    · by_cases hm : most ≤ (L.length : Int)
      · rw [show mayF 1 false L.length most = 17 from by simp [mayF, hm]]
        exact may_w1 g bm most k L w hg0 hg2 hgl hbl hF hk (by simpa using hm)
      · rw [show mayF 1 false L.length most = 0 from by simp [mayF, hm]]
        exact may_w0 g bm most k L w hg0 hg2 hgl hbl hF hk (by simpa using hm)
    · rw [show mayF 1 true L.length most = 0 from by simp [mayF]]
      exact may_wk g bm k L w hg2 hgl hbl hF hk
  · by_cases h2 : op = 2
    · subst h2
      rw [show mayF 2 (knownB L k) L.length most = if knownB L k then 0 else 18 from by cases knownB L k <;> simp [mayF]]
      exact may_2 g bm k L w hg2 hgl hbl hF _ rfl
    · by_cases h3 : op = 3
      · subst h3
        rw [show mayF 3 (knownB L k) L.length most = if knownB L k then 0 else 18 from by cases knownB L k <;> simp [mayF]]
        exact may_3 g bm k L w hg2 hgl hbl hF _ rfl
      · rw [show mayF op (knownB L k) L.length most = 4 from by simp [mayF, h1, h2, h3]]
        exact may_kind g bm k L w hg2 hgl hbl hF op (by simpa using h1) (by simpa using h2) (by simpa using h3)
set_option maxHeartbeats 400000 in
theorem may_nil (op : Int) (k : Key) (w : World) : Calls Try.prog 12 #[.pointer none, .int .i64 op, .agg (kvs k)] w fun e w' => e = .returned (.int .i64 20) ∧ Below w.heap.size w w' := by
  go_enter Try.func12, Try.ntmps12
  go_wp2
  go_ret
  exact ⟨rfl, (Below.refl _ _).alloc (Nat.le_refl _) _⟩
end Go.Proofs.Ytbjoodjcpkimcaa
