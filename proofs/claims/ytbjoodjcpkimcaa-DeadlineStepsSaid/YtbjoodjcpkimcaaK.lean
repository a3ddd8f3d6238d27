/- Keys of seventeen bytes as plain lists of bytes: their values, how the machine reads, stores and compares them whole, and what they read as in a map. -/
import Derived.Test.YtbjoodjcpkimcaaRows
import Derived.WalkKit
import Derived.RegionTactic
import Derived.BigRegion
import Derived.Deep.QuietTactic
import Derived.BigQuiet
import Derived.StillTailTactics
import Derived.Maps.Own
import Derived.Maps.OwnSet
import Derived.Maps.RangeWalk
import Derived.Maps.Views
import Derived.Lib.Hide
import Derived.Outline
import Derived.DeepKeys4
import Derived.WideKeyArr
import Derived.OpenShut
import Derived.Deep.MidRow
import Derived.Deep.WholeRow
namespace Go.Proofs.Ytbjoodjcpkimcaa
open Go.RowKit Go.Maps

/-- A key: seventeen bytes. -/
structure Key where
  l : List UInt8
  h : l.length = 17
theorem Key.ext {a b : Key} (h : a.l = b.l) : a = b := by cases a; cases b; cases h; rfl
instance : DecidableEq Key := fun a b => if h : a.l = b.l then .isTrue (Key.ext h) else .isFalse fun e => h (e ▸ rfl)

def bcell (b : UInt8) : Value := .int .u8 b.toNat
theorem bcell_inj {a b : UInt8} (h : bcell a = bcell b) : a = b := by
  unfold bcell at h
  injection h with _ h
  exact UInt8.toNat_inj.1 (by omega)
/-- Its cells. -/
def kvl (k : Key) : List Value := k.l.map bcell
abbrev kvs (k : Key) : Array Value := (kvl k).toArray
theorem kvl_length (k : Key) : (kvl k).length = 17 := by simp [kvl, k.h]
theorem kvs_size (k : Key) : (kvs k).size = 17 := by simp [kvl_length]
theorem kvl_inj {a b : Key} (h : kvl a = kvl b) : a = b := by
  apply Key.ext
  unfold kvl at h
  exact (List.map_inj_right (fun _ _ => bcell_inj)).1 h
theorem kvs_inj {a b : Key} (h : kvs a = kvs b) : a = b := kvl_inj (by simpa using congrArg Array.toList h)
attribute [go_sem] kvl_length

/-! ### what a key reads as -/
theorem u23 : Try.prog.underlying 24 = some (.array 17 5) := by kernel_rfl
theorem u5 : Try.prog.underlying 5 = some (.int .u8) := by kernel_rfl
theorem arr24 : Go.WideMaps.ArrKey Try.prog 24 5 17 := ⟨u23, by kernel_rfl, by kernel_rfl, by kernel_rfl⟩
theorem law24 : Keyed Try.prog 24 := Keyed.of_law arr24.law
theorem sz_pos : ∃ m, Try.prog.types.size = m + 1 := ⟨Try.prog.types.size - 1, by have : decide (0 < Try.prog.types.size) = true := by kernel_rfl
                                                                                  have := of_decide_eq_true this
                                                                                  omega⟩
theorem lits_u8 (d : Nat) (b : UInt8) : Try.prog.keyLits (d + 1) 5 [bcell b] = some [.int .u8 b.toNat] := by
  unfold Program.keyLits bcell
  have hw : (Lit.int .u8 (b.toNat : Int)).wf = true := by have := b.toNat_lt; simp [Lit.wf, IntKind.min, IntKind.max, IntKind.signed, IntKind.bits]; omega
  simp only [u5]
  rw [if_pos ⟨trivial, hw⟩]
theorem mapM_drop_take {α β : Type} (f : List α → Option β) (g : α → β) : ∀ (l : List α) (pre : List α) (n : Nat), (∀ x ∈ l, f [x] = some (g x)) → pre.length = n →
    (List.range' n l.length).mapM (fun i => f (((pre ++ l).drop (i * 1)).take 1)) = some (l.map g)
  | [], _, _, _, _ => rfl
  | x :: l, pre, n, hf, hn => by
    have ih := mapM_drop_take f g l (pre ++ [x]) (n + 1) (fun y hy => hf y (by simp [hy])) (by simp [hn])
    simp only [List.length_cons, List.range'_succ, List.mapM_cons]
    have e0 : ((pre ++ x :: l).drop (n * 1)).take 1 = [x] := by subst hn; simp
    rw [e0, hf x (by simp)]
    simp only [List.append_assoc, List.cons_append, List.nil_append] at ih
    rw [ih]
    rfl
theorem keyBytes_u8 : ∀ l : List UInt8, keyBytes (l.map fun b => Lit.int .u8 (b.toNat : Int)) = l
  | [] => rfl
  | b :: l => by
    have ih := keyBytes_u8 l
    unfold keyBytes at ih ⊢
    rw [List.map_cons, List.flatMap_cons, ih]
    have hb : Lit.keyBytes (.int .u8 (b.toNat : Int)) = [b] := by
      have h0 : ((b.toNat : Int) % 2 ^ IntKind.u8.bits).toNat = b.toNat := by
        have := b.toNat_lt
        simp [IntKind.bits]
        omega
      show bytesBE (IntKind.u8.bits / 8) ((b.toNat : Int) % 2 ^ IntKind.u8.bits).toNat = [b]
      rw [h0]
      simp [bytesBE, bytesLE, IntKind.bits]
    rw [hb]; rfl
theorem key_of (k : Key) : keyOf Try.prog 24 (.agg (kvs k)) = some (.string k.l) := by
  obtain ⟨m, hm⟩ := sz_pos
  have hf : (Value.agg (kvs k)).formed Try.prog 24 = true := by simp [Value.formed, arr24.size, kvl_length]
  unfold keyOf
  simp only [u23]
  rw [if_pos (by rw [arr24.keyType sz_pos, hf]; rfl), hm]
  unfold Program.keyLits
  simp only [u23]
  rw [if_pos (by rw [arr24.size]; simp [kvl_length, Value.cells]), arr24.one]
  have hM := mapM_drop_take (fun c => Try.prog.keyLits (m + 1) 5 c) (fun v => [match v with | .int .u8 n => Lit.int .u8 n | _ => Lit.int .u8 0]) (k.l.map bcell) [] 0
    (fun x hx => by
      obtain ⟨b, _, rfl⟩ := List.mem_map.1 hx
      exact lits_u8 m b) rfl
  have e1 : (Value.agg (kvs k)).cells.toList = k.l.map bcell := by simp [Value.cells, kvl]
  rw [e1, show List.range 17 = List.range' 0 (k.l.map bcell).length from by rw [List.length_map, k.h, List.range_eq_range']]
  rw [List.nil_append] at hM
  rw [hM]
  have e2 : ((k.l.map bcell).map fun v => [match v with | .int .u8 n => Lit.int .u8 n | _ => Lit.int .u8 0]).flatten = k.l.map fun b => Lit.int .u8 (b.toNat : Int) := by
    rw [List.map_map]
    induction k.l with
    | nil => rfl
    | cons b l ih => rw [List.map_cons, List.flatten_cons, ih]; rfl
  simp only [Option.map_some, e2, keyBytes_u8]
theorem lits_u8_inv {d : Nat} {cs : List Value} {l : List Lit} (h : Try.prog.keyLits d 5 cs = some l) : ∃ b : UInt8, cs = [bcell b] ∧ l = [.int .u8 b.toNat] := by
  obtain ⟨n, rfl, rfl⟩ := keyLits_int' u5 h
  cases d with
  | zero => simp [Program.keyLits] at h
  | succ d =>
    unfold Program.keyLits at h
    simp only [u5] at h
    have hw : (Lit.int .u8 n).wf = true := by
      by_cases hc : (Lit.int .u8 n).wf = true
      · exact hc
      · rw [if_neg (by simp [hc])] at h; cases h
    simp [Lit.wf, IntKind.min, IntKind.max, IntKind.signed, IntKind.bits] at hw
    have e : ((UInt8.ofNat n.toNat).toNat : Int) = n := by simp; omega
    exact ⟨UInt8.ofNat n.toNat, by rw [bcell, e], by rw [e]⟩
/-- What reads as a key is a key. -/
theorem key_inv {v : Value} {kl : Lit} (h : keyOf Try.prog 24 v = some kl) : ∃ k : Key, v = .agg (kvs k) ∧ kl = .string k.l := by
  obtain ⟨xs, L, rfl, hL, _⟩ := keyOf_top (P := Try.prog) (k := 24) (by rw [u23]) h
  obtain ⟨m, hm⟩ := sz_pos
  rw [hm] at hL
  unfold Program.keyLits at hL
  simp only [u23] at hL
  split at hL
  · rename_i hlen
    rw [arr24.size] at hlen
    simp only [Option.map_eq_some_iff] at hL
    obtain ⟨aas, ha, _⟩ := hL
    have each := Go.WideShapes.mapM_each ha
    rw [arr24.one] at each
    have hb : ∀ i, i < 17 → ∃ b : UInt8, xs.toList[i]? = some (bcell b) := fun i hi => by
      obtain ⟨y, hy⟩ := each i (List.mem_range.2 hi)
      obtain ⟨b, hb, _⟩ := lits_u8_inv hy
      refine ⟨b, ?_⟩
      have h0 : ((xs.toList.drop (i * 1)).take 1)[0]? = some (bcell b) := by rw [hb]; rfl
      simpa [List.getElem?_take] using h0
    have hc : ∃ l : List UInt8, l.length = 17 ∧ xs.toList = l.map bcell := by
      obtain ⟨f, hf⟩ := Classical.axiomOfChoice (fun i : Fin 17 => hb i.1 i.2)
      refine ⟨List.ofFn f, by simp, ?_⟩
      apply List.ext_getElem?
      intro i
      by_cases hi : i < 17
      · rw [hf ⟨i, hi⟩, List.getElem?_map, List.getElem?_ofFn, dif_pos hi]; rfl
      · rw [List.getElem?_eq_none (by omega), List.getElem?_eq_none (by simp; omega)]
    obtain ⟨l, hl, hx⟩ := hc
    have hk : xs = kvs ⟨l, hl⟩ := Array.ext' (by simpa [kvl] using hx)
    refine ⟨⟨l, hl⟩, by rw [hk], ?_⟩
    have h2 := key_of ⟨l, hl⟩
    rw [← hk, h] at h2
    exact Option.some.inj h2
  · cases hL

theorem bcells_of {xs : List Value} (h : ∀ x ∈ xs, ∃ b, x = bcell b) : ∃ l : List UInt8, xs = l.map bcell := by
  induction xs with
  | nil => exact ⟨[], rfl⟩
  | cons x xs ih =>
    obtain ⟨b, rfl⟩ := h _ List.mem_cons_self
    obtain ⟨l, rfl⟩ := ih (fun y hy => h y (List.mem_cons_of_mem _ hy))
    exact ⟨b :: l, rfl⟩
theorem key_of_cells {xs : List Value} (hl : xs.length = 17) (hb : ∀ i, i < 17 → ∃ b, xs[i]? = some (bcell b)) : ∃ k : Key, xs = kvl k := by
  obtain ⟨l, rfl⟩ := bcells_of (xs := xs) (fun x hx => by
    obtain ⟨i, hi⟩ := List.mem_iff_getElem?.1 hx
    have hlt : i < 17 := by have := (List.getElem?_eq_some_iff.1 hi).1; omega
    obtain ⟨b, hb⟩ := hb i hlt
    rw [hi] at hb
    exact ⟨b, Option.some.inj hb⟩)
  exact ⟨⟨l, by simpa using hl⟩, rfl⟩
/-- Cells that read as a key are a key's. -/
theorem cells_key {H : Type} {enc : TypeId × Value → H} {W : World} {base fuel : Nat} {sp : Nat → Bool} {held : Bool} {cs : List Value} {z : DataW H × List MemPlace} (hf : DataW.trod enc Try.prog W base sp held fuel 24 cs = some z) : ∃ k : Key, cs = kvl k := by
  obtain ⟨ys, m, _, _, hlen, hyl, hy⟩ := DataW.trod_array u23 hf
  rw [arr24.size] at hlen
  refine key_of_cells hlen fun i hi => ?_
  have h1 := hy i hi
  rw [arr24.one] at h1
  have h2 : ∃ z, DataW.trod enc Try.prog W base sp held m 5 ((cs.drop (i * 1)).take 1) = some z := ⟨ys[i]'(by omega), by rw [h1]; simp [hyl, hi]⟩
  obtain ⟨z, hz⟩ := h2
  obtain ⟨n, hn, _, hw⟩ := DataW.trod_int u5 hz
  simp [Lit.wf, IntKind.min, IntKind.max, IntKind.signed, IntKind.bits] at hw
  have e : ((UInt8.ofNat n.toNat).toNat : Int) = n := by simp; omega
  refine ⟨UInt8.ofNat n.toNat, ?_⟩
  have h0 : ((cs.drop (i * 1)).take 1)[0]? = some (.int .u8 n) := by rw [hn]; rfl
  rw [bcell, e]
  simpa [List.getElem?_take] using h0
set_option maxRecDepth 100000 in
/-- What reads as a key, among the arguments, is a key. -/
theorem open_key {H : Type} {enc : TypeId × Value → H} {W : World} {b0 : Nat} {r : Reach} {base : Nat} {sp : Nat → Bool} {held : Bool} {v : Value} {d : DataW H} {ps : List MemPlace} (hval : Value.okWide Try.prog W r b0 24 v)
    (hd : DataW.Trod enc Try.prog W base sp held 24 v d ps) : ∃ k : Key, v = .agg (kvs k) := by
  obtain ⟨fuel, hf⟩ := hd
  simp only [Value.okWide, u23] at hval
  obtain ⟨xs, rfl, _⟩ := hval
  obtain ⟨k, hk⟩ := cells_key hf
  exact ⟨k, by rw [show xs = kvs k from Array.ext' (by simpa [Value.cells] using hk)]⟩

/-! ### a key in memory -/
open Classical in
/-- The key that lies at a place, if one does. -/
noncomputable def keyF (w : World) (b o : Nat) : Option Key := if h : ∃ k : Key, w.rangeAt b o (kvl k) then some h.choose else none
theorem rangeAt_inj {w : World} {b o : Nat} {k k' : Key} (h : w.rangeAt b o (kvl k)) (h' : w.rangeAt b o (kvl k')) : k = k' := by
  apply kvl_inj
  apply List.ext_getElem?
  intro i
  by_cases hi : i < 17
  · have a1 : (kvl k)[i]? = some ((kvl k)[i]'(by rw [kvl_length]; exact hi)) := by simp [kvl_length, hi]
    have a2 : (kvl k')[i]? = some ((kvl k')[i]'(by rw [kvl_length]; exact hi)) := by simp [kvl_length, hi]
    have := h i _ a1
    rw [h' i _ a2] at this
    rw [a1, a2]; exact this.symm
  · rw [List.getElem?_eq_none (by rw [kvl_length]; omega), List.getElem?_eq_none (by rw [kvl_length]; omega)]
theorem keyF_eq {w : World} {b o : Nat} {k : Key} (h : w.rangeAt b o (kvl k)) : keyF w b o = some k := by
  have hx : ∃ k : Key, w.rangeAt b o (kvl k) := ⟨k, h⟩
  unfold keyF
  rw [dif_pos hx]
  exact congrArg some (rangeAt_inj hx.choose_spec h)
theorem keyF_some {w : World} {b o : Nat} {k : Key} (h : keyF w b o = some k) : w.rangeAt b o (kvl k) := by
  unfold keyF at h
  split at h
  · rename_i hx
    cases h
    exact hx.choose_spec
  · cases h
theorem keyF_congr {w w' : World} {b o : Nat} (h : ∀ a : Addr, a.block = b → w'.cell? a = w.cell? a) : keyF w' b o = keyF w b o := by
  have e : ∀ k : Key, w'.rangeAt b o (kvl k) ↔ w.rangeAt b o (kvl k) := fun k => by
    unfold World.rangeAt
    constructor <;> intro hh j v hv
    · rw [← h _ rfl]; exact hh j v hv
    · rw [h _ rfl]; exact hh j v hv
  unfold keyF
  by_cases hx : ∃ k : Key, w.rangeAt b o (kvl k)
  · have hx' : ∃ k : Key, w'.rangeAt b o (kvl k) := hx.imp fun k => (e k).2
    rw [dif_pos hx, dif_pos hx', rangeAt_inj ((e _).1 hx'.choose_spec) hx.choose_spec]
  · have hx' : ¬ ∃ k : Key, w'.rangeAt b o (kvl k) := fun ⟨k, hk⟩ => hx ⟨k, (e k).1 hk⟩
    rw [dif_neg hx, dif_neg hx']
@[go_sem] theorem keyF_alloc_at (w : World) (k : Key) (n : Nat) (hn : n = w.heap.size) : keyF (w.alloc (.cells (kvs k) 24)) n 0 = some k := by
  subst hn
  refine keyF_eq fun j v hv => ?_
  rw [Nat.zero_add, World.cell?_alloc_new]
  simpa using hv
@[go_sem] theorem keyF_alloc_past (w : World) (ob : Obj) (n i : Nat) (hn : n < w.heap.size) : keyF (w.alloc ob) n i = keyF w n i :=
  keyF_congr fun a ha => World.cell?_alloc_lt _ _ _ (by omega)
@[go_sem] theorem keyF_drew (w : World) (n i : Nat) : keyF w.drew n i = keyF w n i := rfl
@[go_sem] theorem keyF_drewN (w : World) (m n i : Nat) : keyF (w.drewN m) n i = keyF w n i := rfl
@[go_sem] theorem keyF_setCell (w : World) (a : Addr) (v : Value) (n i : Nat) (hn : n ≠ a.block) : keyF (w.setCell a v) n i = keyF w n i :=
  keyF_congr fun b hb => World.cell?_setCell_other _ _ _ _ (fun e => hn (by rw [e, hb]))
theorem info24 : (Try.prog.info? 24).map (·.size) = some 17 := by kernel_rfl

/-! ### the operations on a whole key -/
/-- 'load' of a key. -/
noncomputable def loadKey (v : Value) : Sem Next := do pure (.value (← Instr.loadAt 24 v))
noncomputable def loadKeyElse (w : World) (b o : Nat) : Result Next := (loadKey (.pointer (some ⟨b, o, none⟩))).run Try.prog w
@[go_sem ↓] theorem execOp_load24 (ρ : Operand → Value) (dst : Option Tmp) (x : Operand) (ty : TypeId) (pos : String) (aft : Array Edge) (guard : Option (Nat × Bool)) :
    execOp ρ { dst := dst, op := .load 24 x, type := ty, pos := pos, after := aft, guard := guard } = loadKey (ρ x) := rfl
@[go_sem] theorem run_loadKey (w : World) (b o : Nat) : (loadKey (.pointer (some ⟨b, o, none⟩))).run Try.prog w =
    match keyF w b o with | some k => .ok (.value (.agg (kvs k))) w | none => loadKeyElse w b o := by
  cases h : keyF w b o with
  | none => rfl
  | some k =>
    have hr := run_loadAt_mid (P := Try.prog) w b o 24 (kvl k) _ (keyF_some h) u23 rfl (by rw [info24, kvl_length])
    simp [loadKey, hr]
end Go.Proofs.Ytbjoodjcpkimcaa
