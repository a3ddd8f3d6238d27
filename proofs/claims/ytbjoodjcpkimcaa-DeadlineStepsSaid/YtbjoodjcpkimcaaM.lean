/- Maps from keys to pairs of numbers: what a block of the machine's that is such a map reads as, as a plain list; looking up, storing, striking. -/
import Derived.Test.YtbjoodjcpkimcaaK
namespace Go.Proofs.Ytbjoodjcpkimcaa
open Go.RowKit Go.Maps

/-- A pair's value, and what it reads as. -/
def pv (ka kb : IntKind) (x : Int × Int) : Value := .agg #[.int ka x.1, .int kb x.2]
def pd (ka kb : IntKind) (x : Int × Int) : DataW Unit := .agg [.lit (.int ka x.1), .lit (.int kb x.2)]
def pR (ka kb : IntKind) (v : Value) : Option (DataW Unit × List MemPlace) :=
  match v with
  | .agg cs => match cs.toList with
    | [.int p a, .int q b] => if p = ka ∧ q = kb then some (pd ka kb (a, b), []) else none
    | _ => none
  | _ => none
theorem pR_pv (ka kb : IntKind) (x : Int × Int) : pR ka kb (pv ka kb x) = some (pd ka kb x, []) := by simp [pR, pv]
theorem pR_inv {ka kb : IntKind} {v : Value} {z : DataW Unit × List MemPlace} (h : pR ka kb v = some z) : ∃ x, v = pv ka kb x ∧ z = (pd ka kb x, []) := by
  unfold pR at h
  split at h
  · rename_i cs
    split at h
    · rename_i p a q b e
      split at h
      · rename_i hpq
        obtain ⟨rfl, rfl⟩ := hpq
        cases h
        refine ⟨(a, b), ?_, rfl⟩
        unfold pv
        congr 1
        exact Array.ext' (by simpa using e)
      · cases h
    · cases h
  · cases h
theorem pd_inj {ka kb : IntKind} {x y : Int × Int} (h : pd ka kb x = pd ka kb y) : x = y := by
  simp [pd] at h
  exact Prod.ext h.1 h.2
def unpd (d : DataW Unit) : Int × Int := match d with | .agg [.lit (.int _ a), .lit (.int _ b)] => (a, b) | _ => (0, 0)
theorem unpd_pd (ka kb : IntKind) (x : Int × Int) : unpd (pd ka kb x) = x := rfl

/-- A key as a map's key reads. -/
def kl (k : Key) : Lit := .string k.l
theorem kl_inj {a b : Key} (h : kl a = kl b) : a = b := by
  unfold kl at h
  injection h with h
  exact Key.ext h
theorem kl_key (k : Key) : WideAt.IsKeyLit (kl k) := trivial
theorem key_kl (k : Key) : keyOf Try.prog 24 (.agg (kvs k)) = some (kl k) := key_of k

/-! ### a map as a list -/
abbrev Ent := Key × (Int × Int)
/-- The datum D is the map that the list tells: no key twice. -/
structure Rep (ka kb : IntKind) (D : DataW Unit) (L : List Ent) : Prop where
  nodup : (L.map (·.1)).Nodup
  map : IsMap D
  at_ : ∀ k zd, D.atKey (kl k) zd = match L.lookup k with | some x => pd ka kb x | none => zd
  has : ∀ k, Maps.has D (kl k) = (L.lookup k).isSome
  size : Maps.size D = L.length
theorem lookup_mem {L : List Ent} {k : Key} {x : Int × Int} (h : L.lookup k = some x) : (k, x) ∈ L := by
  induction L with
  | nil => cases h
  | cons y L ih =>
    obtain ⟨k', x'⟩ := y
    rw [List.lookup_cons] at h
    split at h
    · rename_i e
      cases h
      simp at e
      subst e
      exact List.mem_cons_self
    · exact List.mem_cons_of_mem _ (ih h)
theorem lookup_none {L : List Ent} {k : Key} (h : L.lookup k = none) : ∀ e ∈ L, e.1 ≠ k := by
  induction L with
  | nil => simp
  | cons y L ih =>
    obtain ⟨k', x'⟩ := y
    rw [List.lookup_cons] at h
    split at h
    · cases h
    · rename_i e
      intro z hz
      rcases List.mem_cons.1 hz with rfl | hz
      · intro he
        simp at e
        exact e he.symm
      · exact ih h z hz
theorem lookup_of_mem {L : List Ent} (hn : (L.map (·.1)).Nodup) {k : Key} {x : Int × Int} (h : (k, x) ∈ L) : L.lookup k = some x := by
  induction L with
  | nil => cases h
  | cons y L ih =>
    obtain ⟨k', x'⟩ := y
    simp only [List.map_cons, List.nodup_cons] at hn
    rw [List.lookup_cons]
    rcases List.mem_cons.1 h with h | h
    · cases h; simp
    · have : k ≠ k' := fun e => hn.1 (List.mem_map.2 ⟨(k, x), h, e⟩)
      have e0 : (k == k') = false := by simpa using this
      rw [e0]
      exact ih hn.2 h
theorem lookup_append {L : List Ent} {k k' : Key} {x : Int × Int} : (L ++ [(k, x)]).lookup k' = match L.lookup k' with | some y => some y | none => if k' = k then some x else none := by
  induction L with
  | nil =>
    by_cases h : k' = k
    · simp [h]
    · have e0 : (k' == k) = false := by simpa using h
      simp [List.lookup_cons, h, e0]
  | cons y L ih =>
    obtain ⟨k2, x2⟩ := y
    rw [List.cons_append, List.lookup_cons, List.lookup_cons]
    split
    · rfl
    · exact ih
/-- Another pair in a key's place. -/
def setE (L : List Ent) (k : Key) (x : Int × Int) : List Ent := L.map fun e => if e.1 = k then (k, x) else e
def delE (L : List Ent) (k : Key) : List Ent := L.filter fun e => e.1 ≠ k
theorem setE_keys (L : List Ent) (k : Key) (x : Int × Int) : (setE L k x).map (·.1) = L.map (·.1) := by
  unfold setE
  rw [List.map_map]
  apply List.map_congr_left
  intro e _
  by_cases h : e.1 = k <;> simp [h]
theorem setE_length (L : List Ent) (k : Key) (x : Int × Int) : (setE L k x).length = L.length := by simp [setE]
theorem lookup_setE {L : List Ent} {k k' : Key} {x : Int × Int} : (setE L k x).lookup k' = if k' = k then (L.lookup k).map (fun _ => x) else L.lookup k' := by
  induction L with
  | nil => by_cases h : k' = k <;> simp [setE, h]
  | cons y L ih =>
    obtain ⟨k2, x2⟩ := y
    unfold setE at ih ⊢
    rw [List.map_cons]
    by_cases h2 : k2 = k
    · subst h2
      rw [if_pos rfl, List.lookup_cons, List.lookup_cons, List.lookup_cons]
      by_cases h : k' = k2
      · subst h; simp
      · have e0 : (k' == k2) = false := by simpa using h
        rw [e0, ih, if_neg h, if_neg h]
    · rw [if_neg h2, List.lookup_cons, List.lookup_cons, List.lookup_cons]
      by_cases h : k' = k
      · subst h
        have e0 : (k' == k2) = false := by simpa using fun e => h2 e.symm
        rw [e0, ih, if_pos rfl]
      · by_cases h3 : k' = k2
        · subst h3; simp [h2]
        · have e0 : (k' == k2) = false := by simpa using h3
          rw [e0, ih, if_neg h, if_neg h]
theorem lookup_delE {L : List Ent} {k k' : Key} : (delE L k).lookup k' = if k' = k then none else L.lookup k' := by
  induction L with
  | nil => simp [delE]
  | cons y L ih =>
    obtain ⟨k2, x2⟩ := y
    unfold delE at ih ⊢
    by_cases h2 : k2 = k
    · subst h2
      rw [List.filter_cons_of_neg (by simp), ih, List.lookup_cons]
      by_cases h : k' = k2
      · rw [if_pos h, if_pos h]
      · have e0 : (k' == k2) = false := by simpa using h
        rw [if_neg h, if_neg h, e0]
    · rw [List.filter_cons_of_pos (by simpa using h2), List.lookup_cons, List.lookup_cons, ih]
      by_cases h3 : k' = k2
      · subst h3; simp [h2]
      · have e0 : (k' == k2) = false := by simpa using h3
        rw [e0]

variable {ka kb : IntKind} {D : DataW Unit} {L : List Ent}
theorem Rep.empty : Rep ka kb (.map []) [] := ⟨by simp, isMap_empty, fun _ _ => rfl, fun _ => rfl, rfl⟩
theorem kl_ne {a b : Key} (h : a ≠ b) : kl a ≠ kl b := fun e => h (kl_inj e)
/-- A pair for a key that is not there. -/
theorem Rep.add (h : Rep ka kb D L) (ht : Tidy D) {k : Key} (hk : L.lookup k = none) (x : Int × Int) : Rep ka kb (D.put (kl k) (pd ka kb x)) (L ++ [(k, x)]) where
  nodup := by
    rw [List.map_append]
    refine List.nodup_append.2 ⟨h.nodup, by simp, fun a ha b hb => ?_⟩
    simp at hb
    subst hb
    obtain ⟨e, he, rfl⟩ := List.mem_map.1 ha
    exact lookup_none hk e he
  map := h.map.put _ _
  at_ := fun k' zd => by
    rw [lookup_append]
    by_cases e : k' = k
    · subst e
      rw [atKey_put_same h.map (kl_key _), hk, if_pos rfl]
    · rw [atKey_put_other (kl_ne e), h.at_, if_neg e]
      cases L.lookup k' <;> rfl
  has := fun k' => by
    rw [lookup_append]
    by_cases e : k' = k
    · subst e
      rw [has_put_same h.map (kl_key _), hk, if_pos rfl]; rfl
    · rw [has_put_other (kl_ne e), h.has, if_neg e]
      cases L.lookup k' <;> rfl
  size := by
    have := size_put ht (k := kl k) (pd ka kb x)
    rw [h.has, hk] at this
    simp at this
    simp [this, h.size]
/-- A pair in the place of another. -/
theorem Rep.set (h : Rep ka kb D L) (ht : Tidy D) {k : Key} {y : Int × Int} (hk : L.lookup k = some y) (x : Int × Int) : Rep ka kb (D.put (kl k) (pd ka kb x)) (setE L k x) where
  nodup := by rw [setE_keys]; exact h.nodup
  map := h.map.put _ _
  at_ := fun k' zd => by
    rw [lookup_setE]
    by_cases e : k' = k
    · subst e
      rw [atKey_put_same h.map (kl_key _), hk, if_pos rfl]; rfl
    · rw [atKey_put_other (kl_ne e), h.at_, if_neg e]
  has := fun k' => by
    rw [lookup_setE]
    by_cases e : k' = k
    · subst e
      rw [has_put_same h.map (kl_key _), hk, if_pos rfl]; rfl
    · rw [has_put_other (kl_ne e), h.has, if_neg e]
  size := by
    have := size_put ht (k := kl k) (pd ka kb x)
    rw [h.has, hk] at this
    simp at this
    simp [this, h.size, setE_length]
theorem delE_length {L : List Ent} (hn : (L.map (·.1)).Nodup) (k : Key) : (delE L k).length + (if (L.lookup k).isSome then 1 else 0) = L.length := by
  induction L with
  | nil => rfl
  | cons y L ih =>
    obtain ⟨k2, x2⟩ := y
    simp only [List.map_cons, List.nodup_cons] at hn
    have ih := ih hn.2
    unfold delE at ih ⊢
    by_cases h2 : k2 = k
    · subst h2
      have h0 : L.lookup k2 = none := by
        cases hl : L.lookup k2 with
        | none => rfl
        | some z => exact absurd (List.mem_map.2 ⟨_, lookup_mem hl, rfl⟩) hn.1
      rw [h0] at ih
      rw [List.filter_cons_of_neg (by simp), List.lookup_cons]
      simp at ih ⊢
      omega
    · rw [List.filter_cons_of_pos (by simpa using h2), List.lookup_cons]
      have e0 : (k == k2) = false := by simpa using fun e => h2 e.symm
      rw [e0]
      simp only [List.length_cons]
      omega
theorem Rep.del (h : Rep ka kb D L) (ht : Tidy D) (k : Key) : Rep ka kb (D.del (kl k)) (delE L k) where
  nodup := by
    unfold delE
    exact (List.Sublist.map _ (List.filter_sublist)).nodup h.nodup
  map := h.map.del _
  at_ := fun k' zd => by
    rw [lookup_delE]
    by_cases e : k' = k
    · subst e
      rw [atKey_del_same, if_pos rfl]
    · rw [atKey_del_other (kl_ne e), h.at_, if_neg e]
  has := fun k' => by
    rw [lookup_delE]
    by_cases e : k' = k
    · subst e
      rw [has_del_same, if_pos rfl]; rfl
    · rw [has_del_other (kl_ne e), h.has, if_neg e]
  size := by
    have h1 := size_del ht (k := kl k)
    have h2 := delE_length h.nodup k
    rw [h.has] at h1
    rw [h.size] at h1
    cases hl : L.lookup k <;> simp [hl] at h1 h2 <;> omega

/-! ### a map in memory -/
/-- Block b is the map that the list tells. -/
def MapIs (ka kb : IntKind) (w : World) (b : Nat) (L : List Ent) : Prop := ∃ D, w.ownsMap Try.prog 24 (pR ka kb) b L.length D ∧ Rep ka kb D L
theorem ownsMap_tight {n b : Nat} {w : World} {P : Program} {k : TypeId} {R : Value → Option (DataW Unit × List MemPlace)} (h : w.ownsMap P k R b n D) : w.ownsMap P k R b (Maps.size D) D := by
  obtain ⟨es, clock, hb, F, _, rfl⟩ := h
  exact ⟨es, clock, hb, F, by simp [Maps.size, length_sorted], rfl⟩
variable {w : World} {b : Nat}
theorem MapIs.mk' {n : Nat} (h : w.ownsMap Try.prog 24 (pR ka kb) b n D) (r : Rep ka kb D L) : MapIs ka kb w b L := ⟨D, by rw [← r.size]; exact ownsMap_tight h, r⟩
theorem MapIs.kept {w' : World} {row : Option Nat} (h : MapIs ka kb w b L) (hg : w.grownBy w' row) (hne : some b ≠ row) : MapIs ka kb w' b L := by
  obtain ⟨D, h, r⟩ := h
  exact ⟨D, h.kept hg hne, r⟩
theorem MapIs.lt (h : MapIs ka kb w b L) : b < w.heap.size := by
  obtain ⟨D, h, r⟩ := h
  exact h.lt
theorem MapIs.nodup (h : MapIs ka kb w b L) : (L.map (·.1)).Nodup := by
  obtain ⟨D, h, r⟩ := h
  exact r.nodup
theorem MapIs.made (w : World) : MapIs ka kb (w.alloc (.map #[] 0)) w.heap.size [] := ⟨_, w.ownsMap_made Try.prog 24 _, Rep.empty⟩
theorem MapIs.congr {w' : World} (h : MapIs ka kb w b L) (he : w'.heap[b]? = w.heap[b]?) : MapIs ka kb w' b L := by
  obtain ⟨D, ⟨es, clock, hb, rest⟩, r⟩ := h
  exact ⟨D, ⟨es, clock, he.trans hb, rest⟩, r⟩

/-- What stands at a key, and is it there? -/
def knownB (L : List Ent) (k : Key) : Bool := (L.lookup k).isSome
def entOf (L : List Ent) (k : Key) : Int × Int := (L.lookup k).getD (0, 0)
theorem MapIs.look (h : MapIs ka kb w b L) {t e : TypeId} (ht : Try.prog.underlying t = some (.map 24 e)) (hz : (zeroValue e).run Try.prog w = .ok (pv ka kb (0, 0)) w) (k : Key) :
    (Instr.lookup t (.map (some b)) (.agg (kvs k)) true).run Try.prog w = .ok (.tuple #[pv ka kb (entOf L k), .bool (knownB L k)]) w ∧
    (Instr.lookup t (.map (some b)) (.agg (kvs k)) false).run Try.prog w = .ok (pv ka kb (entOf L k)) w := by
  obtain ⟨D, h, r⟩ := h
  have at0 : D.atKey (kl k) (pd ka kb (0, 0)) = pd ka kb (entOf L k) := by
    rw [r.at_]; unfold entOf
    cases L.lookup k <;> rfl
  constructor
  · obtain ⟨v, ps, hrun, hv⟩ := h.look_ok law24 ht hz (pR_pv ka kb (0, 0)) (key_kl k)
    obtain ⟨x, rfl, hx⟩ := pR_inv hv
    rw [at0] at hx
    have := pd_inj (congrArg Prod.fst hx)
    subst this
    rw [hrun, r.has]; rfl
  · obtain ⟨v, ps, hrun, hv⟩ := h.lookup law24 ht hz (pR_pv ka kb (0, 0)) (key_kl k)
    obtain ⟨x, rfl, hx⟩ := pR_inv hv
    rw [at0] at hx
    have := pd_inj (congrArg Prod.fst hx)
    subst this
    exact hrun
theorem MapIs.len (h : MapIs ka kb w b L) {t e : TypeId} (ht : Try.prog.underlying t = some (.map 24 e)) (ty : TypeId) : (Builtin.len_ #[t] ty #[.map (some b)]).run Try.prog w = .ok (.int .i64 (L.length : Int)) w := by
  obtain ⟨D, h, r⟩ := h
  rw [← r.size]
  exact h.len ht ty
/-- Behind a store: the key's place in the order of coming is kept, or it is the last. -/
def putE (L : List Ent) (k : Key) (x : Int × Int) : List Ent := if (L.lookup k).isSome then setE L k x else L ++ [(k, x)]
theorem MapIs.store (h : MapIs ka kb w b L) {t e : TypeId} (ht : Try.prog.underlying t = some (.map 24 e)) (hn : L.length < maxLen) (k : Key) (x : Int × Int) :
    ∃ w', (Instr.mapUpdate t (.map (some b)) (.agg (kvs k)) (pv ka kb x)).run Try.prog w = .ok () w' ∧ MapIs ka kb w' b (putE L k x) ∧ w.mapTurned w' b := by
  obtain ⟨D, h, r⟩ := h
  obtain ⟨w', hrun, ho, ht'⟩ := h.store law24 ht hn (key_kl k) (pR_pv ka kb x)
  refine ⟨w', hrun, ?_, ht'⟩
  unfold putE
  cases hl : L.lookup k with
  | none => exact MapIs.mk' ho (r.add (h.tidy law24) hl x)
  | some y => exact MapIs.mk' ho (r.set (h.tidy law24) hl x)
theorem MapIs.drop (h : MapIs ka kb w b L) {t e : TypeId} (ht : Try.prog.underlying t = some (.map 24 e)) (k : Key) (ty : TypeId) :
    ∃ w', (Builtin.delete_ #[t, 24] ty #[.map (some b), .agg (kvs k)]).run Try.prog w = .ok (.tuple #[]) w' ∧ MapIs ka kb w' b (delE L k) ∧ w.mapTurned w' b := by
  obtain ⟨D, h, r⟩ := h
  obtain ⟨w', hrun, ho, ht'⟩ := h.drop law24 ht (key_kl k) ty
  exact ⟨w', hrun, MapIs.mk' ho (r.del (h.tidy law24) k), ht'⟩
theorem look_nil {t e : TypeId} (ht : Try.prog.underlying t = some (.map 24 e)) (hz : (zeroValue e).run Try.prog w = .ok (pv ka kb (0, 0)) w) (k : Key) :
    (Instr.lookup t (.map none) (.agg (kvs k)) true).run Try.prog w = .ok (.tuple #[pv ka kb (0, 0), .bool false]) w ∧
    (Instr.lookup t (.map none) (.agg (kvs k)) false).run Try.prog w = .ok (pv ka kb (0, 0)) w :=
  ⟨Maps.look_nil true law24 ht hz (key_kl k), Maps.look_nil false law24 ht hz (key_kl k)⟩

/-! ### the walk's own rules: what a map's block tells, as a function -/
open Classical in
noncomputable def mapF (ka kb : IntKind) (w : World) (b : Nat) : Option ((Key → Int × Int) × (Key → Bool) × Nat) :=
  if h : ∃ L, MapIs ka kb w b L then some (entOf h.choose, knownB h.choose, h.choose.length) else none
theorem mapF_eq (h : MapIs ka kb w b L) : mapF ka kb w b = some (entOf L, knownB L, L.length) := by
  have hx : ∃ L, MapIs ka kb w b L := ⟨L, h⟩
  unfold mapF
  rw [dif_pos hx]
  have h' := hx.choose_spec
  generalize hx.choose = L' at h'
  obtain ⟨D, ⟨es, clock, hb, F, hs, rfl⟩, r⟩ := h
  obtain ⟨D', ⟨es', clock', hb', F', hs', rfl⟩, r'⟩ := h'
  rw [hb] at hb'
  cases hb'
  have e1 : ∀ k, L'.lookup k = L.lookup k := fun k => by
    have h1 := r.has k
    have h2 := r'.has k
    rw [h1] at h2
    have a1 := r.at_ k (pd ka kb (0, 0))
    have a2 := r'.at_ k (pd ka kb (0, 0))
    rw [a1] at a2
    cases hL : L.lookup k <;> cases hL' : L'.lookup k <;> simp [hL, hL'] at h2 a2 ⊢
    exact (pd_inj a2).symm
  have e2 : entOf L' = entOf L := funext fun k => by unfold entOf; rw [e1]
  have e3 : L'.length = L.length := by rw [← r.size, ← r'.size]
  have e4 : knownB L' = knownB L := funext fun k => by unfold knownB; rw [e1]
  rw [e2, e3, e4]
theorem mapF_congr {w' : World} (h : w'.heap[b]? = w.heap[b]?) : mapF ka kb w' b = mapF ka kb w b := by
  by_cases hx : ∃ L, MapIs ka kb w b L
  · obtain ⟨L, hL⟩ := hx
    rw [mapF_eq hL, mapF_eq (hL.congr h)]
  · have hx' : ¬ ∃ L, MapIs ka kb w' b L := fun ⟨L, hL⟩ => hx ⟨L, hL.congr h.symm⟩
    unfold mapF
    rw [dif_neg hx, dif_neg hx']
@[go_sem] theorem mapF_alloc (w : World) (o : Obj) (b : Nat) (hb : b < w.heap.size) : mapF ka kb (w.alloc o) b = mapF ka kb w b := mapF_congr (heap_alloc_old w o hb)
@[go_sem] theorem mapF_drew (w : World) (b : Nat) : mapF ka kb w.drew b = mapF ka kb w b := mapF_congr rfl
@[go_sem] theorem mapF_drewN (w : World) (n b : Nat) : mapF ka kb (w.drewN n) b = mapF ka kb w b := mapF_congr rfl
@[go_sem] theorem mapF_setCell (w : World) (a : Addr) (v : Value) (b : Nat) (hb : b ≠ a.block) : mapF ka kb (w.setCell a v) b = mapF ka kb w b := mapF_congr (heap_setCell_other w a b v hb)

/-! ### the instances' map (46 : key → 76) -/
theorem u46 : Try.prog.underlying 46 = some (.map 24 76) := by kernel_rfl
theorem z76 (w : World) : (zeroValue 76).run Try.prog w = .ok (pv .i64 .u64 (0, 0)) w := by kernel_rfl
theorem u71 : Try.prog.underlying 71 = some (.map 24 81) := by kernel_rfl
theorem z81 (w : World) : (zeroValue 81).run Try.prog w = .ok (pv .u64 .u64 (0, 0)) w := by kernel_rfl
noncomputable def look46Else (w : World) (b : Nat) (k : Key) (c : Bool) : Result Value := (Instr.lookup 46 (.map (some b)) (.agg (kvs k)) c).run Try.prog w
noncomputable def look71Else (w : World) (b : Nat) (k : Key) (c : Bool) : Result Value := (Instr.lookup 71 (.map (some b)) (.agg (kvs k)) c).run Try.prog w
theorem mapF_some {f} (h : mapF ka kb w b = some f) : ∃ L, MapIs ka kb w b L ∧ f = (entOf L, knownB L, L.length) := by
  unfold mapF at h
  split at h
  · rename_i hx
    cases h
    exact ⟨_, hx.choose_spec, rfl⟩
  · cases h
@[go_sem] theorem run_look46 (w : World) (b : Nat) (k : Key) : (Instr.lookup 46 (.map (some b)) (.agg (kvs k)) true).run Try.prog w =
    match mapF .i64 .u64 w b with | some f => .ok (.tuple #[.agg #[.int .i64 (f.1 k).1, .int .u64 (f.1 k).2], .bool (f.2.1 k)]) w | none => look46Else w b k true := by
  cases h : mapF .i64 .u64 w b with
  | none => rfl
  | some f =>
    obtain ⟨L, hL, rfl⟩ := mapF_some h
    exact (hL.look u46 (z76 w) k).1
@[go_sem] theorem run_look46' (w : World) (b : Nat) (k : Key) : (Instr.lookup 46 (.map (some b)) (.agg (kvs k)) false).run Try.prog w =
    match mapF .i64 .u64 w b with | some f => .ok (.agg #[.int .i64 (f.1 k).1, .int .u64 (f.1 k).2]) w | none => look46Else w b k false := by
  cases h : mapF .i64 .u64 w b with
  | none => rfl
  | some f =>
    obtain ⟨L, hL, rfl⟩ := mapF_some h
    exact (hL.look u46 (z76 w) k).2
@[go_sem] theorem run_look46_nil (w : World) (k : Key) : (Instr.lookup 46 (.map none) (.agg (kvs k)) true).run Try.prog w = .ok (.tuple #[.agg #[.int .i64 0, .int .u64 0], .bool false]) w := (look_nil u46 (z76 w) k).1
@[go_sem] theorem run_look46_nil' (w : World) (k : Key) : (Instr.lookup 46 (.map none) (.agg (kvs k)) false).run Try.prog w = .ok (.agg #[.int .i64 0, .int .u64 0]) w := (look_nil u46 (z76 w) k).2
noncomputable def len46Else (w : World) (ty : TypeId) (b : Nat) : Result Value := (Builtin.len_ #[46] ty #[.map (some b)]).run Try.prog w
@[go_sem ↓] theorem run_len46 (w : World) (ty : TypeId) (b : Nat) : (Builtin.len_ #[46] ty #[.map (some b)]).run Try.prog w =
    match mapF .i64 .u64 w b with | some f => .ok (.int .i64 (f.2.2 : Nat)) w | none => len46Else w ty b := by
  cases h : mapF .i64 .u64 w b with
  | none => rfl
  | some f =>
    obtain ⟨L, hL, rfl⟩ := mapF_some h
    exact hL.len u46 ty
/-! ### the watches' map (71 : key → 81) -/
@[go_sem] theorem run_look71 (w : World) (b : Nat) (k : Key) : (Instr.lookup 71 (.map (some b)) (.agg (kvs k)) true).run Try.prog w =
    match mapF .u64 .u64 w b with | some f => .ok (.tuple #[.agg #[.int .u64 (f.1 k).1, .int .u64 (f.1 k).2], .bool (f.2.1 k)]) w | none => look71Else w b k true := by
  cases h : mapF .u64 .u64 w b with
  | none => rfl
  | some f =>
    obtain ⟨L, hL, rfl⟩ := mapF_some h
    exact (hL.look u71 (z81 w) k).1
@[go_sem] theorem run_look71' (w : World) (b : Nat) (k : Key) : (Instr.lookup 71 (.map (some b)) (.agg (kvs k)) false).run Try.prog w =
    match mapF .u64 .u64 w b with | some f => .ok (.agg #[.int .u64 (f.1 k).1, .int .u64 (f.1 k).2]) w | none => look71Else w b k false := by
  cases h : mapF .u64 .u64 w b with
  | none => rfl
  | some f =>
    obtain ⟨L, hL, rfl⟩ := mapF_some h
    exact (hL.look u71 (z81 w) k).2
@[go_sem] theorem run_look71_nil (w : World) (k : Key) : (Instr.lookup 71 (.map none) (.agg (kvs k)) true).run Try.prog w = .ok (.tuple #[.agg #[.int .u64 0, .int .u64 0], .bool false]) w := (look_nil u71 (z81 w) k).1
@[go_sem] theorem run_look71_nil' (w : World) (k : Key) : (Instr.lookup 71 (.map none) (.agg (kvs k)) false).run Try.prog w = .ok (.agg #[.int .u64 0, .int .u64 0]) w := (look_nil u71 (z81 w) k).2
noncomputable def len71Else (w : World) (ty : TypeId) (b : Nat) : Result Value := (Builtin.len_ #[71] ty #[.map (some b)]).run Try.prog w
@[go_sem ↓] theorem run_len71 (w : World) (ty : TypeId) (b : Nat) : (Builtin.len_ #[71] ty #[.map (some b)]).run Try.prog w =
    match mapF .u64 .u64 w b with | some f => .ok (.int .i64 (f.2.2 : Nat)) w | none => len71Else w ty b := by
  cases h : mapF .u64 .u64 w b with
  | none => rfl
  | some f =>
    obtain ⟨L, hL, rfl⟩ := mapF_some h
    exact hL.len u71 ty

/-! ### a field of a pair by value -/
@[go_sem] theorem run_field76_0 (a b : Value) (w : World) : (Instr.field 76 (.agg #[a, b]) 0).run Try.prog w = .ok a w := by kernel_rfl
@[go_sem] theorem run_field76_1 (a b : Value) (w : World) : (Instr.field 76 (.agg #[a, b]) 1).run Try.prog w = .ok b w := by kernel_rfl
@[go_sem] theorem run_field81_0 (a b : Value) (w : World) : (Instr.field 81 (.agg #[a, b]) 0).run Try.prog w = .ok a w := by kernel_rfl
@[go_sem] theorem run_field81_1 (a b : Value) (w : World) : (Instr.field 81 (.agg #[a, b]) 1).run Try.prog w = .ok b w := by kernel_rfl

/-! ### the map 46 written -/
/-- The world behind 'delete', behind a store. -/
noncomputable def del46 (w : World) (b : Nat) (k : Key) : World := match (Builtin.delete_ #[46, 24] 0 #[.map (some b), .agg (kvs k)]).run Try.prog w with | .ok _ w' => w' | _ => w
noncomputable def put46 (w : World) (b : Nat) (k : Key) (x y : Int) : World := match (Instr.mapUpdate 46 (.map (some b)) (.agg (kvs k)) (.agg #[.int .i64 x, .int .u64 y])).run Try.prog w with | .ok _ w' => w' | _ => w
noncomputable def del46Else (w : World) (ty : TypeId) (b : Nat) (k : Key) : Result Value := (Builtin.delete_ #[46, 24] ty #[.map (some b), .agg (kvs k)]).run Try.prog w
noncomputable def put46Else (w : World) (b : Nat) (k : Key) (x y : Int) : Result Unit := (Instr.mapUpdate 46 (.map (some b)) (.agg (kvs k)) (.agg #[.int .i64 x, .int .u64 y])).run Try.prog w
theorem delete_ty46 (ty ty' : TypeId) (x : Array Value) : Builtin.delete_ #[46, 24] ty x = Builtin.delete_ #[46, 24] ty' x := rfl
theorem del46_is {w : World} {b : Nat} {L : List Ent} (h : MapIs .i64 .u64 w b L) (k : Key) : MapIs .i64 .u64 (del46 w b k) b (delE L k) ∧ w.mapTurned (del46 w b k) b := by
  obtain ⟨w', hrun, h1, h2⟩ := h.drop u46 k 0
  have e : del46 w b k = w' := by unfold del46; rw [hrun]
  rw [e]; exact ⟨h1, h2⟩
theorem put46_is {w : World} {b : Nat} {L : List Ent} (h : MapIs .i64 .u64 w b L) (hn : L.length < maxLen) (k : Key) (x y : Int) : MapIs .i64 .u64 (put46 w b k x y) b (putE L k (x, y)) ∧ w.mapTurned (put46 w b k x y) b := by
  obtain ⟨w', hrun, h1, h2⟩ := h.store u46 hn k (x, y)
  have e : put46 w b k x y = w' := by unfold put46; unfold pv at hrun; rw [hrun]
  rw [e]; exact ⟨h1, h2⟩
@[go_sem ↓] theorem run_del46 (w : World) (ty : TypeId) (b : Nat) (k : Key) : (Builtin.delete_ #[46, 24] ty #[.map (some b), .agg (kvs k)]).run Try.prog w =
    match mapF .i64 .u64 w b with | some _ => .ok (.tuple #[]) (del46 w b k) | none => del46Else w ty b k := by
  cases h : mapF .i64 .u64 w b with
  | none => rfl
  | some f =>
    obtain ⟨L, hL, rfl⟩ := mapF_some h
    obtain ⟨w', hrun, _⟩ := hL.drop u46 k ty
    have e : del46 w b k = w' := by unfold del46; rw [delete_ty46 0 ty, hrun]
    rw [e]; exact hrun
/-- There is room for one entry more. -/
@[go_sem ↓] theorem run_put46 (w : World) (b : Nat) (k : Key) (x y : Int) : (Instr.mapUpdate 46 (.map (some b)) (.agg (kvs k)) (.agg #[.int .i64 x, .int .u64 y])).run Try.prog w =
    match mapF .i64 .u64 w b with | some f => (if f.2.2 < maxLen then .ok () (put46 w b k x y) else put46Else w b k x y) | none => put46Else w b k x y := by
  cases h : mapF .i64 .u64 w b with
  | none => rfl
  | some f =>
    obtain ⟨L, hL, rfl⟩ := mapF_some h
    by_cases hn : L.length < maxLen
    · obtain ⟨w', hrun, _⟩ := hL.store u46 hn k (x, y)
      have e : put46 w b k x y = w' := by unfold put46; unfold pv at hrun; rw [hrun]
      rw [e]; simp only [hn, if_true]; exact hrun
    · simp only [hn, if_false]; rfl

/-! ### the map 71 written -/
/-- The world behind 'delete', behind a store. -/
noncomputable def del71 (w : World) (b : Nat) (k : Key) : World := match (Builtin.delete_ #[71, 24] 0 #[.map (some b), .agg (kvs k)]).run Try.prog w with | .ok _ w' => w' | _ => w
noncomputable def put71 (w : World) (b : Nat) (k : Key) (x y : Int) : World := match (Instr.mapUpdate 71 (.map (some b)) (.agg (kvs k)) (.agg #[.int .u64 x, .int .u64 y])).run Try.prog w with | .ok _ w' => w' | _ => w
noncomputable def del71Else (w : World) (ty : TypeId) (b : Nat) (k : Key) : Result Value := (Builtin.delete_ #[71, 24] ty #[.map (some b), .agg (kvs k)]).run Try.prog w
noncomputable def put71Else (w : World) (b : Nat) (k : Key) (x y : Int) : Result Unit := (Instr.mapUpdate 71 (.map (some b)) (.agg (kvs k)) (.agg #[.int .u64 x, .int .u64 y])).run Try.prog w
theorem delete_ty71 (ty ty' : TypeId) (x : Array Value) : Builtin.delete_ #[71, 24] ty x = Builtin.delete_ #[71, 24] ty' x := rfl
theorem del71_is {w : World} {b : Nat} {L : List Ent} (h : MapIs .u64 .u64 w b L) (k : Key) : MapIs .u64 .u64 (del71 w b k) b (delE L k) ∧ w.mapTurned (del71 w b k) b := by
  obtain ⟨w', hrun, h1, h2⟩ := h.drop u71 k 0
  have e : del71 w b k = w' := by unfold del71; rw [hrun]
  rw [e]; exact ⟨h1, h2⟩
theorem put71_is {w : World} {b : Nat} {L : List Ent} (h : MapIs .u64 .u64 w b L) (hn : L.length < maxLen) (k : Key) (x y : Int) : MapIs .u64 .u64 (put71 w b k x y) b (putE L k (x, y)) ∧ w.mapTurned (put71 w b k x y) b := by
  obtain ⟨w', hrun, h1, h2⟩ := h.store u71 hn k (x, y)
  have e : put71 w b k x y = w' := by unfold put71; unfold pv at hrun; rw [hrun]
  rw [e]; exact ⟨h1, h2⟩
@[go_sem ↓] theorem run_del71 (w : World) (ty : TypeId) (b : Nat) (k : Key) : (Builtin.delete_ #[71, 24] ty #[.map (some b), .agg (kvs k)]).run Try.prog w =
    match mapF .u64 .u64 w b with | some _ => .ok (.tuple #[]) (del71 w b k) | none => del71Else w ty b k := by
  cases h : mapF .u64 .u64 w b with
  | none => rfl
  | some f =>
    obtain ⟨L, hL, rfl⟩ := mapF_some h
    obtain ⟨w', hrun, _⟩ := hL.drop u71 k ty
    have e : del71 w b k = w' := by unfold del71; rw [delete_ty71 0 ty, hrun]
    rw [e]; exact hrun
/-- There is room for one entry more. -/
@[go_sem ↓] theorem run_put71 (w : World) (b : Nat) (k : Key) (x y : Int) : (Instr.mapUpdate 71 (.map (some b)) (.agg (kvs k)) (.agg #[.int .u64 x, .int .u64 y])).run Try.prog w =
    match mapF .u64 .u64 w b with | some f => (if f.2.2 < maxLen then .ok () (put71 w b k x y) else put71Else w b k x y) | none => put71Else w b k x y := by
  cases h : mapF .u64 .u64 w b with
  | none => rfl
  | some f =>
    obtain ⟨L, hL, rfl⟩ := mapF_some h
    by_cases hn : L.length < maxLen
    · obtain ⟨w', hrun, _⟩ := hL.store u71 hn k (x, y)
      have e : put71 w b k x y = w' := by unfold put71; unfold pv at hrun; rw [hrun]
      rw [e]; simp only [hn, if_true]; exact hrun
    · simp only [hn, if_false]; rfl
end Go.Proofs.Ytbjoodjcpkimcaa
