/- The monitor of deadlines, plainly: a list in the order of coming. -/
import Derived.Test.YtbjoodjcpkimcaaD5
namespace Go.Proofs.Ytbjoodjcpkimcaa
open Go.RowKit Go.Maps Go.Sort

/-- Ordered: the second number grows, and is below 'next'. -/
structure Ordered (L : List Ent) (next : Int) : Prop where
  nodup : (L.map (·.1)).Nodup
  grow : L.Pairwise fun a b => a.2.2 < b.2.2
  lt : ∀ e ∈ L, 0 ≤ e.2.2 ∧ e.2.2 < next
def outOf (L : List Ent) (now p : Int) : List Key := (L.filter fun e => overF now e.2.1 p).map (·.1)
def hitL (L : List Ent) (now p : Int) : List Ent := L.map fun e => if overF now e.2.1 p then (e.1, (now, e.2.2)) else e

theorem eq_of_sorted {α : Type} (f : α → Int) : ∀ {l l' : List α}, l.Nodup → l'.Nodup → (∀ x, x ∈ l ↔ x ∈ l') → l.Pairwise (fun a b => f a ≤ f b) → l'.Pairwise (fun a b => f a ≤ f b) → (∀ a ∈ l, ∀ b ∈ l, f a = f b → a = b) → l = l'
  | [], [], _, _, _, _, _, _ => rfl
  | [], y :: l', _, _, h, _, _, _ => absurd ((h y).2 List.mem_cons_self) (by simp)
  | x :: l, [], _, _, h, _, _, _ => absurd ((h x).1 List.mem_cons_self) (by simp)
  | x :: l, y :: l', n, n', h, s, s', inj => by
    have e : x = y := by
      have hx := (h x).1 List.mem_cons_self
      have hy := (h y).2 List.mem_cons_self
      rcases List.mem_cons.1 hx with e | hx
      · exact e
      · rcases List.mem_cons.1 hy with e | hy
        · exact e.symm
        · have h1 := (List.pairwise_cons.1 s').1 x hx
          have h2 := (List.pairwise_cons.1 s).1 y hy
          exact inj x List.mem_cons_self y (List.mem_cons_of_mem _ hy) (by omega)
    subst e
    congr 1
    refine eq_of_sorted f (List.nodup_cons.1 n).2 (List.nodup_cons.1 n').2 (fun z => ?_) (List.pairwise_cons.1 s).2 (List.pairwise_cons.1 s').2 (fun a ha b hb => inj a (List.mem_cons_of_mem _ ha) b (List.mem_cons_of_mem _ hb))
    constructor
    · intro hz
      rcases List.mem_cons.1 ((h z).1 (List.mem_cons_of_mem _ hz)) with e | hz'
      · subst e; exact absurd hz (List.nodup_cons.1 n).1
      · exact hz'
    · intro hz
      rcases List.mem_cons.1 ((h z).2 (List.mem_cons_of_mem _ hz)) with e | hz'
      · subst e; exact absurd hz (List.nodup_cons.1 n').1
      · exact hz'

theorem entOf_mem {L : List Ent} (hn : (L.map (·.1)).Nodup) {e : Ent} (h : e ∈ L) : entOf L e.1 = e.2 ∧ knownB L e.1 = true := by
  have := lookup_of_mem hn (k := e.1) (x := e.2) h
  unfold entOf knownB
  rw [this]; exact ⟨rfl, rfl⟩
theorem mem_outOf {L : List Ent} (hn : (L.map (·.1)).Nodup) {now p : Int} {k : Key} : k ∈ outOf L now p ↔ knownB L k = true ∧ overF now (entOf L k).1 p = true := by
  unfold outOf
  rw [List.mem_map]
  constructor
  · rintro ⟨e, he, rfl⟩
    rw [List.mem_filter] at he
    obtain ⟨h1, h2⟩ := entOf_mem hn he.1
    rw [h1]; exact ⟨h2, he.2⟩
  · rintro ⟨h1, h2⟩
    have := ent_mem h1
    exact ⟨(k, entOf L k), List.mem_filter.2 ⟨this, h2⟩, rfl⟩
theorem Ordered.out_nodup {L : List Ent} {next : Int} (h : Ordered L next) (now p : Int) : (outOf L now p).Nodup :=
  (List.Sublist.map _ (List.filter_sublist)).nodup h.nodup
theorem Ordered.out_sorted {L : List Ent} {next : Int} (h : Ordered L next) (now p : Int) : (outOf L now p).Pairwise fun a b => (entOf L a).2 ≤ (entOf L b).2 := by
  unfold outOf
  rw [List.pairwise_map]
  refine (List.Pairwise.sublist List.filter_sublist h.grow).imp_of_mem fun {a b} ha hb hab => ?_
  rw [(entOf_mem h.nodup (List.mem_filter.1 ha).1).1, (entOf_mem h.nodup (List.mem_filter.1 hb).1).1]
  omega
theorem pairwise_inj {L : List Ent} (h : L.Pairwise fun a b => a.2.2 < b.2.2) : ∀ a ∈ L, ∀ b ∈ L, a.2.2 = b.2.2 → a = b := by
  induction L with
  | nil => intro a ha; simp at ha
  | cons x L ih =>
    obtain ⟨h1, h2⟩ := List.pairwise_cons.1 h
    intro a ha b hb e
    rcases List.mem_cons.1 ha with rfl | ha'
    · rcases List.mem_cons.1 hb with rfl | hb'
      · rfl
      · have := h1 b hb'; omega
    · rcases List.mem_cons.1 hb with rfl | hb'
      · have := h1 a ha'; omega
      · exact ih h2 a ha' b hb' e
theorem out_eq {L : List Ent} {next : Int} (h : Ordered L next) {now p : Int} {ks : List Key} (hn : ks.Nodup) (hm : ∀ k, k ∈ ks ↔ isOver L now p k) (hs : ks.Pairwise fun a b => (entOf L a).2 ≤ (entOf L b).2) : ks = outOf L now p := by
  refine eq_of_sorted (fun k => (entOf L k).2) hn (h.out_nodup now p) (fun k => by rw [hm, mem_outOf h.nodup]; rfl) hs (h.out_sorted now p) fun a ha b hb e => ?_
  have ea := ent_mem ((hm a).1 ha).1
  have eb := ent_mem ((hm b).1 hb).1
  exact congrArg Prod.fst (pairwise_inj h.grow _ ea _ eb e)

/-- One key set, where each entry with it gets 'now'. -/
theorem putE_hit {L : List Ent} (hn : (L.map (·.1)).Nodup) {k : Key} (hk : knownB L k = true) (now : Int) : putE L k (now, (entOf L k).2) = L.map fun e => if e.1 = k then (e.1, (now, e.2.2)) else e := by
  unfold putE
  rw [if_pos (show (L.lookup k).isSome = true from hk)]
  unfold setE
  apply List.map_congr_left
  intro e he
  by_cases h : e.1 = k
  · rw [if_pos h, if_pos h]
    subst h
    rw [(entOf_mem hn he).1]
  · rw [if_neg h, if_neg h]
theorem hitAll_map (now : Int) : ∀ (ks : List Key) (L : List Ent), (L.map (·.1)).Nodup → (∀ k ∈ ks, knownB L k = true) → hitAll L ks now = L.map fun e => if e.1 ∈ ks then (e.1, (now, e.2.2)) else e
  | [], L, _, _ => by simp [hitAll]
  | k :: ks, L, hn, hk => by
    have h1 := putE_hit hn (hk k List.mem_cons_self) now
    have hn' : ((L.map fun e => if e.1 = k then (e.1, (now, e.2.2)) else e).map (·.1)).Nodup := by
      rw [List.map_map]
      have : ((fun e : Ent => e.1) ∘ fun e : Ent => if e.1 = k then (e.1, (now, e.2.2)) else e) = fun e => e.1 := by funext e; simp only [Function.comp]; split <;> rfl
      rw [this]; exact hn
    have ih := hitAll_map now ks (L.map fun e => if e.1 = k then (e.1, (now, e.2.2)) else e) hn' (fun z hz => by rw [← h1, known_put, hk z (List.mem_cons_of_mem _ hz)]; rfl)
    unfold hitAll at ih ⊢
    rw [List.foldl_cons, h1, ih, List.map_map]
    apply List.map_congr_left
    intro e _
    simp only [Function.comp, List.mem_cons]
    by_cases h2 : e.1 = k
    · simp only [h2, if_true, true_or]
      by_cases h3 : k ∈ ks <;> simp [h3]
    · simp only [h2, if_false, false_or]
theorem hit_eq {L : List Ent} {next : Int} (h : Ordered L next) (now p : Int) : hitAll L (outOf L now p) now = hitL L now p := by
  rw [hitAll_map now _ _ h.nodup (fun k hk => ((mem_outOf h.nodup).1 hk).1)]
  unfold hitL
  apply List.map_congr_left
  intro e he
  have : e.1 ∈ outOf L now p ↔ overF now e.2.1 p = true := by
    rw [mem_outOf h.nodup, (entOf_mem h.nodup he).1, (entOf_mem h.nodup he).2]; simp
  by_cases h2 : overF now e.2.1 p = true
  · rw [if_pos (this.2 h2), if_pos h2]
  · rw [if_neg (fun hh => h2 (this.1 hh)), if_neg h2]
theorem Ordered.nil : Ordered [] 0 := ⟨.nil, .nil, by simp⟩
theorem Ordered.hit {L : List Ent} {next : Int} (h : Ordered L next) (now p : Int) : Ordered (hitL L now p) next := by
  have e1 : ∀ e : Ent, (if overF now e.2.1 p then (e.1, (now, e.2.2)) else e).1 = e.1 := fun e => by split <;> rfl
  have e2 : ∀ e : Ent, (if overF now e.2.1 p then (e.1, (now, e.2.2)) else e).2.2 = e.2.2 := fun e => by split <;> rfl
  unfold hitL
  refine ⟨?_, ?_, ?_⟩
  · rw [List.map_map, show ((fun e : Ent => e.1) ∘ fun e : Ent => if overF now e.2.1 p then (e.1, (now, e.2.2)) else e) = fun e => e.1 from funext e1]; exact h.nodup
  · rw [List.pairwise_map]; simp only [e2]; exact h.grow
  · intro z hz
    obtain ⟨e, he, rfl⟩ := List.mem_map.1 hz
    rw [e2]; exact h.lt e he
theorem Ordered.seen {L : List Ent} {next : Int} (h : Ordered L next) (n0 : 0 ≤ next) (k : Key) (now : Int) : Ordered (putE L k (now, doAt L k next)) (doNext L k next) := by
  unfold doAt doNext
  cases hk : knownB L k with
  | true =>
    simp only [if_true]
    rw [putE_hit h.nodup hk]
    have e1 : ∀ e : Ent, (if e.1 = k then (e.1, (now, e.2.2)) else e).1 = e.1 := fun e => by split <;> rfl
    have e2 : ∀ e : Ent, (if e.1 = k then (e.1, (now, e.2.2)) else e).2.2 = e.2.2 := fun e => by split <;> rfl
    refine ⟨?_, ?_, ?_⟩
    · rw [List.map_map, show ((fun e : Ent => e.1) ∘ fun e : Ent => if e.1 = k then (e.1, (now, e.2.2)) else e) = fun e => e.1 from funext e1]; exact h.nodup
    · rw [List.pairwise_map]; simp only [e2]; exact h.grow
    · intro z hz
      obtain ⟨e, he, rfl⟩ := List.mem_map.1 hz
      rw [e2]; exact h.lt e he
  | false =>
    have hl : L.lookup k = none := by unfold knownB at hk; simpa using hk
    simp only [Bool.false_eq_true, if_false]
    unfold putE
    rw [hl]
    simp only [Option.isSome_none, Bool.false_eq_true, if_false]
    refine ⟨?_, ?_, ?_⟩
    · rw [List.map_append]
      refine List.nodup_append.2 ⟨h.nodup, by simp, fun a ha b hb => ?_⟩
      simp at hb
      subst hb
      obtain ⟨e, he, rfl⟩ := List.mem_map.1 ha
      exact lookup_none hl e he
    · refine List.pairwise_append.2 ⟨h.grow, by simp, fun a ha b hb => ?_⟩
      simp at hb
      subst hb
      exact (h.lt a ha).2
    · intro e he
      rcases List.mem_append.1 he with he | he
      · have := h.lt e he; omega
      · simp at he; subst he; simp only; omega
theorem Ordered.gone {L : List Ent} {next : Int} (h : Ordered L next) (k : Key) : Ordered (delE L k) next :=
  ⟨(List.Sublist.map _ (List.filter_sublist)).nodup h.nodup, h.grow.sublist List.filter_sublist, fun e he => h.lt e (List.mem_filter.1 he).1⟩
theorem hitL_length (L : List Ent) (now p : Int) : (hitL L now p).length = L.length := by simp [hitL]
theorem putE_length (L : List Ent) (k : Key) (x : Int × Int) : (putE L k x).length ≤ L.length + 1 := by
  unfold putE; split
  · rw [setE_length]; omega
  · simp
theorem delE_le (L : List Ent) (k : Key) : (delE L k).length ≤ L.length := List.length_filter_le _ _

/-- What each run leaves: 'out' and the list. -/
def outs (L : List Ent) (now p : Int) : List Key := if p < 1 then [] else outOf L now p
def hits (L : List Ent) (now p : Int) : List Ent := if p < 1 then L else hitL L now p
def RanDid (w : World) (g : Nat) (p : Int) (om : Option Nat) (next missed : Int) (L : List Ent) (now : Int) (x : Ending) (w' : World) : Prop :=
  ∃ v, x = .returned v ∧ Upd (monS g om) w w' ∧ RowOf w' w.heap.size v (outs L now p) ∧ MonAt w' g p om next (missed + (outs L now p).length) (hits L now p)
theorem run_any (g : Nat) (om : Option Nat) (p next missed now : Int) (L : List Ent) (w : World) (hr : MonAt w g p om next missed L) (p1 : p < 9223372036854775808) (now0 : 0 ≤ now) (now1 : now < 18446744073709551616)
    (hL : ∀ e ∈ L, 0 ≤ e.2.1 ∧ e.2.1 < 18446744073709551616) (hn : L.length ≤ 1000000) (n0 : 0 ≤ next) (n1 : next < 9223372036854775807) (m0 : 0 ≤ missed) (m1 : missed + 1000000 < 9223372036854775807) (ho : Ordered L next) :
    Calls Try.prog 26 #[.pointer (some ⟨g, 0, none⟩), .int .u64 now] w (RanDid w g p om next missed L now) := by
  unfold RanDid outs hits
  by_cases hp : p < 1
  · rw [if_pos hp, if_pos hp]
    refine (run_idle g om p next missed now L w hr hp).mono fun x w' ⟨h1, h2⟩ => ⟨_, h1, Upd.of_below h2, World.ownsRow_nil _ _ _ _, by simpa using hr.below h2⟩
  · rw [if_neg hp, if_neg hp]
    cases om with
    | none =>
      obtain rfl : L = [] := hr.map
      refine (run_empty g p next missed now w hr (by omega)).mono fun x w' ⟨h1, h2⟩ => ⟨_, h1, Upd.of_below h2, World.ownsRow_nil _ _ _ _, by simpa [outOf, hitL] using hr.below h2⟩
    | some b =>
      refine (run_some g b p next missed now L w hr (by omega) p1 now0 now1 hL hn n0 n1 m0 m1).mono fun x w' ⟨v, ks, h1, h2, h3, h4, h5, h6, h7⟩ => ?_
      have e := out_eq ho h4 h5 h6
      subst e
      rw [hit_eq ho] at h7
      exact ⟨v, h1, h2, h3, h7⟩
end Go.Proofs.Ytbjoodjcpkimcaa
