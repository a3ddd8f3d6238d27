/- DeadlineSteps, plainly: the monitor's list and the reference's go together. -/
import Derived.Test.YtbjoodjcpkimcaaH
namespace Go.Proofs.Ytbjoodjcpkimcaa
open Go.RowKit Go.Maps Go.Sort

def pr (e : Ent) : Watch := (e.1, e.2.1)
theorem pr_gone (L : List Ent) (k : Key) : (delE L k).map pr = (L.map pr).filter (isNot k) := by
  unfold delE
  rw [List.filter_map]
  congr 1
  apply List.filter_congr
  intro e _
  by_cases h : e.1 = k <;> simp [pr, isNot, Function.comp, h]
theorem ovr_off {now p : Int} (hp : p < 1) (x : Watch) : ovr now p x = false := by unfold ovr; rw [decide_eq_false (by omega)]; rfl
theorem ovr_on {now p : Int} (hp : ¬ p < 1) (x : Watch) : ovr now p x = overF now x.2 p := by unfold ovr; rw [decide_eq_true (by omega)]; rfl
theorem pr_outs (L : List Ent) (now p : Int) : outs L now p = routs now p (L.map pr) := by
  unfold outs routs outOf
  by_cases hp : p < 1
  · rw [if_pos hp]
    have : (L.map pr).filter (ovr now p) = [] := by
      rw [List.filter_eq_nil_iff]
      intro x _
      rw [ovr_off hp]; simp
    rw [this]; rfl
  · rw [if_neg hp, List.filter_map, List.map_map]
    have e : (ovr now p ∘ pr) = fun e : Ent => overF now e.2.1 p := by
      funext e
      exact ovr_on hp _
    rw [e]
    rfl
theorem pr_hits (L : List Ent) (now p : Int) : (hits L now p).map pr = (L.map pr).map (hitw now p) := by
  unfold hits hitL
  by_cases hp : p < 1
  · rw [if_pos hp, List.map_map]
    apply List.map_congr_left
    intro e _
    simp only [Function.comp, hitw, ovr_off hp]
    rfl
  · rw [if_neg hp, List.map_map, List.map_map]
    apply List.map_congr_left
    intro e _
    simp only [Function.comp, hitw, ovr_on hp, pr]
    cases overF now e.2.1 p <;> rfl
theorem nodup_inj {xs : List Watch} (hn : (xs.map (·.1)).Nodup) {i j : Nat} {x y : Watch} (hi : xs[i]? = some x) (hj : xs[j]? = some y) (h : x.1 = y.1) : i = j := by
  have h1 : (xs.map (·.1))[i]? = some x.1 := by rw [List.getElem?_map, hi]; rfl
  have h2 : (xs.map (·.1))[j]? = some x.1 := by rw [List.getElem?_map, hj, h]; rfl
  obtain ⟨l1, e1⟩ := List.getElem?_eq_some_iff.1 h1
  obtain ⟨l2, e2⟩ := List.getElem?_eq_some_iff.1 h2
  have hp := List.pairwise_iff_getElem.1 hn
  rcases Nat.lt_trichotomy i j with h' | h' | h'
  · exact absurd (e1.trans e2.symm) (hp i j l1 l2 h')
  · exact h'
  · exact absurd (e2.trans e1.symm) (hp j i l2 l1 h')
theorem rseen_map {xs : List Watch} (hn : (xs.map (·.1)).Nodup) {k : Key} {now : Int} (hk : ∃ x ∈ xs, x.1 = k) : rseen xs k now = xs.map fun x => if x.1 = k then (x.1, now) else x := by
  obtain ⟨x, hx, hxk⟩ := hk
  obtain ⟨i, hi⟩ := List.mem_iff_getElem?.1 hx
  have hno : ∀ j y, j < i → xs[j]? = some y → y.1 ≠ k := fun j y hj hy e => by
    have := nodup_inj hn hi hy (by rw [hxk, e]); omega
  rw [rseen_hit hno hi hxk]
  apply List.ext_getElem?
  intro j
  rw [List.getElem?_set, List.getElem?_map]
  by_cases e : i = j
  · subst e
    rw [if_pos rfl, if_pos (List.getElem?_eq_some_iff.1 hi).1, hi]
    simp [hxk]
  · rw [if_neg e]
    cases hj : xs[j]? with
    | none => rfl
    | some y =>
      simp only [Option.map_some]
      rw [if_neg (fun h => e (nodup_inj hn hi hj (by rw [hxk, h])))]
theorem pr_seen {L : List Ent} {next : Int} (ho : Ordered L next) (k : Key) (now : Int) : (putE L k (now, doAt L k next)).map pr = rseen (L.map pr) k now := by
  have hn : ((L.map pr).map (·.1)).Nodup := by rw [List.map_map]; exact ho.nodup
  cases hk : knownB L k with
  | true =>
    have hd : doAt L k next = (entOf L k).2 := by unfold doAt; rw [hk]; rfl
    rw [hd, putE_hit ho.nodup hk, rseen_map (k := k) hn ⟨pr (k, entOf L k), List.mem_map.2 ⟨_, ent_mem hk, rfl⟩, rfl⟩, List.map_map, List.map_map]
    apply List.map_congr_left
    intro e _
    by_cases h : e.1 = k <;> simp [Function.comp, pr, h]
  | false =>
    have hl : L.lookup k = none := by unfold knownB at hk; simpa using hk
    rw [rseen_new (fun j x _ hx => by
      obtain ⟨e, he, rfl⟩ := List.mem_map.1 (List.mem_iff_getElem?.2 ⟨j, hx⟩)
      exact lookup_none hl e he)]
    unfold putE
    rw [hl]
    simp [pr]
end Go.Proofs.Ytbjoodjcpkimcaa
