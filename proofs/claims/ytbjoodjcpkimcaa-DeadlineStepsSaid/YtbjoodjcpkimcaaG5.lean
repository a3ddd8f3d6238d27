/- The law's own 'same', at two rows that hold the same keys. -/
import Derived.Test.YtbjoodjcpkimcaaG4
namespace Go.Proofs.Ytbjoodjcpkimcaa
open Go.RowKit Go.Maps Go.Sort

set_option maxRecDepth 100000 in
set_option maxHeartbeats 1000000 in
theorem same_any (base base' : Nat) (u v : Value) (ks : List Key) (w : World) (hu : RowOf w base u ks) (hv : RowOf w base' v ks) (hn : ks.length ≤ 1000000) :
    Calls Try.prog 25 #[u, v] w fun x w' => x = .returned (.bool true) ∧ ∃ q, w' = w.drewN q := by
  obtain ⟨A, ca, rfl⟩ := RowE.len hu
  obtain ⟨B, cb, rfl⟩ := RowE.len hv
  have HU := Lib.hid hu
  have HV := Lib.hid hv
  clear hu hv
  go_enter Try.func25, Try.ntmps25
  go_wp2_with fail
  go_loopw [5] (fun v5 wr => ∃ i q : Nat, v5 = .int .i64 i ∧ i ≤ ks.length ∧ wr = w.drewN q) (fun v5 _ => ks.length - (intOf v5).toNat)
  case atStart => exact ⟨0, 0, rfl, Nat.zero_le _, rfl⟩
  case round =>
    obtain ⟨i, q, rfl, hi, rfl⟩ := hrel
    by_cases hlt : i < ks.length
    · obtain ⟨k, hk⟩ : ∃ k, ks[i]? = some k := ⟨_, List.getElem?_eq_getElem hlt⟩
      obtain ⟨ga, rfl⟩ : ∃ g, A = some ⟨g, 0, none⟩ := by
        rcases RowE.shape HU.out with ⟨_, rfl⟩ | ⟨g, c, e⟩
        · simp at hlt
        · cases e; exact ⟨g, rfl⟩
      obtain ⟨gb, rfl⟩ : ∃ g, B = some ⟨g, 0, none⟩ := by
        rcases RowE.shape HV.out with ⟨_, rfl⟩ | ⟨g, c, e⟩
        · simp at hlt
        · cases e; exact ⟨g, rfl⟩
      have k1 := row_key HU.out hk
      have k2 := row_key HV.out hk
      clear hk
      go_wp2_with fail
      go_quiet (fail)
      go_wp2_with fail
      exact ⟨⟨i + 1, q + nq, by go_num, by omega, rfl⟩, by simp [intOf]; omega⟩
    · obtain rfl : i = ks.length := by omega
      go_wp2_with fail
      go_ret
      exact ⟨rfl, q, rfl⟩
end Go.Proofs.Ytbjoodjcpkimcaa
