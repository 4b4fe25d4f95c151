/- Layer 9 (the great seat): the walk of the reference's Cost. -/
import Derived.Test.YtbmamhcjbhnkiaaGreatKzbb
import Derived.BigQuiet
namespace Go.Proofs.YtbmamhcjbhnkiaaGreat
open Go.RowKit Go.Maps
open Kv (Bs Tab)

set_option maxHeartbeats 4000000 in
set_option maxRecDepth 100000 in
theorem rcost_any (Z : Nat → Prop) (A : Option Addr) (n c : Nat) (T : Tab) (w : World) (hsz : Kv.tsize T ≤ 65536) (hr : RdR Z w A n T) :
    Calls Tryz.prog 16 #[.slice A n c] w fun e w' => e = .returned (.int .i64 (Kv.rcost T : Int)) ∧ ∃ q, w.drewN q = w' := by
  have HN := Lib.hid hr.len
  have hnb := hr.le
  go_enter Tryz.func16, Tryz.ntmps16
  go_wp2
  go_loopw [3, 4, 5] (fun a l i wr => a = .int .i64 0 ∧ ∃ (j t : Nat), j ≤ n ∧ t ≤ 65536 ∧ i = .int .i64 j ∧ l = .int .i64 t ∧ Hid (t = Kv.tsize (T.take j)) ∧ ∃ q, w.drewN q = wr) (fun _ _ i _ => n - (intOf i).toNat)
  case atStart => exact ⟨rfl, 0, 0, Nat.zero_le _, by omega, rfl, rfl, rfl, 0, World.drewN_zero _⟩
  case round =>
    obtain ⟨rfl, j, t, hj, ht, rfl, rfl, HT, q, rfl⟩ := hrel
    by_cases hlt : j < n
    · obtain ⟨b, off, ⟨yk, yv⟩, rfl, hy, q0, q1⟩ := hr.at_ hlt
      simp only [] at q0 q1
      have h1 := Kv.tsize_take_succ hy
      have h2 := Kv.tsize_take_le T (j + 1)
      rw [← HT.out] at h1
      simp only [] at h1
      have hs : t + (4 + yk.length + yv.length) ≤ 65536 := by omega
      have HN2 : Hid (t + (4 + yk.length + yv.length) = Kv.tsize (T.take (j + 1))) := h1.symm
      clear h1 h2 hy
      go_wp2_with fail
      go_region
      go_wp2_with fail
      go_roundw
      case rel => exact ⟨rfl, j + 1, t + (4 + yk.length + yv.length), by omega, hs, by go_num, by go_num, HN2, _, rfl⟩
      case measure => simp [intOf]; omega
    · obtain rfl : j = n := by omega
      have H3 := HT.out
      rw [List.take_of_length_le (by rw [HN.out]; exact Nat.le_refl _)] at H3
      by_cases h0 : 0 < t
      · have HC : Hid (Kv.rcost T = 9 + t) := by
          show _ = _
          unfold Kv.rcost
          rw [if_neg (fun e => by subst e; rw [show Kv.tsize ([] : Tab) = 0 from rfl] at H3; omega), H3]
        clear H3
        go_wp2_with fail
        go_ret
        refine ⟨?_, _, rfl⟩
        rw [HC.out]
        congr 2
      · have HC : Hid (Kv.rcost T = 0) := by
          show _ = _
          unfold Kv.rcost
          rw [if_pos]
          cases T with
          | nil => rfl
          | cons p r => have := Kv.tsize_pos (T := p :: r) (by simp); omega
        clear H3
        go_wp2_with fail
        go_ret
        refine ⟨?_, _, rfl⟩
        rw [HC.out]
        rfl
end Go.Proofs.YtbmamhcjbhnkiaaGreat
