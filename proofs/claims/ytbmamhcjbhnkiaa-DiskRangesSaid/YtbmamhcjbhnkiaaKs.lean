/- The walks of the laws DiskRanges and DiskTorn. -/
import Derived.Test.YtbmamhcjbhnkiaaKr
import Derived.Test.YtbmamhcjbhnkiaaKi
namespace Go.Proofs.Ytbmamhcjbhnkiaa
open Go.RowKit

theorem new_2048 (w : World) : Calls Try.prog 32 #[.int .i64 2048] w (RetNew w 2048) := new_ex 2048 (by omega) (by omega) w

set_option maxRecDepth 100000 in
theorem diskRanges_walk (a0 a1 : Int) (w : World) (w0 : (Lit.int .i64 a0).wf = true) (w1 : (Lit.int .i64 a1).wf = true) :
    Calls Try.prog 10 #[.int .i64 a0, .int .i64 a1] w fun e w' => e = .returned (.bool true) ∧ Below w.heap.size w w' := by
  simp only [Lit.wf, Bool.and_eq_true, decide_eq_true_eq] at w0 w1
  have hmin : IntKind.i64.min = -9223372036854775808 := rfl
  have hmax : IntKind.i64.max = 9223372036854775807 := rfl
  rw [hmin, hmax] at w0 w1
  clear hmin hmax
  by_cases hout : a0 < 0 ∨ a1 < 0 ∨ 2048 < a0 ∨ 2048 - a0 < a1
  · have hm : (Dk.new 2048).may a0 a1 = 12 := may_out rfl (by rw [new_len]; exact hout)
    have Hm := Lib.hid hm
    clear hm
    have main : ∀ w3 : World, (∃ (p g : Nat), DiskAt w3 p g (Dk.new 2048)) → True := fun _ _ => trivial
    clear main
    have hcases : a0 < 0 ∨ (¬ a0 < 0 ∧ a1 < 0) ∨ (¬ a0 < 0 ∧ ¬ a1 < 0 ∧ 2048 < a0) ∨ (¬ a0 < 0 ∧ ¬ a1 < 0 ∧ ¬ 2048 < a0 ∧ 2048 - a0 < a1) := by omega
    clear hout
    rcases hcases with h1 | ⟨h1, h2⟩ | ⟨h1, h2, h3⟩ | ⟨h1, h2, h3, h4⟩
    all_goals
      go_enter Try.func10, Try.ntmps10
      go_wp2_with fail
      refine (anchor7_any _).mono ?_
      rintro e w3 ⟨rfl, hk1⟩
      go_wp2_with fail
      refine (new_2048 w3).mono ?_
      rintro e w4 ⟨p, g, rfl, hD, hp, hg, hk2⟩
      go_wp2_with fail
      refine (read_err p g _ a0 a1 (by omega) (by omega) w4 hD (by rw [Hm.out]; decide)).mono ?_
      rintro e w5 ⟨rfl, rfl⟩
      rw [Hm.out]
      go_wp2_with fail
      go_ret
      exact ⟨rfl, (hk1.trans hk2).none_below⟩
  · obtain ⟨x, rfl⟩ := Int.eq_ofNat_of_zero_le (show 0 ≤ a0 by omega)
    obtain ⟨n, rfl⟩ := Int.eq_ofNat_of_zero_le (show 0 ≤ a1 by omega)
    have hm : (Dk.new 2048).may x n = 0 := may_in rfl (by rw [new_len]; exact hout)
    have h1 : ¬ 2048 < (x : Int) := by omega
    have h2 : ¬ 2048 - (x : Int) < (n : Int) := by omega
    have hnn : ((n : Int) == (n : Int)) = true := by simp
    have Hm := Lib.hid hm
    clear hm hout
    go_enter Try.func10, Try.ntmps10
    go_wp2_with fail
    refine (anchor7_any _).mono ?_
    rintro e w3 ⟨rfl, hk1⟩
    go_wp2_with fail
    refine (new_2048 w3).mono ?_
    rintro e w4 ⟨p, g, rfl, hD, hp, hg, hk2⟩
    go_wp2_with fail
    refine (read_ok p g _ x n w4 hD Hm.out).mono ?_
    rintro e w5 ⟨⟨A, c, rfl, hr, hA, hnc, hcM⟩, hk3⟩
    have hD5 := hD.keep hk3 id id
    have hlt := hD.lt
    go_wp2_with fail
    have hl := hr.len
    have hlen : (x : Int) + (((Dk.new 2048).data.drop x).take n).length ≤ (Dk.new 2048).data.length := by rw [hl, new_len]; omega
    refine (write_any' p g _ x A n c _ (by omega) (by omega) w5 hD5 hr hnc).mono ?_
    rintro e w6 ⟨rfl, hD6, hk4⟩
    rw [Dk.err_open rfl rfl (by omega) hlen]
    rw [Dk.write_open rfl rfl (by omega) hlen] at hD6
    have HL := Lib.hid hlen
    have Hl := Lib.hid hl
    clear hlen hl
    go_wp2_with fail
    refine (writes_any p g _ w6 hD6).mono ?_
    rintro e w7 ⟨rfl, rfl⟩
    rw [show wrap64 ((Dk.new 2048).wr + 1) = 1 by simp [Dk.new, wrap64]]
    go_wp2_with fail
    go_ret
    exact ⟨rfl, ((hk1.trans (hk2.trans hk3)).into hk4 (fun k h1 h2 => by have := hk1.size; show False; omega)).none_below⟩
end Go.Proofs.Ytbmamhcjbhnkiaa
