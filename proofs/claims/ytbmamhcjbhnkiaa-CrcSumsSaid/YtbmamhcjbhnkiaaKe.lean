/- The walks of the laws of layer 3: CrcSums. -/
import Derived.Test.YtbmamhcjbhnkiaaKd
import Derived.Test.YtbmamhcjbhnkiaaKi
namespace Go.Proofs.Ytbmamhcjbhnkiaa
open Go.RowKit

theorem crcSums_walk (a0 : Option Addr) (len0 cap0 : Nat) (z0 : List Int) (w : World) (w0 : IsRow .u8 w a0 len0 cap0 z0) :
    Calls Try.prog 3 #[.slice a0 len0 cap0] w fun e w' => e = .returned (.bool true) ∧ Below w.heap.size w w' := by
  have hle := w0.len_le
  by_cases h : len0 ≤ 3000
  · have hr := w0.rdB (by omega)
    have hL := Lib.hid (bytesOf_length w0)
    generalize bytesOf z0 len0 = l at *
    clear w0
    have hs := Crc.sum_lt l
    go_enter Try.func3, Try.ntmps3
    go_wp2_with fail
    refine (anchor3_any _).mono ?_
    rintro e w1 ⟨rfl, hk1⟩
    go_wp2_with fail
    refine (sum_one a0 len0 cap0 _ 1 l _ _ _ (heap_new w1 _) ((hr.keepN hk1).keepN ((Keeps.refl _ _).alloc _))).mono ?_
    rintro e w2 ⟨rfl, hk2⟩
    have hk12 := hk1.trans (((Keeps.refl _ _).alloc _).trans hk2)
    go_wp2_with fail
    refine (rsum3_any a0 len0 cap0 l _ (hr.keepN hk12)).mono ?_
    rintro e w3 ⟨rfl, rfl⟩
    go_wp2_with fail
    go_ret
    exact ⟨rfl, hk12.none_below⟩
  · have hgt : (3000 : Int) < (len0 : Int) := by omega
    go_enter Try.func3, Try.ntmps3
    go_wp2_with fail
    refine (anchor3_any _).mono ?_
    rintro e w1 ⟨rfl, hk1⟩
    go_wp2_with fail
    go_ret
    exact ⟨rfl, hk1.none_below⟩
end Go.Proofs.Ytbmamhcjbhnkiaa
