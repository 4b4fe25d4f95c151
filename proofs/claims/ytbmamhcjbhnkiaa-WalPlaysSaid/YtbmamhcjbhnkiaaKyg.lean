/- Layer 8: the walk of the anchor. -/
import Derived.Test.YtbmamhcjbhnkiaaKyf
namespace Go.Proofs.Ytbmamhcjbhnkiaa
open Go.RowKit

set_option maxHeartbeats 4000000 in
set_option maxRecDepth 100000 in
theorem anchor8_any (w : World) : Calls Try.prog 45 #[] w fun e w' => e = .returned (.bool true) ∧ Keeps Non w w' := by
  have kc := fun (w : World) (C : Array Value) (n c : Nat) => Lib.run_convert_bytes_const (P := Try.prog) w 22 5 C n c Try.underlying22 Try.underlying5
  go_enter Try.func45, Try.ntmps45
  go_wp2_with fail
  refine (new_1024 w).mono ?_
  rintro e w1 ⟨p, g, rfl, hD1, hp, hg, hk1⟩
  go_wp2_with fail
  refine (open_fresh p g 1024 (by omega) (by omega) w1 hD1).mono ?_
  rintro e w2 ⟨d, F, b, rfl, hL, hlit, hlen, hW, hF, hk2⟩
  have hk02 : Keeps Non w w2 := hk1.into hk2 fun k h1 h2 => by show False; omega
  have hs := hk1.size
  have hz : Wal.hs d = 512 := by unfold Wal.hs; rw [hlen]
  clear hk1 hk2 hD1
  go_wp2_with fail
  refine (room_any F b p g d _ hL.le w2 hW).mono ?_
  rintro e w3 ⟨rfl, hk3⟩
  rw [hz, show (512 - (⟨0, 1, 16, [], false⟩ : Wal.Lg).fin) = 496 from rfl]
  have hW3 := hW.keepN hk3
  have hk03 := hk02.trans hk3
  clear hW hk3
  go_wp2_with fail
  refine (cost_ok 10 (by omega) (by omega) w3).mono ?_
  rintro e w' ⟨rfl, rfl⟩
  have hka : Keeps Non w3 (w3.alloc (.cells #[.int .u8 120] 5 (1, 2))) := (Keeps.refl _ _).alloc _
  have hrx : RdB (w3.alloc (.cells #[.int .u8 120] 5 (1, 2))) (some ⟨w3.heap.size, 0, none⟩) 1 [120] := RdB.of_whole (heap_new _ _) rfl rfl (by decide)
  have hWa := hW3.keepN hka
  have hk0a := hk03.trans hka
  have hold := hW3.old
  have hpg := hW3.disk.lt
  have Hap := Lib.hid (append_step F b p g d _ (some ⟨w3.heap.size, 0, none⟩) 1 1 [120] hL (by omega) (by omega) (by rw [hz]; show 16 + (9 + 1) ≤ 512; omega) _ hWa hrx (fun a ha h => by
    cases ha
    rcases h with h | h | h
    · have h : w3.heap.size = p := h; omega
    · have h : w3.heap.size = g := h; omega
    · have := hold _ h; exact absurd this (by show ¬ w3.heap.size < _; omega)))
  clear hrx hka
  go_wp2_with fail
  refine Hap.out.mono ?_
  rintro e w4 ⟨d4, -, hlen4, hk4, h4⟩
  rcases h4 with ⟨rfl, hL4, -, F4, hW4, hF4⟩ | ⟨hbad, _⟩
  · have hk04 : Keeps Non w w4 := hk0a.into hk4 fun k h1 h2 => by
      show False
      rcases h2 with h | h | h
      · omega
      · omega
      · have := hF k h; omega
    clear Hap
    go_wp2_with fail
    refine (records_any F4 b p g d4 _ w4 hW4).mono ?_
    rintro e w5 ⟨v, vs, rfl, hown, hk5⟩
    obtain ⟨A, c, rfl, _⟩ := hown.rdL (by decide) (by
      intro x hx
      have : x = [120] := by simpa [Wal.Lg.added] using hx
      subst this; decide)
    have hk05 := hk04.trans hk5
    have hl1 : ((⟨0, 1, 16, [], false⟩ : Wal.Lg).added [120]).recs.length = 1 := rfl
    rw [hl1]
    clear hown
    go_wp2_with fail
    go_ret
    exact ⟨rfl, hk05⟩
  · rw [hlit] at hbad; cases hbad
end Go.Proofs.Ytbmamhcjbhnkiaa
