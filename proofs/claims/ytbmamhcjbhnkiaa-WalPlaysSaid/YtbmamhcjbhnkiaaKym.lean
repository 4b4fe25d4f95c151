/- Layer 8: the walk of stored. -/
import Derived.Test.YtbmamhcjbhnkiaaKyl
import Derived.Test.YtbmamhcjbhnkiaaKyi
namespace Go.Proofs.Ytbmamhcjbhnkiaa
open Go.RowKit

set_option maxHeartbeats 2000000 in
set_option maxRecDepth 100000 in
theorem stored_any (p g : Nat) (d : Dk) (h0 : 1024 ≤ d.data.length) (w : World) (hD : DiskAt w p g d) :
    Calls Try.prog 50 #[.pointer (some ⟨p, 0, none⟩)] w (RetRead8 w (Wal.refRead d.data)) := by
  have hle := hD.wf.le
  obtain ⟨n, hn⟩ : ∃ n, n = d.data.length := ⟨_, rfl⟩
  rw [← hn] at h0 hle
  obtain ⟨T, hT⟩ : ∃ T, T = Wal.refRead d.data := ⟨_, rfl⟩
  rw [← hT]
  have HT := Lib.hid hT
  have HN := Lib.hid hn
  clear hT hn
  go_enter Try.func50, Try.ntmps50
  go_wp2_with fail
  refine (copy_any p g d w hD).mono ?_
  rintro e w1 ⟨p', g', rfl, hX, hp', hg', hk1⟩
  go_wp2_with fail
  refine (start_any p' g' d w1 hX).mono ?_
  rintro e w2 ⟨rfl, hX2, hk2⟩
  have hk02 : Keeps Non w w2 := hk1.into hk2 fun k h1 h2 => by have h2 : k = p' := h2; show False; omega
  clear hX hk1 hk2
  go_wp2_with fail
  refine (size_any p' g' d.start w2 hX2).mono ?_
  rintro e w' ⟨rfl, rfl⟩
  rw [show d.start.data = d.data from rfl, ← HN.out]
  go_wp2_with fail
  refine (read_ok p' g' d.start 0 n w2 hX2 (may_in rfl (by rw [show d.start.data = d.data from rfl, ← HN.out]; omega))).mono ?_
  rintro e w3 ⟨⟨A, c, rfl, hr, -, hnc, hcm⟩, hk3⟩
  have hd : (d.start.data.drop 0).take n = d.data := by rw [show d.start.data = d.data from rfl, HN.out]; simp
  rw [hd] at hr
  have hk03 := hk02.trans hk3
  clear hX2 hk02 hk3 hd
  go_wp2_with fail
  refine (rread8_any A n c d.data hnc hcm h0 hle w3 hr).mono ?_
  rw [← HT.out]
  rintro e w4 ⟨v, vs, rfl, hown, hk4⟩
  have hk04 := hk03.trans hk4
  have hsz := hk03.size
  go_wp2_with fail
  go_ret2
  exact ⟨v, vs, rfl, ⟨own_base hown.row hsz, fun j x hx => by obtain ⟨u, h1, h2⟩ := hown.el j x hx; exact ⟨u, h1, own_base h2 hsz⟩⟩, hk04⟩
end Go.Proofs.Ytbmamhcjbhnkiaa
