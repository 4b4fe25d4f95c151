/- The walk of the reference's Join. -/
import Derived.Test.YtbmamhcjbhnkiaaKd
import Derived.Test.YtbmamhcjbhnkiaaKa
namespace Go.Proofs.Ytbmamhcjbhnkiaa
open Go.RowKit

theorem flat_take_le (ls : List (List UInt8)) (k : Nat) : (ls.take k).flatten.length ≤ ls.flatten.length := by
  have h : ls.flatten = (ls.take k).flatten ++ (ls.drop k).flatten := by rw [← List.flatten_append, List.take_append_drop]
  rw [h]; simp
theorem flat_take_succ (ls : List (List UInt8)) (k : Nat) (hk : k < ls.length) : (ls.take (k + 1)).flatten = (ls.take k).flatten ++ ls[k] := by
  rw [List.take_succ_eq_append_getElem hk, List.flatten_append]; simp

theorem join_any (A : Option Addr) (m c : Nat) (ls : List (List UInt8)) (w : World) (hr : RdL w A m ls) (hb : ls.flatten.length ≤ 140737488355328) :
    Calls Try.prog 28 #[.slice A m c] w (RetB w ls.flatten) := by
  have hml := Lib.hid hr.len
  have hm := hr.le
  go_enter Try.func28, Try.ntmps28
  go_wp2
  go_loopw [3, 4] (fun v i wr => ∃ k : Nat, k ≤ m ∧ i = .int .i64 k ∧ wr.ownsRow w.heap.size 5 1 v (ls.take k).flatten.length ((ls.take k).flatten.map bv) ∧ Below w.heap.size w wr) (fun _ i _ => m - (intOf i).toNat)
  case atStart => exact ⟨0, Nat.zero_le _, rfl, World.ownsRow_nil _ _ _ _, Below.refl _ _⟩
  case round =>
    obtain ⟨k, hk, rfl, hown, hbel⟩ := hrel
    by_cases hlt : k < m
    · obtain ⟨b, off, Aj, nj, cj, rfl, hck, hrk⟩ := (hr.below hbel).at_ k hlt
      have hlen : k < ls.length := by rw [hml.out]; exact hlt
      have H2 := Lib.hid (flat_take_succ ls k hlen)
      have hle := flat_take_le ls (k + 1)
      rw [H2.out, List.length_append] at hle
      generalize (ls.take k).flatten = l0 at *
      generalize ls[k] = lk at *
      have hnj := Lib.hid hrk.len
      rw [hnj.out] at hle
      have hsz := hbel.size
      have hsrc := src_bytes (P := Try.prog) Try.underlying22 hrk cj
      go_wp2_with (at_builtin; refine wpList_append_src _ rfl _ _ 22 22 rfl w.heap.size 5 (.int .u8 0) 1 1 Try.underlying22 info_u8 rfl (by decide) u3 _ _ rfl hown _ _ _ rfl hsrc (by unfold maxLen; omega) (by omega) hsz ?_; intro v' w1 hown' hgrow _)
      have hbel' := own_below hown hbel hgrow hsz
      go_wp2
      go_roundw
      case rel => exact ⟨k + 1, by omega, by go_num, by rw [H2.out]; simpa [hnj.out] using hown', hbel'⟩
      case measure => simp [intOf]; omega
    · obtain rfl : k = m := by omega
      have H3 : Hid (ls.take k = ls) := by show ls.take k = ls; rw [List.take_of_length_le (by rw [hml.out]; omega)]
      rw [H3.out] at hown
      obtain ⟨A', c', hv, hrd, hblk, hnc, hcm⟩ := own_rdB hown hb
      have hge : ∀ a, A' = some a → w.heap.size ≤ a.block := fun a ha => own_ge hown _ (hblk a ha)
      have Hb := Lib.hid hblk
      clear hblk
      have Hv := Lib.hid hv
      clear hv
      go_wp2
      go_ret
      refine ⟨A', _, c', ?_, hrd, Keeps.of_below hbel, hge, hnc, hcm⟩
      rw [Hv.out]; rfl
end Go.Proofs.Ytbmamhcjbhnkiaa
