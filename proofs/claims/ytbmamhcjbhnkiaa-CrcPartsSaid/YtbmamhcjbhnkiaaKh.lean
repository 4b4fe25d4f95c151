/- The walk of the law CrcParts. -/
import Derived.Test.YtbmamhcjbhnkiaaKg
import Derived.Test.YtbmamhcjbhnkiaaKi
import Derived.Deep.RegionWith
namespace Go.Proofs.Ytbmamhcjbhnkiaa
open Go.RowKit

theorem rows_len (L : Nat → Nat) (Z : Nat → List Int) (k : Nat) (hL : ∀ r, r < k → (bytesOf (Z r) (L r)).length ≤ 200) : (rowsOf L Z k).flatten.length ≤ 200 * k := by
  induction k with
  | zero => simp [rowsOf]
  | succ k ih =>
    rw [rowsOf_succ, List.flatten_append, List.length_append]
    have := ih fun r hr => hL r (by omega)
    have := hL k (by omega)
    simp only [List.flatten_cons, List.flatten_nil, List.append_nil]; omega

theorem rsum_sum (q : Nat) (l : List UInt8) (w : World) (hc : w.cell? ⟨q, 0, none⟩ = some (.int .u32 (Crc.run 4294967295 l : Int))) :
    Calls Try.prog 27 #[.pointer (some ⟨q, 0, none⟩)] w fun e w' => e = .returned (.int .u32 (Crc.sum l : Int)) ∧ w = w' :=
  rsum_any q _ (Crc.run_lt l (by decide)) w hc

set_option maxHeartbeats 1600000 in
theorem crcParts_walk (a0 : Option Addr) (len0 cap0 : Nat) (A : Nat → Option Addr) (L C : Nat → Nat) (Z : Nat → List Int) (w : World) (w0 : IsRows .u8 w a0 len0 cap0 A L C Z) :
    Calls Try.prog 4 #[.slice a0 len0 cap0] w fun e w' => e = .returned (.bool true) ∧ Below w.heap.size w w' := by
  have hle := w0.len_le
  by_cases h : len0 ≤ 20
  · go_enter Try.func4, Try.ntmps4
    go_wp2_with fail
    refine (anchor3_any _).mono ?_
    rintro e w1 ⟨rfl, hk1⟩
    go_wp2_with fail
    refine (new_any _).mono ?_
    rintro e w2 ⟨rfl, hw2⟩
    have hb1 := hk1.none_below
    have hb2 : Below w.heap.size w w2 := by subst hw2; exact hb1.alloc hb1.size _
    have hc2 : w2.cell? ⟨w1.heap.size, 0, none⟩ = some (.int .u32 4294967295) := by subst hw2; simp
    have hf2 : w2.frozen? ⟨w1.heap.size, 0, none⟩ = false := by subst hw2; simp
    have hB := hk1.size
    clear hw2
    go_wp2_with fail
    go_loopw [14] (fun i wr => ∃ k : Nat, k ≤ len0 ∧ i = .int .i64 k ∧ wr.cell? ⟨w1.heap.size, 0, none⟩ = some (.int .u32 (Crc.run 4294967295 (rowsOf L Z k).flatten : Int)) ∧ wr.frozen? ⟨w1.heap.size, 0, none⟩ = false ∧ Below w.heap.size w wr ∧ (∀ r, r < k → L r ≤ 200)) (fun i _ => len0 - (intOf i).toNat)
    case atStart => exact ⟨0, Nat.zero_le _, rfl, hc2, hf2, hb2, fun r hr => absurd hr (by omega)⟩
    case round =>
      obtain ⟨k, hk, rfl, hc, hf, hbel, hL⟩ := hrel
      by_cases hlt : k < len0
      · obtain ⟨b, off, rfl, hrows⟩ := w0.place (by omega)
        obtain ⟨hck, hrk⟩ := hrows k hlt
        have hck' := (hbel.cell (World.block_lt_of_cell? w _ hck)).trans hck
        clear hck
        clear hrows
        by_cases h200 : L k ≤ 200
        · have hrb := (hrk.rdB (by omega)).below hbel
          have hl : Crc.run 4294967295 (rowsOf L Z k).flatten < 4294967296 := Crc.run_lt _ (by decide)
          have H2 : Hid (Crc.run 4294967295 (rowsOf L Z (k + 1)).flatten = Crc.run (Crc.run 4294967295 (rowsOf L Z k).flatten) (bytesOf (Z k) (L k))) := by
            show _ = _; rw [rowsOf_succ, List.flatten_append, Crc.run_append]; simp
          have HL : Hid (∀ r, r < k + 1 → L r ≤ 200) := fun r hr => by
            rcases Nat.lt_or_ge r k with h' | h'
            · exact hL r h'
            · obtain rfl : r = k := by omega
              exact h200
          clear hL
          have hrl : RdL w (some ⟨b, off, none⟩) (k + 1) (rowsOf L Z (k + 1)) := w0.rdL (k + 1) (by omega) (by omega) (fun r hr => by have := HL.out r hr; omega)
          have hfl : (rowsOf L Z (k + 1)).flatten.length ≤ 140737488355328 := by
            have := rows_len L Z (k + 1) fun r hr => by
              have h1 := HL.out r hr
              have h2 : IsRow .u8 w (A r) (L r) (C r) (Z r) := by
                obtain ⟨b', off', _, hr'⟩ := w0.place (by omega)
                exact (hr' r (by omega)).2
              rw [bytesOf_length h2]; exact h1
            omega
          obtain ⟨ls, hls⟩ : ∃ ls, ls = rowsOf L Z (k + 1) := ⟨_, rfl⟩
          rw [← hls] at hrl hfl H2
          have Hls := Lib.hid hls
          clear hls
          generalize Crc.run 4294967295 (rowsOf L Z k).flatten = st at *
          generalize bytesOf (Z k) (L k) = lk at *
          clear hrk
          go_wp2_with fail
          refine (write_any _ st hl (A k) (L k) (C k) lk _ hc hf hrb).mono ?_
          rintro e w3 ⟨rfl, hw3⟩
          have hbel3 : Below w.heap.size w w3 := by subst hw3; exact hbel.setCell hB _
          have hc3 : w3.cell? ⟨w1.heap.size, 0, none⟩ = some (.int .u32 (Crc.run 4294967295 ls.flatten : Int)) := by subst hw3; rw [H2.out]; go_simp
          have hf3 : w3.frozen? ⟨w1.heap.size, 0, none⟩ = false := by subst hw3; go_simp
          have hrl3 := hrl.below hbel3
          clear hw3 hc hf hck' hrb hrl
          go_wp2_with fail
          have hneq : ((Crc.sum ls.flatten : Int) != (Crc.sum ls.flatten : Int)) = false := by simp
          have hs32 := Crc.sum_lt ls.flatten
          have q1 : IntKind.i64.wrap ((k : Int) + 1) = (k : Int) + 1 := IntWalk.i64_in _ (by omega)
          have q5 : IntKind.i64.wrap (Crc.sum ls.flatten : Int) = (Crc.sum ls.flatten : Int) := IntWalk.i64_in _ (by omega)
          have q2 : (0 : Int) ≤ (k : Int) + 1 := by omega
          have q3 : ((k : Int) + 1).toNat = k + 1 := by omega
          have q4 : k + 1 ≤ cap0 := by have := w0.cap_le; omega
          go_region_with (first | (go_at_call 27; refine (rsum_sum _ ls.flatten _ ?_).mono ?_; exact hc3; rintro e w' ⟨rfl, rfl⟩) | (go_at_call 28; refine (join_any _ _ _ ls _ ?_ hfl).mono ?_; exact hrl3.below (Below.refl _ _).drew; rintro e w4 ⟨A', n', c', rfl, hrd, hk4, _⟩) | (go_at_call 24; refine (rsum3_any _ _ _ ls.flatten _ ?_).mono ?_; assumption; rintro e w' ⟨rfl, rfl⟩))
          all_goals
            have hkk : Keeps Non w3 w4 := ⟨hk4.os, hk4.tape, hk4.output, hk4.size, hk4.block⟩
            have hc4 := hkk.cell hc3 id
            have hf4 : w4.frozen? ⟨w1.heap.size, 0, none⟩ = false := by rw [← hf3]; exact World.frozen?_of_block (hkk.block _ (World.block_lt_of_cell? _ _ hc3) id)
            have hb4 := hbel3.trans (hkk.below hbel3.size fun _ _ h => h.elim)
            have Hq := Lib.hid q5
            clear q1 q2 q3 q4 q5
            have q5 := Hq.out
            clear hk4 hkk hc3 hf3 hbel3 hrl3 hrd
            go_wp2
            go_roundw
            case rel => exact ⟨k + 1, by omega, by go_num, by rw [← Hls.out]; exact hc4, hf4, hb4, HL.out⟩
            case measure => clear q5; simp [intOf]; omega
        · have : (200 : Int) < (L k : Int) := by omega
          have HL := Lib.hid hL
          clear hL
          go_wp2
          go_ret
          exact ⟨rfl, hbel⟩
      · obtain rfl : k = len0 := by omega
        have hrl := (w0.rdL k (Nat.le_refl _) (by omega) (fun r hr => by have := hL r hr; omega)).below hbel
        have HL := Lib.hid hL
        clear hL
        generalize rowsOf L Z k = ls at *
        go_wp2_with fail
        refine (sum_any a0 k cap0 ls _ hrl).mono ?_
        rintro e w3 ⟨rfl, hk3⟩
        have hc3 := hk3.cell hc id
        go_wp2_with fail
        refine (rsum_sum _ ls.flatten _ hc3).mono ?_
        rintro e w4 ⟨rfl, rfl⟩
        go_wp2_with fail
        go_ret
        exact ⟨by simp, hbel.trans (hk3.below hbel.size fun _ _ h => h.elim)⟩
  · have hgt : (20 : Int) < (len0 : Int) := by omega
    go_enter Try.func4, Try.ntmps4
    go_wp2_with fail
    refine (anchor3_any _).mono ?_
    rintro e w1 ⟨rfl, hk1⟩
    go_wp2_with fail
    go_ret
    exact ⟨rfl, hk1.none_below⟩
end Go.Proofs.Ytbmamhcjbhnkiaa
