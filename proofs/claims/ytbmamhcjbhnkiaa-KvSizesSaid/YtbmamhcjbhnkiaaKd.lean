/- The walks of layer 3's reference, and of what the laws of layer 3 share. -/
import Derived.Test.YtbmamhcjbhnkiaaKc
import Derived.Lib.SlBytesConst
namespace Go.Proofs.Ytbmamhcjbhnkiaa
open Go.RowKit

theorem ref_xor {s : Nat} (h : s < 4294967296) (c : UInt8) : bits .xor .i64 (s : Int) (c.toNat : Int) = ((s ^^^ c.toNat : Nat) : Int) := i64_xor_nat s c.toNat (by omega) (by have := c.toNat_lt; omega)
theorem ref_odd {n : Nat} (h : n < 4294967296) (h1 : n % 2 = 1) : bits .xor .i64 ((n : Int) / 2) 3988292384 = (Crc.step n : Int) := by
  have e : ((n : Int) / 2) = ((n / 2 : Nat) : Int) := by omega
  have := i64_xor_nat (n / 2) 3988292384 (by omega) (by omega)
  rw [e]
  unfold Crc.step
  rw [if_pos h1]
  exact this

theorem rsum3_any (A : Option Addr) (m c : Nat) (l : List UInt8) (w : World) (hr : RdB w A m l) :
    Calls Try.prog 24 #[.slice A m c] w fun e w' => e = .returned (.int .i64 (Crc.sum l : Int)) ∧ w = w' := by
  have hml := Lib.hid hr.len
  have hm := hr.le
  go_enter Try.func24, Try.ntmps24
  go_wp2
  go_loop [3, 4] (fun s i => ∃ k : Nat, k ≤ m ∧ i = .int .i64 k ∧ s = .int .i64 (Crc.run 4294967295 (l.take k) : Int)) (fun _ i => m - (intOf i).toNat)
  case atStart => exact ⟨0, Nat.zero_le _, rfl, rfl⟩
  case round =>
    obtain ⟨k, hk, rfl, rfl⟩ := hrel
    by_cases hlt : k < m
    · obtain ⟨b, off, rfl, hcell⟩ := hr.at_ (by omega)
      have hkl : k < l.length := by rw [hml.out]; exact hlt
      have hck := hcell k hkl
      clear hcell
      have hs := run_take_lt (n := 4294967295) (by decide) l k
      have hx := ref_xor hs l[k]
      have hxl := xor_lt hs l[k]
      have hcl := (l[k]).toNat_lt
      have H2 := Lib.hid (run_take_succ 4294967295 l k hkl)
      generalize Crc.run 4294967295 (l.take k) = st at *
      generalize l[k] = ck at *
      go_wp2
      go_loop [3, 5] (fun s i => ∃ j : Nat, j ≤ 8 ∧ i = .int .i64 j ∧ s = .int .i64 (Crc.steps j (st ^^^ ck.toNat) : Int)) (fun _ i => 8 - (intOf i).toNat)
      case atStart => exact ⟨0, Nat.zero_le _, rfl, rfl⟩
      case round =>
        obtain ⟨j, hj, rfl, rfl⟩ := hrel
        have hl := steps_lt' hxl j
        by_cases hj8 : j < 8
        · have H4 := Lib.hid (steps_succ j (st ^^^ ck.toNat))
          generalize Crc.steps j (st ^^^ ck.toNat) = x at *
          rcases Nat.mod_two_eq_zero_or_one x with h1 | h1
          · have hb : (((x : Int) % 2) == 1) = false := by rw [show ((x : Int) % 2) = 0 by omega]; rfl
            have H1 := Lib.hid h1
            clear h1
            go_wp2
            go_round
            case rel => exact ⟨j + 1, by omega, by go_num, by rw [H4.out, step_even H1.out]⟩
            case measure => simp [intOf]; omega
          · have hb : (((x : Int) % 2) == 1) = true := by rw [show ((x : Int) % 2) = 1 by omega]; rfl
            have H1 := Lib.hid h1
            clear h1
            go_wp2
            go_round
            case rel => exact ⟨j + 1, by omega, by go_num, by rw [H4.out, ← ref_odd hl H1.out]⟩
            case measure => simp [intOf]; omega
        · obtain rfl : j = 8 := by omega
          go_wp2
          go_round
          case rel => exact ⟨k + 1, by omega, by go_num, by rw [H2.out]⟩
          case measure => simp [intOf]; omega
    · obtain rfl : k = m := by omega
      have H3 : Hid (l.take k = l) := by show l.take k = l; rw [List.take_of_length_le (by rw [hml.out]; omega)]
      have hs := Crc.run_lt l (n := 4294967295) (by decide)
      go_wp2
      go_ret
      exact ⟨ret_int (by rw [H3.out]; unfold Crc.sum Crc.ones wrap64; omega), rfl⟩

theorem bv_ofNat (n : Nat) : bv (UInt8.ofNat n) = .int .u8 ((n % 256 : Nat) : Int) := by simp only [bv, UInt8.toNat_ofNat']
theorem put_any (n : Nat) (h : n < 4294967296) (w : World) :
    Calls Try.prog 29 #[.int .u32 (n : Int)] w fun e w' => e = .returned (.slice (some ⟨w.heap.size, 0, none⟩) 4 4) ∧ w.alloc (.cells ((Crc.four n).map bv).toArray 5) = w' := by
  go_enter Try.func29, Try.ntmps29
  go_wp2
  go_ret
  refine ⟨rfl, ?_⟩
  simp only [Crc.four, List.map, bv_ofNat]
  have e1 : ((n / 16777216 % 256 : Nat) : Int) = (n : Int) / 16777216 := by omega
  have e2 : ((n / 65536 % 256 : Nat) : Int) = (n : Int) / 65536 % 256 := by omega
  have e3 : ((n / 256 % 256 : Nat) : Int) = (n : Int) / 256 % 256 := by omega
  have e4 : ((n % 256 : Nat) : Int) = (n : Int) % 256 := by omega
  rw [e1, e2, e3, e4]

theorem get_no (A : Option Addr) (m c : Nat) (h : (((m : Int)) != 4) = true) (w : World) :
    Calls Try.prog 30 #[.slice A m c] w fun e w' => e = .returned (.tuple #[.int .u32 0, .int .i64 11]) ∧ w = w' := by
  go_enter Try.func30, Try.ntmps30
  go_wp2
  go_ret2
  exact ⟨rfl, rfl⟩

def digits : List UInt8 := [49, 50, 51, 52, 53, 54, 55, 56, 57]
theorem sum_digits : Crc.sum digits = 3421780262 := by decide +kernel
theorem sum_nothing : Crc.sum [] = 0 := by decide +kernel
theorem sum_one (A : Option Addr) (n c b cc : Nat) (l : List UInt8) (e : TypeId) (fr : Nat × Nat) (w : World) (hb : w.heap[b]? = some (.cells #[.slice A n c] e fr)) (hr : RdB w A n l) :
    Calls Try.prog 23 #[.slice (some ⟨b, 0, none⟩) 1 cc] w fun e w' => e = .returned (.int .u32 (Crc.sum l : Int)) ∧ Keeps Non w w' :=
  (sum_any _ 1 cc [l] w (RdL.one hb hr)).mono fun e w' h => by simpa using h
theorem sum_none (A : Option Addr) (c : Nat) (w : World) :
    Calls Try.prog 23 #[.slice A 0 c] w fun e w' => e = .returned (.int .u32 0) ∧ Keeps Non w w' :=
  (sum_any _ 0 c [] w (RdL.nil _ _)).mono fun e w' h => by simpa [sum_nothing] using h
theorem sum_nine (w : World) : Calls Try.prog 23 #[.slice (some ⟨w.heap.size + 1, 0, none⟩) 1 1]
    ((w.alloc (.cells #[.int .u8 49, .int .u8 50, .int .u8 51, .int .u8 52, .int .u8 53, .int .u8 54, .int .u8 55, .int .u8 56, .int .u8 57] 5 (9, 10))).alloc (.cells #[.slice (some ⟨w.heap.size, 0, none⟩) 9 9] 22))
    fun e w' => e = .returned (.int .u32 3421780262) ∧ Keeps Non w w' := by
  have h1 := heap_new w (.cells #[.int .u8 49, .int .u8 50, .int .u8 51, .int .u8 52, .int .u8 53, .int .u8 54, .int .u8 55, .int .u8 56, .int .u8 57] 5 (9, 10))
  generalize hW : w.alloc (.cells #[.int .u8 49, .int .u8 50, .int .u8 51, .int .u8 52, .int .u8 53, .int .u8 54, .int .u8 55, .int .u8 56, .int .u8 57] 5 (9, 10)) = W at *
  have hz : W.heap.size = w.heap.size + 1 := by rw [← hW]; simp
  have hk : Keeps Non w W := by rw [← hW]; exact (Keeps.refl _ _).alloc _
  have hb := heap_new W (.cells #[.slice (some ⟨w.heap.size, 0, none⟩) 9 9] 22)
  rw [hz] at hb
  have hr : RdB (W.alloc (.cells #[.slice (some ⟨w.heap.size, 0, none⟩) 9 9] 22)) (some ⟨w.heap.size, 0, none⟩) 9 digits := RdB.of_whole (heap_old h1 _) rfl rfl (by decide)
  refine (sum_one _ 9 9 _ 1 digits _ _ _ hb hr).mono ?_
  rintro e w' ⟨rfl, hk'⟩
  exact ⟨by rw [sum_digits]; rfl, (hk.alloc _).trans hk'⟩

set_option maxRecDepth 100000 in
theorem anchor3_any (w : World) : Calls Try.prog 22 #[] w fun e w' => e = .returned (.bool true) ∧ Keeps Non w w' := by
  have kc := fun (w : World) (C : Array Value) (n c : Nat) => Lib.run_convert_bytes_const (P := Try.prog) w 22 5 C n c Try.underlying22 Try.underlying5
  go_enter Try.func22, Try.ntmps22
  go_wp2_with fail
  refine (sum_nine w).mono ?_
  rintro e w1 ⟨rfl, hk1⟩
  go_wp2_with fail
  refine (sum_none _ _ _).mono ?_
  rintro e w2 ⟨rfl, hk2⟩
  go_wp2_with fail
  go_ret
  exact ⟨rfl, hk1.trans hk2⟩
end Go.Proofs.Ytbmamhcjbhnkiaa
