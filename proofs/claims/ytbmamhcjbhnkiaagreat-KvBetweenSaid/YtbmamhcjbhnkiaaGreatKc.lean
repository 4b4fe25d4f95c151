/- The walks of layer 3 (crc). -/
import Derived.Test.YtbmamhcjbhnkiaaGreatProg
import Derived.Test.YtbmamhcjbhnkiaaGreatKp
import Derived.Test.YtbmamhcjbhnkiaaGreatKw
import Derived.Handy
namespace Go.Proofs.YtbmamhcjbhnkiaaGreat
open Go.RowKit

theorem info_u8 : (Tryz.prog.info? 5).map (fun i => (i.zero, i.size, i.bytes)) = some (some (.int .u8 0), 1, 1) := by kernel_rfl

theorem u32_wrap_byte (c : UInt8) : IntKind.u32.wrap (c.toNat : Int) = (c.toNat : Int) := by
  have := c.toNat_lt
  rw [IntKind.wrap_u32']; omega

theorem step_odd {n : Nat} (h : n < 4294967296) (h1 : n % 2 = 1) : bits .xor .u32 ((n : Int) / 2) 3988292384 = (Crc.step n : Int) := by
  have e : ((n : Int) / 2) = ((n / 2 : Nat) : Int) := by omega
  have := u32_xor_nat (n / 2) 3988292384 (by omega) (by omega)
  rw [e]
  unfold Crc.step
  rw [if_pos h1]
  exact this
theorem step_even {n : Nat} (h1 : n % 2 = 0) : ((n : Int) / 2) = (Crc.step n : Int) := by
  unfold Crc.step
  rw [if_neg (by omega)]
  omega
theorem and_one {n : Nat} (h : n < 4294967296) : bits .and .u32 (n : Int) 1 = ((n % 2 : Nat) : Int) := by
  have := u32_and_nat n 1 h (by omega)
  rw [nat_mask1] at this
  exact this

theorem step_any (n : Nat) (h : n < 4294967296) (w : World) : Calls Tryz.prog 112 #[.int .u32 (n : Int)] w fun e w' => e = .returned (.int .u32 (Crc.step n : Int)) ∧ w = w' := by
  rcases Nat.mod_two_eq_zero_or_one n with h1 | h1
  · have hb : (bits .and .u32 (n : Int) 1 == 1) = false := by rw [and_one h, h1]; rfl
    have H1 := Lib.hid h1
    clear h1
    go_enter Tryz.func112, Tryz.ntmps112
    go_wp2
    go_ret
    exact ⟨ret_int (step_even H1.out), rfl⟩
  · have hb : (bits .and .u32 (n : Int) 1 == 1) = true := by rw [and_one h, h1]; rfl
    have H1 := Lib.hid h1
    clear h1
    go_enter Tryz.func112, Tryz.ntmps112
    go_wp2
    go_ret
    exact ⟨ret_int (step_odd h H1.out), rfl⟩

theorem new_any (w : World) : Calls Tryz.prog 98 #[] w fun e w' => e = .returned (.pointer (some ⟨w.heap.size, 0, none⟩)) ∧ w.alloc (.cells #[.int .u32 4294967295] 159) = w' := by
  go_enter Tryz.func98, Tryz.ntmps98
  go_wp2
  go_ret
  exact ⟨rfl, rfl⟩

theorem not_u32 {n : Nat} (h : n < 4294967296) : bits .xor .u32 IntKind.u32.max (n : Int) = ((4294967295 - n : Nat) : Int) := by
  have e : IntKind.u32.max = ((4294967295 : Nat) : Int) := rfl
  rw [e, u32_xor_nat 4294967295 n (by omega) h]
  congr 1
  apply Nat.eq_of_testBit_eq
  intro i
  have e1 : 4294967295 - n = 2 ^ 32 - (n + 1) := by omega
  have e2 : (4294967295 : Nat) = 2 ^ 32 - 1 := by decide
  rw [e1, Nat.testBit_two_pow_sub_succ h, e2, Nat.testBit_xor, Nat.testBit_two_pow_sub_one]
  by_cases hi : i < 32
  · simp [hi]
  · have h2 : 2 ^ 32 ≤ 2 ^ i := Nat.pow_le_pow_right (by decide) (by omega)
    have : n.testBit i = false := Nat.testBit_lt_two_pow (by omega)
    simp [hi, this]

theorem rsum_any (q : Nat) (n : Nat) (h : n < 4294967296) (w : World) (hc : w.cell? ⟨q, 0, none⟩ = some (.int .u32 (n : Int))) :
    Calls Tryz.prog 100 #[.pointer (some ⟨q, 0, none⟩)] w fun e w' => e = .returned (.int .u32 ((4294967295 - n : Nat) : Int)) ∧ w = w' := by
  have hu : IntKind.u32.signed = false := rfl
  go_enter Tryz.func100, Tryz.ntmps100
  go_wp2
  go_ret
  exact ⟨ret_int (not_u32 h), rfl⟩

theorem run_take_lt {n : Nat} (h : n < 4294967296) (l : List UInt8) (k : Nat) : Crc.run n (l.take k) < 4294967296 := Crc.run_lt _ h
theorem steps_lt' {x : Nat} (h : x < 4294967296) (j : Nat) : Crc.steps j x < 4294967296 := Crc.steps_lt j h
theorem steps_succ (j x : Nat) : Crc.steps (j + 1) x = Crc.step (Crc.steps j x) := by rw [Crc.steps_add]; rfl
theorem run_take_succ (n : Nat) (l : List UInt8) (k : Nat) (hk : k < l.length) : Crc.run n (l.take (k + 1)) = Crc.steps 8 (Crc.run n (l.take k) ^^^ l[k].toNat) := by
  rw [List.take_succ_eq_append_getElem hk, Crc.run_snoc]; rfl
theorem xor_byte {s : Nat} (h : s < 4294967296) (c : UInt8) : bits .xor .u32 (s : Int) (c.toNat : Int) = ((s ^^^ c.toNat : Nat) : Int) := u32_xor_nat s c.toNat h (by have := c.toNat_lt; omega)
theorem xor_lt {s : Nat} (h : s < 4294967296) (c : UInt8) : s ^^^ c.toNat < 4294967296 := Nat.xor_lt_two_pow (n := 32) h (by have := c.toNat_lt; omega)

theorem write_any (q : Nat) (n : Nat) (h : n < 4294967296) (A : Option Addr) (m c : Nat) (l : List UInt8) (w : World) (hc : w.cell? ⟨q, 0, none⟩ = some (.int .u32 (n : Int))) (hf : w.frozen? ⟨q, 0, none⟩ = false) (hr : RdB w A m l) :
    Calls Tryz.prog 99 #[.pointer (some ⟨q, 0, none⟩), .slice A m c] w fun e w' => e = .returned (.tuple #[]) ∧ w.setCell ⟨q, 0, none⟩ (.int .u32 (Crc.run n l : Int)) = w' := by
  have hml := Lib.hid hr.len
  have hm := hr.le
  go_enter Tryz.func99, Tryz.ntmps99
  go_wp2
  go_loop [4, 13] (fun s i => ∃ k : Nat, k ≤ m ∧ i = .int .i64 k ∧ s = .int .u32 (Crc.run n (l.take k) : Int)) (fun _ i => m - (intOf i).toNat)
  case atStart => exact ⟨0, Nat.zero_le _, rfl, rfl⟩
  case round =>
    obtain ⟨k, hk, rfl, rfl⟩ := hrel
    by_cases hlt : k < m
    · obtain ⟨b, off, rfl, hcell⟩ := hr.at_ (by omega)
      have hkl : k < l.length := by rw [hml.out]; exact hlt
      have hck := hcell k hkl
      clear hcell
      have hs := run_take_lt h l k
      have hb := u32_wrap_byte l[k]
      have hx := xor_byte hs l[k]
      have hxl := xor_lt hs l[k]
      have H2 := Lib.hid (run_take_succ n l k hkl)
      generalize Crc.run n (l.take k) = st at *
      generalize l[k] = ck at *
      go_wp2
      go_loop [4, 21] (fun s i => ∃ j : Nat, j ≤ 8 ∧ i = .int .i64 j ∧ s = .int .u32 (Crc.steps j (st ^^^ ck.toNat) : Int)) (fun _ i => 8 - (intOf i).toNat)
      case atStart => exact ⟨0, Nat.zero_le _, rfl, rfl⟩
      case round =>
        obtain ⟨j, hj, rfl, rfl⟩ := hrel
        have hl := steps_lt' hxl j
        by_cases hj8 : j < 8
        · go_wp2_with (go_at_call 112; refine (step_any _ hl _).mono ?_; rintro e w' ⟨rfl, rfl⟩)
          go_round
          case rel => exact ⟨j + 1, by omega, by go_num, by rw [steps_succ]⟩
          case measure => simp [intOf]; omega
        · obtain rfl : j = 8 := by omega
          go_wp2
          go_round
          case rel => exact ⟨k + 1, by omega, by go_num, by rw [H2.out]⟩
          case measure => simp [intOf]; omega
    · obtain rfl : k = m := by omega
      have H3 : Hid (l.take k = l) := by show l.take k = l; rw [List.take_of_length_le (by rw [hml.out]; omega)]
      go_wp2
      go_end0
      refine ⟨rfl, ?_⟩
      rw [H3.out]

theorem flat_succ (n : Nat) (ls : List (List UInt8)) (k : Nat) (hk : k < ls.length) : Crc.run n (ls.take (k + 1)).flatten = Crc.run (Crc.run n (ls.take k).flatten) ls[k] := by
  rw [List.take_succ_eq_append_getElem hk, List.flatten_append, Crc.run_append]; simp

theorem sum_any (A : Option Addr) (m c : Nat) (ls : List (List UInt8)) (w : World) (hr : RdL w A m ls) :
    Calls Tryz.prog 73 #[.slice A m c] w fun e w' => e = .returned (.int .u32 (Crc.sum ls.flatten : Int)) ∧ Keeps Non w w' := by
  have hml := Lib.hid hr.len
  have hm := hr.le
  have hmf : ∀ (fn : Fn) (first cap : Array Value) (w : World), (Instr.makeFunc fn first cap).run Tryz.prog w = .ok (.func fn first cap) w := fun _ _ _ _ => rfl
  go_enter Tryz.func73, Tryz.ntmps73
  go_wp2_with (go_at_call 98; refine (new_any _).mono ?_; rintro e w' ⟨rfl, rfl⟩)
  go_loopw [12] (fun i wr => ∃ k : Nat, k ≤ m ∧ i = .int .i64 k ∧ wr.cell? ⟨w.heap.size, 0, none⟩ = some (.int .u32 (Crc.run 4294967295 (ls.take k).flatten : Int)) ∧ wr.frozen? ⟨w.heap.size, 0, none⟩ = false ∧ Below w.heap.size w wr) (fun i _ => m - (intOf i).toNat)
  case atStart => exact ⟨0, Nat.zero_le _, rfl, by simp [Crc.run], by simp, (Below.refl _ _).alloc (Nat.le_refl _) _⟩
  case round =>
    obtain ⟨k, hk, rfl, hc, hf, hb⟩ := hrel
    by_cases hlt : k < m
    · obtain ⟨b, off, Aj, nj, cj, rfl, hck, hrk⟩ := (hr.below hb).at_ k hlt
      have hlen : k < ls.length := by rw [hml.out]; exact hlt
      have H2 := Lib.hid (flat_succ 4294967295 ls k hlen)
      have hl : Crc.run 4294967295 (ls.take k).flatten < 4294967296 := Crc.run_lt _ (by decide)
      generalize Crc.run 4294967295 (ls.take k).flatten = st at *
      generalize ls[k] = lk at *
      go_wp2_with (go_at_call 99; refine (write_any _ st hl Aj nj cj lk _ hc hf hrk).mono ?_; rintro e w' ⟨rfl, rfl⟩)
      go_roundw
      case rel => exact ⟨k + 1, by omega, by go_num, by rw [H2.out]; go_simp, by go_simp, hb.setCell (by simp) _⟩
      case measure => simp [intOf]; omega
    · obtain rfl : k = m := by omega
      have H3 : Hid (ls.take k = ls) := by show ls.take k = ls; rw [List.take_of_length_le (by rw [hml.out]; omega)]
      rw [H3.out] at hc
      have hl : Crc.run 4294967295 ls.flatten < 4294967296 := Crc.run_lt _ (by decide)
      go_wp2_with (go_at_call 100; refine (rsum_any _ _ hl _ hc).mono ?_; rintro e w' ⟨rfl, rfl⟩)
      go_ret
      exact ⟨rfl, Keeps.of_below hb⟩
end Go.Proofs.YtbmamhcjbhnkiaaGreat
