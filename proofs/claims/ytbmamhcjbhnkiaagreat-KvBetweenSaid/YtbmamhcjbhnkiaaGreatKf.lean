/- The walk of the law CrcPuts. -/
import Derived.Test.YtbmamhcjbhnkiaaGreatKd
import Derived.Test.YtbmamhcjbhnkiaaGreatKi
import Derived.Deep.QuietTactic
import Derived.BigQuiet
namespace Go.Proofs.YtbmamhcjbhnkiaaGreat
open Go.RowKit

theorem get_take_succ (l : List UInt8) (k : Nat) (hk : k < l.length) : Crc.get (l.take (k + 1)) = Crc.get (l.take k) * 256 + l[k].toNat := by
  rw [List.take_succ_eq_append_getElem hk]; unfold Crc.get; rw [List.foldl_append]; rfl
theorem get_lt3 : ∀ l : List UInt8, l.length ≤ 3 → Crc.get l < 16777216
  | [], _ => by decide
  | [a], _ => by have := a.toNat_lt; simp only [Crc.get, List.foldl]; omega
  | [a, b], _ => by have := a.toNat_lt; have := b.toNat_lt; simp only [Crc.get, List.foldl]; omega
  | [a, b, c], _ => by have := a.toNat_lt; have := b.toNat_lt; have := c.toNat_lt; simp only [Crc.get, List.foldl]; omega
  | _ :: _ :: _ :: _ :: _, h => by simp at h
theorem get_take_lt (l : List UInt8) (k : Nat) (hk : k ≤ 3) : Crc.get (l.take k) < 16777216 := get_lt3 _ (by simp; omega)
theorem or_byte {g : Nat} (h : g < 16777216) (c : UInt8) : bits .or .u32 ((g : Int) * 256) (c.toNat : Int) = ((g * 256 + c.toNat : Nat) : Int) := by
  have hc := c.toNat_lt
  have := u32_or_nat (g * 256) c.toNat (by omega) (by omega)
  rw [nat_join 8 (g * 256) c.toNat (by omega) (by omega)] at this
  rw [← this, show (g : Int) * 256 = ((g * 256 : Nat) : Int) by omega]

theorem get_yes (A : Option Addr) (c : Nat) (l : List UInt8) (w : World) (hr : RdB w A 4 l) :
    Calls Tryz.prog 72 #[.slice A 4 c] w fun e w' => e = .returned (.tuple #[.int .u32 (Crc.get l : Int), .int .i64 0]) ∧ w = w' := by
  have hml := Lib.hid hr.len
  obtain ⟨b, off, rfl, hcell⟩ := hr.at_ (by omega)
  go_enter Tryz.func72, Tryz.ntmps72
  go_wp2
  go_loop [4, 12] (fun s i => ∃ k : Nat, k ≤ 4 ∧ i = .int .i64 k ∧ s = .int .u32 (Crc.get (l.take k) : Int)) (fun _ i => 4 - (intOf i).toNat)
  case atStart => exact ⟨0, Nat.zero_le _, rfl, rfl⟩
  case round =>
    obtain ⟨k, hk, rfl, rfl⟩ := hrel
    by_cases hlt : k < 4
    · have hkl : k < l.length := by rw [hml.out]; exact hlt
      have hck := hcell k hkl
      clear hcell
      have hs := get_take_lt l k (by omega)
      have hb := u32_wrap_byte l[k]
      have hx := or_byte hs l[k]
      have H2 := Lib.hid (get_take_succ l k hkl)
      generalize Crc.get (l.take k) = st at *
      generalize l[k] = ck at *
      go_wp2
      go_round
      case rel => exact ⟨k + 1, by omega, by go_num, congrArg (Value.int .u32) (by rw [H2.out]; omega)⟩
      case measure => simp [intOf]; omega
    · obtain rfl : k = 4 := by omega
      have H3 : Hid (l.take 4 = l) := by show l.take 4 = l; rw [List.take_of_length_le (by rw [hml.out]; omega)]
      go_wp2
      go_ret2
      exact ⟨by rw [H3.out]; rfl, rfl⟩

theorem put_k (n : Nat) (h : n < 4294967296) (w : World) : Calls Tryz.prog 84 #[.int .u32 (n : Int)] w fun e w' => e = .returned (.slice (some ⟨w.heap.size, 0, none⟩) 4 4) ∧
    w'.heap[w.heap.size]? = some (.cells ((Crc.four n).map bv).toArray 5) ∧ Keeps Non w w' ∧ w'.heap.size = w.heap.size + 1 :=
  (put_any n h w).mono fun e w' ⟨h1, h2⟩ => by subst h2; exact ⟨h1, heap_new _ _, (Keeps.refl _ _).alloc _, by simp⟩

end Go.Proofs.YtbmamhcjbhnkiaaGreat
