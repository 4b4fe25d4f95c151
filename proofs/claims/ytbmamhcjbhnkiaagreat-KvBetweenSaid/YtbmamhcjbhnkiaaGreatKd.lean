/- The walks of layer 3's reference, and of what the laws of layer 3 share. -/
import Derived.Test.YtbmamhcjbhnkiaaGreatKc
import Derived.Lib.SlBytesConst
namespace Go.Proofs.YtbmamhcjbhnkiaaGreat
open Go.RowKit

theorem ref_xor {s : Nat} (h : s < 4294967296) (c : UInt8) : bits .xor .i64 (s : Int) (c.toNat : Int) = ((s ^^^ c.toNat : Nat) : Int) := i64_xor_nat s c.toNat (by omega) (by have := c.toNat_lt; omega)
theorem ref_odd {n : Nat} (h : n < 4294967296) (h1 : n % 2 = 1) : bits .xor .i64 ((n : Int) / 2) 3988292384 = (Crc.step n : Int) := by
  have e : ((n : Int) / 2) = ((n / 2 : Nat) : Int) := by omega
  have := i64_xor_nat (n / 2) 3988292384 (by omega) (by omega)
  rw [e]
  unfold Crc.step
  rw [if_pos h1]
  exact this

theorem bv_ofNat (n : Nat) : bv (UInt8.ofNat n) = .int .u8 ((n % 256 : Nat) : Int) := by simp only [bv, UInt8.toNat_ofNat']
theorem put_any (n : Nat) (h : n < 4294967296) (w : World) :
    Calls Tryz.prog 84 #[.int .u32 (n : Int)] w fun e w' => e = .returned (.slice (some ⟨w.heap.size, 0, none⟩) 4 4) ∧ w.alloc (.cells ((Crc.four n).map bv).toArray 5) = w' := by
  go_enter Tryz.func84, Tryz.ntmps84
  go_wp2
  go_ret
  refine ⟨rfl, ?_⟩
  simp only [Crc.four, List.map, bv_ofNat]
  have e1 : ((n / 16777216 % 256 : Nat) : Int) = (n : Int) / 16777216 := by omega
  have e2 : ((n / 65536 % 256 : Nat) : Int) = (n : Int) / 65536 % 256 := by omega
  have e3 : ((n / 256 % 256 : Nat) : Int) = (n : Int) / 256 % 256 := by omega
  have e4 : ((n % 256 : Nat) : Int) = (n : Int) % 256 := by omega
  rw [e1, e2, e3, e4]

theorem get_no (A : Option Addr) (m c : Nat) (h : (((m : Int)) != 4) = true) (w : World) :
    Calls Tryz.prog 72 #[.slice A m c] w fun e w' => e = .returned (.tuple #[.int .u32 0, .int .i64 11]) ∧ w = w' := by
  go_enter Tryz.func72, Tryz.ntmps72
  go_wp2
  go_ret2
  exact ⟨rfl, rfl⟩

def digits : List UInt8 := [49, 50, 51, 52, 53, 54, 55, 56, 57]
theorem sum_digits : Crc.sum digits = 3421780262 := by decide +kernel
theorem sum_nothing : Crc.sum [] = 0 := by decide +kernel
theorem sum_one (A : Option Addr) (n c b cc : Nat) (l : List UInt8) (e : TypeId) (fr : Nat × Nat) (w : World) (hb : w.heap[b]? = some (.cells #[.slice A n c] e fr)) (hr : RdB w A n l) :
    Calls Tryz.prog 73 #[.slice (some ⟨b, 0, none⟩) 1 cc] w fun e w' => e = .returned (.int .u32 (Crc.sum l : Int)) ∧ Keeps Non w w' :=
  (sum_any _ 1 cc [l] w (RdL.one hb hr)).mono fun e w' h => by simpa using h
theorem sum_none (A : Option Addr) (c : Nat) (w : World) :
    Calls Tryz.prog 73 #[.slice A 0 c] w fun e w' => e = .returned (.int .u32 0) ∧ Keeps Non w w' :=
  (sum_any _ 0 c [] w (RdL.nil _ _)).mono fun e w' h => by simpa [sum_nothing] using h
theorem sum_nine (w : World) : Calls Tryz.prog 73 #[.slice (some ⟨w.heap.size + 1, 0, none⟩) 1 1]
    ((w.alloc (.cells #[.int .u8 49, .int .u8 50, .int .u8 51, .int .u8 52, .int .u8 53, .int .u8 54, .int .u8 55, .int .u8 56, .int .u8 57] 5 (9, 10))).alloc (.cells #[.slice (some ⟨w.heap.size, 0, none⟩) 9 9] 60))
    fun e w' => e = .returned (.int .u32 3421780262) ∧ Keeps Non w w' := by
  have h1 := heap_new w (.cells #[.int .u8 49, .int .u8 50, .int .u8 51, .int .u8 52, .int .u8 53, .int .u8 54, .int .u8 55, .int .u8 56, .int .u8 57] 5 (9, 10))
  generalize hW : w.alloc (.cells #[.int .u8 49, .int .u8 50, .int .u8 51, .int .u8 52, .int .u8 53, .int .u8 54, .int .u8 55, .int .u8 56, .int .u8 57] 5 (9, 10)) = W at *
  have hz : W.heap.size = w.heap.size + 1 := by rw [← hW]; simp
  have hk : Keeps Non w W := by rw [← hW]; exact (Keeps.refl _ _).alloc _
  have hb := heap_new W (.cells #[.slice (some ⟨w.heap.size, 0, none⟩) 9 9] 60)
  rw [hz] at hb
  have hr : RdB (W.alloc (.cells #[.slice (some ⟨w.heap.size, 0, none⟩) 9 9] 60)) (some ⟨w.heap.size, 0, none⟩) 9 digits := RdB.of_whole (heap_old h1 _) rfl rfl (by decide)
  refine (sum_one _ 9 9 _ 1 digits _ _ _ hb hr).mono ?_
  rintro e w' ⟨rfl, hk'⟩
  exact ⟨by rw [sum_digits]; rfl, (hk.alloc _).trans hk'⟩

end Go.Proofs.YtbmamhcjbhnkiaaGreat
