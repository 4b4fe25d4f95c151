/- What the laws of layer 7 share: bytes as a string; the errors of a disk that is up; the anchor. -/
import Derived.Test.YtbmamhcjbhnkiaaGreatKq
import Derived.Lib.SlBytesConst
import Derived.Laws.BytesArg
namespace Go.Proofs.YtbmamhcjbhnkiaaGreat
open Go.RowKit

theorem run_str (w : World) (A : Option Addr) (n c : Nat) (l : List UInt8) (hr : RdB w A n l) : (convert 60 9 (.slice A n c)).run Tryz.prog w = .ok (.string ⟨l.toArray⟩) w := by
  rcases Nat.eq_zero_or_pos n with h0 | h0
  · subst h0
    have hl : l = [] := List.eq_nil_of_length_eq_zero hr.len
    subst hl
    rw [run_convert_bytes_string w 60 9 5 _ 0 c Tryz.underlying60 Tryz.underlying5 Tryz.underlying9]
    cases A <;> simp [Conv.bytesToString, loadCells]
    all_goals rfl
  · obtain ⟨b, off, rfl, hc⟩ := hr.cells h0
    rw [run_convert_bytes_arg w 60 5 Tryz.underlying60 Tryz.underlying5 b off n c (l.map fun u => (u.toNat : Int)) (by simp [hr.len]) (fun i hi => ?_) 9 Tryz.underlying9]
    · congr 2
      simp only [strOfNums, List.map_map]
      congr 1
      have : l.map ((fun n : Int => UInt8.ofNat n.toNat) ∘ fun u : UInt8 => (u.toNat : Int)) = l := by
        conv => rhs; rw [← List.map_id l]
        apply List.map_congr_left
        intro x _
        simp
      rw [this]
    · have hl : i < l.length := by rw [hr.len]; exact hi
      rw [hc i _ (List.getElem?_eq_getElem hl)]
      simp [List.getD_eq_getElem?_getD, List.getElem?_eq_getElem hl]

namespace Dk
theorem err_open {d : Dk} {x : Int} {l : List UInt8} (h : d.down = false) (hl : d.lit = false) (hx : 0 ≤ x) (hn : x + l.length ≤ d.data.length) : d.writeErr x l = 0 := by
  have : d.may x l.length = 0 := may_in h (by omega)
  unfold writeErr; rw [this]; simp [hl]
theorem err_left {d : Dk} {x : Int} {l : List UInt8} (h : d.down = false) (hl : d.lit = true) (hf : 1 ≤ d.fw) (hx : 0 ≤ x) (hn : x + l.length ≤ d.data.length) : d.writeErr x l = 0 := by
  have : d.may x l.length = 0 := may_in h (by omega)
  unfold writeErr; rw [this]; simp [hl, hf]
theorem err_burnt {d : Dk} {x : Int} {l : List UInt8} (h : d.down = false) (hl : d.lit = true) (hf : ¬ 1 ≤ d.fw) (hx : 0 ≤ x) (hn : x + l.length ≤ d.data.length) : d.writeErr x l = 20 := by
  have : d.may x l.length = 0 := may_in h (by omega)
  unfold writeErr; rw [this]; simp [hl, hf]
theorem err_down {d : Dk} {x : Int} {l : List UInt8} (h : d.down = true) : d.writeErr x l = 20 := by
  have : d.may x l.length = 20 := may_down h
  unfold writeErr; rw [this]; simp
theorem write_open {d : Dk} {x : Int} {l : List UInt8} (h : d.down = false) (hl : d.lit = false) (hx : 0 ≤ x) (hn : x + l.length ≤ d.data.length) : d.write x l = { d with data := put d.data x.toNat l, wr := wrap64 (d.wr + 1) } := by
  have : d.may x l.length = 0 := may_in h (by omega)
  unfold write; rw [this]; simp [hl]
theorem write_left {d : Dk} {x : Int} {l : List UInt8} (h : d.down = false) (hl : d.lit = true) (hf : 1 ≤ d.fw) (hx : 0 ≤ x) (hn : x + l.length ≤ d.data.length) : d.write x l = { d with data := put d.data x.toNat l, fw := d.fw - 1, wr := wrap64 (d.wr + 1) } := by
  have : d.may x l.length = 0 := may_in h (by omega)
  unfold write; rw [this]; simp [hl, hf]
theorem write_burnt {d : Dk} {x : Int} {l : List UInt8} (h : d.down = false) (hl : d.lit = true) (hf : ¬ 1 ≤ d.fw) (hx : 0 ≤ x) (hn : x + l.length ≤ d.data.length) :
    d.write x l = { d with data := put d.data x.toNat (l.take d.fb.toNat), fw := d.fw - 1, wr := wrap64 (d.wr + 1), down := true } := by
  have : d.may x l.length = 0 := may_in h (by omega)
  unfold write; rw [this]; simp [hl, hf]
theorem write_down {d : Dk} {x : Int} {l : List UInt8} (h : d.down = true) : d.write x l = d := by
  have : d.may x l.length = 20 := may_down h
  unfold write; rw [this]; simp
theorem light_ok {d : Dk} {a b : Int} (ha : 0 ≤ a) (hb : 0 ≤ b) : d.light a b = { d with lit := true, fw := a, fb := b } := if_neg (by omega)
theorem lightErr_ok {a b : Int} (ha : 0 ≤ a) (hb : 0 ≤ b) : lightErr a b = 0 := if_neg (by omega)
end Dk

/-- A new disk is answered. -/
def RetNew (w : World) (n : Nat) (e : Ending) (w' : World) : Prop := ∃ p g, e = .returned (.tuple #[.pointer (some ⟨p, 0, none⟩), .int .i64 0]) ∧ DiskAt w' p g (Dk.new n) ∧ w.heap.size ≤ p ∧ w.heap.size ≤ g ∧ Keeps Non w w'
theorem new_ex (n : Nat) (h0 : 1024 ≤ n) (h1 : n ≤ 1048576) (w : World) : Calls Tryz.prog 8 #[.int .i64 (n : Int)] w (RetNew w n) :=
  (new_disk n h0 h1 w).mono fun _ _ ⟨he, hD, hk⟩ => ⟨_, _, he, hD, by omega, Nat.le_refl _, hk⟩
theorem new_1024 (w : World) : Calls Tryz.prog 8 #[.int .i64 1024] w (RetNew w 1024) := new_ex 1024 (by omega) (by omega) w

theorem new_len (n : Nat) : (Dk.new n).data.length = n := by simp [Dk.new]

def abc : List UInt8 := [97, 98, 99]
def xyz : List UInt8 := [120, 121, 122]
def ab0xy : List UInt8 := [97, 98, 99, 0, 0, 0, 0, 0, 0, 0, 120, 121, 0]
/-- The disk of the document's example, behind its start. -/
def exDisk : Dk := ((((Dk.new 1024).light 1 2).write 0 abc).write 10 xyz).start
theorem ex_read : (exDisk.data.drop 0).take 13 = ab0xy := by decide +kernel
theorem ex_e1 : ((Dk.new 1024).light 1 2).writeErr 0 abc = 0 := by decide +kernel
theorem ex_e2 : (((Dk.new 1024).light 1 2).write 0 abc).writeErr 10 xyz = 20 := by decide +kernel
theorem ex_down : ((((Dk.new 1024).light 1 2).write 0 abc).write 10 xyz).down = true := by decide +kernel
theorem ex_may : exDisk.may (0 : Nat) (13 : Nat) = 0 := by decide +kernel

end Go.Proofs.YtbmamhcjbhnkiaaGreat
