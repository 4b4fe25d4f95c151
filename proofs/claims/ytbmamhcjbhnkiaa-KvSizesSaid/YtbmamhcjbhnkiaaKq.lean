/- Layer 7: the walks of Copy and Differ; Write at whatever place. -/
import Derived.Test.YtbmamhcjbhnkiaaKo
import Derived.RegionTactic
namespace Go.Proofs.Ytbmamhcjbhnkiaa
open Go.RowKit

theorem write_any' (p g : Nat) (d : Dk) (x : Int) (A : Option Addr) (n c : Nat) (l : List UInt8) (hx0 : -9223372036854775808 ≤ x) (hx1 : x ≤ 9223372036854775807) (w : World) (h : DiskAt w p g d) (hr : RdB w A n l) (hnc : n ≤ c) :
    Calls Try.prog 33 #[.pointer (some ⟨p, 0, none⟩), .int .i64 x, .slice A n c] w fun e w' => e = .returned (.int .i64 (d.writeErr x l)) ∧ DiskAt w' p g (d.write x l) ∧ Keeps (fun k => k = p ∨ k = g) w w' := by
  by_cases he : d.may x n = 0
  · obtain ⟨_, h2, _⟩ := Dk.may_zero he
    obtain ⟨y, rfl⟩ := Int.eq_ofNat_of_zero_le h2
    exact write_ok p g d y A n c l w h hr he hnc
  · exact write_err p g d x A n c l hx0 hx1 w h hr.len he

/-- A disk of its own is answered; nothing that was there has turned. -/
def RetDisk (w : World) (d : Dk) (e : Ending) (w' : World) : Prop := ∃ p g, e = .returned (.pointer (some ⟨p, 0, none⟩)) ∧ DiskAt w' p g d ∧ w.heap.size ≤ p ∧ w.heap.size ≤ g ∧ Keeps Non w w'

theorem copy_any (p g : Nat) (d : Dk) (w : World) (h : DiskAt w p g d) :
    Calls Try.prog 38 #[.pointer (some ⟨p, 0, none⟩)] w (RetDisk w d) := by
  have h0 := h
  obtain ⟨cap, rest, h⟩ := h
  have hs := six h.st
  have c0 := hs.c0
  have c1 := hs.c1
  have c2 := hs.c2
  have c3 := hs.c3
  have c4 := hs.c4
  have c5 := hs.c5
  have c0' : ∀ o : Obj, (w.alloc o).cell? ⟨p, 0, none⟩ = some (.slice (some ⟨g, 0, none⟩) d.data.length cap) := fun o => ((Keeps.refl Non w).alloc o).cell c0 id
  have hle := h.wf.le
  have hlt : p < w.heap.size := (Array.getElem?_eq_some_iff.1 h.st).1
  go_enter Try.func38, Try.ntmps38
  go_wp2_with fail
  have hn := heap_new w (.cells #[.slice (some ⟨g, 0, none⟩) d.data.length cap, .bool d.down, .bool d.lit, .int .i64 d.fw, .int .i64 d.fb, .int .i64 d.wr] 121)
  have hk1 : Keeps Non w (w.alloc (.cells #[.slice (some ⟨g, 0, none⟩) d.data.length cap, .bool d.down, .bool d.lit, .int .i64 d.fw, .int .i64 d.fb, .int .i64 d.wr] 121)) := (Keeps.refl _ _).alloc _
  have hz : (w.alloc (.cells #[.slice (some ⟨g, 0, none⟩) d.data.length cap, .bool d.down, .bool d.lit, .int .i64 d.fw, .int .i64 d.fb, .int .i64 d.wr] 121)).heap.size = w.heap.size + 1 := by simp
  clear c0 c1 c2 c3 c4 c5 c0' hs
  refine (clone_own (some ⟨g, 0, none⟩) d.data.length cap d.data _ ((row_rdB h.row rfl (by omega)).keepN hk1)).mono ?_
  rintro e w2 ⟨v, rfl, hown, hk2⟩
  obtain ⟨g', cap', rest', rfl, hg', hrow', hnc, hcm, hroom⟩ := own_row hown h.wf.pos
  have hst := hk2.at_ hn id
  rw [hz] at hg'
  have hw0 := (six hst).c0
  have hf0 := free hst 0
  have hks := hk1.trans hk2
  have Hst := Lib.hid hst
  clear hown hn hk1 hk2 hst hz
  go_wp2_with fail
  go_ret
  refine ⟨w.heap.size, g', rfl, ⟨cap', rest', setCell_row _ _ 0 _ _ _ Hst.out _, setCell_other hrow' (by show g' ≠ w.heap.size; omega) _, by omega, by unfold maxLen at hcm; omega, by omega, h.wf⟩, Nat.le_refl _, by omega, hks.setCell (fun hh => absurd hh (by simp)) _⟩
end Go.Proofs.Ytbmamhcjbhnkiaa
