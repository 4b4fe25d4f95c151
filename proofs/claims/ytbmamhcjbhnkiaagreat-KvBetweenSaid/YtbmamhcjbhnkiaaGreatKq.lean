/- Layer 7: the walks of Copy and Differ; Write at whatever place. -/
import Derived.Test.YtbmamhcjbhnkiaaGreatKo
import Derived.RegionTactic
namespace Go.Proofs.YtbmamhcjbhnkiaaGreat
open Go.RowKit

theorem write_any' (p g : Nat) (d : Dk) (x : Int) (A : Option Addr) (n c : Nat) (l : List UInt8) (hx0 : -9223372036854775808 ≤ x) (hx1 : x ≤ 9223372036854775807) (w : World) (h : DiskAt w p g d) (hr : RdB w A n l) (hnc : n ≤ c) :
    Calls Tryz.prog 77 #[.pointer (some ⟨p, 0, none⟩), .int .i64 x, .slice A n c] w fun e w' => e = .returned (.int .i64 (d.writeErr x l)) ∧ DiskAt w' p g (d.write x l) ∧ Keeps (fun k => k = p ∨ k = g) w w' := by
  by_cases he : d.may x n = 0
  · obtain ⟨_, h2, _⟩ := Dk.may_zero he
    obtain ⟨y, rfl⟩ := Int.eq_ofNat_of_zero_le h2
    exact write_ok p g d y A n c l w h hr he hnc
  · exact write_err p g d x A n c l hx0 hx1 w h hr.len he

/-- A disk of its own is answered; nothing that was there has turned. -/
def RetDisk (w : World) (d : Dk) (e : Ending) (w' : World) : Prop := ∃ p g, e = .returned (.pointer (some ⟨p, 0, none⟩)) ∧ DiskAt w' p g d ∧ w.heap.size ≤ p ∧ w.heap.size ≤ g ∧ Keeps Non w w'

end Go.Proofs.YtbmamhcjbhnkiaaGreat
