/- Layer 7, plain: what a disk is, and what a write makes of it. No Go in it. -/
import Derived.Below
namespace Go.Proofs.YtbmamhcjbhnkiaaGreat
open Go.RowKit (wrap64)

structure Dk where
  data : List UInt8
  down : Bool
  lit : Bool
  fw : Int
  fb : Int
  wr : Int

namespace Dk
def new (n : Nat) : Dk := ⟨List.replicate n 0, false, false, 0, 0, 0⟩
/-- The error with which so many bytes from a place on are refused. -/
def may (d : Dk) (p n : Int) : Int := if d.down = true then 20 else if p < 0 ∨ n < 0 ∨ (d.data.length : Int) < p ∨ (d.data.length : Int) - p < n then 12 else 0
/-- Bytes laid over others. -/
def put (D : List UInt8) (p : Nat) (l : List UInt8) : List UInt8 := D.take p ++ l ++ D.drop (p + l.length)
def write (d : Dk) (p : Int) (l : List UInt8) : Dk :=
  if d.may p l.length ≠ 0 then d
  else if d.lit = false then { d with data := put d.data p.toNat l, wr := wrap64 (d.wr + 1) }
  else if 1 ≤ d.fw then { d with data := put d.data p.toNat l, fw := d.fw - 1, wr := wrap64 (d.wr + 1) }
  else { d with data := put d.data p.toNat (l.take d.fb.toNat), fw := d.fw - 1, wr := wrap64 (d.wr + 1), down := true }
def writeErr (d : Dk) (p : Int) (l : List UInt8) : Int :=
  if d.may p l.length ≠ 0 then d.may p l.length else if d.lit = false ∨ 1 ≤ d.fw then 0 else 20
def light (d : Dk) (a b : Int) : Dk := if a < 0 ∨ b < 0 then d else { d with lit := true, fw := a, fb := b }
def lightErr (a b : Int) : Int := if a < 0 ∨ b < 0 then 12 else 0
def start (d : Dk) : Dk := { d with down := false, lit := false, fw := 0, fb := 0 }

structure WF (d : Dk) : Prop where
  pos : 0 < d.data.length
  le : d.data.length ≤ 1048576
  fw0 : -1 ≤ d.fw
  fw1 : d.fw ≤ 9223372036854775807
  fb0 : 0 ≤ d.fb
  fb1 : d.fb ≤ 9223372036854775807
  wr0 : -9223372036854775808 ≤ d.wr
  wr1 : d.wr ≤ 9223372036854775807
  up : d.lit = true → d.down = false → 0 ≤ d.fw

theorem put_length (D : List UInt8) (p : Nat) (l : List UInt8) (h : p + l.length ≤ D.length) : (put D p l).length = D.length := by simp [put]; omega
theorem may_cases (d : Dk) (p n : Int) : d.may p n = 20 ∨ d.may p n = 12 ∨ d.may p n = 0 := by unfold may; split; exact .inl rfl; split; exact .inr (.inl rfl); exact .inr (.inr rfl)
theorem may_zero {d : Dk} {p n : Int} (h : d.may p n = 0) : d.down = false ∧ 0 ≤ p ∧ 0 ≤ n ∧ p ≤ d.data.length ∧ n ≤ d.data.length - p := by
  unfold may at h
  split at h
  · simp at h
  · split at h
    · simp at h
    · rename_i h1 h2
      refine ⟨by simpa using h1, by omega, by omega, by omega, by omega⟩
theorem wrap_range (n : Int) : -9223372036854775808 ≤ wrap64 n ∧ wrap64 n ≤ 9223372036854775807 := by unfold wrap64; omega
theorem wrap_in {n : Int} (h0 : -9223372036854775808 ≤ n) (h1 : n ≤ 9223372036854775807) : wrap64 n = n := by unfold wrap64; omega

theorem WF.write {d : Dk} (h : d.WF) (p : Int) (l : List UInt8) : (d.write p l).WF ∧ (d.write p l).data.length = d.data.length := by
  unfold Dk.write
  split
  · exact ⟨h, rfl⟩
  · rename_i hm
    obtain ⟨h1, h2, h3, h4, h5⟩ := may_zero (by omega : d.may p l.length = 0)
    have hr := wrap_range (d.wr + 1)
    have hl := put_length d.data p.toNat l (by omega)
    have hl2 := put_length d.data p.toNat (l.take d.fb.toNat) (by rw [List.length_take]; omega)
    have := h.pos; have := h.le; have := h.fw0; have := h.fw1
    split
    · rename_i hlit
      exact ⟨⟨by show 0 < (put _ _ _).length; omega, by show (put _ _ _).length ≤ _; omega, h.fw0, h.fw1, h.fb0, h.fb1, hr.1, hr.2, h.up⟩, hl⟩
    · split
      · exact ⟨⟨by show 0 < (put _ _ _).length; omega, by show (put _ _ _).length ≤ _; omega, by show -1 ≤ d.fw - 1; omega, by show d.fw - 1 ≤ _; omega, h.fb0, h.fb1, hr.1, hr.2, fun _ _ => by show 0 ≤ d.fw - 1; omega⟩, hl⟩
      · rename_i hlit hfw
        have hup := h.up (by simpa using hlit) h1
        exact ⟨⟨by show 0 < (put _ _ _).length; omega, by show (put _ _ _).length ≤ _; omega, by show -1 ≤ d.fw - 1; omega, by show d.fw - 1 ≤ _; omega, h.fb0, h.fb1, hr.1, hr.2, fun _ hd => by simp at hd⟩, hl2⟩
theorem WF.light {d : Dk} (h : d.WF) {a b : Int} (ha : a ≤ 9223372036854775807) (hb : b ≤ 9223372036854775807) : (d.light a b).WF := by
  unfold Dk.light
  split
  · exact h
  · exact ⟨h.pos, h.le, by show -1 ≤ a; omega, ha, by show 0 ≤ b; omega, hb, h.wr0, h.wr1, fun _ _ => by show 0 ≤ a; omega⟩
theorem WF.start {d : Dk} (h : d.WF) : d.start.WF := ⟨h.pos, h.le, by show (-1 : Int) ≤ 0; omega, by show (0 : Int) ≤ _; omega, by show (0 : Int) ≤ 0; omega, by show (0 : Int) ≤ _; omega, h.wr0, h.wr1, fun h => by cases h⟩
theorem WF.new {n : Nat} (h0 : 0 < n) (h : n ≤ 1048576) : (Dk.new n).WF := ⟨by simp [Dk.new]; omega, by simp [Dk.new]; omega, by show (-1 : Int) ≤ 0; omega, by show (0 : Int) ≤ _; omega, by show (0 : Int) ≤ 0; omega, by show (0 : Int) ≤ _; omega, by show _ ≤ (0 : Int); omega, by show (0 : Int) ≤ _; omega, fun h => by cases h⟩
end Dk
end Go.Proofs.YtbmamhcjbhnkiaaGreat
