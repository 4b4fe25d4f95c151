/- Layer 7: the walks of the disk's methods that only look, or set; slices.Clone of bytes. -/
import Derived.Test.YtbmamhcjbhnkiaaGreatKm
import Derived.Test.YtbmamhcjbhnkiaaGreatKa
import Derived.Test.YtbmamhcjbhnkiaaGreatKc
import Derived.Lib.SliceRun
import Derived.Laws.CopyRow
import Derived.Laws.IdiomCopy
import Derived.Laws.MakeOwn
import Derived.Handy
namespace Go.Proofs.YtbmamhcjbhnkiaaGreat
open Go.RowKit

/-- A disk's struct lies in block p, its bytes in block g. -/
structure DiskAt' (w : World) (p g : Nat) (d : Dk) (cap : Nat) (rest : List Value) : Prop where
  st : w.heap[p]? = some (.cells #[.slice (some ⟨g, 0, none⟩) d.data.length cap, .bool d.down, .bool d.lit, .int .i64 d.fw, .int .i64 d.fb, .int .i64 d.wr] 71 (0, 0))
  row : w.heap[g]? = some (.cells (d.data.map bv ++ rest).toArray 5 (0, 0))
  room : d.data.length + rest.length = cap
  capm : cap ≤ 9223372036854775807
  ne : p ≠ g
  wf : d.WF
def DiskAt (w : World) (p g : Nat) (d : Dk) : Prop := ∃ cap rest, DiskAt' w p g d cap rest

theorem DiskAt.keep {S : Nat → Prop} {w w' : World} {p g : Nat} {d : Dk} (h : DiskAt w p g d) (hk : Keeps S w w') (hp : ¬ S p) (hg : ¬ S g) : DiskAt w' p g d := by
  obtain ⟨cap, rest, h⟩ := h
  exact ⟨cap, rest, hk.at_ h.st hp, hk.at_ h.row hg, h.room, h.capm, h.ne, h.wf⟩
theorem DiskAt.lt {w : World} {p g : Nat} {d : Dk} (h : DiskAt w p g d) : p < w.heap.size ∧ g < w.heap.size := by
  obtain ⟨cap, rest, h⟩ := h
  exact ⟨(Array.getElem?_eq_some_iff.1 h.st).1, (Array.getElem?_eq_some_iff.1 h.row).1⟩
theorem DiskAt.wf {w : World} {p g : Nat} {d : Dk} (h : DiskAt w p g d) : d.WF := by obtain ⟨_, _, h⟩ := h; exact h.wf

/-- The cells of a block of six. -/
structure Six (w : World) (p : Nat) (v0 v1 v2 v3 v4 v5 : Value) : Prop where
  c0 : w.cell? ⟨p, 0, none⟩ = some v0
  c1 : w.cell? ⟨p, 1, none⟩ = some v1
  c2 : w.cell? ⟨p, 2, none⟩ = some v2
  c3 : w.cell? ⟨p, 3, none⟩ = some v3
  c4 : w.cell? ⟨p, 4, none⟩ = some v4
  c5 : w.cell? ⟨p, 5, none⟩ = some v5
theorem six {w : World} {p : Nat} {v0 v1 v2 v3 v4 v5 : Value} {e : TypeId} {fr : Nat × Nat} (h : w.heap[p]? = some (.cells #[v0, v1, v2, v3, v4, v5] e fr)) : Six w p v0 v1 v2 v3 v4 v5 := by
  constructor <;> simp [World.cell?, h]
theorem free {w : World} {p : Nat} {cs : Array Value} {e : TypeId} (h : w.heap[p]? = some (.cells cs e (0, 0))) (k : Nat) : w.frozen? ⟨p, k, none⟩ = false := by simp [World.frozen?, h]

/-- Bytes don't lie in a disk's struct. -/
theorem DiskAt'.off {w : World} {p g cap : Nat} {d : Dk} {rest : List Value} (h : DiskAt' w p g d cap rest) {A : Option Addr} {n : Nat} {l : List UInt8} (hr : RdB w A n l) (h0 : 0 < n) (a : Addr) (ha : A = some a) : a.block ≠ p := by
  obtain ⟨b, off, e, hc⟩ := hr.cells h0
  rw [e] at ha
  cases ha
  have hl : 0 < l.length := by rw [hr.len]; exact h0
  have hx := hc 0 _ (List.getElem?_eq_getElem hl)
  rintro rfl
  simp only [World.cell?, h.st, Nat.add_zero] at hx
  match off, hx with
  | 0, hx => simp at hx
  | 1, hx => simp at hx
  | 2, hx => simp at hx
  | 3, hx => simp at hx
  | 4, hx => simp at hx
  | 5, hx => simp at hx
  | _ + 6, hx => simp at hx

theorem size_any (p g : Nat) (d : Dk) (w : World) (h : DiskAt w p g d) :
    Calls Tryz.prog 102 #[.pointer (some ⟨p, 0, none⟩)] w fun e w' => e = .returned (.int .i64 (d.data.length : Int)) ∧ w = w' := by
  obtain ⟨cap, rest, h⟩ := h
  have c0 := (six h.st).c0
  go_enter Tryz.func102, Tryz.ntmps102
  go_wp2
  go_ret
  exact ⟨rfl, rfl⟩
theorem up_any (p g : Nat) (d : Dk) (w : World) (h : DiskAt w p g d) :
    Calls Tryz.prog 15 #[.pointer (some ⟨p, 0, none⟩)] w fun e w' => e = .returned (.bool (!d.down)) ∧ w = w' := by
  obtain ⟨cap, rest, h⟩ := h
  have c1 := (six h.st).c1
  go_enter Tryz.func15, Tryz.ntmps15
  go_wp2
  go_ret
  exact ⟨rfl, rfl⟩
theorem may_down {d : Dk} {x n : Int} (h : d.down = true) : d.may x n = 20 := by unfold Dk.may; rw [if_pos h]
theorem may_out {d : Dk} {x n : Int} (h : d.down = false) (hr : x < 0 ∨ n < 0 ∨ (d.data.length : Int) < x ∨ (d.data.length : Int) - x < n) : d.may x n = 12 := by unfold Dk.may; rw [if_neg (by simp [h]), if_pos hr]
theorem may_in {d : Dk} {x n : Int} (h : d.down = false) (hr : ¬ (x < 0 ∨ n < 0 ∨ (d.data.length : Int) < x ∨ (d.data.length : Int) - x < n)) : d.may x n = 0 := by unfold Dk.may; rw [if_neg (by simp [h]), if_neg hr]

theorem may_any (p g : Nat) (d : Dk) (x n : Int) (hx0 : -9223372036854775808 ≤ x) (hx1 : x ≤ 9223372036854775807) (w : World) (h : DiskAt w p g d) :
    Calls Tryz.prog 103 #[.pointer (some ⟨p, 0, none⟩), .int .i64 x, .int .i64 n] w fun e w' => e = .returned (.int .i64 (d.may x n)) ∧ w = w' := by
  obtain ⟨cap, rest, h⟩ := h
  have c0 := (six h.st).c0
  have c1 := (six h.st).c1
  have hle := h.wf.le
  cases hd : d.down with
  | true =>
    rw [hd] at c1
    have H := Lib.hid (may_down (x := x) (n := n) hd)
    clear hd
    go_enter Tryz.func103, Tryz.ntmps103
    go_wp2
    go_ret
    exact ⟨ret_int H.out.symm, rfl⟩
  | false =>
    rw [hd] at c1
    by_cases h1 : x < 0
    · have H := Lib.hid (may_out (n := n) hd (.inl h1))
      clear hd
      go_enter Tryz.func103, Tryz.ntmps103
      go_wp2
      go_ret
      exact ⟨ret_int H.out.symm, rfl⟩
    · by_cases h2 : n < 0
      · have H := Lib.hid (may_out (x := x) hd (.inr (.inl h2)))
        clear hd
        go_enter Tryz.func103, Tryz.ntmps103
        go_wp2
        go_ret
        exact ⟨ret_int H.out.symm, rfl⟩
      · by_cases h3 : (d.data.length : Int) < x
        · have H := Lib.hid (may_out (n := n) hd (.inr (.inr (.inl h3))))
          clear hd
          go_enter Tryz.func103, Tryz.ntmps103
          go_wp2
          go_ret
          exact ⟨ret_int H.out.symm, rfl⟩
        · by_cases h4 : (d.data.length : Int) - x < n
          · have H := Lib.hid (may_out hd (.inr (.inr (.inr h4))))
            clear hd
            go_enter Tryz.func103, Tryz.ntmps103
            go_wp2
            go_ret
            exact ⟨ret_int H.out.symm, rfl⟩
          · have H := Lib.hid (may_in (x := x) (n := n) hd (by omega))
            clear hd
            go_enter Tryz.func103, Tryz.ntmps103
            go_wp2
            go_ret
            exact ⟨ret_int H.out.symm, rfl⟩
end Go.Proofs.YtbmamhcjbhnkiaaGreat
