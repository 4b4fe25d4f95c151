/- Layer 8: a log in memory; the walks of its methods that only read. -/
import Derived.Test.YtbmamhcjbhnkiaaGreatKwt
import Derived.Test.YtbmamhcjbhnkiaaGreatKr
namespace Go.Proofs.YtbmamhcjbhnkiaaGreat
open Go.RowKit

theorem own_kept {Z : Nat → Prop} {w w' : World} {base size n : Nat} {e : TypeId} {v : Value} {xs : List Value} (h : w.ownsRow base e size v n xs) (hk : Keeps Z w w') (hz : ∀ g, v.ownBlock = some g → ¬ Z g) : w'.ownsRow base e size v n xs := by
  refine ⟨h.1, ?_⟩
  rcases h.2 with h2 | ⟨g, cap, cur, rfl, hb, hg, hr⟩
  · exact .inl h2
  · exact .inr ⟨g, cap, cur, rfl, hb, hk.at_ hg (hz g rfl), hr⟩

/-- A log's struct lies in block b, its records in the row v, all of it in the blocks F. -/
structure LogAt' (w : World) (F : Nat → Prop) (b p : Nat) (L : Wal.Lg) (v : Value) (vs : List Value) : Prop where
  st : w.heap[b]? = some (.cells #[.pointer (some ⟨p, 0, none⟩), .int .i64 (L.half : Int), .int .i64 (L.gen : Int), .int .i64 (L.fin : Int), v, .bool L.dead] 102 (0, 0))
  own : w.ownsRow 0 60 1 v L.recs.length vs
  row : ∀ g, v.ownBlock = some g → F g ∧ g ≠ b
  rd : ∀ (j : Nat) (x : List UInt8), L.recs[j]? = some x → ∃ A n c, vs[j]? = some (.slice A n c) ∧ RdB w A n x ∧ ∀ a, A = some a → F a.block ∧ a.block ≠ b ∧ v.ownBlock ≠ some a.block
  hb : F b
  old : ∀ k, F k → k < w.heap.size
  many : L.recs.length ≤ 1048576
/-- A log, and its disk. -/
structure Wl (w : World) (F : Nat → Prop) (b p g : Nat) (d : Dk) (L : Wal.Lg) : Prop where
  disk : DiskAt w p g d
  log : ∃ v vs, LogAt' w F b p L v vs
  fp : ¬ F p
  fg : ¬ F g

theorem LogAt'.keep {S F : Nat → Prop} {w w' : World} {b p : Nat} {L : Wal.Lg} {v : Value} {vs : List Value} (h : LogAt' w F b p L v vs) (hk : Keeps S w w') (hS : ∀ k, F k → ¬ S k) : LogAt' w' F b p L v vs :=
  ⟨hk.at_ h.st (hS _ h.hb), own_kept h.own hk fun g hg => hS _ (h.row g hg).1, h.row, fun j x hx => by
    obtain ⟨A, n, c, h1, h2, h3⟩ := h.rd j x hx
    exact ⟨A, n, c, h1, h2.keep hk fun _ a ha => hS _ (h3 a ha).1, h3⟩, h.hb, fun k hk' => Nat.lt_of_lt_of_le (h.old k hk') hk.size, h.many⟩
theorem Wl.keep {S F : Nat → Prop} {w w' : World} {b p g : Nat} {d : Dk} {L : Wal.Lg} (h : Wl w F b p g d L) (hk : Keeps S w w') (hS : ∀ k, (F k ∨ k = p ∨ k = g) → ¬ S k) : Wl w' F b p g d L := by
  obtain ⟨v, vs, hl⟩ := h.log
  exact ⟨h.disk.keep hk (hS _ (.inr (.inl rfl))) (hS _ (.inr (.inr rfl))), ⟨v, vs, hl.keep hk fun k hF => hS k (.inl hF)⟩, h.fp, h.fg⟩
theorem Wl.keepN {F : Nat → Prop} {w w' : World} {b p g : Nat} {d : Dk} {L : Wal.Lg} (h : Wl w F b p g d L) (hk : Keeps Non w w') : Wl w' F b p g d L := h.keep hk fun _ _ h => h
theorem Wl.bp {w : World} {F : Nat → Prop} {b p g : Nat} {d : Dk} {L : Wal.Lg} (h : Wl w F b p g d L) : b ≠ p ∧ b ≠ g := by
  obtain ⟨v, vs, hl⟩ := h.log
  exact ⟨fun e => h.fp (e ▸ hl.hb), fun e => h.fg (e ▸ hl.hb)⟩
theorem Wl.hb {w : World} {F : Nat → Prop} {b p g : Nat} {d : Dk} {L : Wal.Lg} (h : Wl w F b p g d L) : F b := by obtain ⟨v, vs, hl⟩ := h.log; exact hl.hb
theorem Wl.old {w : World} {F : Nat → Prop} {b p g : Nat} {d : Dk} {L : Wal.Lg} (h : Wl w F b p g d L) : ∀ k, F k → k < w.heap.size := by obtain ⟨v, vs, hl⟩ := h.log; exact hl.old

/-- The cells of a log. -/
structure LogC (w : World) (b p : Nat) (L : Wal.Lg) (v : Value) : Prop where
  c0 : w.cell? ⟨b, 0, none⟩ = some (.pointer (some ⟨p, 0, none⟩))
  c1 : w.cell? ⟨b, 1, none⟩ = some (.int .i64 (L.half : Int))
  c2 : w.cell? ⟨b, 2, none⟩ = some (.int .i64 (L.gen : Int))
  c3 : w.cell? ⟨b, 3, none⟩ = some (.int .i64 (L.fin : Int))
  c4 : w.cell? ⟨b, 4, none⟩ = some v
  c5 : w.cell? ⟨b, 5, none⟩ = some (.bool L.dead)
theorem LogAt'.cells {F : Nat → Prop} {w : World} {b p : Nat} {L : Wal.Lg} {v : Value} {vs : List Value} (h : LogAt' w F b p L v vs) : LogC w b p L v := by
  have := six h.st
  exact ⟨this.c0, this.c1, this.c2, this.c3, this.c4, this.c5⟩
theorem LogC.keep {S : Nat → Prop} {w w' : World} {b p : Nat} {L : Wal.Lg} {v : Value} (h : LogC w b p L v) (hk : Keeps S w w') (hb : ¬ S b) : LogC w' b p L v :=
  ⟨hk.cell h.c0 hb, hk.cell h.c1 hb, hk.cell h.c2 hb, hk.cell h.c3 hb, hk.cell h.c4 hb, hk.cell h.c5 hb⟩

theorem lsize_any (b p g : Nat) (d : Dk) (w : World) (c0 : w.cell? ⟨b, 0, none⟩ = some (.pointer (some ⟨p, 0, none⟩))) (hD : DiskAt w p g d) :
    Calls Tryz.prog 76 #[.pointer (some ⟨b, 0, none⟩)] w fun e w' => e = .returned (.int .i64 (Wal.hs d : Int)) ∧ w = w' := by
  have hle := hD.wf.le
  go_enter Tryz.func76, Tryz.ntmps76
  go_wp2_with fail
  refine (size_any p g d w hD).mono ?_
  rintro e w' ⟨rfl, rfl⟩
  go_wp2_with fail
  go_ret
  exact ⟨ret_int (by unfold Wal.hs; omega), rfl⟩

theorem place_any (b p g : Nat) (d : Dk) (h a : Nat) (hh : h ≤ 1) (ha : a ≤ 1048576) (w : World) (c0 : w.cell? ⟨b, 0, none⟩ = some (.pointer (some ⟨p, 0, none⟩))) (hD : DiskAt w p g d) :
    Calls Tryz.prog 78 #[.pointer (some ⟨b, 0, none⟩), .int .i64 (h : Int), .int .i64 (a : Int)] w fun e w' => e = .returned (.int .i64 ((h * Wal.hs d + a : Nat) : Int)) ∧ w = w' := by
  have hz := Wal.hs_le hD.wf
  have h01 : h = 0 ∨ h = 1 := by omega
  rcases h01 with rfl | rfl
  all_goals
    go_enter Tryz.func78, Tryz.ntmps78
    go_wp2_with fail
    refine (lsize_any b p g d w c0 hD).mono ?_
    rintro e w' ⟨rfl, rfl⟩
    go_wp2_with fail
    go_ret
    exact ⟨ret_int (by omega), rfl⟩

/-- A read of a half, on a disk that is up: bytes of its own. -/
def RetHalf (w : World) (n : Nat) (l : List UInt8) (e : Ending) (w' : World) : Prop := ∃ A c, e = .returned (.slice A n c) ∧ RdB w' A n l ∧ (∀ a, A = some a → w.heap.size ≤ a.block) ∧ n ≤ c ∧ c ≤ 9223372036854775807 ∧ Keeps Non w w'
theorem lread_any (b p g : Nat) (d : Dk) (h a n : Nat) (hh : h ≤ 1) (han : a + n ≤ Wal.hs d) (w : World) (c0 : w.cell? ⟨b, 0, none⟩ = some (.pointer (some ⟨p, 0, none⟩))) (hD : DiskAt w p g d) (hup : d.down = false) :
    Calls Tryz.prog 70 #[.pointer (some ⟨b, 0, none⟩), .int .i64 (h : Int), .int .i64 (a : Int), .int .i64 (n : Int)] w (RetHalf w n (Wal.slc (Wal.half d h) a n)) := by
  have hz := Wal.hs_le hD.wf
  have h01 : h = 0 ∨ h = 1 := by omega
  have hb : h * Wal.hs d + a + n ≤ d.data.length := by
    have : 2 * Wal.hs d ≤ d.data.length := by unfold Wal.hs; omega
    rcases h01 with rfl | rfl <;> omega
  have he : d.may ((h * Wal.hs d + a : Nat) : Int) n = 0 := may_in hup (by omega)
  have HS : Hid ((d.data.drop (h * Wal.hs d + a)).take n = Wal.slc (Wal.half d h) a n) := by show _ = _; unfold Wal.half; rw [Wal.slc_slc han]; rfl
  have Hup := Lib.hid hup
  have c0' : w.drew.cell? ⟨b, 0, none⟩ = some (.pointer (some ⟨p, 0, none⟩)) := c0
  have hD' : DiskAt w.drew p g d := hD.keep (S := Non) ((Keeps.refl _ _).drew) id id
  obtain ⟨x, hx⟩ : ∃ x, x = h * Wal.hs d + a := ⟨_, rfl⟩
  have HX := Lib.hid hx
  rw [← hx] at he HS
  clear hup hx hb h01
  go_enter Tryz.func70, Tryz.ntmps70
  go_wp2_with fail
  go_region_held3 (fun w' => w'.cell? ⟨b, 0, none⟩ = some (.pointer (some ⟨p, 0, none⟩))) (first | exact c0' | exact hk1.cell c0' id) (first
    | (go_at_call 78; refine (place_any b p g d h a hh (by omega) _ c0' hD').mono ?_; rintro e w' ⟨rfl, rfl⟩; rw [← HX.out])
    | (go_at_call 97; refine (read_ok p g d x n _ hD' he).mono ?_; rintro e w1 ⟨⟨A, c, rfl, hrd, hfr, hnc, hcm⟩, hk1⟩))
  all_goals
    rw [HS.out] at hrd
    have hkw : Keeps Non w w1 := ((Keeps.refl Non w).drew).trans hk1
    go_wp2_with fail
    go_ret
    exact ⟨A, c, rfl, hrd, hfr, hnc, hcm, hkw⟩
end Go.Proofs.YtbmamhcjbhnkiaaGreat
