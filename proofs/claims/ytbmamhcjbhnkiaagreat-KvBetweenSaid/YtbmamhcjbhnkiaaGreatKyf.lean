/- Layer 8: the steps of a log on its disk, as the statements see them; the walks of Same and of the anchor. -/
import Derived.Test.YtbmamhcjbhnkiaaGreatKye
import Derived.Lib.SlBytesConst
namespace Go.Proofs.YtbmamhcjbhnkiaaGreat
open Go.RowKit

/-- A log has turned into another one, or its disk went down with one of both on it. -/
def RetStep (w : World) (F : Nat → Prop) (b p g : Nat) (d : Dk) (L L' : Wal.Lg) (e : Ending) (w' : World) : Prop := ∃ d' : Dk, d'.WF ∧ d'.data.length = d.data.length ∧ Keeps (fun k => k = p ∨ k = g ∨ F k) w w' ∧
  ((e = .returned (.int .i64 0) ∧ Wal.Live d' L' ∧ (d.lit = false → d'.lit = false) ∧ ∃ F', Wl w' F' b p g d' L' ∧ ∀ k, F' k → F k ∨ w.heap.size ≤ k) ∨
    (d.lit = true ∧ e = .returned (.int .i64 20) ∧ d'.down = true ∧ Wl w' F b p g d' (L.die false) ∧ (Wal.Has d' L.gen L.recs L.half ∨ Wal.Has d' L'.gen L'.recs L'.half)))
theorem lit_of {d : Dk} {ok : Bool} {P : Prop} (h : d.lit = false → ok = true ∧ P) (hno : ok = false) : d.lit = true := by
  cases hl : d.lit with
  | true => rfl
  | false => have := (h hl).1; rw [hno] at this; cases this

theorem append_step (F : Nat → Prop) (b p g : Nat) (d : Dk) (L : Wal.Lg) (A : Option Addr) (n c : Nat) (bs : List UInt8) (hL : Wal.Live d L) (hn : 1 ≤ n) (hn2 : n ≤ 65536) (hroom : L.fin + (9 + n) ≤ Wal.hs d)
    (w : World) (hW : Wl w F b p g d L) (hr : RdB w A n bs) (hA : ∀ a, A = some a → ¬ (a.block = p ∨ a.block = g ∨ F a.block)) :
    Calls Tryz.prog 39 #[.pointer (some ⟨b, 0, none⟩), .slice A n c] w (RetStep w F b p g d L (L.added bs)) := by
  have hgl := hL.has.gen_le
  have hmany : L.recs.length * 10 ≤ L.fin := by have := cost_ge L.recs hL.ex.fit; have := hL.fin; omega
  refine (append_do F b p g d L hL.h1 (by omega) A n c bs hroom hmany hn hn2 w hW hL.alive hL.up hr hA).mono ?_
  rintro e w' ⟨h, hk⟩
  have hp := Wal.app_live hL (b := bs) ⟨by rw [hr.len]; exact hn, by rw [hr.len]; exact hn2⟩ (by rw [hr.len]; exact hroom)
  obtain ⟨p1, p2, p3, p4, p5⟩ := hp
  refine ⟨(Wal.app d L bs).1, p4, p5, hk, ?_⟩
  rcases h with ⟨hok, rfl, F', hW', hF'⟩ | ⟨hno, rfl, hW'⟩
  · exact .inl ⟨rfl, p1 hok, fun hl => (p3 hl).2, F', hW', hF'⟩
  · obtain ⟨q1, q2⟩ := p2 hno
    exact .inr ⟨lit_of p3 hno, rfl, q1, hW', q2⟩

theorem anew_step (F : Nat → Prop) (b p g : Nat) (d : Dk) (L : Wal.Lg) (A : Option Addr) (m c : Nat) (ls : List (List UInt8)) (hL : Wal.Live d L) (hf : ∀ b ∈ ls, Wal.Fit b) (hc : 16 + Wal.cost ls ≤ Wal.hs d) (hg : L.gen + 1 ≤ 2147483647)
    (w : World) (hW : Wl w F b p g d L) (hr : RdLZ (fun k => k = p ∨ k = g ∨ F k) w A m ls) :
    Calls Tryz.prog 40 #[.pointer (some ⟨b, 0, none⟩), .slice A m c] w (RetStep w F b p g d L ⟨1 - L.half, L.gen + 1, 16 + Wal.cost ls, ls, false⟩) := by
  refine (anew_do F b p g d L A m c ls hL.h1 hL.big hf hc hg w hW hL.alive hL.up hr).mono ?_
  rintro e w' ⟨h, hk⟩
  obtain ⟨p1, p2, p3, p4, p5⟩ := Wal.anew_live hL hf hc hg
  refine ⟨_, p4, p5, hk, ?_⟩
  rcases h with ⟨hok, rfl, F', hW', hF'⟩ | ⟨hno, rfl, hW'⟩
  · exact .inl ⟨rfl, p1 hok, fun hl => (p3 hl).2, F', hW', hF'⟩
  · obtain ⟨q1, q2⟩ := p2 hno
    exact .inr ⟨lit_of p3 hno, rfl, q1, hW', q2⟩

/-- A disk that has records was opened, or it went down with them. -/
def RetOpened (w : World) (p g : Nat) (d : Dk) (gen : Nat) (recs : List (List UInt8)) (h : Nat) (e : Ending) (w' : World) : Prop := ∃ d' : Dk, Wal.Has d' gen recs h ∧ d'.data.length = d.data.length ∧ Keeps (fun k => k = p ∨ k = g) w w' ∧
  ((∃ F b, e = .returned (.tuple #[.pointer (some ⟨b, 0, none⟩), .int .i64 0]) ∧ Wal.Live d' ⟨h, gen, 16 + Wal.cost recs, recs, false⟩ ∧ (d.lit = false → d'.lit = false) ∧ Wl w' F b p g d' ⟨h, gen, 16 + Wal.cost recs, recs, false⟩ ∧ ∀ k, F k → w.heap.size ≤ k) ∨
    (d.lit = true ∧ e = .returned (.tuple #[.pointer none, .int .i64 20]) ∧ d'.down = true ∧ DiskAt w' p g d'))
theorem open_step (p g : Nat) (d : Dk) (gen : Nat) (recs : List (List UInt8)) (h : Nat) (H : Wal.Has d gen recs h) (hup : d.down = false) (w : World) (hD : DiskAt w p g d) :
    Calls Tryz.prog 29 #[.pointer (some ⟨p, 0, none⟩)] w (RetOpened w p g d gen recs h) := by
  refine (open_any p g d H.big w hD hup).mono ?_
  rintro e w' ⟨hh, hk⟩
  obtain ⟨p1, p2, p3, p4, p5, p6⟩ := Wal.open_has H hup
  refine ⟨_, p2, p6, hk, ?_⟩
  rw [p1] at hh p3
  rcases hh with ⟨hok, F, b, rfl, hW, hF⟩ | ⟨hno, rfl, hD'⟩
  · exact .inl ⟨F, b, rfl, p3 hok, fun hl => (p5 hl).2, hW, hF⟩
  · exact .inr ⟨lit_of p5 hno, rfl, by rw [p4, hno]; rfl, hD'⟩

/-- A new disk was opened. -/
def RetFresh (w : World) (p g n : Nat) (e : Ending) (w' : World) : Prop := ∃ d' : Dk, ∃ F b, e = .returned (.tuple #[.pointer (some ⟨b, 0, none⟩), .int .i64 0]) ∧ Wal.Live d' ⟨0, 1, 16, [], false⟩ ∧ d'.lit = false ∧ d'.data.length = n ∧ Wl w' F b p g d' ⟨0, 1, 16, [], false⟩ ∧
  (∀ k, F k → w.heap.size ≤ k) ∧ Keeps (fun k => k = p ∨ k = g) w w'
theorem open_fresh (p g n : Nat) (h0 : 1024 ≤ n) (h1 : n ≤ 1048576) (w : World) (hD : DiskAt w p g (Dk.new n)) :
    Calls Tryz.prog 29 #[.pointer (some ⟨p, 0, none⟩)] w (RetFresh w p g n) := by
  refine (open_any p g _ (by unfold Wal.hs; rw [new_len]; omega) w hD rfl).mono ?_
  rintro e w' ⟨hh, hk⟩
  obtain ⟨p1, p2, p3, p4, p5⟩ := Wal.open_new h0 h1
  rw [p1] at hh p3
  rcases hh with ⟨hok, F, b, rfl, hW, hF⟩ | ⟨hno, _⟩
  · exact ⟨_, F, b, rfl, p3, p4, p5, hW, hF, hk⟩
  · rw [p2] at hno; cases hno
end Go.Proofs.YtbmamhcjbhnkiaaGreat
