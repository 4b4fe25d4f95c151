/- Layer 8: what a store needs of a log (the same lemmas stand in the texts of the laws of layer 8, which no store imports). -/
import Derived.Test.YtbmamhcjbhnkiaaGreatKyf
namespace Go.Proofs.YtbmamhcjbhnkiaaGreat
open Go.RowKit

theorem Live.light {d : Dk} {L : Wal.Lg} (h : Wal.Live d L) {a c : Int} (ha : 0 ≤ a) (hc : 0 ≤ c) (ha1 : a ≤ 9223372036854775807) (hc1 : c ≤ 9223372036854775807) : Wal.Live (d.light a c) L := by
  have wf := h.wf.light ha1 hc1
  rw [Dk.light_ok ha hc] at wf ⊢
  exact ⟨wf, h.big, h.up, h.alive, h.h1, h.fin, h.le, h.ex, h.other⟩
theorem Has.start {d : Dk} {gen : Nat} {recs : List (List UInt8)} {h : Nat} (H : Wal.Has d gen recs h) : Wal.Has d.start gen recs h := ⟨H.wf.start, H.big, H.h1, H.ex, H.other⟩
theorem Has.light {d : Dk} {gen : Nat} {recs : List (List UInt8)} {h : Nat} (H : Wal.Has d gen recs h) {a c : Int} (ha1 : a ≤ 9223372036854775807) (hc1 : c ≤ 9223372036854775807) : Wal.Has (d.light a c) gen recs h := by
  have wf := H.wf.light ha1 hc1
  unfold Dk.light at wf ⊢
  split
  · exact H
  · rename_i hh
    rw [if_neg hh] at wf
    exact ⟨wf, H.big, H.h1, H.ex, H.other⟩
theorem light_data (d : Dk) (a c : Int) : (d.light a c).data = d.data := by unfold Dk.light; split <;> rfl
theorem start_data (d : Dk) : d.start.data = d.data := rfl
/-- The disk of a log was touched, not its bytes. -/
theorem Wl.disk_ {w w' : World} {F : Nat → Prop} {b p g : Nat} {d d' : Dk} {L : Wal.Lg} (hW : Wl w F b p g d L) (hk : Keeps (fun k => k = p ∨ k = g) w w') (hD : DiskAt w' p g d') : Wl w' F b p g d' L := by
  obtain ⟨v, vs, hl⟩ := hW.log
  exact ⟨hD, ⟨v, vs, hl.keep hk fun k hF h => by rcases h with h | h; exact hW.fp (h ▸ hF); exact hW.fg (h ▸ hF)⟩, hW.fp, hW.fg⟩
/-- A row of slices is read. -/
theorem own_rdL {w : World} {base n : Nat} {e : TypeId} {v : Value} {vs : List Value} {ls : List (List UInt8)} (h : w.ownsRow base e 1 v n vs) (hn : ls.length = n) (hle : n ≤ 140737488355328)
    (hel : ∀ (j : Nat) (l : List UInt8), ls[j]? = some l → ∃ A m c, vs[j]? = some (.slice A m c) ∧ RdB w A m l) : ∃ A c, v = .slice A n c ∧ RdL w A n ls ∧ n ≤ c ∧ c ≤ 9223372036854775807 := by
  rcases h.2 with ⟨rfl, h0⟩ | ⟨g, cap, cur, rfl, hg0, hg, hnc, hcm, hcs, htake⟩
  · subst h0
    have : ls = [] := List.eq_nil_of_length_eq_zero hn
    subst this
    exact ⟨none, 0, rfl, RdL.nil _ _, Nat.le_refl _, by omega⟩
  · refine ⟨_, cap, rfl, ⟨hn, hle, fun _ => ⟨g, 0, rfl, fun j l hl => ?_⟩⟩, hnc, by unfold maxLen at hcm; exact hcm⟩
    obtain ⟨A, m, c, h1, h2⟩ := hel j l hl
    refine ⟨A, m, c, ?_, h2⟩
    have hj : j < n := by rw [← hn]; exact (List.getElem?_eq_some_iff.1 hl).1
    simp only [World.cell?, hg, Option.isSome_none, Bool.false_eq_true, if_false, Nat.zero_add]
    have := congrArg (fun x => x[j]?) htake
    simp only [Nat.mul_one, List.getElem?_take, if_pos hj, h1, Array.getElem?_toList] at this
    exact this
theorem RdLZ.grow {Z Z' : Nat → Prop} {w : World} {A : Option Addr} {n : Nat} {ls : List (List UInt8)} (h : RdLZ Z w A n ls) (hz : ∀ k, Z' k → Z k ∨ w.heap.size ≤ k) : RdLZ Z' w A n ls :=
  ⟨h.len, h.le, fun h0 => by
    obtain ⟨b, off, e, hb, hc⟩ := h.cells h0
    have hlt : b < w.heap.size := by
      obtain ⟨Aj, nj, cj, h1, _⟩ := hc 0 _ (List.getElem?_eq_getElem (by rw [h.len]; exact h0))
      exact World.block_lt_of_cell? w _ h1
    refine ⟨b, off, e, fun q => by rcases hz b q with q | q; exact hb q; omega, fun j l hl => ?_⟩
    obtain ⟨Aj, nj, cj, h1, h2, h3, h4, h5⟩ := hc j l hl
    exact ⟨Aj, nj, cj, h1, h2, h3, h4, fun hn a ha q => by
      rcases hz _ q with q | q
      · exact h5 hn a ha q
      · have := h2.old hn a ha; omega⟩⟩
theorem RdLZ.nil (Z : Nat → Prop) (w : World) (A : Option Addr) : RdLZ Z w A 0 [] := ⟨rfl, by decide, fun h => absurd h (by decide)⟩
/-- A row of slices of one's own, read apart from some blocks. -/
theorem own_rdLZ {Z : Nat → Prop} {w : World} {base n : Nat} {e : TypeId} {v : Value} {vs : List Value} {ls : List (List UInt8)} (h : w.ownsRow base e 1 v n vs) (hn : ls.length = n) (hle : n ≤ 140737488355328) (hbase : ∀ k, base ≤ k → ¬ Z k)
    (hel : ∀ (j : Nat) (l : List UInt8), ls[j]? = some l → ∃ A m c, vs[j]? = some (.slice A m c) ∧ RdB w A m l ∧ m ≤ c ∧ c ≤ 9223372036854775807 ∧ (0 < m → ∀ a, A = some a → ¬ Z a.block)) :
    ∃ A c, v = .slice A n c ∧ RdLZ Z w A n ls ∧ n ≤ c ∧ c ≤ 9223372036854775807 := by
  rcases h.2 with ⟨rfl, h0⟩ | ⟨g, cap, cur, rfl, hg0, hg, hnc, hcm, hcs, htake⟩
  · subst h0
    have : ls = [] := List.eq_nil_of_length_eq_zero hn
    subst this
    exact ⟨none, 0, rfl, RdLZ.nil _ _ _, Nat.le_refl _, by omega⟩
  · refine ⟨_, cap, rfl, ⟨hn, hle, fun _ => ⟨g, 0, rfl, hbase g hg0, fun j l hl => ?_⟩⟩, hnc, by unfold maxLen at hcm; exact hcm⟩
    obtain ⟨A, m, c, h1, h2⟩ := hel j l hl
    refine ⟨A, m, c, ?_, h2⟩
    have hj : j < n := by rw [← hn]; exact (List.getElem?_eq_some_iff.1 hl).1
    simp only [World.cell?, hg, Option.isSome_none, Bool.false_eq_true, if_false, Nat.zero_add]
    have := congrArg (fun x => x[j]?) htake
    simp only [Nat.mul_one, List.getElem?_take, if_pos hj, h1, Array.getElem?_toList] at this
    exact this
theorem OwnL.rdLZ {Z : Nat → Prop} {w : World} {base : Nat} {v : Value} {vs : List Value} {ls : List (List UInt8)} (h : OwnL w base v vs ls) (hle : ls.length ≤ 140737488355328) (hb : ∀ x ∈ ls, x.length ≤ 140737488355328) (hbase : ∀ k, base ≤ k → ¬ Z k) :
    ∃ A c, v = .slice A ls.length c ∧ RdLZ Z w A ls.length ls ∧ ls.length ≤ c ∧ c ≤ 9223372036854775807 :=
  own_rdLZ h.row rfl hle hbase fun j l hl => by
    obtain ⟨u, h1, h2⟩ := h.el j l hl
    obtain ⟨A, c, rfl, hrd, hblk, hnc, hcm⟩ := own_rdB h2 (hb l (List.mem_of_getElem? hl))
    exact ⟨A, _, c, h1, hrd, hnc, hcm, fun _ a ha => hbase _ (own_ge h2 _ (hblk a ha))⟩
theorem alloc_cell {w : World} {a : Addr} {v : Value} (h : w.cell? a = some v) (o : Obj) : (w.alloc o).cell? a = some v := ((Keeps.refl Non w).alloc o).cell h id
/-- Rows that lay apart from some blocks lie apart from those that came later, too. -/
theorem RdLZ.over {Z Z' : Nat → Prop} {w w' : World} {A : Option Addr} {n : Nat} {ls : List (List UInt8)} (h : RdLZ Z w A n ls) (hk : Keeps Z w w') (hz : ∀ k, Z' k → Z k ∨ w.heap.size ≤ k) : RdLZ Z' w' A n ls := by
  have h1 := h.grow (Z' := fun k => Z k ∨ w.heap.size ≤ k) fun k q => q
  have h2 := h1.keep (hk.mono fun k _ q => .inl q)
  exact ⟨h2.len, h2.le, fun h0 => by
    obtain ⟨b, off, e, hb, hc⟩ := h2.cells h0
    refine ⟨b, off, e, fun q => hb (hz b q), fun j l hl => ?_⟩
    obtain ⟨Aj, nj, cj, q1, q2, q3, q4, q5⟩ := hc j l hl
    exact ⟨Aj, nj, cj, q1, q2, q3, q4, fun hn a ha q => q5 hn a ha (hz _ q)⟩⟩
theorem fit_len {ls : List (List UInt8)} (h : ∀ t ∈ ls, Wal.Fit t) : ∀ t ∈ ls, t.length ≤ 140737488355328 := fun t ht => by have := (h t ht).2; omega
theorem Live.light' {d : Dk} {L : Wal.Lg} (h : Wal.Live d L) {a c : Int} (ha1 : a ≤ 9223372036854775807) (hc1 : c ≤ 9223372036854775807) : Wal.Live (d.light a c) L := by
  by_cases hh : a < 0 ∨ c < 0
  · have : d.light a c = d := if_pos hh
    rw [this]; exact h
  · exact Live.light h (by omega) (by omega) ha1 hc1
theorem light_down (d : Dk) (a c : Int) : (d.light a c).down = d.down := by unfold Dk.light; split <;> rfl
theorem has_small {d : Dk} {gen : Nat} {R : List (List UInt8)} {h : Nat} (H : Wal.Has d gen R h) : (∀ t ∈ R, t.length ≤ 140737488355328) ∧ R.length ≤ 104857 := by
  obtain ⟨T, hT, _⟩ := H.ex
  have h1 := hT.length
  have h2 := Wal.half_length (d := d) H.h1
  have h3 := Wal.hs_le H.wf
  have h4 := cost_ge R hT.fit
  exact ⟨fit_len hT.fit, by omega⟩
theorem fitErr_zero {ls : List (List UInt8)} {n : Nat} (h : fitErr ls n = 0) : (∀ b ∈ ls, Wal.Fit b) ∧ 16 + Wal.cost ls ≤ n := by
  unfold fitErr at h
  split at h
  · rename_i hf
    split at h
    · simp at h
    · exact ⟨hf, by omega⟩
  · simp at h
end Go.Proofs.YtbmamhcjbhnkiaaGreat
