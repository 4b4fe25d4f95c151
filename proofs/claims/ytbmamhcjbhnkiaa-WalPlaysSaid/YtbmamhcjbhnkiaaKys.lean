/- Layer 8: what a log's play holds from step to step. -/
import Derived.Test.YtbmamhcjbhnkiaaKyr
namespace Go.Proofs.Ytbmamhcjbhnkiaa
open Go.RowKit

/-- The blocks of a log and of its disk. -/
def Zz (p g : Nat) (F : Nat → Prop) : Nat → Prop := fun k => k = p ∨ k = g ∨ F k

/-- What a play holds: the log in memory, what is wanted, and what may be. -/
structure P8 (w wr : World) (p g sz : Nat) (F : Nat → Prop) (b : Nat) (d : Dk) (L : Wal.Lg) (W M : List (List UInt8)) (A9 : Option Addr) (n9 c9 : Nat) (A10 : Option Addr) (n10 : Nat) : Prop where
  wl : Wl wr F b p g d L
  k : Keeps Non w wr
  pb : w.heap.size ≤ p
  gb : w.heap.size ≤ g
  fb : ∀ k, F k → w.heap.size ≤ k
  len : d.data.length = sz
  rw_ : RdLZ (Zz p g F) wr A9 n9 W
  rm : RdLZ (Zz p g F) wr A10 n10 M
  c1 : n9 ≤ c9
  c2 : c9 ≤ 9223372036854775807
  wf : ∀ t ∈ W, Wal.Fit t
  wc : Wal.cost W ≤ 1048576
  mf : n10 ≤ 140737488355328
theorem P8.n9 {w wr : World} {p g sz : Nat} {F : Nat → Prop} {b : Nat} {d : Dk} {L : Wal.Lg} {W M : List (List UInt8)} {A9 : Option Addr} {n9 c9 : Nat} {A10 : Option Addr} {n10 : Nat} (h : P8 w wr p g sz F b d L W M A9 n9 c9 A10 n10) : n9 ≤ 104857 ∧ W.length = n9 := by
  have := cost_ge W h.wf; have := h.wc; have := h.rw_.len; omega
theorem P8.keepN {w wr wr' : World} {p g sz : Nat} {F : Nat → Prop} {b : Nat} {d : Dk} {L : Wal.Lg} {W M : List (List UInt8)} {A9 : Option Addr} {n9 c9 : Nat} {A10 : Option Addr} {n10 : Nat} (h : P8 w wr p g sz F b d L W M A9 n9 c9 A10 n10) (hk : Keeps Non wr wr') :
    P8 w wr' p g sz F b d L W M A9 n9 c9 A10 n10 :=
  ⟨h.wl.keepN hk, h.k.trans hk, h.pb, h.gb, h.fb, h.len, h.rw_.keep (hk.mono fun _ _ h => h.elim), h.rm.keep (hk.mono fun _ _ h => h.elim), h.c1, h.c2, h.wf, h.wc, h.mf⟩
/-- Rows that lay apart from some blocks lie apart from those that came later, too. -/
theorem RdLZ.over {Z Z' : Nat → Prop} {w w' : World} {A : Option Addr} {n : Nat} {ls : List (List UInt8)} (h : RdLZ Z w A n ls) (hk : Keeps Z w w') (hz : ∀ k, Z' k → Z k ∨ w.heap.size ≤ k) : RdLZ Z' w' A n ls := by
  have h1 := h.grow (Z' := fun k => Z k ∨ w.heap.size ≤ k) fun k q => q
  have h2 := h1.keep (hk.mono fun k _ q => .inl q)
  exact ⟨h2.len, h2.le, fun h0 => by
    obtain ⟨b, off, e, hb, hc⟩ := h2.cells h0
    refine ⟨b, off, e, fun q => hb (hz b q), fun j l hl => ?_⟩
    obtain ⟨Aj, nj, cj, q1, q2, q3, q4, q5⟩ := hc j l hl
    exact ⟨Aj, nj, cj, q1, q2, q3, q4, fun hn a ha q => q5 hn a ha (hz _ q)⟩⟩
/-- A call has turned the log and its disk alone. -/
theorem P8.step {w wr wr' : World} {p g sz : Nat} {F F' : Nat → Prop} {b b' : Nat} {d d' : Dk} {L L' : Wal.Lg} {W M : List (List UInt8)} {A9 : Option Addr} {n9 c9 : Nat} {A10 : Option Addr} {n10 : Nat} (h : P8 w wr p g sz F b d L W M A9 n9 c9 A10 n10)
    (hk : Keeps (Zz p g F) wr wr') (hW : Wl wr' F' b' p g d' L') (hF : ∀ k, F' k → F k ∨ wr.heap.size ≤ k) (hl : d'.data.length = d.data.length) : P8 w wr' p g sz F' b' d' L' W M A9 n9 c9 A10 n10 := by
  have hs := h.k.size
  have hs2 := hk.size
  have hz : ∀ k, Zz p g F' k → Zz p g F k ∨ wr.heap.size ≤ k := fun k q => by
    rcases q with q | q | q
    · exact .inl (.inl q)
    · exact .inl (.inr (.inl q))
    · rcases hF k q with q | q
      · exact .inl (.inr (.inr q))
      · exact .inr q
  have hkw : Keeps Non w wr' := h.k.into hk fun k h1 h2 => by
    have := h.pb; have := h.gb
    show False
    rcases h2 with q | q | q
    · omega
    · omega
    · have := h.fb k q; omega
  exact ⟨hW, hkw, h.pb, h.gb, fun k q => by rcases hF k q with q | q; exact h.fb k q; omega, by rw [hl, h.len], h.rw_.over hk hz, h.rm.over hk hz, h.c1, h.c2, h.wf, h.wc, h.mf⟩
theorem P8.old {w wr : World} {p g sz : Nat} {F : Nat → Prop} {b : Nat} {d : Dk} {L : Wal.Lg} {W M : List (List UInt8)} {A9 : Option Addr} {n9 c9 : Nat} {A10 : Option Addr} {n10 : Nat} (h : P8 w wr p g sz F b d L W M A9 n9 c9 A10 n10) {k : Nat} (hk : k < w.heap.size) : ¬ Zz p g F k := fun q => by
  have := h.pb; have := h.gb
  rcases q with q | q | q
  · omega
  · omega
  · have := h.fb k q; omega
theorem P8.new {w wr : World} {p g sz : Nat} {F : Nat → Prop} {b : Nat} {d : Dk} {L : Wal.Lg} {W M : List (List UInt8)} {A9 : Option Addr} {n9 c9 : Nat} {A10 : Option Addr} {n10 : Nat} (h : P8 w wr p g sz F b d L W M A9 n9 c9 A10 n10) {k : Nat} (hk : wr.heap.size ≤ k) : ¬ Zz p g F k := fun q => by
  have := h.wl.disk.lt
  rcases q with q | q | q
  · omega
  · omega
  · have := h.wl.old k q; omega
/-- Something else is wanted. -/
theorem P8.want {w wr : World} {p g sz : Nat} {F : Nat → Prop} {b : Nat} {d : Dk} {L : Wal.Lg} {W M : List (List UInt8)} {A9 : Option Addr} {n9 c9 : Nat} {A10 : Option Addr} {n10 : Nat} (h : P8 w wr p g sz F b d L W M A9 n9 c9 A10 n10) {W' : List (List UInt8)} {A' : Option Addr} {n' c' : Nat}
    (hr : RdLZ (Zz p g F) wr A' n' W') (h1 : n' ≤ c') (h2 : c' ≤ 9223372036854775807) (hf : ∀ t ∈ W', Wal.Fit t) (hc : Wal.cost W' ≤ 1048576) : P8 w wr p g sz F b d L W' M A' n' c' A10 n10 :=
  ⟨h.wl, h.k, h.pb, h.gb, h.fb, h.len, hr, h.rm, h1, h2, hf, hc, h.mf⟩
/-- Something else may be. -/
theorem P8.may {w wr : World} {p g sz : Nat} {F : Nat → Prop} {b : Nat} {d : Dk} {L : Wal.Lg} {W M : List (List UInt8)} {A9 : Option Addr} {n9 c9 : Nat} {A10 : Option Addr} {n10 : Nat} (h : P8 w wr p g sz F b d L W M A9 n9 c9 A10 n10) {M' : List (List UInt8)} {A' : Option Addr} {n' : Nat}
    (hr : RdLZ (Zz p g F) wr A' n' M') (hm : n' ≤ 140737488355328) : P8 w wr p g sz F b d L W M' A9 n9 c9 A' n' :=
  ⟨h.wl, h.k, h.pb, h.gb, h.fb, h.len, h.rw_, hr, h.c1, h.c2, h.wf, h.wc, hm⟩
theorem fit_len {ls : List (List UInt8)} (h : ∀ t ∈ ls, Wal.Fit t) : ∀ t ∈ ls, t.length ≤ 140737488355328 := fun t ht => by have := (h t ht).2; omega

theorem Live.light' {d : Dk} {L : Wal.Lg} (h : Wal.Live d L) {a c : Int} (ha1 : a ≤ 9223372036854775807) (hc1 : c ≤ 9223372036854775807) : Wal.Live (d.light a c) L := by
  by_cases hh : a < 0 ∨ c < 0
  · have : d.light a c = d := if_pos hh
    rw [this]; exact h
  · exact Live.light h (by omega) (by omega) ha1 hc1
theorem light_down (d : Dk) (a c : Int) : (d.light a c).down = d.down := by unfold Dk.light; split <;> rfl

/-- Where a play stands: the log is there, or a crash has cut a step off. -/
def Stand (d : Dk) (L : Wal.Lg) (W M : List (List UInt8)) (cut : Bool) : Prop :=
  (cut = false ∧ Wal.Live d L ∧ L.recs = W) ∨ (cut = true ∧ d.down = true ∧ ∃ gen R h, Wal.Has d gen R h ∧ (R = W ∨ R = M))
theorem Stand.light {d : Dk} {L : Wal.Lg} {W M : List (List UInt8)} {cut : Bool} (h : Stand d L W M cut) {a c : Int} (ha1 : a ≤ 9223372036854775807) (hc1 : c ≤ 9223372036854775807) : Stand (d.light a c) L W M cut := by
  rcases h with ⟨h1, h2, h3⟩ | ⟨h1, h2, gen, R, hh, h3, h4⟩
  · exact .inl ⟨h1, Live.light' h2 ha1 hc1, h3⟩
  · exact .inr ⟨h1, by rw [light_down]; exact h2, gen, R, hh, Has.light h3 ha1 hc1, h4⟩
theorem Stand.has {d : Dk} {L : Wal.Lg} {W M : List (List UInt8)} {cut : Bool} (h : Stand d L W M cut) : ∃ gen R hh, Wal.Has d gen R hh ∧ (R = W ∨ (cut = true ∧ R = M)) := by
  rcases h with ⟨h1, h2, h3⟩ | ⟨h1, h2, gen, R, hh, h3, h4⟩
  · exact ⟨_, _, _, h2.has, .inl h3⟩
  · exact ⟨gen, R, hh, h3, by rcases h4 with h | h; exact .inl h; exact .inr ⟨h1, h⟩⟩

theorem has_small {d : Dk} {gen : Nat} {R : List (List UInt8)} {h : Nat} (H : Wal.Has d gen R h) : (∀ t ∈ R, t.length ≤ 140737488355328) ∧ R.length ≤ 104857 := by
  obtain ⟨T, hT, _⟩ := H.ex
  have h1 := hT.length
  have h2 := Wal.half_length (d := d) H.h1
  have h3 := Wal.hs_le H.wf
  have h4 := cost_ge R hT.fit
  exact ⟨fit_len hT.fit, by omega⟩
theorem fitErr_zero {ls : List (List UInt8)} {n : Nat} (h : fitErr ls n = 0) : (∀ b ∈ ls, Wal.Fit b) ∧ 16 + Wal.cost ls ≤ n := by
  unfold fitErr at h
  split at h
  · rename_i hf
    split at h
    · simp at h
    · exact ⟨hf, by omega⟩
  · simp at h
theorem told2_eq (ls : List (List UInt8)) (n gen : Nat) : told2 ls n gen = if fitErr ls n ≠ 0 then fitErr ls n else if gen = 2147483647 then 14 else 0 := by
  unfold told2 fitErr rcost
  by_cases hf : ∀ b ∈ ls, 1 ≤ b.length ∧ b.length ≤ 65536
  · rw [if_pos hf, if_pos hf]
    by_cases hn : n < 16 + Wal.cost ls
    · rw [if_neg (by omega), if_pos (by omega), if_pos hn]; simp
    · rw [if_neg (by omega), if_neg (by omega), if_neg hn]; simp
  · rw [if_neg hf, if_neg hf]; simp

/-- Rows that came in lie apart from what came later. -/
theorem IsRows.rdLZ {Z : Nat → Prop} {w : World} {a : Option Addr} {len cap : Nat} {A : Nat → Option Addr} {L C : Nat → Nat} {Zs : Nat → List Int} (h : IsRows .u8 w a len cap A L C Zs) (hle : len ≤ 140737488355328) (hL : ∀ r, r < len → L r ≤ 140737488355328) (hz : ∀ k, k < w.heap.size → ¬ Z k) :
    RdLZ Z w a len (rowsOf L Zs len) :=
  ⟨rowsOf_length _ _ _, hle, fun h0 => by
    obtain ⟨b, off, rfl, hr⟩ := h.place h0
    have hb : b < w.heap.size := World.block_lt_of_cell? w _ (hr 0 h0).1
    refine ⟨b, off, rfl, hz b hb, fun j l hl => ?_⟩
    have hj : j < len := by have := (List.getElem?_eq_some_iff.1 hl).1; rwa [rowsOf_length] at this
    obtain ⟨h1, h2⟩ := hr j hj
    have hrd := h2.rdB (hL j hj)
    refine ⟨_, _, _, h1, ?_, h2.cap_le.1, h2.cap_le.2, fun hn a ha => hz _ (hrd.old hn a ha)⟩
    have : l = bytesOf (Zs j) (L j) := by simpa [rowsOf, List.getElem?_map, List.getElem?_range hj] using hl.symm
    subst this
    exact hrd⟩

/-- The slices that such rows are, in whatever world behind. -/
theorem RdLZ.srcs {P : Program} {Z : Nat → Prop} {w : World} {tx e' : TypeId} (hk : P.underlying tx = some (.slice e')) {A : Option Addr} {n : Nat} {ls : List (List UInt8)} (h : RdLZ Z w A n ls) (c : Nat) :
    ∃ vs : List Value, vs.length = n ∧ (∀ wz, Keeps Non w wz → Src P 1 tx (.slice A n c) n vs wz) ∧ ∀ (j : Nat) (x : List UInt8), ls[j]? = some x → ∃ Aj nj cj, vs[j]? = some (.slice Aj nj cj) ∧ RdB w Aj nj x ∧ nj ≤ cj ∧ cj ≤ 9223372036854775807 ∧ (0 < nj → ∀ a, Aj = some a → ¬ Z a.block) := by
  rcases Nat.eq_zero_or_pos n with h0 | h0
  · subst h0
    have hl : ls = [] := List.eq_nil_of_length_eq_zero h.len
    subst hl
    refine ⟨[], rfl, fun wz _ => ?_, fun j x hx => by simp at hx⟩
    cases A with
    | none => exact Src.ofNil wz hk c
    | some a => exact Src.ofSlice wz hk a 0 c [] rfl (fun j u hu => by simp at hu) (fun u hu => by simp at hu)
  · obtain ⟨b, off, rfl, _, hc⟩ := h.cells h0
    have hget : ∀ j, j < n → ∃ Aj nj cj, w.cell? ⟨b, off + j, none⟩ = some (.slice Aj nj cj) := fun j hj => by
      obtain ⟨Aj, nj, cj, h1, _⟩ := hc j _ (List.getElem?_eq_getElem (by rw [h.len]; exact hj))
      exact ⟨Aj, nj, cj, h1⟩
    have hvs : ∀ j, j < n → ((List.range n).map fun j => (w.cell? ⟨b, off + j, none⟩).getD undef)[j]? = some ((w.cell? ⟨b, off + j, none⟩).getD undef) := fun j hj => by simp [hj]
    refine ⟨(List.range n).map fun j => (w.cell? ⟨b, off + j, none⟩).getD undef, by simp, fun wz hwz => ?_, ?_⟩
    · refine Src.ofSlice wz hk _ n c _ (by simp) (fun j u hu => ?_) (fun u hu => ?_)
      · have hj : j < n := by have := (List.getElem?_eq_some_iff.1 hu).1; simpa using this
        rw [hvs j hj] at hu
        cases hu
        obtain ⟨Aj, nj, cj, h1⟩ := hget j hj
        rw [add_off, hwz.cell h1 id, h1]; rfl
      · obtain ⟨j, hj, rfl⟩ := List.mem_map.1 hu
        obtain ⟨Aj, nj, cj, h1⟩ := hget j (List.mem_range.1 hj)
        rw [h1]; rfl
    · intro j x hx
      obtain ⟨Aj, nj, cj, h1, h2⟩ := hc j x hx
      have hj : j < n := by rw [← h.len]; exact (List.getElem?_eq_some_iff.1 hx).1
      exact ⟨Aj, nj, cj, by rw [hvs j hj, h1]; rfl, h2⟩
end Go.Proofs.Ytbmamhcjbhnkiaa
