/- Layer 8: what lighting a fuse and starting a disk leave of a log; rows that came in as a source. -/
import Derived.Test.YtbmamhcjbhnkiaaKyh
namespace Go.Proofs.Ytbmamhcjbhnkiaa
open Go.RowKit

theorem Live.light {d : Dk} {L : Wal.Lg} (h : Wal.Live d L) {a c : Int} (ha : 0 ≤ a) (hc : 0 ≤ c) (ha1 : a ≤ 9223372036854775807) (hc1 : c ≤ 9223372036854775807) : Wal.Live (d.light a c) L := by
  have wf := h.wf.light ha1 hc1
  rw [Dk.light_ok ha hc] at wf ⊢
  exact ⟨wf, h.big, h.up, h.alive, h.h1, h.fin, h.le, h.ex, h.other⟩
theorem Has.start {d : Dk} {gen : Nat} {recs : List (List UInt8)} {h : Nat} (H : Wal.Has d gen recs h) : Wal.Has d.start gen recs h := ⟨H.wf.start, H.big, H.h1, H.ex, H.other⟩
theorem Has.light {d : Dk} {gen : Nat} {recs : List (List UInt8)} {h : Nat} (H : Wal.Has d gen recs h) {a c : Int} (ha1 : a ≤ 9223372036854775807) (hc1 : c ≤ 9223372036854775807) : Wal.Has (d.light a c) gen recs h := by
  have wf := H.wf.light ha1 hc1
  unfold Dk.light at wf ⊢
  split
  · exact H
  · rename_i hh
    rw [if_neg hh] at wf
    exact ⟨wf, H.big, H.h1, H.ex, H.other⟩
theorem light_data (d : Dk) (a c : Int) : (d.light a c).data = d.data := by unfold Dk.light; split <;> rfl
theorem start_data (d : Dk) : d.start.data = d.data := rfl

/-- The disk of a log was touched, not its bytes. -/
theorem Wl.disk_ {w w' : World} {F : Nat → Prop} {b p g : Nat} {d d' : Dk} {L : Wal.Lg} (hW : Wl w F b p g d L) (hk : Keeps (fun k => k = p ∨ k = g) w w') (hD : DiskAt w' p g d') : Wl w' F b p g d' L := by
  obtain ⟨v, vs, hl⟩ := hW.log
  exact ⟨hD, ⟨v, vs, hl.keep hk fun k hF h => by rcases h with h | h; exact hW.fp (h ▸ hF); exact hW.fg (h ▸ hF)⟩, hW.fp, hW.fg⟩

/-- The slices of rows that came in. -/
def slicesOf (A : Nat → Option Addr) (L C : Nat → Nat) (n : Nat) : List Value := (List.range n).map fun r => .slice (A r) (L r) (C r)
theorem slicesOf_length (A : Nat → Option Addr) (L C : Nat → Nat) (n : Nat) : (slicesOf A L C n).length = n := by simp [slicesOf]
theorem slicesOf_get {A : Nat → Option Addr} {L C : Nat → Nat} {n j : Nat} (h : j < n) : (slicesOf A L C n)[j]? = some (.slice (A j) (L j) (C j)) := by simp [slicesOf, h]
theorem src_rows {P : Program} {w : World} {tx e' : TypeId} (hk : P.underlying tx = some (.slice e')) {k : IntKind} {a : Option Addr} {n cap : Nat} {A : Nat → Option Addr} {L C : Nat → Nat} {Z : Nat → List Int} (h : IsRows k w a n cap A L C Z) (c : Nat) :
    Src P 1 tx (.slice a n c) n (slicesOf A L C n) w := by
  have h1 : ∀ u ∈ slicesOf A L C n, u.oneCell' = true := fun u hu => by
    simp only [slicesOf, List.mem_map] at hu
    obtain ⟨r, _, rfl⟩ := hu; rfl
  rcases Nat.eq_zero_or_pos n with h0 | h0
  · subst h0
    cases a with
    | none => exact Src.ofNil w hk c
    | some a => exact Src.ofSlice w hk a 0 c [] rfl (fun j u hu => by simp at hu) (fun u hu => by simp at hu)
  · obtain ⟨b, off, rfl, hr⟩ := h.place h0
    refine Src.ofSlice w hk _ n c _ (by simp [slicesOf_length]) (fun j u hu => ?_) h1
    have hj : j < n := by have := (List.getElem?_eq_some_iff.1 hu).1; rwa [slicesOf_length] at this
    rw [slicesOf_get hj] at hu
    cases hu
    rw [add_off]
    exact (hr j hj).1
theorem IsRow.below {k : IntKind} {w w' : World} {a : Option Addr} {len cap : Nat} {zs : List Int} (h : IsRow k w a len cap zs) (hb : Below w.heap.size w w') : IsRow k w' a len cap zs := by
  rcases h with h | ⟨x, e, h1, h2, h3, h4, h5⟩
  · exact .inl h
  · exact .inr ⟨x, e, h1, h2, h3, fun i hi => (hb.cell (World.block_lt_of_cell? w _ (h4 i hi))).trans (h4 i hi), h5⟩
theorem IsRows.below {k : IntKind} {w w' : World} {a : Option Addr} {len cap : Nat} {A : Nat → Option Addr} {L C : Nat → Nat} {Z : Nat → List Int} (h : IsRows k w a len cap A L C Z) (hb : Below w.heap.size w w') : IsRows k w' a len cap A L C Z := by
  rcases h with h | ⟨x, e, h1, h2, h3⟩
  · exact .inl h
  · refine .inr ⟨x, e, h1, h2, fun r hr => ?_⟩
    obtain ⟨q1, q2⟩ := h3 r hr
    exact ⟨(hb.cell (World.block_lt_of_cell? w _ q1)).trans q1, q2.below hb⟩
/-- A row of slices is read. -/
theorem own_rdL {w : World} {base n : Nat} {e : TypeId} {v : Value} {vs : List Value} {ls : List (List UInt8)} (h : w.ownsRow base e 1 v n vs) (hn : ls.length = n) (hle : n ≤ 140737488355328)
    (hel : ∀ (j : Nat) (l : List UInt8), ls[j]? = some l → ∃ A m c, vs[j]? = some (.slice A m c) ∧ RdB w A m l) : ∃ A c, v = .slice A n c ∧ RdL w A n ls ∧ n ≤ c ∧ c ≤ 9223372036854775807 := by
  rcases h.2 with ⟨rfl, h0⟩ | ⟨g, cap, cur, rfl, hg0, hg, hnc, hcm, hcs, htake⟩
  · subst h0
    have : ls = [] := List.eq_nil_of_length_eq_zero hn
    subst this
    exact ⟨none, 0, rfl, RdL.nil _ _, Nat.le_refl _, by omega⟩
  · refine ⟨_, cap, rfl, ⟨hn, hle, fun _ => ⟨g, 0, rfl, fun j l hl => ?_⟩⟩, hnc, by unfold maxLen at hcm; exact hcm⟩
    obtain ⟨A, m, c, h1, h2⟩ := hel j l hl
    refine ⟨A, m, c, ?_, h2⟩
    have hj : j < n := by rw [← hn]; exact (List.getElem?_eq_some_iff.1 hl).1
    simp only [World.cell?, hg, Option.isSome_none, Bool.false_eq_true, if_false, Nat.zero_add]
    have := congrArg (fun x => x[j]?) htake
    simp only [Nat.mul_one, List.getElem?_take, if_pos hj, h1, Array.getElem?_toList] at this
    exact this
theorem own_empty_at (w : World) (e : TypeId) : (w.alloc (.cells #[] e)).ownsRow w.heap.size e 1 (.slice (some ⟨w.heap.size, 0, none⟩) 0 0) 0 [] := own_empty w w.heap.size e (Nat.le_refl _)
end Go.Proofs.Ytbmamhcjbhnkiaa
