/- Layer 9: strings that came in; a string's bytes in a row of their own. -/
import Derived.Test.YtbmamhcjbhnkiaaKzw
import Derived.Test.YtbmamhcjbhnkiaaProg
import Derived.Test.YtbmamhcjbhnkiaaKi
import Derived.Lib.ConvBytes
namespace Go.Proofs.Ytbmamhcjbhnkiaa
open Go.RowKit
open Kv (Bs Tab)

/-- A slice of strings that came in. -/
structure IsStrs (w : World) (a : Option Addr) (len cap : Nat) (S : List Bs) : Prop where
  hlen : S.length = len
  le : len ≤ cap
  cm : cap ≤ 9223372036854775807
  fit : ∀ s ∈ S, s.length ≤ maxLen
  cells : 0 < len → ∃ b off, a = some ⟨b, off, none⟩ ∧ b < w.heap.size ∧ ∀ (j : Nat) (s : Bs), S[j]? = some s → w.cell? ⟨b, off + j, none⟩ = some (sv s)
theorem IsStrs.at_ {w : World} {a : Option Addr} {len cap : Nat} {S : List Bs} (h : IsStrs w a len cap S) {j : Nat} (hj : j < len) :
    ∃ b off s, a = some ⟨b, off, none⟩ ∧ S[j]? = some s ∧ w.cell? ⟨b, off + j, none⟩ = some (sv s) := by
  obtain ⟨b, off, e, hl, hc⟩ := h.cells (by omega)
  have hl' : j < S.length := by rw [h.hlen]; exact hj
  exact ⟨b, off, S[j], e, List.getElem?_eq_getElem hl', hc j _ (List.getElem?_eq_getElem hl')⟩
theorem IsStrs.keepN {w w' : World} {a : Option Addr} {len cap : Nat} {S : List Bs} (h : IsStrs w a len cap S) (hk : Keeps Non w w') : IsStrs w' a len cap S :=
  ⟨h.hlen, h.le, h.cm, h.fit, fun h0 => by
    obtain ⟨b, off, e, hl, hc⟩ := h.cells h0
    exact ⟨b, off, e, Nat.lt_of_lt_of_le hl hk.size, fun j s hs => hk.cell (hc j s hs) id⟩⟩

theorem str_of (s : ByteArray) : ∃ x : Bs, (Value.string s) = sv x ∧ x.length = s.size := ⟨s.data.toList, by simp [sv], by simp⟩

/-- A string's bytes, in a row of their own. -/
theorem conv_sb (x : Bs) (hx : x.length ≤ 140737488355328) (w : World) : ∃ A c w', (convert 9 22 (sv x)).run Try.prog w = .ok (.slice A x.length c) w' ∧ RdB w' A x.length x ∧ Keeps Non w w' := by
  have hsz : (⟨x.toArray⟩ : ByteArray).size = x.length := by simp [ByteArray.size]
  refine ⟨some ⟨w.heap.size, 0, none⟩, grownCap w x.length 0 5, Lib.bytesWorld w 5 ⟨x.toArray⟩, ?_, ⟨rfl, hx, fun _ => ⟨_, 0, rfl, fun j u hu => ?_⟩⟩, ⟨rfl, rfl, rfl, by rw [Lib.bytesWorld_size]; omega, fun k hk _ => Lib.bytesWorld_at_old w _ _ k hk⟩⟩
  · have := Lib.run_convert_string_bytes (P := Try.prog) w 9 22 5 ⟨x.toArray⟩ Try.underlying9 Try.underlying22 Try.underlying5
    rw [hsz] at this
    exact this
  · have hj : j < x.length := (List.getElem?_eq_some_iff.1 hu).1
    rw [Nat.zero_add, Lib.bytesWorld_cell w _ _ j (by rw [hsz]; exact hj)]
    simp only [bv, List.getD_eq_getElem?_getD, hu, Option.getD_some]
end Go.Proofs.Ytbmamhcjbhnkiaa
