/- Layer 9: strings, as the row of a law hands them. -/
import Derived.Test.YtbmamhcjbhnkiaaKl
import Derived.Test.YtbmamhcjbhnkiaaKzw
namespace Go.Proofs.Ytbmamhcjbhnkiaa
open Go.ChangeShapes Go.WideShapes Go.ChangeAt Go.RowKit

section
variable {H : Type} {enc : TypeId × Value → H} {P : Program} {w : World} {held : Bool}
theorem in_strs {t e : TypeId} {a : Option Addr} {len cap : Nat} {d : DataW H} {p : List MemPlace} (ht : P.underlying t = some (.slice e)) (he : P.underlying e = some .string) (hc : P.cellsOf e = 1)
    (h : DataW.Trod enc P w 0 (fun _ => true) held t (.slice a len cap) d p) : ∃ S, IsStrs w a len cap S := by
  obtain ⟨fuel, hf⟩ := h
  rcases open_strings ht he hc hf with ⟨hcs, _⟩ | ⟨x, l, c, ss, hcs, _, hl, hm, hlen, _, hcell, hfit⟩
  · simp [Value.cells] at hcs
    obtain ⟨rfl, rfl, rfl⟩ := hcs
    exact ⟨[], ⟨rfl, Nat.le_refl _, by omega, fun s hs => by simp at hs, fun h0 => by omega⟩⟩
  · simp [Value.cells] at hcs
    obtain ⟨rfl, rfl, rfl⟩ := hcs
    simp only [if_true] at hlen
    refine ⟨(ss.take len).map fun s => s.data.toList, ⟨by simp; omega, hl, by unfold maxLen at hm; omega, fun s hs => ?_, fun h0 => ?_⟩⟩
    · obtain ⟨s', hs', rfl⟩ := List.mem_map.1 hs
      have := hfit s' (List.mem_of_mem_take hs')
      rw [Array.length_toList]; exact this
    · obtain ⟨b, off, spot⟩ := x
      have hc0 := hcell 0 (by omega)
      have hsn : spot = none := by simpa [Addr.add] using World.cell?_spot hc0
      subst hsn
      refine ⟨b, off, rfl, World.block_lt_of_cell? _ _ hc0, fun j s hs => ?_⟩
      have hj : j < len := by have := (List.getElem?_eq_some_iff.1 hs).1; simp at this; omega
      rw [← add_off, hcell j (by omega)]
      simp only [List.getElem?_map, List.getElem?_take, if_pos hj, List.getElem?_eq_getElem (show j < ss.length by omega), Option.map_some, Option.some.injEq] at hs
      subst hs
      simp [sv, List.getD_eq_getElem?_getD, List.getElem?_eq_getElem (show j < ss.length by omega)]
end

section
variable {H : Type} {enc : TypeId × Value → H} {w : World} {held : Bool}
theorem in_string_at {P : Program} {t : TypeId} {v : Value} {n : Nat} {y : DataW H × List MemPlace} (ht : P.underlying t = some .string) (h : DataW.trod enc P w 0 (fun _ => true) held n t [v] = some y) : ∃ s : List UInt8, v = sv s ∧ s.length ≤ maxLen := by
  obtain ⟨s, h1, _, h2⟩ := DataW.trod_string ht h
  obtain rfl : v = .string s := by simpa using h1
  exact ⟨s.data.toList, by simp [sv], by rw [Array.length_toList]; exact h2⟩
end
end Go.Proofs.Ytbmamhcjbhnkiaa
