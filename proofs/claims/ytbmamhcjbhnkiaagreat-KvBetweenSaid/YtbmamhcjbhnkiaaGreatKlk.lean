/- Layer 9: strings, as the row of a law hands them. -/
import Derived.Test.YtbmamhcjbhnkiaaGreatKl
import Derived.Test.YtbmamhcjbhnkiaaGreatKzw
namespace Go.Proofs.YtbmamhcjbhnkiaaGreat
open Go.ChangeShapes Go.WideShapes Go.ChangeAt Go.RowKit

section
variable {H : Type} {enc : TypeId × Value → H} {P : Program} {w : World} {held : Bool}
theorem in_strs {t e : TypeId} {a : Option Addr} {len cap : Nat} {d : DataW H} {p : List MemPlace} (ht : P.underlying t = some (.slice e)) (he : P.underlying e = some .string) (hc : P.cellsOf e = 1)
    (h : DataW.Trod enc P w 0 (fun _ => true) held t (.slice a len cap) d p) : ∃ S, IsStrs w a len cap S := by
  obtain ⟨fuel, hf⟩ := h
  rcases open_strings ht he hc hf with ⟨hcs, _⟩ | ⟨x, l, c, ss, hcs, _, hl, hm, hlen, _, hcell, hfit⟩
  · simp [Value.cells] at hcs
    obtain ⟨rfl, rfl, rfl⟩ := hcs
    exact ⟨[], ⟨rfl, Nat.le_refl _, by omega, fun s hs => by simp at hs, fun h0 => by omega⟩⟩
  · simp [Value.cells] at hcs
    obtain ⟨rfl, rfl, rfl⟩ := hcs
    simp only [if_true] at hlen
    refine ⟨(ss.take len).map fun s => s.data.toList, ⟨by simp; omega, hl, by unfold maxLen at hm; omega, fun s hs => ?_, fun h0 => ?_⟩⟩
    · obtain ⟨s', hs', rfl⟩ := List.mem_map.1 hs
      have := hfit s' (List.mem_of_mem_take hs')
      rw [Array.length_toList]; exact this
    · obtain ⟨b, off, spot⟩ := x
      have hc0 := hcell 0 (by omega)
      have hsn : spot = none := by simpa [Addr.add] using World.cell?_spot hc0
      subst hsn
      refine ⟨b, off, rfl, World.block_lt_of_cell? _ _ hc0, fun j s hs => ?_⟩
      have hj : j < len := by have := (List.getElem?_eq_some_iff.1 hs).1; simp at this; omega
      rw [← add_off, hcell j (by omega)]
      simp only [List.getElem?_map, List.getElem?_take, if_pos hj, List.getElem?_eq_getElem (show j < ss.length by omega), Option.map_some, Option.some.injEq] at hs
      subst hs
      simp [sv, List.getD_eq_getElem?_getD, List.getElem?_eq_getElem (show j < ss.length by omega)]
end

section
variable {H : Type} {enc : TypeId × Value → H} {w : World} {held : Bool}
theorem in_string_at {P : Program} {t : TypeId} {v : Value} {n : Nat} {y : DataW H × List MemPlace} (ht : P.underlying t = some .string) (h : DataW.trod enc P w 0 (fun _ => true) held n t [v] = some y) : ∃ s : List UInt8, v = sv s ∧ s.length ≤ maxLen := by
  obtain ⟨s, h1, _, h2⟩ := DataW.trod_string ht h
  obtain rfl : v = .string s := by simpa using h1
  exact ⟨s.data.toList, by simp [sv], by rw [Array.length_toList]; exact h2⟩
theorem in_steps {a : Option Addr} {len cap : Nat} {d : DataW H} {p : List MemPlace} (ht : Tryz.prog.underlying 33 = some (.slice 67))
    (h : DataW.Trod enc Tryz.prog w 0 (fun _ => true) held 33 (.slice a len cap) d p) : ∃ Q, IsSteps w a len cap Q := by
  obtain ⟨V, hV, hf⟩ := in_structs ht Tryz.underlying67 (Deep.hone_of (by kernel_rfl)) (by kernel_rfl) h
  have each : ∀ i, i < len → ∃ o : Kv.St, V i 0 = .bool o.d ∧ V i 1 = sv o.k ∧ V i 2 = sv o.v ∧ o.k.length ≤ maxLen ∧ o.v.length ≤ maxLen := by
    intro i hi
    obtain ⟨n0, y0, h0⟩ := hf i hi 0 _ rfl
    obtain ⟨n1, y1, h1⟩ := hf i hi 1 _ rfl
    obtain ⟨n2, y2, h2⟩ := hf i hi 2 _ rfl
    obtain ⟨b, e0, _⟩ := DataW.trod_bool Tryz.underlying4 h0
    obtain ⟨k, e1, q1⟩ := in_string_at Tryz.underlying9 h1
    obtain ⟨x, e2, q2⟩ := in_string_at Tryz.underlying9 h2
    exact ⟨⟨b, k, x⟩, by simpa using e0, e1, e2, q1, q2⟩
  haveI : Inhabited Kv.St := ⟨⟨false, [], []⟩⟩
  obtain ⟨Y, hY⟩ := Deep.choose_lt each
  have hlc := hV.len_le
  refine ⟨(List.range len).map Y, ⟨by simp, hlc.1, hlc.2, fun p hp => ?_, fun h0 => ?_⟩⟩
  · obtain ⟨i, hi, rfl⟩ := List.mem_map.1 hp
    exact (hY i (List.mem_range.1 hi)).2.2.2
  · obtain ⟨b, off, rfl, hc⟩ := hV.place h0 (by decide)
    refine ⟨b, off, rfl, World.block_lt_of_cell? _ _ (hc 0 h0 0 (by decide)), fun j p hp => ?_⟩
    have hj : j < len := by have := (List.getElem?_eq_some_iff.1 hp).1; simpa using this
    obtain rfl : Y j = p := by simpa [List.getElem?_map, List.getElem?_range hj] using hp
    obtain ⟨e0, e1, e2, _⟩ := hY j hj
    have c0 := hc j hj 0 (by decide)
    have c1 := hc j hj 1 (by decide)
    have c2 := hc j hj 2 (by decide)
    rw [e0] at c0
    rw [e1] at c1
    rw [e2] at c2
    exact ⟨c0, c1, c2⟩
end
end Go.Proofs.YtbmamhcjbhnkiaaGreat
