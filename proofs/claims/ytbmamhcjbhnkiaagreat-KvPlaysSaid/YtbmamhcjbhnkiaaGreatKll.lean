/- Layer 9 (the great seat): the steps of a play, as the row of a law hands them. -/
import Derived.Test.YtbmamhcjbhnkiaaGreatKlk
import Derived.Test.YtbmamhcjbhnkiaaGreatKzbb
namespace Go.Proofs.YtbmamhcjbhnkiaaGreat
open Go.ChangeShapes Go.WideShapes Go.ChangeAt Go.RowKit

section
variable {H : Type} {enc : TypeId × Value → H} {w : World} {held : Bool}
theorem in_steps_at {v : Value} {n : Nat} {y : DataW H × List MemPlace} (ht : Tryz.prog.underlying 33 = some (.slice 67)) (h : DataW.trod enc Tryz.prog w 0 (fun _ => true) held n 33 [v] = some y) : ∃ A L C Q, v = .slice A L C ∧ IsSteps w A L C Q := by
  have hv : ∃ A L C, v = .slice A L C := by
    rcases DataW.trod_slice ht h with ⟨hcs, _⟩ | ⟨a, len, cap, _, _, _, _, hcs, _⟩
    · exact ⟨none, 0, 0, by simpa using hcs⟩
    · exact ⟨some a, len, cap, by simpa using hcs⟩
  obtain ⟨A, L, C, rfl⟩ := hv
  obtain ⟨Q, hQ⟩ := in_steps (a := A) (len := L) (cap := C) (d := y.1) (p := y.2) ht ⟨n, h⟩
  exact ⟨A, L, C, Q, rfl, hQ⟩

/-- A play that came in. -/
structure IsOps9 (w : World) (a : Option Addr) (len cap : Nat) (O : List O9) : Prop where
  le : len ≤ cap
  cm : cap ≤ 9223372036854775807
  rd : RdO w a len O
  wf : ∀ o ∈ O, (Lit.int .i64 o.k).wf = true ∧ (Lit.int .i64 o.t).wf = true ∧ (Lit.int .i64 o.n).wf = true
theorem in_ops9 {a : Option Addr} {len cap : Nat} {d : DataW H} {p : List MemPlace} (ht : Tryz.prog.underlying 22 = some (.slice 35))
    (h : DataW.Trod enc Tryz.prog w 0 (fun _ => true) held 22 (.slice a len cap) d p) : ∃ O, IsOps9 w a len cap O := by
  obtain ⟨V, hV, hf⟩ := in_structs ht Tryz.underlying35 (Deep.hone_of (by kernel_rfl)) (by kernel_rfl) h
  have each : ∀ i, i < len → ∃ o : O9, V i 0 = .int .i64 o.k ∧ V i 1 = .int .i64 o.t ∧ V i 2 = .int .i64 o.n ∧ V i 3 = .slice o.A o.m o.c ∧ IsSteps w o.A o.m o.c o.Q ∧ (Lit.int .i64 o.k).wf = true ∧ (Lit.int .i64 o.t).wf = true ∧ (Lit.int .i64 o.n).wf = true := by
    intro i hi
    obtain ⟨n0, y0, h0⟩ := hf i hi 0 _ rfl
    obtain ⟨n1, y1, h1⟩ := hf i hi 1 _ rfl
    obtain ⟨n2, y2, h2⟩ := hf i hi 2 _ rfl
    obtain ⟨n3, y3, h3⟩ := hf i hi 3 _ rfl
    obtain ⟨k, e0, _, q0⟩ := DataW.trod_int Tryz.underlying3 h0
    obtain ⟨t, e1, _, q1⟩ := DataW.trod_int Tryz.underlying3 h1
    obtain ⟨n, e2, _, q2⟩ := DataW.trod_int Tryz.underlying3 h2
    obtain ⟨A, L, C, Q, e3, q3⟩ := in_steps_at Tryz.underlying33 h3
    exact ⟨⟨k, t, n, A, L, C, Q⟩, by simpa using e0, by simpa using e1, by simpa using e2, e3, q3, q0, q1, q2⟩
  haveI : Inhabited O9 := ⟨⟨0, 0, 0, none, 0, 0, []⟩⟩
  obtain ⟨Y, hY⟩ := Deep.choose_lt each
  have hlc := hV.len_le
  refine ⟨(List.range len).map Y, ⟨hlc.1, hlc.2, ⟨by simp, fun h0 => ?_, fun o ho => ?_⟩, fun o ho => ?_⟩⟩
  · obtain ⟨b, off, rfl, hc⟩ := hV.place h0 (by decide)
    refine ⟨b, off, rfl, World.block_lt_of_cell? _ _ (hc 0 h0 0 (by decide)), fun j p hp => ?_⟩
    have hj : j < len := by have := (List.getElem?_eq_some_iff.1 hp).1; simpa using this
    obtain rfl : Y j = p := by simpa [List.getElem?_map, List.getElem?_range hj] using hp
    obtain ⟨e0, e1, e2, e3, _⟩ := hY j hj
    have c0 := hc j hj 0 (by decide)
    have c1 := hc j hj 1 (by decide)
    have c2 := hc j hj 2 (by decide)
    have c3 := hc j hj 3 (by decide)
    rw [e0] at c0
    rw [e1] at c1
    rw [e2] at c2
    rw [e3] at c3
    exact ⟨c0, c1, c2, c3⟩
  · obtain ⟨i, hi, rfl⟩ := List.mem_map.1 ho
    exact (hY i (List.mem_range.1 hi)).2.2.2.2.1
  · obtain ⟨i, hi, rfl⟩ := List.mem_map.1 ho
    exact (hY i (List.mem_range.1 hi)).2.2.2.2.2
end
end Go.Proofs.YtbmamhcjbhnkiaaGreat
