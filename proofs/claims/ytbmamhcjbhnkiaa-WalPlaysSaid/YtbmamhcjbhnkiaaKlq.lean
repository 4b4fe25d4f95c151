/- Layer 8: the steps of a log's play, as the row of a law hands them. -/
import Derived.Test.YtbmamhcjbhnkiaaKl
import Derived.Test.YtbmamhcjbhnkiaaKyp
namespace Go.Proofs.Ytbmamhcjbhnkiaa
open Go.ChangeShapes Go.WideShapes Go.ChangeAt Go.RowKit

section
variable {H : Type} {enc : TypeId × Value → H} {w : World} {held : Bool}
theorem in_rows_at {P : Program} {t e q : TypeId} {k : IntKind} {v : Value} {n : Nat} {y : DataW H × List MemPlace} (ht : P.underlying t = some (.slice e)) (he : P.underlying e = some (.slice q)) (hq : P.underlying q = some (.int k))
    (ce : P.cellsOf e = 1) (cq : P.cellsOf q = 1)
    (h : DataW.trod enc P w 0 (fun _ => true) held n t [v] = some y) : ∃ a l c A L C Z, v = .slice a l c ∧ IsRows k w a l c A L C Z := by
  have hv : ∃ A L C, v = .slice A L C := by
    rcases DataW.trod_slice ht h with ⟨hcs, _⟩ | ⟨a, len, cap, _, _, _, _, hcs, _⟩
    · exact ⟨none, 0, 0, by simpa using hcs⟩
    · exact ⟨some a, len, cap, by simpa using hcs⟩
  obtain ⟨a, l, c, rfl⟩ := hv
  obtain ⟨A, L, C, Z, hz⟩ := in_rows (a := a) (len := l) (cap := c) (d := y.1) (p := y.2) ht he hq ce cq ⟨n, h⟩
  exact ⟨a, l, c, A, L, C, Z, rfl, hz⟩

theorem in_ops8 {a : Option Addr} {len cap : Nat} {d : DataW H} {p : List MemPlace} (ht : Try.prog.underlying 86 = some (.slice 89))
    (h : DataW.Trod enc Try.prog w 0 (fun _ => true) held 86 (.slice a len cap) d p) : ∃ Y, IsOps8 w a len cap Y := by
  obtain ⟨V, hV, hf⟩ := in_structs ht Try.underlying89 (Deep.hone_of (by kernel_rfl)) (by kernel_rfl) h
  have each : ∀ i, i < len → ∃ o : O8, V i 0 = .int .i64 o.k ∧ V i 1 = .int .i64 o.t ∧ V i 2 = .int .i64 o.n ∧ V i 3 = .slice o.da o.dl o.dc ∧ V i 4 = .slice o.aa o.al o.ac ∧ IsO8 w o := by
    intro i hi
    obtain ⟨n0, y0, h0⟩ := hf i hi 0 _ rfl
    obtain ⟨n1, y1, h1⟩ := hf i hi 1 _ rfl
    obtain ⟨n2, y2, h2⟩ := hf i hi 2 _ rfl
    obtain ⟨n3, y3, h3⟩ := hf i hi 3 _ rfl
    obtain ⟨n4, y4, h4⟩ := hf i hi 4 _ rfl
    obtain ⟨k, e0, _, q0⟩ := DataW.trod_int Try.underlying3 h0
    obtain ⟨t, e1, _, q1⟩ := DataW.trod_int Try.underlying3 h1
    obtain ⟨n, e2, _, q2⟩ := DataW.trod_int Try.underlying3 h2
    obtain ⟨da, dl, dc, dz, e3, q3⟩ := in_row_at Try.underlying22 Try.underlying5 (by kernel_rfl) h3
    obtain ⟨aa, al, ac, A, L, C, Z, e4, q4⟩ := in_rows_at Try.underlying28 Try.underlying22 Try.underlying5 (by kernel_rfl) (by kernel_rfl) h4
    exact ⟨⟨k, t, n, da, dl, dc, dz, aa, al, ac, A, L, C, Z⟩, by simpa using e0, by simpa using e1, by simpa using e2, e3, e4, ⟨q0, q1, q2, q3, q4⟩⟩
  haveI : Inhabited O8 := ⟨⟨0, 0, 0, none, 0, 0, [], none, 0, 0, fun _ => none, fun _ => 0, fun _ => 0, fun _ => []⟩⟩
  obtain ⟨Y, hY⟩ := Deep.choose_lt each
  refine ⟨Y, ?_, fun i hi => (hY i hi).2.2.2.2.2⟩
  rcases hV with h0 | ⟨x, rfl, hl, hm, hc⟩
  · exact .inl h0
  · refine .inr ⟨x, rfl, hl, hm, fun i hi j hj => ?_⟩
    have hc' := hc i hi j hj
    obtain ⟨e0, e1, e2, e3, e4, _⟩ := hY i hi
    match j, hj, hc' with
    | 0, _, hc' => rw [e0] at hc'; exact hc'
    | 1, _, hc' => rw [e1] at hc'; exact hc'
    | 2, _, hc' => rw [e2] at hc'; exact hc'
    | 3, _, hc' => rw [e3] at hc'; exact hc'
    | 4, _, hc' => rw [e4] at hc'; exact hc'
end
end Go.Proofs.Ytbmamhcjbhnkiaa
