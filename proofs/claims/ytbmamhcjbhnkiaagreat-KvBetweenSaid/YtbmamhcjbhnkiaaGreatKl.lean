/- What the rows of all laws share: the arguments as the walks are told of them. -/
import Derived.Test.YtbmamhcjbhnkiaaGreatRows
import Derived.Test.YtbmamhcjbhnkiaaGreatKw
import Derived.ProofKit
import Derived.OpenShut
import Derived.ShutString
import Derived.ChangeOld
import Derived.Below
import Derived.Deep.Matrix
import Derived.Deep.Fields
import Derived.Test.YtbmamhcjbhnkiaaGreatKi
namespace Go.Proofs.YtbmamhcjbhnkiaaGreat
open Go.ChangeShapes Go.WideShapes Go.ChangeAt Go.RowKit

theorem own_ : ownKnob Tryz.prog.godebug = none := by kernel_rfl
theorem laidOut_ : laidOutB Tryz.prog = true := by kernel_rfl

section
variable {H : Type} {enc : TypeId × Value → H} {P : Program} {w : World} {held : Bool}

theorem in_row {t e : TypeId} {k : IntKind} {a : Option Addr} {len cap : Nat} {d : DataW H} {p : List MemPlace} (ht : P.underlying t = some (.slice e)) (he : P.underlying e = some (.int k)) (hc : P.cellsOf e = 1)
    (h : DataW.Trod enc P w 0 (fun _ => true) held t (.slice a len cap) d p) : ∃ zs, IsRow k w a len cap zs := by
  obtain ⟨fuel, hf⟩ := h
  rcases open_ints ht he hc hf with ⟨hcs, _⟩ | ⟨x, l, c, zs, hcs, _, hl, hm, hz, _, hcell, hwz⟩
  · simp [Value.cells] at hcs
    obtain ⟨rfl, rfl, rfl⟩ := hcs
    exact ⟨[], .inl ⟨rfl, rfl, rfl, rfl⟩⟩
  · simp [Value.cells] at hcs
    obtain ⟨rfl, rfl, rfl⟩ := hcs
    exact ⟨zs, .inr ⟨_, rfl, hl, hm, by simpa using hz, hcell, hwz⟩⟩

theorem in_rows {t e q : TypeId} {k : IntKind} {a : Option Addr} {len cap : Nat} {d : DataW H} {p : List MemPlace} (ht : P.underlying t = some (.slice e)) (he : P.underlying e = some (.slice q)) (hq : P.underlying q = some (.int k))
    (ce : P.cellsOf e = 1) (cq : P.cellsOf q = 1)
    (h : DataW.Trod enc P w 0 (fun _ => true) held t (.slice a len cap) d p) : ∃ A L C Z, IsRows k w a len cap A L C Z := by
  obtain ⟨fuel, hf⟩ := h
  rcases Deep.open_int_rows ht he hq ce cq hf with ⟨hcs, _⟩ | ⟨x, l, c, A, L, C, Z, hcs, _, hl, hm, _, hr⟩
  · simp [Value.cells] at hcs
    obtain ⟨rfl, rfl, rfl⟩ := hcs
    exact ⟨fun _ => none, fun _ => 0, fun _ => 0, fun _ => [], .inl ⟨rfl, rfl, rfl⟩⟩
  · simp [Value.cells] at hcs
    obtain ⟨rfl, rfl, rfl⟩ := hcs
    refine ⟨A, L, C, Z, .inr ⟨_, rfl, hl, hm, fun r hr' => ?_⟩⟩
    obtain ⟨h1, h2, h3, h4, h5, h6, h7⟩ := hr r hr'
    refine ⟨h1, ?_⟩
    cases hA : A r with
    | none =>
      have hC := h6 hA
      refine .inl ⟨rfl, by omega, hC, List.eq_nil_of_length_eq_zero (by omega)⟩
    | some x' =>
      obtain ⟨_, h8⟩ := h7 x' hA
      exact .inr ⟨x', rfl, h2, h3, h4, fun i hi => h8 i (by omega), h5⟩

open Go.Deep in
theorem in_structs {t e : TypeId} {fs : Array Field} {a : Option Addr} {len cap : Nat} {d : DataW H} {p : List MemPlace} (ht : P.underlying t = some (.slice e)) (he : P.underlying e = some (.struct fs))
    (hone : ∀ (i : Nat) (f : Field), fs[i]? = some f → f.offset = i ∧ P.cellsOf f.type = 1) (hC : P.cellsOf e = fs.size)
    (h : DataW.Trod enc P w 0 (fun _ => true) held t (.slice a len cap) d p) :
    ∃ V : Nat → Nat → Value, IsStr w a len cap fs.size V ∧ ∀ i, i < len → ∀ (j : Nat) (f : Field), fs[j]? = some f → ∃ n y, DataW.trod enc P w 0 (fun _ => true) held n f.type [V i j] = some y := by
  obtain ⟨fuel, hf⟩ := h
  rcases open_slice ht hf with ⟨hcs, _⟩ | ⟨x, l, c, m, n, D, Pl, hcs, _, hl, hm, hmm, _, hx⟩
  · simp [Value.cells] at hcs
    obtain ⟨rfl, rfl, rfl⟩ := hcs
    exact ⟨fun _ _ => undef, .inl ⟨rfl, rfl, rfl⟩, fun i hi => by omega⟩
  · simp [Value.cells] at hcs
    obtain ⟨rfl, rfl, rfl⟩ := hcs
    simp only [if_true] at hmm
    subst hmm
    have each : ∀ i, i < len → ∃ V : Nat → Value, (∀ j, j < fs.size → w.cell? (x.add (i * fs.size + j)) = some (V j)) ∧ ∀ (j : Nat) (f : Field), fs[j]? = some f → ∃ n y, DataW.trod enc P w 0 (fun _ => true) held n f.type [V j] = some y := by
      intro i hi
      obtain ⟨cs', h1, h2⟩ := hx i (by omega)
      rw [hC] at h1
      obtain ⟨_, hlen, hcell⟩ := World.cells?_some h1
      obtain ⟨xs, k, _, _, _, hxl, hf⟩ := DataW.trod_struct he h2
      refine ⟨fun j => cs'.getD j undef, fun j hj => ?_, fun j f hj => ?_⟩
      · have := hcell j hj
        rw [add_add, List.getElem?_eq_getElem (by omega)] at this
        rw [this]
        simp [List.getD, List.getElem?_eq_getElem (show j < cs'.length by omega)]
      · have hlt : j < fs.size := (Array.getElem?_eq_some_iff.1 hj).1
        obtain ⟨ho, hc1⟩ := hone j f hj
        have g := hf j f hj
        have hj' : j < cs'.length := by omega
        have hd : (cs'.drop j).take 1 = [cs'.getD j undef] := by rw [List.drop_eq_getElem_cons hj', List.take_succ_cons, List.take_zero]; simp [List.getD, List.getElem?_eq_getElem hj']
        rw [ho, hc1, hd, List.getElem?_eq_getElem (by omega)] at g
        exact ⟨_, _, g⟩
    obtain ⟨V, hV⟩ := choose_lt each
    exact ⟨V, .inr ⟨x, rfl, hl, hm, fun i hi j hj => (hV i hi).1 j hj⟩, fun i hi j f hf => (hV i hi).2 j f hf⟩
end

section
variable {H : Type} {enc : TypeId × Value → H} {w : World} {held : Bool}
theorem in_row_at {P : Program} {t e : TypeId} {k : IntKind} {v : Value} {n : Nat} {y : DataW H × List MemPlace} (ht : P.underlying t = some (.slice e)) (he : P.underlying e = some (.int k)) (hc : P.cellsOf e = 1)
    (h : DataW.trod enc P w 0 (fun _ => true) held n t [v] = some y) : ∃ A L C zs, v = .slice A L C ∧ IsRow k w A L C zs := by
  have hv : ∃ A L C, v = .slice A L C := by
    rcases DataW.trod_slice ht h with ⟨hcs, _⟩ | ⟨a, len, cap, _, _, _, _, hcs, _⟩
    · exact ⟨none, 0, 0, by simpa using hcs⟩
    · exact ⟨some a, len, cap, by simpa using hcs⟩
  obtain ⟨A, L, C, rfl⟩ := hv
  obtain ⟨zs, hz⟩ := in_row (a := A) (len := L) (cap := C) (d := y.1) (p := y.2) ht he hc ⟨n, h⟩
  exact ⟨A, L, C, zs, rfl, hz⟩

end
end Go.Proofs.YtbmamhcjbhnkiaaGreat
