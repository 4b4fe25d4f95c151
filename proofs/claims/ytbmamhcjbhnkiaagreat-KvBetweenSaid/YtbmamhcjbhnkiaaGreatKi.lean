/- The arguments as the walks are told of them: slices of whole numbers, slices of such slices. -/
import Derived.Test.YtbmamhcjbhnkiaaGreatKw
import GoSem.Claim
import Derived.WalkKit
namespace Go.Proofs.YtbmamhcjbhnkiaaGreat
open Go.RowKit

/-- A slice of whole numbers that came in: nil; or a row of 'cap' cells, the numbers 'zs', the first 'len' of which are its elements. -/
def IsRow (k : IntKind) (w : World) (a : Option Addr) (len cap : Nat) (zs : List Int) : Prop :=
  (a = none ∧ len = 0 ∧ cap = 0 ∧ zs = []) ∨
  ∃ x, a = some x ∧ len ≤ cap ∧ cap ≤ maxLen ∧ zs.length = cap ∧ (∀ i, i < zs.length → w.cell? (x.add i) = some (.int k (zs.getD i 0))) ∧ ∀ n ∈ zs, (Lit.int k n).wf = true

def IsRows (k : IntKind) (w : World) (a : Option Addr) (len cap : Nat) (A : Nat → Option Addr) (L C : Nat → Nat) (Z : Nat → List Int) : Prop :=
  (a = none ∧ len = 0 ∧ cap = 0) ∨
  ∃ x, a = some x ∧ len ≤ cap ∧ cap ≤ maxLen ∧ ∀ r, r < cap → w.cell? (x.add r) = some (.slice (A r) (L r) (C r)) ∧ IsRow k w (A r) (L r) (C r) (Z r)

def bytesOf (zs : List Int) (len : Nat) : List UInt8 := (zs.take len).map fun n => UInt8.ofNat n.toNat

theorem IsRow.len_le {k : IntKind} {w : World} {a : Option Addr} {len cap : Nat} {zs : List Int} (h : IsRow k w a len cap zs) : len ≤ 9223372036854775807 := by
  rcases h with ⟨rfl, rfl, rfl, rfl⟩ | ⟨x, rfl, hl, hm, _⟩
  · omega
  · unfold maxLen at hm; omega
theorem IsRows.len_le {k : IntKind} {w : World} {a : Option Addr} {len cap : Nat} {A L C Z} (h : IsRows k w a len cap A L C Z) : len ≤ 9223372036854775807 := by
  rcases h with ⟨rfl, rfl, rfl⟩ | ⟨x, rfl, hl, hm, _⟩
  · omega
  · unfold maxLen at hm; omega

theorem IsRow.cap_le {k : IntKind} {w : World} {a : Option Addr} {len cap : Nat} {zs : List Int} (h : IsRow k w a len cap zs) : len ≤ cap ∧ cap ≤ 9223372036854775807 := by
  rcases h with ⟨rfl, rfl, rfl, rfl⟩ | ⟨x, rfl, hl, hm, _⟩
  · omega
  · unfold maxLen at hm; omega
theorem IsRows.cap_le {k : IntKind} {w : World} {a : Option Addr} {len cap : Nat} {A L C Z} (h : IsRows k w a len cap A L C Z) : len ≤ cap ∧ cap ≤ 9223372036854775807 := by
  rcases h with ⟨rfl, rfl, rfl⟩ | ⟨x, rfl, hl, hm, _⟩
  · omega
  · unfold maxLen at hm; omega

theorem add_off (b off : Nat) (i : Nat) : (⟨b, off, none⟩ : Addr).add i = ⟨b, off + i, none⟩ := by unfold Addr.add; split <;> simp_all

/-- A row's address, where it has an element. -/
theorem IsRow.place {k : IntKind} {w : World} {a : Option Addr} {len cap : Nat} {zs : List Int} (h : IsRow k w a len cap zs) (h0 : 0 < len) :
    ∃ b off, a = some ⟨b, off, none⟩ ∧ len ≤ zs.length ∧ (∀ i, i < zs.length → w.cell? ⟨b, off + i, none⟩ = some (.int k (zs.getD i 0))) ∧ ∀ n ∈ zs, (Lit.int k n).wf = true := by
  rcases h with ⟨rfl, rfl, rfl, rfl⟩ | ⟨x, rfl, hl, hm, hz, hcell, hw⟩
  · omega
  · obtain ⟨b, off, spot⟩ := x
    have hc := hcell 0 (by omega)
    have hs : spot = none := by simpa [Addr.add] using World.cell?_spot hc
    subst hs
    exact ⟨b, off, rfl, by omega, fun i hi => by rw [← add_off]; exact hcell i hi, hw⟩

theorem IsRow.rdBn {w : World} {a : Option Addr} {len' cap : Nat} {zs : List Int} (h : IsRow .u8 w a len' cap zs) {len : Nat} (hn : len ≤ len') (hle : len ≤ 140737488355328) : RdB w a len (bytesOf zs len) := by
  rcases Nat.eq_zero_or_pos len with rfl | h0
  · simpa [bytesOf] using RdB.nil w a
  · obtain ⟨b, off, rfl, hl, hc, hw⟩ := h.place (by omega)
    refine ⟨by simp [bytesOf]; omega, hle, fun _ => ⟨b, off, rfl, fun j u hu => ?_⟩⟩
    have hj : j < (bytesOf zs len).length := (List.getElem?_eq_some_iff.1 hu).1
    have hjl : j < len := by simp [bytesOf] at hj; omega
    rw [hc j (by omega)]
    have hz : zs.getD j 0 = zs[j]'(by omega) := by simp [List.getD_eq_getElem?_getD, List.getElem?_eq_getElem (show j < zs.length by omega)]
    have hwf := hw _ (List.getElem_mem (show j < zs.length by omega))
    simp only [Lit.wf, Bool.and_eq_true, decide_eq_true_eq] at hwf
    have hmin : IntKind.u8.min = 0 := rfl
    have hmax : IntKind.u8.max = 255 := rfl
    rw [hmin, hmax] at hwf
    have hu' : u = UInt8.ofNat (zs[j]'(by omega)).toNat := by
      have := hu
      simp only [bytesOf, List.getElem?_map, List.getElem?_take, if_pos hjl, List.getElem?_eq_getElem (show j < zs.length by omega), Option.map_some, Option.some.injEq] at this
      exact this.symm
    rw [hz, hu']
    simp only [bv, UInt8.toNat_ofNat']
    congr 2
    omega

theorem IsRow.rdB {w : World} {a : Option Addr} {len cap : Nat} {zs : List Int} (h : IsRow .u8 w a len cap zs) (hle : len ≤ 140737488355328) : RdB w a len (bytesOf zs len) := h.rdBn (Nat.le_refl _) hle

theorem bytesOf_length {k : IntKind} {w : World} {a : Option Addr} {len cap : Nat} {zs : List Int} (h : IsRow k w a len cap zs) : (bytesOf zs len).length = len := by
  rcases Nat.eq_zero_or_pos len with rfl | h0
  · simp [bytesOf]
  · obtain ⟨b, off, rfl, hl, _⟩ := h.place h0
    simp [bytesOf]; omega

/-- The rows' bytes. -/
def rowsOf (L : Nat → Nat) (Z : Nat → List Int) (n : Nat) : List (List UInt8) := (List.range n).map fun r => bytesOf (Z r) (L r)
theorem rowsOf_length (L : Nat → Nat) (Z : Nat → List Int) (n : Nat) : (rowsOf L Z n).length = n := by simp [rowsOf]
theorem rowsOf_succ (L : Nat → Nat) (Z : Nat → List Int) (n : Nat) : rowsOf L Z (n + 1) = rowsOf L Z n ++ [bytesOf (Z n) (L n)] := by simp [rowsOf, List.range_succ]
theorem rowsOf_take (L : Nat → Nat) (Z : Nat → List Int) (n k : Nat) (h : k ≤ n) : (rowsOf L Z n).take k = rowsOf L Z k := by
  simp only [rowsOf, ← List.map_take, List.take_range]; rw [Nat.min_eq_left h]

theorem IsRows.place {k : IntKind} {w : World} {a : Option Addr} {len cap : Nat} {A L C Z} (h : IsRows k w a len cap A L C Z) (h0 : 0 < len) :
    ∃ b off, a = some ⟨b, off, none⟩ ∧ ∀ r, r < len → w.cell? ⟨b, off + r, none⟩ = some (.slice (A r) (L r) (C r)) ∧ IsRow k w (A r) (L r) (C r) (Z r) := by
  rcases h with ⟨rfl, rfl, rfl⟩ | ⟨x, rfl, hl, hm, hr⟩
  · omega
  · obtain ⟨b, off, spot⟩ := x
    have hc := (hr 0 (by omega)).1
    have hs : spot = none := by simpa [Addr.add] using World.cell?_spot hc
    subst hs
    exact ⟨b, off, rfl, fun r hr' => by rw [← add_off]; exact hr r (by omega)⟩

/-- The first n rows, if each of them is short. -/
theorem IsRows.rdL {w : World} {a : Option Addr} {len cap : Nat} {A L C Z} (h : IsRows .u8 w a len cap A L C Z) (n : Nat) (hn : n ≤ len) (hle : n ≤ 140737488355328) (hL : ∀ r, r < n → L r ≤ 140737488355328) : RdL w a n (rowsOf L Z n) :=
  ⟨rowsOf_length _ _ _, hle, fun h0 => by
    obtain ⟨b, off, rfl, hr⟩ := h.place (by omega)
    refine ⟨b, off, rfl, fun j l hl => ?_⟩
    have hj : j < n := by have := (List.getElem?_eq_some_iff.1 hl).1; rwa [rowsOf_length] at this
    obtain ⟨h1, h2⟩ := hr j (by omega)
    refine ⟨_, _, _, h1, ?_⟩
    have : l = bytesOf (Z j) (L j) := by simpa [rowsOf, List.getElem?_map, List.getElem?_range hj] using hl.symm
    subst this
    exact h2.rdB (hL j hj)⟩

/-- A slice of structs, each of so many cells of one value: element i's field j holds V i j. -/
def IsStr (w : World) (a : Option Addr) (len cap size : Nat) (V : Nat → Nat → Value) : Prop :=
  (a = none ∧ len = 0 ∧ cap = 0) ∨
  ∃ x, a = some x ∧ len ≤ cap ∧ cap ≤ maxLen ∧ ∀ i, i < len → ∀ j, j < size → w.cell? (x.add (i * size + j)) = some (V i j)
theorem IsStr.len_le {w : World} {a : Option Addr} {len cap size : Nat} {V} (h : IsStr w a len cap size V) : len ≤ cap ∧ cap ≤ 9223372036854775807 := by
  rcases h with ⟨rfl, rfl, rfl⟩ | ⟨x, rfl, hl, hm, _⟩
  · omega
  · unfold maxLen at hm; omega
theorem IsStr.place {w : World} {a : Option Addr} {len cap size : Nat} {V} (h : IsStr w a len cap size V) (h0 : 0 < len) (hs : 0 < size) :
    ∃ b off, a = some ⟨b, off, none⟩ ∧ ∀ i, i < len → ∀ j, j < size → w.cell? ⟨b, off + (i * size + j), none⟩ = some (V i j) := by
  rcases h with ⟨rfl, rfl, rfl⟩ | ⟨x, rfl, hl, hm, hr⟩
  · omega
  · obtain ⟨b, off, spot⟩ := x
    have hc := hr 0 h0 0 hs
    have hsn : spot = none := by simpa [Addr.add] using World.cell?_spot hc
    subst hsn
    exact ⟨b, off, rfl, fun i hi j hj => by rw [← add_off]; exact hr i hi j hj⟩

/-- The steps of a disk's play, as they came in. -/
def IsOps (w : World) (a : Option Addr) (len cap : Nat) (K T N : Nat → Int) (A : Nat → Option Addr) (L C : Nat → Nat) (Z : Nat → List Int) : Prop :=
  IsStr w a len cap 4 (fun i j => match j with | 0 => .int .i64 (K i) | 1 => .int .i64 (T i) | 2 => .int .i64 (N i) | _ => .slice (A i) (L i) (C i)) ∧
  ∀ i, i < len → (Lit.int .i64 (K i)).wf = true ∧ (Lit.int .i64 (T i)).wf = true ∧ (Lit.int .i64 (N i)).wf = true ∧ IsRow .u8 w (A i) (L i) (C i) (Z i)
end Go.Proofs.YtbmamhcjbhnkiaaGreat
