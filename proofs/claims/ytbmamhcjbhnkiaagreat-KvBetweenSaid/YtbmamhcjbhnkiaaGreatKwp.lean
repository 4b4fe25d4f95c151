/- Layer 8, plain: a log on a disk's bytes. No Go in it. -/
import Derived.Test.YtbmamhcjbhnkiaaGreatKp
import Derived.Test.YtbmamhcjbhnkiaaGreatKm
namespace Go.Proofs.YtbmamhcjbhnkiaaGreat

namespace Wal
def slc (H : List UInt8) (p n : Nat) : List UInt8 := (H.drop p).take n
theorem slc_length {H : List UInt8} {p n : Nat} (h : p + n ≤ H.length) : (slc H p n).length = n := by simp [slc]; omega
theorem slc_slc {H : List UInt8} {p n q m : Nat} (h : q + m ≤ n) : slc (slc H p n) q m = slc H (p + q) m := by
  simp only [slc, List.drop_take, List.take_take, List.drop_drop]
  congr 1; omega
theorem slc_get {H : List UInt8} {p n i : Nat} (h : i < n) : (slc H p n)[i]? = H[p + i]? := by
  simp [slc, List.getElem?_take, h, List.getElem?_drop]
theorem slc_all (H : List UInt8) : slc H 0 H.length = H := by simp [slc]

/-- A record's sum, and its bytes. -/
def sumOf (gen p : Nat) (b : List UInt8) : Nat := Crc.sum (Crc.four gen ++ Crc.four p ++ Crc.four b.length ++ b)
theorem sumOf_lt (gen p : Nat) (b : List UInt8) : sumOf gen p b < 4294967296 := Crc.sum_lt _
def recOf (gen p : Nat) (b : List UInt8) (m : UInt8) : List UInt8 := Crc.four b.length ++ Crc.four (sumOf gen p b) ++ [m] ++ b
theorem recOf_length (gen p : Nat) (b : List UInt8) (m : UInt8) : (recOf gen p b m).length = 9 + b.length := by simp [recOf, Crc.four_length]; omega

/-- A half's generation; 0: it doesn't count. -/
def genOf (H : List UInt8) : Nat := if H[8]? ≠ some 1 ∨ Crc.get (slc H 4 4) ≠ Crc.sum (slc H 0 4) ∨ 2147483647 < Crc.get (slc H 0 4) then 0 else Crc.get (slc H 0 4)
theorem genOf_le (H : List UInt8) : genOf H ≤ 2147483647 := by unfold genOf; split <;> omega

/-- The record at a place of a half, if it is there. -/
def next (H : List UInt8) (gen p : Nat) : Option (List UInt8) :=
  if H.length < p + 9 then none
  else if Crc.get (slc H p 4) < 1 ∨ 65536 < Crc.get (slc H p 4) ∨ H.length < p + 9 + Crc.get (slc H p 4) ∨ H[p + 8]? ≠ some 1 then none
  else if Crc.four (sumOf gen p (slc H (p + 9) (Crc.get (slc H p 4)))) = slc H (p + 4) 4 then some (slc H (p + 9) (Crc.get (slc H p 4))) else none

theorem next_some {H : List UInt8} {gen p : Nat} {b : List UInt8} (h : next H gen p = some b) : 1 ≤ b.length ∧ b.length ≤ 65536 ∧ p + 9 + b.length ≤ H.length := by
  unfold next at h
  split at h
  · cases h
  · split at h
    · cases h
    · split at h
      · injection h with h
        subst h
        rename_i h1 h2 _
        rw [slc_length (by omega)]
        omega
      · cases h

/-- All records from a place on, and where they end. -/
def scan (H : List UInt8) (gen : Nat) : Nat → Nat → List (List UInt8) × Nat
  | 0, p => ([], p)
  | f + 1, p => match next H gen p with
    | none => ([], p)
    | some b => (b :: (scan H gen f (p + 9 + b.length)).1, (scan H gen f (p + 9 + b.length)).2)

/-- More fuel than bytes makes no difference. -/
theorem scan_fuel (H : List UInt8) (gen : Nat) : ∀ (f f' p : Nat), H.length ≤ p + f → H.length ≤ p + f' → scan H gen f p = scan H gen f' p := by
  intro f
  induction f with
  | zero =>
    intro f' p h1 h2
    cases f' with
    | zero => rfl
    | succ f' =>
      have : next H gen p = none := by unfold next; rw [if_pos (by omega)]
      simp [scan, this]
  | succ f ih =>
    intro f' p h1 h2
    cases f' with
    | zero =>
      have : next H gen p = none := by unfold next; rw [if_pos (by omega)]
      simp [scan, this]
    | succ f' =>
      cases hn : next H gen p with
      | none => simp [scan, hn]
      | some b =>
        have := next_some hn
        simp only [scan, hn]
        rw [ih f' (p + 9 + b.length) (by omega) (by omega)]

/-- Records, one behind the other, from a place on. -/
def laid (gen : Nat) : Nat → List (List UInt8) → List UInt8
  | _, [] => []
  | p, b :: r => recOf gen p b 1 ++ laid gen (p + 9 + b.length) r
def cost : List (List UInt8) → Nat
  | [] => 0
  | b :: r => 9 + b.length + cost r
theorem laid_length (gen : Nat) : ∀ (l : List (List UInt8)) (p : Nat), (laid gen p l).length = cost l
  | [], _ => rfl
  | b :: r, p => by rw [laid, List.length_append, recOf_length, laid_length gen r, cost]
theorem cost_snoc (l : List (List UInt8)) (b : List UInt8) : cost (l ++ [b]) = cost l + (9 + b.length) := by
  induction l with
  | nil => simp [cost]
  | cons a l ih => simp only [List.cons_append, cost, ih]; omega
theorem laid_snoc (gen : Nat) : ∀ (l : List (List UInt8)) (p : Nat) (b : List UInt8), laid gen p (l ++ [b]) = laid gen p l ++ recOf gen (p + cost l) b 1
  | [], p, b => by simp [laid, cost]
  | a :: l, p, b => by
    rw [List.cons_append, laid, laid_snoc gen l, laid, cost, List.append_assoc]
    congr 3; omega

/-- A record may be of such a length. -/
def Fit (b : List UInt8) : Prop := 1 ≤ b.length ∧ b.length ≤ 65536

theorem slc_at (a b c : List UInt8) : slc (a ++ b ++ c) a.length b.length = b := by
  simp [slc, List.append_assoc]
theorem slc_at' {a b c H : List UInt8} {p n : Nat} (h : H = a ++ b ++ c) (hp : p = a.length) (hn : n = b.length) : slc H p n = b := by subst h hp hn; exact slc_at a b c

/-- What stands where a record was written is that record. -/
theorem next_rec {H pre post : List UInt8} {gen : Nat} {b : List UInt8} (hb : Fit b) (h : H = pre ++ recOf gen pre.length b 1 ++ post) : next H gen pre.length = some b := by
  have hl : H.length = pre.length + (9 + b.length) + post.length := by rw [h]; simp [recOf_length]; omega
  have e0 : slc H pre.length 4 = Crc.four b.length := slc_at' (a := pre) (b := Crc.four b.length) (c := Crc.four (sumOf gen pre.length b) ++ [1] ++ b ++ post) (by rw [h]; simp [recOf, List.append_assoc]) rfl rfl
  have e1 : slc H (pre.length + 4) 4 = Crc.four (sumOf gen pre.length b) := slc_at' (a := pre ++ Crc.four b.length) (b := Crc.four (sumOf gen pre.length b)) (c := [1] ++ b ++ post) (by rw [h]; simp [recOf, List.append_assoc]) (by simp [Crc.four_length]) rfl
  have e2 : slc H (pre.length + 9) b.length = b := slc_at' (a := pre ++ Crc.four b.length ++ Crc.four (sumOf gen pre.length b) ++ [1]) (b := b) (c := post) (by rw [h]; simp [recOf, List.append_assoc]) (by simp [Crc.four_length]) rfl
  have e3 : H[pre.length + 8]? = some 1 := by
    rw [h, show pre ++ recOf gen pre.length b 1 ++ post = (pre ++ Crc.four b.length ++ Crc.four (sumOf gen pre.length b)) ++ (1 :: (b ++ post)) by simp [recOf, List.append_assoc],
      List.getElem?_append_right (by simp [Crc.four_length])]
    simp [Crc.four_length]
  have hn : Crc.get (Crc.four b.length) = b.length := Crc.get_four (by have := hb.2; omega)
  unfold next
  have h1 := hb.1
  have h2 := hb.2
  have c2 : ¬ (b.length < 1 ∨ 65536 < b.length ∨ H.length < pre.length + 9 + b.length ∨ H[pre.length + 8]? ≠ some 1) := by
    rintro (h | h | h | h)
    · omega
    · omega
    · omega
    · exact h e3
  rw [if_neg (by omega), e0, hn, if_neg c2, e2, e1, if_pos rfl]

/-- Where no record can be read. -/
def Stop (H : List UInt8) (p : Nat) : Prop := H.length < p + 9 ∨ H[p + 8]? ≠ some 1
theorem Stop.next {H : List UInt8} {p : Nat} (h : Stop H p) (gen : Nat) : next H gen p = none := by
  unfold Wal.next
  rcases h with h | h
  · rw [if_pos h]
  · split
    · rfl
    · rw [if_pos (.inr (.inr (.inr h)))]

theorem scan_laid {gen : Nat} : ∀ (l : List (List UInt8)) (H pre post : List UInt8) (f : Nat), (∀ b ∈ l, Fit b) → H = pre ++ laid gen pre.length l ++ post → Stop H (pre.length + cost l) → H.length ≤ pre.length + f →
    scan H gen f pre.length = (l, pre.length + cost l)
  | [], H, pre, post, f, _, _, hs, _ => by
    rw [cost, Nat.add_zero] at hs
    cases f with
    | zero => rfl
    | succ f => simp [scan, hs.next, cost]
  | b :: l, H, pre, post, f, hf, hH, hs, hlen => by
    have hb := hf b (by simp)
    have hn : next H gen pre.length = some b := next_rec hb (post := laid gen (pre.length + 9 + b.length) l ++ post) (by rw [hH, laid]; simp [List.append_assoc])
    have h9 := next_some hn
    cases f with
    | zero => omega
    | succ f =>
      have hp : (pre ++ recOf gen pre.length b 1).length = pre.length + 9 + b.length := by rw [List.length_append, recOf_length]; omega
      have ih := scan_laid (gen := gen) l H (pre ++ recOf gen pre.length b 1) post f (fun c hc => hf c (by simp [hc])) (by rw [hH, laid, hp]; simp [List.append_assoc]) (by rw [hp]; rw [cost] at hs; rw [show pre.length + 9 + b.length + cost l = pre.length + (9 + b.length + cost l) by omega]; exact hs) (by rw [hp]; omega)
      rw [hp] at ih
      simp only [scan, hn, ih, cost]
      congr 1; omega
end Wal
end Go.Proofs.YtbmamhcjbhnkiaaGreat
