/- Words on worlds for the walks: what a call keeps; a slice of bytes that is read. -/
import Derived.WalkKit
import Derived.Lib.Hide
import Derived.Deep.Draws
namespace Go.Proofs.YtbmamhcjbhnkiaaGreat
open Go.RowKit

/-- Of the blocks that were there, w' has all as they were but for those of S. -/
structure Keeps (S : Nat → Prop) (w w' : World) : Prop where
  os : w'.os = w.os
  tape : w'.tape = w.tape
  output : w'.output = w.output
  size : w.heap.size ≤ w'.heap.size
  block : ∀ k, k < w.heap.size → ¬ S k → w'.heap[k]? = w.heap[k]?

abbrev Non : Nat → Prop := fun _ => False

theorem Keeps.refl (S : Nat → Prop) (w : World) : Keeps S w w := ⟨rfl, rfl, rfl, Nat.le_refl _, fun _ _ _ => rfl⟩
theorem Keeps.mono {S T : Nat → Prop} {w w' : World} (h : Keeps S w w') (hs : ∀ k, k < w.heap.size → S k → T k) : Keeps T w w' :=
  ⟨h.os, h.tape, h.output, h.size, fun k hk ht => h.block k hk fun hk' => ht (hs k hk hk')⟩
theorem Keeps.trans {S : Nat → Prop} {a b c : World} (h : Keeps S a b) (k : Keeps S b c) : Keeps S a c :=
  ⟨k.os.trans h.os, k.tape.trans h.tape, k.output.trans h.output, Nat.le_trans h.size k.size, fun i hi hn => (k.block i (Nat.lt_of_lt_of_le hi h.size) hn).trans (h.block i hi hn)⟩
theorem Keeps.into {S T : Nat → Prop} {a b c : World} (h : Keeps T a b) (k : Keeps S b c) (hs : ∀ k, k < a.heap.size → S k → T k) : Keeps T a c :=
  ⟨k.os.trans h.os, k.tape.trans h.tape, k.output.trans h.output, Nat.le_trans h.size k.size, fun i hi hn => (k.block i (Nat.lt_of_lt_of_le hi h.size) (fun hS => hn (hs i hi hS))).trans (h.block i hi hn)⟩
theorem Keeps.alloc {S : Nat → Prop} {a b : World} (h : Keeps S a b) (o : Obj) : Keeps S a (b.alloc o) :=
  h.trans ⟨rfl, rfl, rfl, by simp, fun k hk _ => Below.heap_alloc _ _ _ hk⟩
theorem Keeps.setCell {S : Nat → Prop} {a b : World} (h : Keeps S a b) {p : Addr} (hp : p.block < a.heap.size → S p.block) (u : Value) : Keeps S a (b.setCell p u) :=
  ⟨h.os, h.tape, h.output, by simpa [World.setCell] using h.size, fun k hk hn => (Below.heap_setCell _ _ _ _ (fun e => hn (by subst e; exact hp hk))).trans (h.block k hk hn)⟩
theorem Keeps.set1 {p : Nat} {a b : World} (h : Keeps (fun k => k = p) a b) (i : Nat) (u : Value) : Keeps (fun k => k = p) a (b.setCell ⟨p, i, none⟩ u) := h.setCell (fun _ => rfl) u
theorem Keeps.drew {S : Nat → Prop} {a b : World} (h : Keeps S a b) : Keeps S a b.drew := ⟨h.os, h.tape, h.output, h.size, h.block⟩
theorem Keeps.drewN {S : Nat → Prop} {a b : World} (h : Keeps S a b) (n : Nat) : Keeps S a (b.drewN n) := ⟨h.os, h.tape, h.output, h.size, h.block⟩
theorem Keeps.below {S : Nat → Prop} {a b : World} (h : Keeps S a b) {B : Nat} (hB : B ≤ a.heap.size) (hs : ∀ k, k < a.heap.size → S k → B ≤ k) : Below B a b :=
  ⟨h.os, h.tape, h.output, h.size, fun k hk => h.block k (by omega) fun hS => by have := hs k (by omega) hS; omega⟩
theorem Keeps.none_below {a b : World} (h : Keeps Non a b) : Below a.heap.size a b := h.below (Nat.le_refl _) fun _ _ h => h.elim
theorem Keeps.of_below {S : Nat → Prop} {a b : World} (h : Below a.heap.size a b) : Keeps S a b := ⟨h.os, h.tape, h.output, h.size, fun k hk _ => h.block k hk⟩
theorem Keeps.of_below' {S : Nat → Prop} {a b : World} {B : Nat} (h : Below B a b) (hs : ∀ k, k < a.heap.size → B ≤ k → S k) : Keeps S a b :=
  ⟨h.os, h.tape, h.output, h.size, fun k hk hn => h.block k (Nat.lt_of_not_le fun hB => hn (hs k hk hB))⟩
theorem Keeps.of_grown {a b : World} {row : Option Nat} (h : a.grownBy b row) : Keeps (fun k => some k = row) a b := ⟨h.os, h.tape, h.output, h.size, fun k hk hn => h.block k hk hn⟩
theorem Keeps.none_grown {S : Nat → Prop} {a b : World} (h : a.grownBy b none) : Keeps S a b := ⟨h.os, h.tape, h.output, h.size, fun k hk _ => h.block k hk (by simp)⟩
theorem Keeps.grown {a b : World} (h : Keeps Non a b) (row : Option Nat) : a.grownBy b row := ⟨h.os, h.tape, h.output, h.size, fun k hk _ => h.block k hk id⟩
theorem Keeps.cell {S : Nat → Prop} {a b : World} (h : Keeps S a b) {p : Addr} {v : Value} (hc : a.cell? p = some v) (hn : ¬ S p.block) : b.cell? p = some v :=
  (World.cell?_of_block (h.block p.block (World.block_lt_of_cell? a p hc) hn)).trans hc
theorem Keeps.at_ {S : Nat → Prop} {a b : World} (h : Keeps S a b) {k : Nat} {o : Obj} (hc : a.heap[k]? = some o) (hn : ¬ S k) : b.heap[k]? = some o :=
  (h.block k (Array.getElem?_eq_some_iff.1 hc).1 hn).trans hc

theorem ret_int {k : IntKind} {a b : Int} (h : a = b) : Ending.returned (.int k a) = .returned (.int k b) := by rw [h]
theorem ret_bool {a b : Bool} (h : a = b) : Ending.returned (.bool a) = .returned (.bool b) := by rw [h]

/-- A byte in a cell. -/
abbrev bv (b : UInt8) : Value := .int .u8 (b.toNat : Int)

/-- The slice at A of n elements reads as these bytes. -/
structure RdB (w : World) (A : Option Addr) (n : Nat) (l : List UInt8) : Prop where
  len : l.length = n
  le : n ≤ 140737488355328
  cells : 0 < n → ∃ b off, A = some ⟨b, off, none⟩ ∧ ∀ j u, l[j]? = some u → w.cell? ⟨b, off + j, none⟩ = some (bv u)

theorem RdB.keep {S : Nat → Prop} {w w' : World} {A : Option Addr} {n : Nat} {l : List UInt8} (h : RdB w A n l) (hk : Keeps S w w') (hA : 0 < n → ∀ a, A = some a → ¬ S a.block) : RdB w' A n l :=
  ⟨h.len, h.le, fun hn => by
    obtain ⟨b, off, e, hc⟩ := h.cells hn
    exact ⟨b, off, e, fun j u hu => hk.cell (hc j u hu) (hA hn ⟨b, off, none⟩ e)⟩⟩
theorem RdB.keepN {w w' : World} {A : Option Addr} {n : Nat} {l : List UInt8} (h : RdB w A n l) (hk : Keeps Non w w') : RdB w' A n l := h.keep hk fun _ _ _ h => h
theorem RdB.old {w : World} {A : Option Addr} {n : Nat} {l : List UInt8} (h : RdB w A n l) (h0 : 0 < n) (a : Addr) (ha : A = some a) : a.block < w.heap.size := by
  obtain ⟨b, off, e, hc⟩ := h.cells h0
  rw [e] at ha
  cases ha
  have hl : 0 < l.length := by rw [h.len]; exact h0
  exact World.block_lt_of_cell? w _ (hc 0 _ (List.getElem?_eq_getElem hl))
theorem RdB.nil (w : World) (A : Option Addr) : RdB w A 0 [] := ⟨rfl, by decide, fun h => absurd h (by decide)⟩
/-- What a walk over it asks. -/
theorem RdB.at_ {w : World} {A : Option Addr} {n : Nat} {l : List UInt8} (h : RdB w A n l) (h0 : 0 < n) : ∃ b off, A = some ⟨b, off, none⟩ ∧ ∀ j, (hj : j < l.length) → w.cell? ⟨b, off + j, none⟩ = some (bv l[j]) := by
  obtain ⟨b, off, e, hc⟩ := h.cells h0
  exact ⟨b, off, e, fun j hj => hc j _ (List.getElem?_eq_getElem hj)⟩

theorem RdB.below {w w' : World} {A : Option Addr} {n : Nat} {l : List UInt8} (h : RdB w A n l) (hb : Below w.heap.size w w') : RdB w' A n l :=
  ⟨h.len, h.le, fun hn => by
    obtain ⟨b, off, e, hc⟩ := h.cells hn
    exact ⟨b, off, e, fun j u hu => (hb.cell (World.block_lt_of_cell? w _ (hc j u hu))).trans (hc j u hu)⟩⟩

/-- The slice at A of n elements reads as these slices of bytes. -/
structure RdL (w : World) (A : Option Addr) (n : Nat) (ls : List (List UInt8)) : Prop where
  len : ls.length = n
  le : n ≤ 140737488355328
  cells : 0 < n → ∃ b off, A = some ⟨b, off, none⟩ ∧ ∀ j l, ls[j]? = some l → ∃ Aj nj cj, w.cell? ⟨b, off + j, none⟩ = some (.slice Aj nj cj) ∧ RdB w Aj nj l
theorem RdL.below {w w' : World} {A : Option Addr} {n : Nat} {ls : List (List UInt8)} (h : RdL w A n ls) (hb : Below w.heap.size w w') : RdL w' A n ls :=
  ⟨h.len, h.le, fun hn => by
    obtain ⟨b, off, e, hc⟩ := h.cells hn
    refine ⟨b, off, e, fun j l hl => ?_⟩
    obtain ⟨Aj, nj, cj, h1, h2⟩ := hc j l hl
    exact ⟨Aj, nj, cj, (hb.cell (World.block_lt_of_cell? w _ h1)).trans h1, h2.below hb⟩⟩
theorem RdL.at_ {w : World} {A : Option Addr} {n : Nat} {ls : List (List UInt8)} (h : RdL w A n ls) (k : Nat) (hk : k < n) :
    ∃ b off Aj nj cj, A = some ⟨b, off, none⟩ ∧ w.cell? ⟨b, off + k, none⟩ = some (.slice Aj nj cj) ∧ RdB w Aj nj (ls[k]'(by rw [h.len]; exact hk)) := by
  obtain ⟨b, off, e, hc⟩ := h.cells (by omega)
  obtain ⟨Aj, nj, cj, h1, h2⟩ := hc k _ (List.getElem?_eq_getElem (by rw [h.len]; exact hk))
  exact ⟨b, off, Aj, nj, cj, e, h1, h2⟩

theorem RdB.of_row {w : World} {b : Nat} {off n : Nat} {cs : Array Value} {e : TypeId} {fr : Nat × Nat} {l : List UInt8} (hb : w.heap[b]? = some (.cells cs e fr)) (hn : l.length = n) (hle : n ≤ 140737488355328)
    (h : ∀ j u, l[j]? = some u → cs[off + j]? = some (bv u)) : RdB w (some ⟨b, off, none⟩) n l :=
  ⟨hn, hle, fun _ => ⟨b, off, rfl, fun j u hu => by simp only [World.cell?, hb]; simpa using h j u hu⟩⟩
theorem RdB.of_whole {w : World} {b n : Nat} {cs : Array Value} {e : TypeId} {fr : Nat × Nat} {l : List UInt8} (hb : w.heap[b]? = some (.cells cs e fr)) (hcs : cs = (l.map bv).toArray) (hn : l.length = n) (hle : n ≤ 140737488355328) :
    RdB w (some ⟨b, 0, none⟩) n l :=
  RdB.of_row hb hn hle fun j u hu => by subst hcs; simp [hu]
theorem RdL.one {w : World} {b c n : Nat} {A : Option Addr} {e : TypeId} {fr : Nat × Nat} {l : List UInt8} (hb : w.heap[b]? = some (.cells #[.slice A n c] e fr)) (hr : RdB w A n l) : RdL w (some ⟨b, 0, none⟩) 1 [l] :=
  ⟨rfl, by decide, fun _ => ⟨b, 0, rfl, fun j x hx => by
    match j, hx with
    | 0, hx => simp at hx; subst hx; exact ⟨A, n, c, by simp [World.cell?, hb], hr⟩
    | _ + 1, hx => simp at hx⟩⟩
theorem RdL.nil (w : World) (A : Option Addr) : RdL w A 0 [] := ⟨rfl, by decide, fun h => absurd h (by decide)⟩
theorem heap_new (w : World) (o : Obj) : (w.alloc o).heap[w.heap.size]? = some o := heap_alloc_new w o
theorem heap_old {w : World} {k : Nat} {o : Obj} (h : w.heap[k]? = some o) (o' : Obj) : (w.alloc o').heap[k]? = some o := by
  rw [Below.heap_alloc _ _ _ (Array.getElem?_eq_some_iff.1 h).1]; exact h

theorem ofInt_i64 (a : Nat) (ha : a < 9223372036854775808) : (BitVec.ofInt 64 (a : Int)).toNat = a := by
  rw [BitVec.ofInt_natCast, BitVec.toNat_ofNat]; exact Nat.mod_eq_of_lt (by omega)
theorem i64_xor_nat (a b : Nat) (ha : a < 9223372036854775808) (hb : b < 9223372036854775808) : bits .xor .i64 (a : Int) (b : Int) = ((a ^^^ b : Nat) : Int) := by
  have hx : a ^^^ b < 2 ^ 63 := Nat.xor_lt_two_pow (by omega) (by omega)
  show IntKind.i64.wrap ((BitVec.ofInt 64 (a : Int) ^^^ BitVec.ofInt 64 (b : Int)).toNat : Int) = _
  rw [BitVec.toNat_xor, ofInt_i64 a ha, ofInt_i64 b hb, IntKind.wrap_i64]
  omega

theorem RdB.get {w : World} {A : Option Addr} {n : Nat} {l : List UInt8} (h : RdB w A n l) {k : Nat} (hk : k < n) : ∃ b off x, A = some ⟨b, off, none⟩ ∧ l[k]? = some x ∧ w.cell? ⟨b, off + k, none⟩ = some (bv x) := by
  obtain ⟨b, off, e, hc⟩ := h.cells (by omega)
  have hl : k < l.length := by rw [h.len]; exact hk
  exact ⟨b, off, l[k], e, List.getElem?_eq_getElem hl, hc k _ (List.getElem?_eq_getElem hl)⟩
theorem RdB.take {w : World} {A : Option Addr} {n : Nat} {l : List UInt8} (h : RdB w A n l) {m : Nat} (hm : m ≤ n) : RdB w A m (l.take m) :=
  ⟨by rw [List.length_take, h.len]; omega, by have := h.le; omega, fun h0 => by
    obtain ⟨b, off, e, hc⟩ := h.cells (by omega)
    refine ⟨b, off, e, fun j u hu => hc j u ?_⟩
    rw [List.getElem?_take] at hu
    split at hu
    · exact hu
    · cases hu⟩
/-- A row's cell, read and found not to be frozen; behind the bytes may lie spare room. -/
theorem row_cell {w : World} {b : Nat} {D : List UInt8} {rest : List Value} {e : TypeId} {fr : Nat × Nat} {k : Nat} {x : UInt8} (hg : w.heap[b]? = some (.cells (D.map bv ++ rest).toArray e fr)) (hk : D[k]? = some x) : w.cell? ⟨b, k, none⟩ = some (bv x) := by
  have hl : k < (D.map bv).length := by have := (List.getElem?_eq_some_iff.1 hk).1; simpa using this
  simp only [World.cell?, hg, Option.isSome_none, Bool.false_eq_true, if_false, List.getElem?_toArray]
  rw [List.getElem?_append_left hl, List.getElem?_map, hk]; rfl
theorem row_free {w : World} {b : Nat} {cs : Array Value} {e : TypeId} (hg : w.heap[b]? = some (.cells cs e (0, 0))) (k : Nat) : w.frozen? ⟨b, k, none⟩ = false := by
  simp [World.frozen?, hg]
theorem row_set {w : World} {b : Nat} {D : List UInt8} {rest : List Value} {e : TypeId} {fr : Nat × Nat} (hg : w.heap[b]? = some (.cells (D.map bv ++ rest).toArray e fr)) {k : Nat} (hk : k < D.length) (x : UInt8) :
    (w.setCell ⟨b, k, none⟩ (bv x)).heap[b]? = some (.cells ((D.set k x).map bv ++ rest).toArray e fr) := by
  have hl : k < (D.map bv).length := by simpa using hk
  simp only [World.setCell, Array.getElem?_modify, hg, if_true, Option.map_some, Option.isSome_none, Bool.false_eq_true, if_false]
  congr 2
  apply Array.ext'
  simp only [Array.toList_setIfInBounds, List.set_append_left _ _ hl, List.map_set]
theorem row_rdB {w : World} {b n : Nat} {D : List UInt8} {rest : List Value} {e : TypeId} {fr : Nat × Nat} (hg : w.heap[b]? = some (.cells (D.map bv ++ rest).toArray e fr)) (hn : D.length = n) (hle : n ≤ 140737488355328) : RdB w (some ⟨b, 0, none⟩) n D :=
  ⟨hn, hle, fun _ => ⟨b, 0, rfl, fun j u hu => by rw [Nat.zero_add]; exact row_cell hg hu⟩⟩
end Go.Proofs.YtbmamhcjbhnkiaaGreat
