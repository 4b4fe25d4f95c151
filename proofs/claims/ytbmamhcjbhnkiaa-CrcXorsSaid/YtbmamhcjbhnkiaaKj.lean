/- The walk of the law CrcXors. -/
import Derived.Test.YtbmamhcjbhnkiaaKg
import Derived.Test.YtbmamhcjbhnkiaaKi
import Derived.RegionTactic
import Derived.Test.YtbmamhcjbhnkiaaKinv
import Derived.Laws.MakeOwn
namespace Go.Proofs.Ytbmamhcjbhnkiaa
open Go.RowKit

theorem make_bytes (n : Nat) (hn : n ≤ 281474976710656) (W : World) : (Instr.makeSlice 22 (.int .i64 (n : Int)) (.int .i64 (n : Int))).run Try.prog W =
    .ok (.slice (some ⟨W.heap.size, 0, none⟩) n n) (W.alloc (.cells (madeCells #[.int .u8 0] n) 5)) := by
  obtain ⟨i, hi, hz⟩ := Option.map_eq_some_iff.1 info_u8
  simp only [Prod.mk.injEq] at hz
  have h := run_make (P := Try.prog) W 22 5 i (.int .u8 0) Try.underlying22 hi hz.1 .i64 .i64 n n (by omega) (by omega) (by rw [hz.2.2]; omega) (by omega)
  rw [hz.2.1] at h
  simpa [Value.cells] using h
theorem madeCells_bytes (n : Nat) : madeCells #[.int .u8 0] n = ((List.replicate n (0 : UInt8)).map bv).toArray := by
  apply Array.ext'
  simp only [madeCells, List.map_replicate]
  apply List.ext_getElem
  · simp
  · intro i h1 h2
    simp [Nat.mod_one]
theorem u8_xor3 (x y z : UInt8) : bits .xor .u8 ((x.toNat ^^^ y.toNat : Nat) : Int) (z.toNat : Int) = ((x.toNat ^^^ y.toNat ^^^ z.toNat : Nat) : Int) := by
  have h := u8_xor_nat (x ^^^ y).toNat z.toNat (x ^^^ y).toNat_lt z.toNat_lt
  rwa [UInt8.toNat_xor] at h
theorem take_set_succ (D : List UInt8) (k : Nat) (x : UInt8) (h : k < D.length) : (D.set k x).take (k + 1) = D.take k ++ [x] := by
  rw [List.take_succ_eq_append_getElem (by simpa using h), List.getElem_set_self, List.take_set, List.set_eq_of_length_le (by rw [List.length_take]; omega)]

theorem min4 (a b c : Nat) : ∃ n : Nat, n ≤ a ∧ n ≤ b ∧ n ≤ c ∧ n ≤ 1000 ∧ ∀ W : World, (Builtin.min_ #[3, 3, 3, 3] 3 #[.int .i64 (a : Int), .int .i64 (b : Int), .int .i64 (c : Int), .int .i64 1000]).run Try.prog W = .ok (.int .i64 (n : Int)) W := by
  refine ⟨min (min (min a b) c) 1000, by omega, by omega, by omega, by omega, fun W => ?_⟩
  simp only [Builtin.min_, List.foldlM, Builtin.min2]
  simp only [go_sem, pure_bind]
  have e : ((min (min (min a b) c) 1000 : Nat) : Int) = (if (1000 : Int) < (if (c : Int) < (if (b : Int) < a then (b : Int) else a) then (c : Int) else (if (b : Int) < a then (b : Int) else a)) then 1000 else (if (c : Int) < (if (b : Int) < a then (b : Int) else a) then (c : Int) else (if (b : Int) < a then (b : Int) else a))) := by
    repeat' split
    all_goals omega
  rw [e]
  rfl

/-- The texts' xor, and what a row that is filled with it holds. -/
def xor3 (a b c : List UInt8) : List UInt8 := List.zipWith (· ^^^ ·) (List.zipWith (· ^^^ ·) a b) c
theorem xor3_length (a b c : List UInt8) (n : Nat) (ha : a.length = n) (hb : b.length = n) (hc : c.length = n) : (xor3 a b c).length = n := by simp [xor3]; omega
theorem xor3_at {a b c : List UInt8} {k : Nat} {x y z : UInt8} (ha : a[k]? = some x) (hb : b[k]? = some y) (hc : c[k]? = some z) : (xor3 a b c)[k]? = some (x ^^^ y ^^^ z) := by simp [xor3, List.getElem?_zipWith, ha, hb, hc]

/-- A slice of one slice. -/
def OneAt (A : Option Addr) (n c : Nat) (v : Value) (w : World) : Prop := ∃ X fr, v = .slice (some ⟨X, 0, none⟩) 1 1 ∧ w.heap[X]? = some (.cells #[.slice A n c] 22 fr)

set_option maxRecDepth 100000 in
set_option maxHeartbeats 1600000 in
theorem crcXors_walk (a0 : Option Addr) (len0 cap0 : Nat) (z0 : List Int) (a1 : Option Addr) (len1 cap1 : Nat) (z1 : List Int) (a2 : Option Addr) (len2 cap2 : Nat) (z2 : List Int) (w : World)
    (w0 : IsRow .u8 w a0 len0 cap0 z0) (w1 : IsRow .u8 w a1 len1 cap1 z1) (w2 : IsRow .u8 w a2 len2 cap2 z2) :
    Calls Try.prog 6 #[.slice a0 len0 cap0, .slice a1 len1 cap1, .slice a2 len2 cap2] w fun e w' => e = .returned (.bool true) ∧ Below w.heap.size w w' := by
  have hle0 := w0.len_le
  have hle1 := w1.len_le
  have hle2 := w2.len_le
  obtain ⟨n, hn0, hn1, hn2, hn3, hmin⟩ := min4 len0 len1 len2
  have hmk := make_bytes n (by omega)
  go_enter Try.func6, Try.ntmps6
  go_wp2_with fail
  refine (anchor3_any _).mono ?_
  rintro e w3 ⟨rfl, hk1⟩
  go_wp2_with fail
  have hB := hk1.size
  have hz := heap_new w3 (.cells (madeCells #[.int .u8 0] n) 5)
  rw [madeCells_bytes] at hz
  have hz' : (w3.alloc (.cells ((List.replicate n (0 : UInt8)).map bv).toArray 5)).heap[w3.heap.size]? = some (.cells ((List.replicate n (0 : UInt8)).map bv ++ []).toArray 5 (0, 0)) := by rw [List.append_nil]; exact hz
  clear hz
  have hb2 : Below w.heap.size w (w3.alloc (.cells (madeCells #[.int .u8 0] n) 5)) := hk1.none_below.alloc hB _
  have r0 := w0.rdBn hn0 (by omega)
  have r1 := w1.rdBn hn1 (by omega)
  have r2 := w2.rdBn hn2 (by omega)
  have c0 := w0.cap_le
  have c1 := w1.cap_le
  have c2 := w2.cap_le
  clear w0 w1 w2
  generalize bytesOf z0 n = la at *
  generalize bytesOf z1 n = lb at *
  generalize bytesOf z2 n = lc at *
  have hX := Lib.hid (xor3_length la lb lc n r0.len r1.len r2.len)
  have hla := Lib.hid r0.len
  have hlb := Lib.hid r1.len
  have hlc := Lib.hid r2.len
  rw [madeCells_bytes] at hb2
  rw [madeCells_bytes]
  go_loopw [23] (fun i wr => ∃ k : Nat, k ≤ n ∧ i = .int .i64 k ∧ (∃ D : List UInt8, D.length = n ∧ D.take k = (xor3 la lb lc).take k ∧ wr.heap[w3.heap.size]? = some (.cells (D.map bv ++ []).toArray 5 (0, 0))) ∧ Below w.heap.size w wr) (fun i _ => n - (intOf i).toNat)
  case atStart => exact ⟨0, Nat.zero_le _, rfl, ⟨List.replicate n 0, by simp, rfl, hz'⟩, hb2⟩
  case round =>
    obtain ⟨k, hk, rfl, ⟨D, hD, hDk, hg⟩, hbel⟩ := hrel
    by_cases hlt : k < n
    · obtain ⟨b0, o0, x0, rfl, i0, e0⟩ := (r0.below hbel).get hlt
      obtain ⟨b1, o1, x1, rfl, i1, e1⟩ := (r1.below hbel).get hlt
      obtain ⟨b2, o2, x2, rfl, i2, e2⟩ := (r2.below hbel).get hlt
      obtain ⟨xd, id⟩ : ∃ x, D[k]? = some x := ⟨_, List.getElem?_eq_getElem (by omega)⟩
      have hx := Lib.hid (xor3_at i0 i1 i2)
      have f1 := u8_xor_nat x0.toNat x1.toNat x0.toNat_lt x1.toNat_lt
      have f2 := u8_xor3 x0 x1 x2
      have f3 : Hid (bv (x0 ^^^ x1 ^^^ x2) = .int .u8 ((x0.toNat ^^^ x1.toNat ^^^ x2.toNat : Nat) : Int)) := by show _ = _; simp only [bv, UInt8.toNat_xor]
      have e3 := row_cell hg id
      have e4 := row_free hg k
      have Hg := Lib.hid hg
      have HD := Lib.hid hD
      have HDk := Lib.hid hDk
      have l0 : k < len0 := by omega
      have l1 : k < len1 := by omega
      have l2 : k < len2 := by omega
      clear hD hDk hg i0 i1 i2 id
      go_wp2_with fail
      go_region
      go_wp2
      go_roundw
      case rel =>
        refine ⟨k + 1, by omega, by go_num, ⟨D.set k (x0 ^^^ x1 ^^^ x2), by rw [List.length_set]; exact HD.out, ?_, ?_⟩, ?_⟩
        · rw [take_set_succ _ _ _ (by rw [HD.out]; exact hlt), HDk.out, List.take_add_one, hx.out]; rfl
        · have h := row_set (w := wr.drew) Hg.out (by rw [HD.out]; exact hlt) (x0 ^^^ x1 ^^^ x2); rw [f3.out] at h; exact h
        · exact hbel.drew.setCell hB _
      case measure => simp [intOf]; omega
    · obtain rfl : k = n := by omega
      have hDX : D = xor3 la lb lc := by
        have h1 : D.take k = D := List.take_of_length_le (by omega)
        have h2 : (xor3 la lb lc).take k = xor3 la lb lc := List.take_of_length_le (by rw [hX.out]; omega)
        rw [← h1, hDk, h2]
      subst hDX
      have s0 := r0.below hbel
      have s1 := r1.below hbel
      have s2 := r2.below hbel
      have s3 : RdB wr (some ⟨w3.heap.size, 0, none⟩) k (xor3 la lb lc) := row_rdB hg hX.out (by omega)
      have hxs := Crc.sums_xor la lb lc (by rw [hla.out, hlb.out]) (by rw [hla.out, hlc.out])
      have q1 := Crc.sum_lt la
      have q2 := Crc.sum_lt lb
      have q3 := Crc.sum_lt lc
      have Hx : Hid (Crc.sum la ^^^ Crc.sum lb ^^^ Crc.sum lc = Crc.sum (xor3 la lb lc)) := hxs
      clear hxs hD hDk hg r0 r1 r2
      go_wp2_with fail
      have hsz : wr.heap.size ≤ wr.heap.size := Nat.le_refl _
      refine wp_region_held_mid (by kernel_rfl) (fun i => #[44, 45, 46, 47, 48, 49, 50, 51, 52, 53, 54, 55, 56, 57, 58, 59, 60, 61, 62, 63, 64, 6].getD i 0) 65 rfl (by kernel_rfl)
        (fun i v w' => match i with
          | 0 => v = .slice a0 len0 cap0 | 5 => v = .slice a1 len1 cap1 | 11 => v = .slice a2 len2 cap2 | 17 => v = .slice (some ⟨w3.heap.size, 0, none⟩) k k
          | 1 => v = .int .i64 k | 6 => v = .int .i64 k | 12 => v = .int .i64 k
          | 2 => v = .slice a0 k cap0 | 7 => v = .slice a1 k cap1 | 13 => v = .slice a2 k cap2
          | 3 => OneAt a0 k cap0 v w'
          | 8 => OneAt a1 k cap1 v w'
          | 14 => OneAt a2 k cap2 v w'
          | 18 => OneAt (some ⟨w3.heap.size, 0, none⟩) k k v w'
          | 4 => v = .int .u32 (Crc.sum la : Nat) | 9 => v = .int .u32 (Crc.sum lb : Nat) | 15 => v = .int .u32 (Crc.sum lc : Nat) | 19 => v = .int .u32 (Crc.sum (xor3 la lb lc) : Nat)
          | 10 => v = .int .u32 ((Crc.sum la ^^^ Crc.sum lb : Nat) : Int)
          | 16 => v = .int .u32 (Crc.sum (xor3 la lb lc) : Nat)
          | _ => v = .bool true) ?_ ?_ ?_
      · intro i v w w' hv hk
        match i, hv with
        | 0, hv | 1, hv | 2, hv | 4, hv | 5, hv | 6, hv | 7, hv | 9, hv | 10, hv | 11, hv | 12, hv | 13, hv | 15, hv | 16, hv | 17, hv | 19, hv | 20, hv | 21, hv | (n + 22), hv => exact hv
        | 3, hv | 8, hv | 14, hv | 18, hv => obtain ⟨X, fr, h1, h2⟩ := hv; exact ⟨X, fr, h1, hk.at_ h2 id⟩
      · intro i o ho a w5 hoth haf hk5
        have hb0 : a.tmps.getD 0 undef = .slice a0 len0 cap0 := hoth 0 (by decide)
        have hb1 : a.tmps.getD 1 undef = .slice a1 len1 cap1 := hoth 1 (by decide)
        have hb2 : a.tmps.getD 2 undef = .slice a2 len2 cap2 := hoth 2 (by decide)
        have hb7 : a.tmps.getD 7 undef = .int .i64 k := hoth 7 (by decide)
        have hb8 : a.tmps.getD 8 undef = .slice (some ⟨w3.heap.size, 0, none⟩) k k := hoth 8 (by decide)
        match i, ho with
        | 0, ho =>
          cases ho
          unfold Oper.wp
          go_simp
          exact ⟨_, rfl, rfl, Keeps.refl _ _⟩
        | 1, ho =>
          cases ho
          unfold Oper.wp
          go_simp
          exact ⟨_, rfl, rfl, Keeps.refl _ _⟩
        | 2, ho =>
          cases ho
          have k4 : k ≤ cap0 := by omega
          have p0 : a.tmps.getD 44 undef = .slice a0 len0 cap0 := haf ⟨0, .data⟩ (by simp) rfl; rw [Array.getD_eq_getD_getElem?] at p0
          have p1 : a.tmps.getD 45 undef = .int .i64 k := haf ⟨1, .data⟩ (by simp) rfl; rw [Array.getD_eq_getD_getElem?] at p1
          clear haf hoth
          unfold Oper.wp
          go_simp
          exact ⟨_, rfl, rfl, Keeps.refl _ _⟩
        | 3, ho =>
          cases ho
          have p2 : a.tmps.getD 46 undef = .slice a0 k cap0 := haf ⟨2, .data⟩ (by simp) rfl; rw [Array.getD_eq_getD_getElem?] at p2
          clear haf hoth
          unfold Oper.wp
          go_simp
          exact ⟨_, rfl, ⟨_, _, rfl, heap_new _ _⟩, (Keeps.refl _ _).alloc _⟩
        | 4, ho =>
          cases ho
          have hh : OneAt a0 k cap0 (a.tmps.getD 47 undef) w5 := haf ⟨3, .data⟩ (by simp) rfl
          obtain ⟨X, fr, pX, hX'⟩ := hh
          rw [Array.getD_eq_getD_getElem?] at pX
          clear haf hoth
          unfold Oper.wp
          go_simp
          refine (sum_one _ _ _ X 1 la _ _ w5 hX' (s0.keepN hk5)).mono ?_
          rintro e w6 ⟨rfl, hk6⟩
          exact ⟨_, rfl, rfl, hk6⟩
        | 5, ho =>
          cases ho
          unfold Oper.wp
          go_simp
          exact ⟨_, rfl, rfl, Keeps.refl _ _⟩
        | 6, ho =>
          cases ho
          unfold Oper.wp
          go_simp
          exact ⟨_, rfl, rfl, Keeps.refl _ _⟩
        | 7, ho =>
          cases ho
          have k4 : k ≤ cap1 := by omega
          have p5 : a.tmps.getD 49 undef = .slice a1 len1 cap1 := haf ⟨5, .data⟩ (by simp) rfl; rw [Array.getD_eq_getD_getElem?] at p5
          have p6 : a.tmps.getD 50 undef = .int .i64 k := haf ⟨6, .data⟩ (by simp) rfl; rw [Array.getD_eq_getD_getElem?] at p6
          clear haf hoth
          unfold Oper.wp
          go_simp
          exact ⟨_, rfl, rfl, Keeps.refl _ _⟩
        | 8, ho =>
          cases ho
          have p7 : a.tmps.getD 51 undef = .slice a1 k cap1 := haf ⟨7, .data⟩ (by simp) rfl; rw [Array.getD_eq_getD_getElem?] at p7
          clear haf hoth
          unfold Oper.wp
          go_simp
          exact ⟨_, rfl, ⟨_, _, rfl, heap_new _ _⟩, (Keeps.refl _ _).alloc _⟩
        | 9, ho =>
          cases ho
          have hh : OneAt a1 k cap1 (a.tmps.getD 52 undef) w5 := haf ⟨8, .data⟩ (by simp) rfl
          obtain ⟨X, fr, pX, hX'⟩ := hh
          rw [Array.getD_eq_getD_getElem?] at pX
          clear haf hoth
          unfold Oper.wp
          go_simp
          refine (sum_one _ _ _ X 1 lb _ _ w5 hX' (s1.keepN hk5)).mono ?_
          rintro e w6 ⟨rfl, hk6⟩
          exact ⟨_, rfl, rfl, hk6⟩
        | 10, ho =>
          cases ho
          have p4 : a.tmps.getD 48 undef = .int .u32 (Crc.sum la : Nat) := haf ⟨4, .data⟩ (by simp) rfl; rw [Array.getD_eq_getD_getElem?] at p4
          have p9 : a.tmps.getD 53 undef = .int .u32 (Crc.sum lb : Nat) := haf ⟨9, .data⟩ (by simp) rfl; rw [Array.getD_eq_getD_getElem?] at p9
          have hx := u32_xor_nat (Crc.sum la) (Crc.sum lb) q1 q2
          clear haf hoth
          unfold Oper.wp
          go_simp
          exact ⟨_, rfl, rfl, Keeps.refl _ _⟩
        | 11, ho =>
          cases ho
          unfold Oper.wp
          go_simp
          exact ⟨_, rfl, rfl, Keeps.refl _ _⟩
        | 12, ho =>
          cases ho
          unfold Oper.wp
          go_simp
          exact ⟨_, rfl, rfl, Keeps.refl _ _⟩
        | 13, ho =>
          cases ho
          have k4 : k ≤ cap2 := by omega
          have p11 : a.tmps.getD 55 undef = .slice a2 len2 cap2 := haf ⟨11, .data⟩ (by simp) rfl; rw [Array.getD_eq_getD_getElem?] at p11
          have p12 : a.tmps.getD 56 undef = .int .i64 k := haf ⟨12, .data⟩ (by simp) rfl; rw [Array.getD_eq_getD_getElem?] at p12
          clear haf hoth
          unfold Oper.wp
          go_simp
          exact ⟨_, rfl, rfl, Keeps.refl _ _⟩
        | 14, ho =>
          cases ho
          have p13 : a.tmps.getD 57 undef = .slice a2 k cap2 := haf ⟨13, .data⟩ (by simp) rfl; rw [Array.getD_eq_getD_getElem?] at p13
          clear haf hoth
          unfold Oper.wp
          go_simp
          exact ⟨_, rfl, ⟨_, _, rfl, heap_new _ _⟩, (Keeps.refl _ _).alloc _⟩
        | 15, ho =>
          cases ho
          have hh : OneAt a2 k cap2 (a.tmps.getD 58 undef) w5 := haf ⟨14, .data⟩ (by simp) rfl
          obtain ⟨X, fr, pX, hX'⟩ := hh
          rw [Array.getD_eq_getD_getElem?] at pX
          clear haf hoth
          unfold Oper.wp
          go_simp
          refine (sum_one _ _ _ X 1 lc _ _ w5 hX' (s2.keepN hk5)).mono ?_
          rintro e w6 ⟨rfl, hk6⟩
          exact ⟨_, rfl, rfl, hk6⟩
        | 16, ho =>
          cases ho
          have p10 : a.tmps.getD 54 undef = .int .u32 ((Crc.sum la ^^^ Crc.sum lb : Nat) : Int) := haf ⟨10, .data⟩ (by simp) rfl; rw [Array.getD_eq_getD_getElem?] at p10
          have p15 : a.tmps.getD 59 undef = .int .u32 (Crc.sum lc : Nat) := haf ⟨15, .data⟩ (by simp) rfl; rw [Array.getD_eq_getD_getElem?] at p15
          have hx := u32_xor_nat (Crc.sum la ^^^ Crc.sum lb) (Crc.sum lc) (Nat.xor_lt_two_pow (n := 32) q1 q2) q3
          clear haf hoth
          unfold Oper.wp
          go_simp
          exact ⟨_, rfl, by rw [← Hx.out], Keeps.refl _ _⟩
        | 17, ho =>
          cases ho
          unfold Oper.wp
          go_simp
          exact ⟨_, rfl, rfl, Keeps.refl _ _⟩
        | 18, ho =>
          cases ho
          have p17 : a.tmps.getD 61 undef = .slice (some ⟨w3.heap.size, 0, none⟩) k k := haf ⟨17, .data⟩ (by simp) rfl; rw [Array.getD_eq_getD_getElem?] at p17
          clear haf hoth
          unfold Oper.wp
          go_simp
          exact ⟨_, rfl, ⟨_, _, rfl, heap_new _ _⟩, (Keeps.refl _ _).alloc _⟩
        | 19, ho =>
          cases ho
          have hh : OneAt (some ⟨w3.heap.size, 0, none⟩) k k (a.tmps.getD 62 undef) w5 := haf ⟨18, .data⟩ (by simp) rfl
          obtain ⟨X, fr, pX, hX'⟩ := hh
          rw [Array.getD_eq_getD_getElem?] at pX
          clear haf hoth
          unfold Oper.wp
          go_simp
          refine (sum_one _ _ _ X 1 (xor3 la lb lc) _ _ w5 hX' (s3.keepN hk5)).mono ?_
          rintro e w6 ⟨rfl, hk6⟩
          exact ⟨_, rfl, rfl, hk6⟩
        | 20, ho =>
          cases ho
          have p16 : a.tmps.getD 60 undef = .int .u32 (Crc.sum (xor3 la lb lc) : Nat) := haf ⟨16, .data⟩ (by simp) rfl; rw [Array.getD_eq_getD_getElem?] at p16
          have p19 : a.tmps.getD 63 undef = .int .u32 (Crc.sum (xor3 la lb lc) : Nat) := haf ⟨19, .data⟩ (by simp) rfl; rw [Array.getD_eq_getD_getElem?] at p19
          clear haf hoth
          unfold Oper.wp
          go_simp
          exact ⟨_, rfl, rfl, Keeps.refl _ _⟩
        | 21, ho =>
          cases ho
          have p20 : a.tmps.getD 64 undef = .bool true := haf ⟨20, .data⟩ (by simp) rfl; rw [Array.getD_eq_getD_getElem?] at p20
          clear haf hoth
          unfold Oper.wp
          go_simp
          exact ⟨_, rfl, rfl, Keeps.refl _ _⟩
        | n + 22, ho => simp at ho
      · intro a w5 hsz hdf hoth hval hk5
        have h6 : a.tmps.getD 6 undef = .bool true := hval 21 (by decide)
        have hd : a.defers = [] := hdf
        obtain ⟨ts, ds⟩ := a
        have hd : ds = [] := hd
        subst hd
        have h6 : ts.getD 6 undef = .bool true := h6
        rw [Array.getD_eq_getD_getElem?] at h6
        clear hoth hval hdf hsz
        go_wp2_with fail
        go_ret
        rw [← Array.getD_eq_getD_getElem?] at h6
        refine ⟨?_, hbel.trans (hk5.below hbel.size fun _ _ h => h.elim)⟩
        exact congrArg Ending.returned h6
end Go.Proofs.Ytbmamhcjbhnkiaa
