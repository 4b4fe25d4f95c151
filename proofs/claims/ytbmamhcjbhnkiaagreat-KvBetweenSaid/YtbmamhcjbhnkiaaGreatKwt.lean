/- Layer 8: the walks of slices.Concat, and of a record's sum and bytes. -/
import Derived.Test.YtbmamhcjbhnkiaaGreatKws
import Derived.Test.YtbmamhcjbhnkiaaGreatKg
namespace Go.Proofs.YtbmamhcjbhnkiaaGreat
open Go.RowKit

theorem own_base {w : World} {base base' size n : Nat} {e : TypeId} {v : Value} {xs : List Value} (h : w.ownsRow base' e size v n xs) (hb : base ≤ base') : w.ownsRow base e size v n xs := by
  refine ⟨h.1, ?_⟩
  rcases h.2 with h2 | ⟨g, cap, cur, h1, h2, h3⟩
  · exact .inl h2
  · exact .inr ⟨g, cap, cur, h1, Nat.le_trans hb h2, h3⟩
theorem RdL.of_cells {w : World} {b n : Nat} {vs : List Value} {e : TypeId} {fr : Nat × Nat} {ls : List (List UInt8)} (hb : w.heap[b]? = some (.cells vs.toArray e fr)) (hn : ls.length = n) (hle : n ≤ 140737488355328)
    (h : ∀ (j : Nat) (l : List UInt8), ls[j]? = some l → ∃ A m c, vs[j]? = some (.slice A m c) ∧ RdB w A m l) : RdL w (some ⟨b, 0, none⟩) n ls :=
  ⟨hn, hle, fun _ => ⟨b, 0, rfl, fun j l hl => by
    obtain ⟨A, m, c, h1, h2⟩ := h j l hl
    exact ⟨A, m, c, by simp [World.cell?, hb, h1], h2⟩⟩⟩
theorem RdB.sub {w : World} {b off n : Nat} {l : List UInt8} (h : RdB w (some ⟨b, off, none⟩) n l) {q m : Nat} (hq : q + m ≤ n) : RdB w (some ⟨b, off + q, none⟩) m (Wal.slc l q m) :=
  ⟨Wal.slc_length (by rw [h.len]; exact hq), by have := h.le; omega, fun h0 => by
    obtain ⟨b', off', e, hc⟩ := h.cells (by omega)
    cases e
    refine ⟨b, off + q, rfl, fun j u hu => ?_⟩
    rw [Wal.slc_get?] at hu
    split at hu
    · rw [Nat.add_assoc]; exact hc _ u hu
    · cases hu⟩

theorem concat_any (A : Option Addr) (m c : Nat) (ls : List (List UInt8)) (w : World) (hr : RdL w A m ls) (hb : ls.flatten.length ≤ 140737488355328) :
    Calls Tryz.prog 79 #[.slice A m c] w (RetOwn w ls.flatten) := by
  have hml := Lib.hid hr.len
  have hm := hr.le
  go_enter Tryz.func79, Tryz.ntmps79
  go_wp2
  go_loop [3, 11] (fun s i => ∃ k : Nat, k ≤ m ∧ i = .int .i64 k ∧ s = .int .i64 ((ls.take k).flatten.length : Int)) (fun _ i => m - (intOf i).toNat)
  case atStart => exact ⟨0, Nat.zero_le _, rfl, rfl⟩
  case round =>
    obtain ⟨k, hk, rfl, rfl⟩ := hrel
    by_cases hlt : k < m
    · obtain ⟨b, off, Aj, nj, cj, rfl, hck, hrk⟩ := hr.at_ k hlt
      have hlen : k < ls.length := by rw [hml.out]; exact hlt
      have H2 := Lib.hid (flat_take_succ ls k hlen)
      have hle := flat_take_le ls (k + 1)
      rw [H2.out, List.length_append] at hle
      have hnj := Lib.hid hrk.len
      rw [hnj.out] at hle
      have H3 : Hid ((ls.take (k + 1)).flatten.length = (ls.take k).flatten.length + nj) := by show _ = _; rw [H2.out, List.length_append, hnj.out]
      clear hnj hrk
      generalize (ls.take k).flatten.length = s0 at *
      go_wp2
      go_round
      case rel => exact ⟨k + 1, by omega, by go_num, by rw [H3.out]; go_num⟩
      case measure => simp [intOf]; omega
    · obtain rfl : k = m := by omega
      have H3 : Hid (ls.take k = ls) := by show ls.take k = ls; rw [List.take_of_length_le (by rw [hml.out]; omega)]
      rw [H3.out]
      obtain ⟨n, hn⟩ : ∃ n, n = ls.flatten.length := ⟨_, rfl⟩
      have HN := Lib.hid hn
      rw [← hn] at hb ⊢
      clear hn
      go_wp2_with fail
      refine (grow_nil n hb w).mono ?_
      rintro e w1 ⟨v1, rfl, hown1, hk1⟩
      have hbel1 : Below w.heap.size w w1 := hk1.none_below
      clear hk1
      go_wp2
      go_loopw [6, 27] (fun v i wr => ∃ j : Nat, j ≤ k ∧ i = .int .i64 j ∧ wr.ownsRow w.heap.size 5 1 v (ls.take j).flatten.length ((ls.take j).flatten.map bv) ∧ Below w.heap.size w wr) (fun _ i _ => k - (intOf i).toNat)
      case atStart => exact ⟨0, Nat.zero_le _, rfl, hown1, hbel1⟩
      case round =>
        obtain ⟨j, hj, rfl, hown, hbel⟩ := hrel
        by_cases hlt2 : j < k
        · obtain ⟨b, off, Aj, nj, cj, rfl, hck, hrk⟩ := (hr.below hbel).at_ j hlt2
          have hlen : j < ls.length := by rw [hml.out]; exact hlt2
          have H2 := Lib.hid (flat_take_succ ls j hlen)
          have hle := flat_take_le ls (j + 1)
          rw [H2.out, List.length_append, ← HN.out] at hle
          generalize (ls.take j).flatten = l0 at *
          generalize ls[j] = lk at *
          have hnj := Lib.hid hrk.len
          rw [hnj.out] at hle
          have hsz := hbel.size
          have hsrc := src_bytes (P := Tryz.prog) Tryz.underlying60 hrk cj
          go_wp2_with (at_builtin; refine wpList_append_src _ rfl _ _ 60 60 rfl w.heap.size 5 (.int .u8 0) 1 1 Tryz.underlying60 info_u8 rfl (by decide) u6 _ _ rfl hown _ _ _ rfl hsrc (by unfold maxLen; omega) (by omega) hsz ?_; intro v' w1 hown' hgrow _)
          have hbel' := own_below hown hbel hgrow hsz
          go_wp2
          go_roundw
          case rel => exact ⟨j + 1, by omega, by go_num, by rw [H2.out]; simpa [hnj.out] using hown', hbel'⟩
          case measure => simp [intOf]; omega
        · obtain rfl : j = k := by omega
          rw [H3.out] at hown
          go_wp2
          go_ret
          exact ⟨u6, rfl, hown, Keeps.of_below hbel⟩

theorem RdL.four {w : World} {b : Nat} {e : TypeId} {fr : Nat × Nat} {A0 A1 A2 A3 : Option Addr} {n0 n1 n2 n3 c0 c1 c2 c3 : Nat} {l0 l1 l2 l3 : List UInt8}
    (hb : w.heap[b]? = some (.cells #[.slice A0 n0 c0, .slice A1 n1 c1, .slice A2 n2 c2, .slice A3 n3 c3] e fr)) (h0 : RdB w A0 n0 l0) (h1 : RdB w A1 n1 l1) (h2 : RdB w A2 n2 l2) (h3 : RdB w A3 n3 l3) : RdL w (some ⟨b, 0, none⟩) 4 [l0, l1, l2, l3] :=
  RdL.of_cells (vs := [.slice A0 n0 c0, .slice A1 n1 c1, .slice A2 n2 c2, .slice A3 n3 c3]) hb rfl (by decide) fun j l hl => by
    match j, hl with
    | 0, hl => simp at hl; subst hl; exact ⟨_, _, _, rfl, h0⟩
    | 1, hl => simp at hl; subst hl; exact ⟨_, _, _, rfl, h1⟩
    | 2, hl => simp at hl; subst hl; exact ⟨_, _, _, rfl, h2⟩
    | 3, hl => simp at hl; subst hl; exact ⟨_, _, _, rfl, h3⟩
    | _ + 4, hl => simp at hl
theorem RdL.two {w : World} {b : Nat} {e : TypeId} {fr : Nat × Nat} {A0 A1 : Option Addr} {n0 n1 c0 c1 : Nat} {l0 l1 : List UInt8}
    (hb : w.heap[b]? = some (.cells #[.slice A0 n0 c0, .slice A1 n1 c1] e fr)) (h0 : RdB w A0 n0 l0) (h1 : RdB w A1 n1 l1) : RdL w (some ⟨b, 0, none⟩) 2 [l0, l1] :=
  RdL.of_cells (vs := [.slice A0 n0 c0, .slice A1 n1 c1]) hb rfl (by decide) fun j l hl => by
    match j, hl with
    | 0, hl => simp at hl; subst hl; exact ⟨_, _, _, rfl, h0⟩
    | 1, hl => simp at hl; subst hl; exact ⟨_, _, _, rfl, h1⟩
    | _ + 2, hl => simp at hl

theorem rd_four {w : World} {b n : Nat} (h : w.heap[b]? = some (.cells ((Crc.four n).map bv).toArray 5)) : RdB w (some ⟨b, 0, none⟩) 4 (Crc.four n) := RdB.of_whole h rfl rfl (by decide)

set_option maxHeartbeats 2000000 in
set_option maxRecDepth 100000 in
/-- A record's sum, in four bytes of their own. -/
theorem wsum_any (gen a : Nat) (hg : gen < 4294967296) (ha : a < 4294967296) (A : Option Addr) (n c : Nat) (b : List UInt8) (hn : n < 4294967296) (w : World) (hr : RdB w A n b) :
    Calls Tryz.prog 81 #[.int .i64 (gen : Int), .int .i64 (a : Int), .slice A n c] w fun e w' => ∃ q, e = .returned (.slice (some ⟨q, 0, none⟩) 4 4) ∧ RdB w' (some ⟨q, 0, none⟩) 4 (Crc.four (Wal.sumOf gen a b)) ∧ w.heap.size ≤ q ∧ Keeps Non w w' := by
  have hS : Hid (([Crc.four gen, Crc.four a, Crc.four n, b] : List (List UInt8)).flatten = Crc.four gen ++ Crc.four a ++ Crc.four b.length ++ b) := by show _ = _; rw [hr.len]; simp
  go_enter Tryz.func81, Tryz.ntmps81
  go_wp2_with fail
  refine (bytes_any gen hg w).mono ?_
  rintro e w1 ⟨rfl, h1, k1, -⟩
  go_wp2_with fail
  refine (bytes_any a ha w1).mono ?_
  rintro e w2 ⟨rfl, h2, k2, -⟩
  go_wp2_with fail
  refine (bytes_any n hn w2).mono ?_
  rintro e w3 ⟨rfl, h3, k3, -⟩
  have r1 := ((rd_four h1).keepN k2).keepN k3
  have r2 := (rd_four h2).keepN k3
  have r3 := rd_four h3
  have k13 := (k1.trans k2).trans k3
  have r4 := hr.keepN k13
  clear h1 h2 h3
  have hk : ∀ o, Keeps Non w3 (w3.alloc o) := fun o => (Keeps.refl _ _).alloc o
  have hL := RdL.four (heap_new w3 (.cells #[.slice (some ⟨w.heap.size, 0, none⟩) 4 4, .slice (some ⟨w1.heap.size, 0, none⟩) 4 4, .slice (some ⟨w2.heap.size, 0, none⟩) 4 4, .slice A n c] 60)) (r1.keepN (hk _)) (r2.keepN (hk _)) (r3.keepN (hk _)) (r4.keepN (hk _))
  have k4 := hk (.cells #[.slice (some ⟨w.heap.size, 0, none⟩) 4 4, .slice (some ⟨w1.heap.size, 0, none⟩) 4 4, .slice (some ⟨w2.heap.size, 0, none⟩) 4 4, .slice A n c] 60)
  have K4 := k13.trans k4
  have HL := Lib.hid hL
  clear hk k4 r1 r2 r3 r4 hL
  go_wp2_with fail
  refine (sum_any _ 4 _ _ _ HL.out).mono ?_
  rintro e w5 ⟨rfl, k5⟩
  rw [hS.out]
  have hlt : Crc.sum (Crc.four gen ++ Crc.four a ++ Crc.four b.length ++ b) < 4294967296 := Crc.sum_lt _
  have HE : Hid (Wal.sumOf gen a b = Crc.sum (Crc.four gen ++ Crc.four a ++ Crc.four b.length ++ b)) := rfl
  have K5 := K4.trans k5
  generalize Crc.sum (Crc.four gen ++ Crc.four a ++ Crc.four b.length ++ b) = s at *
  clear K4 k5 HL
  go_wp2_with fail
  refine (put_k s hlt w5).mono ?_
  rintro e w6 ⟨rfl, h6, k6, -⟩
  have r6 := rd_four h6
  have K6 := K5.trans k6
  have z5 := K5.size
  go_wp2_with fail
  go_ret
  exact ⟨w5.heap.size, rfl, by rw [HE.out]; exact r6, z5, K6⟩

set_option maxHeartbeats 2000000 in
set_option maxRecDepth 100000 in
theorem record_any (gen a : Nat) (hg : gen < 4294967296) (ha : a < 4294967296) (A : Option Addr) (n c : Nat) (b : List UInt8) (m : UInt8) (hn : n < 4294967296) (w : World) (hr : RdB w A n b) :
    Calls Tryz.prog 60 #[.int .i64 (gen : Int), .int .i64 (a : Int), .slice A n c, bv m] w (RetOwn w (Wal.recOf gen a b m)) := by
  have hS : Hid (([Crc.four n, Crc.four (Wal.sumOf gen a b), [m], b] : List (List UInt8)).flatten = Wal.recOf gen a b m) := by show _ = _; rw [← hr.len]; simp [Wal.recOf]
  have Hlen := Lib.hid hr.len
  go_enter Tryz.func60, Tryz.ntmps60
  go_wp2_with fail
  refine (bytes_any n hn w).mono ?_
  rintro e w1 ⟨rfl, h1, k1, -⟩
  go_wp2_with fail
  refine (wsum_any gen a hg ha A n c b hn w1 (hr.keepN k1)).mono ?_
  rintro e w2 ⟨q, rfl, r2, hq, k2⟩
  have r1 := (rd_four h1).keepN k2
  have k12 := k1.trans k2
  have r4 := hr.keepN k12
  clear h1
  have hk3 : Keeps Non w2 (w2.alloc (.cells #[bv m] 5)) := (Keeps.refl _ _).alloc _
  have r3 : RdB (w2.alloc (.cells #[bv m] 5)) (some ⟨w2.heap.size, 0, none⟩) 1 [m] := RdB.of_whole (heap_new _ _) rfl rfl (by decide)
  have hz3 : (w2.alloc (.cells #[bv m] 5)).heap.size = w2.heap.size + 1 := by simp
  have k13 := k12.trans hk3
  obtain ⟨w3, hw3⟩ : ∃ w3, w3 = w2.alloc (.cells #[bv m] 5) := ⟨_, rfl⟩
  rw [← hw3] at hk3 r3 hz3 k13
  have H3 := Lib.hid hw3
  clear hw3
  have hk : ∀ o, Keeps Non w3 (w3.alloc o) := fun o => (Keeps.refl _ _).alloc o
  have hn4 := heap_new w3 (.cells #[.slice (some ⟨w.heap.size, 0, none⟩) 4 4, .slice (some ⟨q, 0, none⟩) 4 4, .slice (some ⟨w2.heap.size, 0, none⟩) 1 1, .slice A n c] 60)
  rw [hz3] at hn4
  have hL := RdL.four hn4 ((r1.keepN hk3).keepN (hk _)) ((r2.keepN hk3).keepN (hk _)) (r3.keepN (hk _)) ((r4.keepN hk3).keepN (hk _))
  have k4 := hk (.cells #[.slice (some ⟨w.heap.size, 0, none⟩) 4 4, .slice (some ⟨q, 0, none⟩) 4 4, .slice (some ⟨w2.heap.size, 0, none⟩) 1 1, .slice A n c] 60)
  have K4 := k13.trans k4
  have HL := Lib.hid hL
  clear hk k4 r1 r2 r3 r4 hL hk3 hn4 hz3
  go_wp2_with fail
  rw [← H3.out]

  refine (concat_any _ 4 _ _ _ HL.out (by rw [hS.out, Wal.recOf_length, Hlen.out]; omega)).mono ?_
  rintro e w5 ⟨v, rfl, hown, k5⟩
  rw [hS.out] at hown
  have K5 := K4.trans k5
  have z4 := K4.size
  go_wp2_with fail
  go_ret
  exact ⟨v, rfl, own_base hown z4, K5⟩
end Go.Proofs.YtbmamhcjbhnkiaaGreat
