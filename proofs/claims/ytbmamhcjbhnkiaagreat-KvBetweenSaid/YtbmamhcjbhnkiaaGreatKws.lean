/- Layer 8: the walks of the log's words, and of Go's slices functions that it uses. -/
import Derived.Test.YtbmamhcjbhnkiaaGreatKwr
import Derived.Test.YtbmamhcjbhnkiaaGreatKf
import Derived.Test.YtbmamhcjbhnkiaaGreatKq
import Derived.RegionTactic
import Derived.BigQuiet
import Derived.Lib.AppendZerosOnto
import Derived.WalkKit
import Derived.Deep.RegionHeld3
namespace Go.Proofs.YtbmamhcjbhnkiaaGreat
open Go.RowKit

theorem number_any (A : Option Addr) (n c : Nat) (l : List UInt8) (w : World) (hr : RdB w A n l) (h4 : 4 ≤ n) (hnc : n ≤ c) (hcm : c ≤ 9223372036854775807) :
    Calls Tryz.prog 71 #[.slice A n c] w fun e w' => e = .returned (.int .i64 (Crc.get (l.take 4) : Int)) ∧ w = w' := by
  have hr4 := hr.take h4
  have hlt := Crc.get_lt (l.take 4) hr4.len
  obtain ⟨b, off, rfl, _⟩ := hr.cells (by omega)
  go_enter Tryz.func71, Tryz.ntmps71
  go_wp2_with fail
  refine (get_yes _ _ _ w hr4).mono ?_
  rintro e w' ⟨rfl, rfl⟩
  go_wp2_with fail
  go_ret
  exact ⟨rfl, rfl⟩

/-- Four bytes in memory of their own. -/
theorem bytes_any (n : Nat) (h : n < 4294967296) (w : World) : Calls Tryz.prog 80 #[.int .i64 (n : Int)] w fun e w' => e = .returned (.slice (some ⟨w.heap.size, 0, none⟩) 4 4) ∧
    w'.heap[w.heap.size]? = some (.cells ((Crc.four n).map bv).toArray 5) ∧ Keeps Non w w' ∧ w'.heap.size = w.heap.size + 1 := by
  go_enter Tryz.func80, Tryz.ntmps80
  go_wp2_with fail
  refine (put_k n h w).mono ?_
  rintro e w' ⟨rfl, h1, h2, h3⟩
  go_wp2_with fail
  go_ret
  exact ⟨rfl, h1, h2, h3⟩

theorem equal_any (A B : Option Addr) (n m c c' : Nat) (l k : List UInt8) (w : World) (hl : RdB w A n l) (hk : RdB w B m k) :
    Calls Tryz.prog 113 #[.slice A n c, .slice B m c'] w fun e w' => e = .returned (.bool (decide (l = k))) ∧ ∃ q, w.drewN q = w' := by
  have hle := hl.le
  have hle2 := hk.le
  have Hl := Lib.hid hl.len
  have Hk := Lib.hid hk.len
  by_cases hnm : n = m
  · subst hnm
    have Hcl := Lib.hid hl
    have Hck := Lib.hid hk
    clear hl hk
    go_enter Tryz.func113, Tryz.ntmps113
    go_wp2
    go_loopw [13] (fun i wr => ∃ j q : Nat, j ≤ n ∧ i = .int .i64 j ∧ w.drewN q = wr ∧ l.take j = k.take j) (fun i _ => n - (intOf i).toNat)
    case atStart => exact ⟨0, 0, Nat.zero_le _, rfl, World.drewN_zero _, rfl⟩
    case round =>
      obtain ⟨j, q, hj, rfl, rfl, ht⟩ := hrel
      by_cases hlt : j < n
      · obtain ⟨b1, o1, x1, rfl, hx1, e1⟩ := Hcl.out.get hlt
        obtain ⟨b2, o2, x2, rfl, hx2, e2⟩ := Hck.out.get hlt
        have f1 : ∀ q, (w.drewN q).cell? ⟨b1, o1 + j, none⟩ = some (bv x1) := fun q => e1
        have f2 : ∀ q, (w.drewN q).cell? ⟨b2, o2 + j, none⟩ = some (bv x2) := fun q => e2
        have s1 : l.take (j + 1) = l.take j ++ [x1] := by rw [List.take_add_one, hx1]; rfl
        have s2 : k.take (j + 1) = k.take j ++ [x2] := by rw [List.take_add_one, hx2]; rfl
        by_cases hxx : x1 = x2
        · subst hxx
          have S := Lib.hid (show l.take (j + 1) = k.take (j + 1) by rw [s1, s2, ht])
          clear ht hx1 hx2 s1 s2
          go_wp2
          go_region
          go_wp2
          go_roundw
          case rel => exact ⟨j + 1, _, by omega, by go_num, rfl, S.out⟩
          case measure => simp [intOf]; omega
        · have hne : ((x1.toNat : Int) != (x2.toNat : Int)) = true := by
            rw [bne_iff_ne]
            intro hh
            exact hxx (UInt8.toNat_inj.1 (by omega))
          have S := Lib.hid (show l ≠ k from fun hh => by subst hh; rw [hx1] at hx2; exact hxx (by simpa using hx2))
          clear ht hx1 hx2 s1 s2 hxx
          go_wp2
          go_region
          go_wp2
          go_ret
          exact ⟨ret_bool (by simp [S.out]), _, rfl⟩
      · obtain rfl : j = n := by omega
        have S := Lib.hid (show l = k by rw [← List.take_of_length_le (Nat.le_of_eq Hl.out), ht, List.take_of_length_le (Nat.le_of_eq Hk.out)])
        clear ht
        go_wp2
        go_ret
        exact ⟨ret_bool (by simp [S.out]), _, rfl⟩
  · have hne : ((n : Int) != (m : Int)) = true := by rw [bne_iff_ne]; omega
    have S := Lib.hid (show l ≠ k from fun hh => hnm (by rw [← Hl.out, ← Hk.out, hh]))
    go_enter Tryz.func113, Tryz.ntmps113
    go_wp2
    go_ret
    exact ⟨ret_bool (by simp [S.out]), 0, World.drewN_zero _⟩

theorem not_nought (x : UInt8) (w : World) : Calls Tryz.prog 83 #[bv x] w fun e w' => e = .returned (.bool (decide (x ≠ 0))) ∧ w = w' := by
  go_enter Tryz.func83, Tryz.ntmps83
  go_wp2
  go_ret
  refine ⟨ret_bool ?_, rfl⟩
  by_cases h : x = 0
  · subst h; rfl
  · have : x.toNat ≠ 0 := fun hh => h (UInt8.toNat_inj.1 (by simpa using hh))
    simp [h, this]

/-- The place of the first byte that isn't nought; -1: all are. -/
theorem index_any (A : Option Addr) (n c : Nat) (l : List UInt8) (w : World) (hl : RdB w A n l) :
    Calls Tryz.prog 106 #[.slice A n c, .func (.func 83) #[] #[]] w fun e w' => (∃ z : Int, e = .returned (.int .i64 z) ∧ (0 ≤ z ↔ l ≠ zeros n)) ∧ w = w' := by
  have hle := hl.le
  have Hl := Lib.hid hl.len
  go_enter Tryz.func106, Tryz.ntmps106
  go_wp2
  go_loop [8] (fun i => ∃ j : Nat, j ≤ n ∧ i = .int .i64 j ∧ l.take j = zeros j) (fun i => n - (intOf i).toNat)
  case atStart => exact ⟨0, Nat.zero_le _, rfl, rfl⟩
  case round =>
    obtain ⟨j, hj, rfl, ht⟩ := hrel
    by_cases hlt : j < n
    · obtain ⟨b1, o1, x1, rfl, hx1, e1⟩ := hl.get hlt
      have s1 : l.take (j + 1) = l.take j ++ [x1] := by rw [List.take_add_one, hx1]; rfl
      by_cases hxx : x1 = 0
      · subst hxx
        have S := Lib.hid (show l.take (j + 1) = zeros (j + 1) by rw [s1, ht]; simp [zeros, List.replicate_succ'])
        clear ht hx1 s1
        go_wp2_with fail
        refine (not_nought 0 w).mono ?_
        rintro e w' ⟨rfl, rfl⟩
        go_wp2
        go_round
        case rel => exact ⟨j + 1, by omega, by go_num, S.out⟩
        case measure => simp [intOf]; omega
      · have S := Lib.hid (show l ≠ zeros n from fun hh => by rw [hh] at hx1; simp [zeros, hlt] at hx1; exact hxx hx1.symm)
        have hd : decide (x1 ≠ 0) = true := by simpa using hxx
        clear ht hx1 s1 hxx
        go_wp2_with fail
        refine (not_nought x1 w).mono ?_
        rintro e w' ⟨rfl, rfl⟩
        go_wp2
        go_ret
        exact ⟨⟨_, rfl, fun _ => S.out, fun _ => by omega⟩, rfl⟩
    · obtain rfl : j = n := by omega
      have S := Lib.hid (show l = zeros j by rw [← ht, List.take_of_length_le (Nat.le_of_eq Hl.out)])
      clear ht
      go_wp2
      go_ret
      exact ⟨⟨-1, rfl, fun h => by omega, fun h => (h S.out).elim⟩, rfl⟩
theorem contains_any (A : Option Addr) (n c : Nat) (l : List UInt8) (w : World) (hl : RdB w A n l) :
    Calls Tryz.prog 82 #[.slice A n c, .func (.func 83) #[] #[]] w fun e w' => e = .returned (.bool (decide (l ≠ zeros n))) ∧ w = w' := by
  go_enter Tryz.func82, Tryz.ntmps82
  go_wp2_with fail
  refine (index_any A n c l w hl).mono ?_
  rintro e w' ⟨⟨z, rfl, hz⟩, rfl⟩
  go_wp2_with fail
  go_ret
  exact ⟨ret_bool (by simp), rfl⟩

theorem info_u8' : ∃ i, Tryz.prog.info? 5 = some i ∧ i.zero = some (.int .u8 0) ∧ i.size = 1 ∧ i.bytes = 1 := by
  obtain ⟨i, hi, hz⟩ := Option.map_eq_some_iff.1 info_u8
  simp only [Prod.mk.injEq] at hz
  exact ⟨i, hi, hz⟩
set_option maxRecDepth 100000 in
set_option maxHeartbeats 4000000 in
theorem grow_nil (n : Nat) (hn : n ≤ 140737488355328) (w : World) :
    Calls Tryz.prog 105 #[.slice none 0 0, .int .i64 (n : Int)] w fun e w' => ∃ v, e = .returned v ∧ w'.ownsRow w.heap.size 5 1 v 0 [] ∧ Keeps Non w w' := by
  rcases Nat.eq_zero_or_pos n with h0 | h0
  · subst h0
    go_enter Tryz.func105, Tryz.ntmps105
    go_wp2
    go_ret
    exact ⟨_, rfl, World.ownsRow_nil _ _ _ _, Keeps.refl _ _⟩
  · obtain ⟨i0, hi0, hz0, hs0, hb0⟩ := info_u8'
    have hGn : n ≤ grownCap w n 0 5 := grownCap_ge w _ _ _
    have hGm : grownCap w n 0 5 ≤ maxLen := grownCap_le_maxLen w n 0 5 (by unfold maxLen; omega)
    have hrz : ∀ ty, (Builtin.append_ #[60, 3] ty #[.slice none 0 0, .int .i64 (n : Int)]).run Tryz.prog w =
        .ok (.slice (some ⟨w.heap.size, 0, none⟩) n (grownCap w n 0 5)) (w.drew.alloc (.cells (([] : List Value).toArray ++ Builtin.zeroCells (Value.int .u8 0).cells n ++ Builtin.zeroCells (Value.int .u8 0).cells (grownCap w n 0 5 - n)) 5)) := fun ty => by
      have h := Lib.run_append_grow_zeros w 60 3 ty 5 i0 (.int .u8 0) .i64 .i64 Tryz.underlying60 Tryz.underlying3 hi0 hz0 none 0 0 [] (run_firstCells_none w.drew i0.size 0 0 0) n h0 (by omega) (by omega) (by omega) (by rw [hb0]; omega) (growslice_fits (by omega) (by rw [hb0]; omega))
      rw [Nat.zero_add] at h
      exact h
    obtain ⟨G, hG⟩ : ∃ G, G = grownCap w n 0 5 := ⟨_, rfl⟩
    rw [← hG] at hrz hGn hGm
    have hG63 : G ≤ 9223372036854775807 := by unfold maxLen at hGm; exact hGm
    clear hG
    go_enter Tryz.func105, Tryz.ntmps105
    go_wp2_with (at_builtin; refine Lib.wpList_append_run _ rfl _ _ _ _ rfl _ _ rfl rfl _ _ (hrz _) ?_)
    all_goals
      go_ret
      refine ⟨_, rfl, ⟨rfl, .inr ⟨w.heap.size, G, _, rfl, Nat.le_refl _, heap_alloc_new w.drew _, Nat.zero_le _, hGm, ?_, rfl⟩⟩, ((Keeps.refl _ _).drew).alloc _⟩
      simp [size_zeroCells]
      omega
end Go.Proofs.YtbmamhcjbhnkiaaGreat
