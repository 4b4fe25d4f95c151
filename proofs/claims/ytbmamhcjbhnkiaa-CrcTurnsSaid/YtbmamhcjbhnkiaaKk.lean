/- The walk of the law CrcTurns. -/
import Derived.Test.YtbmamhcjbhnkiaaKg
import Derived.Test.YtbmamhcjbhnkiaaKi
import Derived.RegionTactic
namespace Go.Proofs.Ytbmamhcjbhnkiaa
open Go.RowKit

theorem and_shift {n : Nat} (h : n < 4294967296) (k : Nat) : bits .and .u32 ((n : Int) / 2 ^ k) 1 = ((n / 2 ^ k % 2 : Nat) : Int) := by
  have hd : n / 2 ^ k ≤ n := Nat.div_le_self _ _
  have e : ((n : Int) / 2 ^ k) = ((n / 2 ^ k : Nat) : Int) := by rw [Int.natCast_ediv, Int.natCast_pow]; rfl
  rw [e, and_one (by omega)]

theorem pow_small (e : Nat) (h : e < 8) : 2 ^ e ≤ 128 := by
  have := Nat.pow_le_pow_right (show 0 < 2 by decide) (show e ≤ 7 by omega)
  omega
theorem mask_toNat (e : Nat) (h : e < 8) : (UInt8.ofNat (2 ^ e)).toNat = 2 ^ e := by
  rw [UInt8.toNat_ofNat']; have := pow_small e h; exact Nat.mod_eq_of_lt (by omega)
theorem mask_xor (x : UInt8) (e : Nat) (h : e < 8) : bv (x ^^^ UInt8.ofNat (2 ^ e)) = .int .u8 (bits .xor .u8 (x.toNat : Int) (2 ^ e % 256)) := by
  have hp := pow_small e h
  have e1 : ((2 : Int) ^ e % 256) = ((2 ^ e : Nat) : Int) := by
    have : ((2 ^ e : Nat) : Int) = (2 : Int) ^ e := by rw [Int.natCast_pow]; rfl
    rw [← this]
    generalize 2 ^ e = p at *
    omega
  rw [e1, u8_xor_nat x.toNat (2 ^ e) x.toNat_lt (by omega)]
  simp only [bv, UInt8.toNat_xor, mask_toNat e h]

theorem crcTurns_walk (a0 : Option Addr) (len0 cap0 : Nat) (z0 : List Int) (a1 a2 : Int) (w : World) (w0 : IsRow .u8 w a0 len0 cap0 z0) (w1 : (Lit.int .i64 a1).wf = true) (w2 : (Lit.int .u32 a2).wf = true) :
    Calls Try.prog 5 #[.slice a0 len0 cap0, .int .i64 a1, .int .u32 a2] w fun e w' => e = .returned (.bool true) ∧ Below w.heap.size w w' := by
  have hle0 := w0.len_le
  obtain ⟨bits', rfl, hbits⟩ : ∃ n : Nat, a2 = n ∧ n < 4294967296 := by
    simp only [Lit.wf, Bool.and_eq_true, decide_eq_true_eq] at w2
    have hmin : IntKind.u32.min = 0 := rfl
    have hmax : IntKind.u32.max = 4294967295 := rfl
    exact ⟨a2.toNat, by omega, by omega⟩
  clear w2
  simp only [Lit.wf, Bool.and_eq_true, decide_eq_true_eq] at w1
  have hmin : IntKind.i64.min = -9223372036854775808 := rfl
  have hmax : IntKind.i64.max = 9223372036854775807 := rfl
  rw [hmin, hmax] at w1
  clear hmin hmax
  obtain ⟨hw1, hw2⟩ := w1
  by_cases h1 : len0 ≤ 2000
  · by_cases h2 : a1 < 0
    · have hd1 : decide ((2000 : Int) < (len0 : Int)) = false := by simp; omega
      go_enter Try.func5, Try.ntmps5
      go_wp2_with fail
      refine (anchor3_any _).mono ?_
      rintro e w3 ⟨rfl, hk1⟩
      go_wp2_with fail
      go_ret
      exact ⟨rfl, hk1.none_below⟩
    · obtain ⟨at', rfl⟩ := Int.eq_ofNat_of_zero_le (show 0 ≤ a1 by omega)
      by_cases h3 : 8 * len0 ≤ at'
      · have hd3 : (8 : Int) * (len0 : Int) ≤ (at' : Int) := by omega
        go_enter Try.func5, Try.ntmps5
        go_wp2_with fail
        refine (anchor3_any _).mono ?_
        rintro e w3 ⟨rfl, hk1⟩
        go_wp2_with fail
        go_ret
        exact ⟨rfl, hk1.none_below⟩
      · by_cases h4 : bits' = 0
        · subst h4
          have h3' : ¬ ((8 : Int) * (len0 : Int) ≤ (at' : Int)) := by omega
          go_enter Try.func5, Try.ntmps5
          go_wp2_with fail
          refine (anchor3_any _).mono ?_
          rintro e w3 ⟨rfl, hk1⟩
          go_wp2_with fail
          go_ret
          exact ⟨rfl, hk1.none_below⟩
        · have hb0 : ((bits' : Int) == 0) = false := by simp; omega
          have h3' : ¬ ((8 : Int) * (len0 : Int) ≤ (at' : Int)) := by omega
          have H4 := Lib.hid h4
          clear h4
          have hr := w0.rdB (by omega)
          generalize bytesOf z0 len0 = l at *
          clear w0
          go_enter Try.func5, Try.ntmps5
          go_wp2_with fail
          refine (anchor3_any _).mono ?_
          rintro e w3 ⟨rfl, hk1⟩
          have hB := hk1.size
          have hown := own_empty w3 w.heap.size 5 hB
          have hkW : Keeps Non w (w3.alloc (.cells #[] 5)) := hk1.alloc _
          have hsrc := src_bytes (P := Try.prog) Try.underlying22 (hr.keepN hkW) cap0
          have Hd : Hid (0 < len0) := by show 0 < len0; omega
          go_wp2_with (at_builtin; refine wpList_append_src _ rfl _ _ 22 22 rfl w.heap.size 5 (.int .u8 0) 1 1 Try.underlying22 info_u8 rfl (by decide) (.slice (some ⟨w3.heap.size, 0, none⟩) 0 0) _ _ rfl hown _ _ _ rfl hsrc (by unfold maxLen; omega) (by omega) (by simp; omega) ?_; intro v' w4 hown' hgrow hat)
          simp only [Nat.zero_add, List.nil_append] at hown'
          obtain ⟨g, cap, rest, rfl, hg0, hg, hgc, hcm, hrest⟩ := own_row hown' Hd.out
          have hbel4 : Below w.heap.size w w4 := hkW.none_below.grown hgrow (by simp; omega) (fun j hj => by simp [Value.ownBlock] at hj; omega)
          have Hl := Lib.hid hr.len
          clear hown hown' hsrc hgrow hat hrest hkW
          go_wp2_with fail
          go_loopw [32] (fun i wr => ∃ k : Nat, k ≤ 32 ∧ i = .int .i64 k ∧ (∃ D : List UInt8, D.length = len0 ∧ Crc.num D = Crc.num l ^^^ ((bits' % 2 ^ k) * 2 ^ at') ∧ wr.heap[g]? = some (.cells (D.map bv ++ rest).toArray 5 (0, 0))) ∧ Below w.heap.size w wr) (fun i _ => 32 - (intOf i).toNat)
          case atStart => exact ⟨0, Nat.zero_le _, rfl, ⟨l, Hl.out, by simp [Nat.mod_one], hg⟩, hbel4⟩
          case round =>
            obtain ⟨k, hk, rfl, ⟨D, hD, hDn, hg⟩, hbel⟩ := hrel
            have HD := Lib.hid hD
            have HDn := Lib.hid hDn
            clear hD hDn
            by_cases hlt : k < 32
            · have hbit := and_shift hbits k
              rcases Nat.mod_two_eq_zero_or_one (bits' / 2 ^ k) with hm | hm
              · have ht : (bits .and .u32 ((bits' : Int) / 2 ^ k) 1 == 0) = true := by rw [hbit, hm]; rfl
                have Hm := Lib.hid hm
                clear hm hbit
                go_wp2
                go_roundw
                case rel => exact ⟨k + 1, by omega, by go_num, ⟨D, HD.out, by rw [HDn.out, Crc.bits_same _ _ Hm.out], hg⟩, hbel⟩
                case measure => simp [intOf]; omega
              · have ht : (bits .and .u32 ((bits' : Int) / 2 ^ k) 1 == 0) = false := by rw [hbit, hm]; rfl
                have Hm := Lib.hid hm
                clear hm hbit
                by_cases hend : 8 * len0 ≤ at' + k
                · have hend' : (8 : Int) * (len0 : Int) ≤ (at' : Int) + (k : Int) := by omega
                  go_wp2
                  go_ret
                  exact ⟨rfl, hbel⟩
                · have hend' : ¬ (8 : Int) * (len0 : Int) ≤ (at' : Int) + (k : Int) := by omega
                  obtain ⟨xd, id⟩ : ∃ x, D[(at' + k) / 8]? = some x := ⟨_, List.getElem?_eq_getElem (by rw [HD.out]; omega)⟩
                  have e3 := row_cell hg id
                  have e4 := row_free hg ((at' + k) / 8)
                  have Hid' := Lib.hid id
                  have Hg := Lib.hid hg
                  have Hend := Lib.hid hend
                  clear hg id hend
                  go_wp2_with fail
                  go_region
                  have hmask := mask_toNat ((at' + k) % 8) (by omega)
                  have hval := mask_xor xd ((at' + k) % 8) (by omega)
                  generalize UInt8.ofNat (2 ^ ((at' + k) % 8)) = mk at *
                  have Hmask := Lib.hid hmask
                  clear hmask
                  have HV := Lib.hid hval
                  clear hval
                  have hlen : (at' + k) / 8 < D.length := by rw [HD.out]; have := Hend.out; omega
                  have hnum := Crc.num_step D at' bits' k l HDn.out Hm.out hlen mk Hmask.out
                  rw [show D[(at' + k) / 8] = xd from Option.some.inj ((List.getElem?_eq_getElem hlen).symm.trans Hid'.out)] at hnum
                  have Hnum := Lib.hid hnum
                  clear hnum
                  have hlen' : (at' + k) / 8 < D.length := hlen
                  clear hlen
                  have Hlen := Lib.hid hlen'
                  clear hlen'
                  go_wp2
                  go_roundw
                  case rel =>
                    refine ⟨k + 1, by omega, by go_num, ⟨D.set ((at' + k) / 8) (xd ^^^ mk), by rw [List.length_set]; exact HD.out, Hnum.out, ?_⟩, ?_⟩
                    · have h := row_set (w := wr) Hg.out Hlen.out (xd ^^^ mk)
                      rw [show bv (xd ^^^ mk) = _ from HV.out] at h
                      exact h
                    · exact (hbel.setCell hg0 _).drew
                  case measure => simp [intOf]; omega
            · obtain rfl : k = 32 := by omega
              have hn : Crc.num D = Crc.num l ^^^ (bits' * 2 ^ at') := by rw [HDn.out, Nat.mod_eq_of_lt (by omega)]
              have hs := Crc.turned_sums l D at' bits' (by rw [Hl.out, HD.out]) (by rw [Hl.out]; omega) (Nat.pos_of_ne_zero H4.out) hbits hn
              have hne : ((Crc.sum l : Int) != (Crc.sum D : Int)) = true := by rw [bne_iff_ne]; omega
              have hrl := (hr.below hbel)
              have hrD := row_rdB hg HD.out (by omega)
              have HN := Lib.hid hne
              clear hs hn hg hne
              go_wp2_with fail
              refine (sum_one a0 len0 cap0 _ 1 l _ _ _ (heap_new wr _) (hrl.keepN ((Keeps.refl _ _).alloc _))).mono ?_
              rintro e w5 ⟨rfl, hk5⟩
              have hk5' : Keeps Non wr w5 := ((Keeps.refl _ _).alloc _).trans hk5
              go_wp2_with fail
              refine (sum_one (some ⟨g, 0, none⟩) len0 cap _ 1 D _ _ _ (heap_new w5 _) ((hrD.keepN hk5').keepN ((Keeps.refl _ _).alloc _))).mono ?_
              rintro e w6 ⟨rfl, hk6⟩
              have hk6' : Keeps Non wr w6 := hk5'.trans (((Keeps.refl _ _).alloc _).trans hk6)
              go_wp2_with fail
              go_ret
              exact ⟨ret_bool HN.out, hbel.trans (hk6'.below hbel.size fun _ _ h => h.elim)⟩
  · have hd1 : (2000 : Int) < (len0 : Int) := by omega
    go_enter Try.func5, Try.ntmps5
    go_wp2_with fail
    refine (anchor3_any _).mono ?_
    rintro e w3 ⟨rfl, hk1⟩
    go_wp2_with fail
    go_ret
    exact ⟨rfl, hk1.none_below⟩
end Go.Proofs.Ytbmamhcjbhnkiaa
