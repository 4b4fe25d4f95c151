/- The walk of the law CrcPuts. -/
import Derived.Test.YtbmamhcjbhnkiaaKd
import Derived.Test.YtbmamhcjbhnkiaaKi
import Derived.Deep.QuietTactic
import Derived.BigQuiet
namespace Go.Proofs.Ytbmamhcjbhnkiaa
open Go.RowKit

theorem get_take_succ (l : List UInt8) (k : Nat) (hk : k < l.length) : Crc.get (l.take (k + 1)) = Crc.get (l.take k) * 256 + l[k].toNat := by
  rw [List.take_succ_eq_append_getElem hk]; unfold Crc.get; rw [List.foldl_append]; rfl
theorem get_lt3 : ∀ l : List UInt8, l.length ≤ 3 → Crc.get l < 16777216
  | [], _ => by decide
  | [a], _ => by have := a.toNat_lt; simp only [Crc.get, List.foldl]; omega
  | [a, b], _ => by have := a.toNat_lt; have := b.toNat_lt; simp only [Crc.get, List.foldl]; omega
  | [a, b, c], _ => by have := a.toNat_lt; have := b.toNat_lt; have := c.toNat_lt; simp only [Crc.get, List.foldl]; omega
  | _ :: _ :: _ :: _ :: _, h => by simp at h
theorem get_take_lt (l : List UInt8) (k : Nat) (hk : k ≤ 3) : Crc.get (l.take k) < 16777216 := get_lt3 _ (by simp; omega)
theorem or_byte {g : Nat} (h : g < 16777216) (c : UInt8) : bits .or .u32 ((g : Int) * 256) (c.toNat : Int) = ((g * 256 + c.toNat : Nat) : Int) := by
  have hc := c.toNat_lt
  have := u32_or_nat (g * 256) c.toNat (by omega) (by omega)
  rw [nat_join 8 (g * 256) c.toNat (by omega) (by omega)] at this
  rw [← this, show (g : Int) * 256 = ((g * 256 : Nat) : Int) by omega]

theorem get_yes (A : Option Addr) (c : Nat) (l : List UInt8) (w : World) (hr : RdB w A 4 l) :
    Calls Try.prog 30 #[.slice A 4 c] w fun e w' => e = .returned (.tuple #[.int .u32 (Crc.get l : Int), .int .i64 0]) ∧ w = w' := by
  have hml := Lib.hid hr.len
  obtain ⟨b, off, rfl, hcell⟩ := hr.at_ (by omega)
  go_enter Try.func30, Try.ntmps30
  go_wp2
  go_loop [4, 12] (fun s i => ∃ k : Nat, k ≤ 4 ∧ i = .int .i64 k ∧ s = .int .u32 (Crc.get (l.take k) : Int)) (fun _ i => 4 - (intOf i).toNat)
  case atStart => exact ⟨0, Nat.zero_le _, rfl, rfl⟩
  case round =>
    obtain ⟨k, hk, rfl, rfl⟩ := hrel
    by_cases hlt : k < 4
    · have hkl : k < l.length := by rw [hml.out]; exact hlt
      have hck := hcell k hkl
      clear hcell
      have hs := get_take_lt l k (by omega)
      have hb := u32_wrap_byte l[k]
      have hx := or_byte hs l[k]
      have H2 := Lib.hid (get_take_succ l k hkl)
      generalize Crc.get (l.take k) = st at *
      generalize l[k] = ck at *
      go_wp2
      go_round
      case rel => exact ⟨k + 1, by omega, by go_num, congrArg (Value.int .u32) (by rw [H2.out]; omega)⟩
      case measure => simp [intOf]; omega
    · obtain rfl : k = 4 := by omega
      have H3 : Hid (l.take 4 = l) := by show l.take 4 = l; rw [List.take_of_length_le (by rw [hml.out]; omega)]
      go_wp2
      go_ret2
      exact ⟨by rw [H3.out]; rfl, rfl⟩

theorem put_k (n : Nat) (h : n < 4294967296) (w : World) : Calls Try.prog 29 #[.int .u32 (n : Int)] w fun e w' => e = .returned (.slice (some ⟨w.heap.size, 0, none⟩) 4 4) ∧
    w'.heap[w.heap.size]? = some (.cells ((Crc.four n).map bv).toArray 5) ∧ Keeps Non w w' ∧ w'.heap.size = w.heap.size + 1 :=
  (put_any n h w).mono fun e w' ⟨h1, h2⟩ => by subst h2; exact ⟨h1, heap_new _ _, (Keeps.refl _ _).alloc _, by simp⟩

theorem crcPuts_walk (a0 : Int) (a1 : Option Addr) (len1 cap1 : Nat) (z1 : List Int) (w : World) (w0 : (Lit.int .u32 a0).wf = true) (w1 : IsRow .u8 w a1 len1 cap1 z1) :
    Calls Try.prog 7 #[.int .u32 a0, .slice a1 len1 cap1] w fun e w' => e = .returned (.bool true) ∧ Below w.heap.size w w' := by
  have hle := w1.len_le
  obtain ⟨n, rfl, hn⟩ : ∃ n : Nat, a0 = n ∧ n < 4294967296 := by
    simp only [Lit.wf, Bool.and_eq_true, decide_eq_true_eq] at w0
    have hmin : IntKind.u32.min = 0 := rfl
    have hmax : IntKind.u32.max = 4294967295 := rfl
    exact ⟨a0.toNat, by omega, by omega⟩
  clear w0
  have hnn : ((n : Int) != (n : Int)) = false := by simp
  have hnd : ((n : Int) / 16777216 != (n : Int) / 16777216) = false := by simp
  have hwd : IntKind.i64.wrap ((n : Int) / 16777216) = (n : Int) / 16777216 := IntWalk.i64_in _ ⟨by omega, by omega⟩
  have hcell : ∀ W : World, ∀ g : Nat, W.heap[g]? = some (.cells ((Crc.four n).map bv).toArray 5) → W.cell? ⟨g, 0, none⟩ = some (.int .u8 ((n : Int) / 16777216)) := fun W g hg => by
    simp only [World.cell?, hg, Crc.four, List.map, bv_ofNat]
    have e : ((n / 16777216 % 256 : Nat) : Int) = (n : Int) / 16777216 := by omega
    simp [e]
  have hrd : ∀ (W : World) (g k : Nat), W.heap[g]? = some (.cells ((Crc.four k).map bv).toArray 5) → RdB W (some ⟨g, 0, none⟩) 4 (Crc.four k) := fun W g k hg => RdB.of_whole hg rfl rfl (by decide)
  have Hcell := Lib.hid hcell
  have Hrd := Lib.hid hrd
  clear hcell hrd
  have hgf := Lib.hid (Crc.get_four hn)
  by_cases h : len1 = 4
  · subst h
    have hr := w1.rdB (by omega)
    have hL := bytesOf_length w1
    generalize bytesOf z1 4 = l at *
    clear w1
    have hfg := Lib.hid (Crc.four_get l hL)
    have hgl := Crc.get_lt l hL
    match l, hL with
    | [x0, x1, x2, x3], _ =>
    go_enter Try.func7, Try.ntmps7
    go_wp2_with fail
    refine (anchor3_any _).mono ?_
    rintro e w1 ⟨rfl, hk1⟩
    go_wp2_with fail
    refine (put_k n hn _).mono ?_
    rintro e w2 ⟨rfl, hb2, hk2, hz2⟩
    have hc2 := Hcell.out _ _ hb2
    have hr2 := Hrd.out _ _ _ hb2
    have Hz2 := Lib.hid hz2
    have Hb2 := Lib.hid hb2
    clear hb2 hz2
    go_wp2_with fail
    refine (get_yes _ _ _ _ hr2).mono ?_
    rintro e w3 ⟨rfl, rfl⟩
    rw [hgf.out]
    go_wp2_with fail
    refine (get_yes _ _ _ _ ((hr.keepN hk1).keepN hk2)).mono ?_
    rintro e w3 ⟨rfl, rfl⟩
    generalize Crc.get [x0, x1, x2, x3] = k at *
    go_wp2_with fail
    refine (put_k k hgl _).mono ?_
    rintro e w4 ⟨rfl, hb4, hk4, hz4⟩
    rw [hfg.out] at hb4
    have hr4 : RdB w4 (some ⟨w2.heap.size, 0, none⟩) 4 [x0, x1, x2, x3] := RdB.of_whole hb4 rfl rfl (by decide)
    have hr5 := ((hr.keepN hk1).keepN hk2).keepN hk4
    obtain ⟨b, off, rfl, hcb⟩ := hr5.at_ (by omega)
    have c0 := hcb 0 (by simp); have c1 := hcb 1 (by simp); have c2 := hcb 2 (by simp); have c3 := hcb 3 (by simp)
    obtain ⟨b', off', hbo, hcb'⟩ := hr4.at_ (by omega)
    simp only [Option.some.injEq, Addr.mk.injEq] at hbo
    obtain ⟨rfl, rfl, _⟩ := hbo
    have d0 := hcb' 0 (by simp); have d1 := hcb' 1 (by simp); have d2 := hcb' 2 (by simp); have d3 := hcb' 3 (by simp)
    clear hcb hcb' hr5 hr4 hr2 hr hz4 hb4
    simp only [List.getElem_cons_zero, List.getElem_cons_succ, Nat.add_zero, Nat.zero_add] at c0 c1 c2 c3 d0 d1 d2 d3
    go_wp2_with fail
    go_quiet (fail)
    go_wp2
    go_ret
    exact ⟨rfl, ((hk1.trans (hk2.trans hk4)).drewN _).none_below⟩
  · have hne : ((len1 : Int) != 4) = true := by rw [bne_iff_ne]; omega
    clear w1
    have Hh := Lib.hid h
    clear h
    go_enter Try.func7, Try.ntmps7
    go_wp2_with fail
    refine (anchor3_any _).mono ?_
    rintro e w1 ⟨rfl, hk1⟩
    go_wp2_with fail
    refine (put_k n hn _).mono ?_
    rintro e w2 ⟨rfl, hb2, hk2, hz2⟩
    have hc2 := Hcell.out _ _ hb2
    have hr2 := Hrd.out _ _ _ hb2
    have Hz2 := Lib.hid hz2
    have Hb2 := Lib.hid hb2
    clear hb2 hz2
    go_wp2_with fail
    refine (get_yes _ _ _ _ hr2).mono ?_
    rintro e w3 ⟨rfl, rfl⟩
    rw [hgf.out]
    go_wp2_with fail
    refine (get_no a1 len1 cap1 hne w2).mono ?_
    rintro e w3 ⟨rfl, rfl⟩
    go_wp2_with fail
    go_ret
    exact ⟨rfl, (hk1.trans hk2).none_below⟩
end Go.Proofs.Ytbmamhcjbhnkiaa
