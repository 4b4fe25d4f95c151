/- The walk of the law DiskTorn. -/
import Derived.Test.YtbmamhcjbhnkiaaKr
import Derived.Test.YtbmamhcjbhnkiaaKi
import Derived.RegionTactic
namespace Go.Proofs.Ytbmamhcjbhnkiaa
open Go.RowKit

theorem make_1024 (W : World) : (Instr.makeSlice 22 (.int .i64 1024) (.int .i64 1024)).run Try.prog W =
    .ok (.slice (some ⟨W.heap.size, 0, none⟩) 1024 1024) (W.alloc (.cells ((zeros 1024).map bv).toArray 5)) := make_zeros 1024 (by omega) W

theorem u8_byte (k : Nat) : Value.int .u8 (((k : Int) * 7 + 1) % 256) = bv (UInt8.ofNat (k * 7 + 1)) := by
  simp only [bv, UInt8.toNat_ofNat']
  congr 1

set_option maxRecDepth 100000 in
set_option maxHeartbeats 6400000 in
theorem diskTorn_walk (a0 : Int) (a1 : Option Addr) (len1 cap1 : Nat) (z1 : List Int) (a2 : Int) (w : World) (w0 : (Lit.int .i64 a0).wf = true) (w1 : IsRow .u8 w a1 len1 cap1 z1) (w2 : (Lit.int .i64 a2).wf = true) :
    Calls Try.prog 8 #[.int .i64 a0, .slice a1 len1 cap1, .int .i64 a2] w fun e w' => e = .returned (.bool true) ∧ Below w.heap.size w w' := by
  simp only [Lit.wf, Bool.and_eq_true, decide_eq_true_eq] at w0 w2
  have hmin : IntKind.i64.min = -9223372036854775808 := rfl
  have hmax : IntKind.i64.max = 9223372036854775807 := rfl
  rw [hmin, hmax] at w0 w2
  clear hmin hmax
  have hlen := w1.len_le
  have hcap := w1.cap_le
  by_cases hout : a0 < 0 ∨ 1024 < a0 ∨ 1024 - a0 < (len1 : Int) ∨ a2 < 0
  · have hcases : a0 < 0 ∨ (¬ a0 < 0 ∧ 1024 < a0) ∨ (¬ a0 < 0 ∧ ¬ 1024 < a0 ∧ 1024 - a0 < (len1 : Int)) ∨ (¬ a0 < 0 ∧ ¬ 1024 < a0 ∧ ¬ 1024 - a0 < (len1 : Int) ∧ a2 < 0) := by omega
    clear hout
    rcases hcases with h1 | ⟨h1, h2⟩ | ⟨h1, h2, h3⟩ | ⟨h1, h2, h3, h4⟩
    all_goals
      go_enter Try.func8, Try.ntmps8
      go_wp2_with fail
      refine (anchor7_any _).mono ?_
      rintro e w3 ⟨rfl, hk1⟩
      go_wp2_with fail
      go_ret
      exact ⟨rfl, hk1.none_below⟩
  · obtain ⟨x, rfl⟩ := Int.eq_ofNat_of_zero_le (show 0 ≤ a0 by omega)
    obtain ⟨n, rfl⟩ := Int.eq_ofNat_of_zero_le (show 0 ≤ a2 by omega)
    have h1 : ¬ 1024 < (x : Int) := by omega
    have h2 : ¬ 1024 - (x : Int) < (len1 : Int) := by omega
    clear hout
    have hr := w1.rdB (by omega)
    generalize bytesOf z1 len1 = l at *
    clear w1
    have hmk := make_1024
    have Hl := Lib.hid hr.len
    go_enter Try.func8, Try.ntmps8
    go_wp2_with fail
    refine (anchor7_any _).mono ?_
    rintro e w3 ⟨rfl, hk1⟩
    go_wp2_with fail
    refine (new_1024 w3).mono ?_
    rintro e w4 ⟨p, g, rfl, hD, hp, hg, hk2⟩
    have hk4 := hk1.trans hk2
    have hz := heap_zeros w4 1024
    obtain ⟨w5, hw5⟩ : ∃ w5, w5 = w4.alloc (.cells ((zeros 1024).map bv).toArray 5) := ⟨_, rfl⟩
    have hk5 : Keeps Non w4 w5 := by rw [hw5]; exact (Keeps.refl _ _).alloc _
    have hz5 : w5.heap.size = w4.heap.size + 1 := by rw [hw5]; simp
    rw [← hw5] at hz
    have H5 := Lib.hid hw5
    clear hw5
    have hD5 := hD.keep hk5 id id
    have hlt := hD.lt
    have Hz5 := Lib.hid hz5
    clear hz5
    go_wp2_with fail
    rw [← H5.out]
    go_loopw [43] (fun i wr => ∃ k : Nat, k ≤ 1024 ∧ i = .int .i64 k ∧ (∃ D : List UInt8, D.length = 1024 ∧ wr.heap[w4.heap.size]? = some (.cells (D.map bv ++ []).toArray 5 (0, 0))) ∧ Keeps (fun k => k = w4.heap.size) w5 wr) (fun i _ => 1024 - (intOf i).toNat)
    case atStart => exact ⟨0, Nat.zero_le _, rfl, ⟨zeros 1024, zeros_length _, hz⟩, Keeps.refl _ _⟩
    case round =>
      obtain ⟨k, hk, rfl, ⟨D, hDl, hg'⟩, hkr⟩ := hrel
      have HD := Lib.hid hDl
      by_cases hlt' : k < 1024
      · obtain ⟨xd, hxd⟩ : ∃ y, D[k]? = some y := ⟨_, List.getElem?_eq_getElem (by omega)⟩
        have e3 := row_cell hg' hxd
        have e4 := row_free hg' k
        have hset := row_set hg' (k := k) (by omega) (UInt8.ofNat (k * 7 + 1))
        rw [← u8_byte] at hset
        have Hset := Lib.hid hset
        clear hset hxd hDl hg'
        go_wp2
        go_roundw
        case rel => exact ⟨k + 1, by omega, by go_num, ⟨D.set k (UInt8.ofNat (k * 7 + 1)), by rw [List.length_set]; exact HD.out, Hset.out⟩, hkr.set1 _ _⟩
        case measure => simp [intOf]; omega
      · obtain rfl : k = 1024 := by omega
        have hrD := row_rdB hg' HD.out (by omega)
        have hDr := hD5.keep hkr (by omega) (by omega)
        have hz5 := hkr.size
        have hkw : Keeps Non w wr := (hk4.trans hk5).into hkr (fun k h1 h2 => by have := hk4.size; show False; omega)
        have hG := Lib.hid hg'
        clear hz hg' hD5 hD
        go_wp2_with fail
        have hlen0 : (0 : Int) + D.length ≤ (Dk.new 1024).data.length := by rw [new_len]; omega
        refine (write_any' p g _ 0 _ 1024 1024 D (by omega) (by omega) wr hDr hrD (by omega)).mono ?_
        rintro e w6 ⟨rfl, hD6, hk6⟩
        rw [Dk.write_open rfl rfl (by omega) hlen0] at hD6
        have hput : Dk.put (Dk.new 1024).data (0 : Int).toNat D = D := by simp [Dk.put, Dk.new, hDl]
        rw [hput] at hD6
        have hS : ∀ k, k < w.heap.size → (k = p ∨ k = g) → Non k := fun k h1 h2 => by have := hk1.size; show False; omega
        have hk6w := hkw.into hk6 hS
        have hG6 := hk6.at_ hG.out (by omega)
        have hr6 := hr.below hk6w.none_below
        have hlen6 : (x : Int) + l.length ≤ (D.length : Int) := by have := Hl.out; omega
        clear hput hrD hDr hkw hkr hk6 hlen0 hk5 hk2
        have hD6' := hD6
        go_wp2_with fail
        refine (light_any p g _ 0 n (by omega) (by omega) w6 hD6).mono ?_
        rintro e w7 ⟨rfl, hD7, hk⟩
        have hk7w := hk6w.into hk (fun k h1 h2 => hS k h1 (.inl h2))
        have hG7 := hk.at_ hG6 (by have := hD6'.lt; omega)
        have hr7 := hr.below hk7w.none_below
        rw [Dk.lightErr_ok (by omega) (by omega)]
        rw [Dk.light_ok (by omega) (by omega)] at hD7
        clear hD6 hD6' hG6 hk hk6w hr6
        go_wp2_with fail
        refine (write_any' p g _ x a1 len1 cap1 l (by omega) (by omega) w7 hD7 hr7 hcap.1).mono ?_
        rintro e w8 ⟨rfl, hD8, hk⟩
        have hk8w := hk7w.into hk hS
        have hG8 := hk.at_ hG7 (by have := hD7.lt; omega)
        rw [Dk.err_burnt rfl rfl (by show ¬ (1 : Int) ≤ 0; omega) (by omega) hlen6]
        rw [Dk.write_burnt rfl rfl (by show ¬ (1 : Int) ≤ 0; omega) (by omega) hlen6] at hD8
        clear hD7 hG7 hk hk7w hr7
        go_wp2_with fail
        refine (write_any' p g _ 0 _ 1024 1024 D (by omega) (by omega) w8 hD8 (row_rdB hG8 HD.out (by omega)) (by omega)).mono ?_
        rintro e w9 ⟨rfl, hD9, hk⟩
        have hk9w := hk8w.into hk hS
        have hG9 := hk.at_ hG8 (by have := hD8.lt; omega)
        rw [Dk.err_down rfl]
        rw [Dk.write_down rfl] at hD9
        clear hD8 hG8 hk hk8w
        go_wp2_with fail
        refine (read_err p g _ 0 1 (by omega) (by omega) w9 hD9 (by rw [may_down rfl]; decide)).mono ?_
        rintro e w10 ⟨rfl, rfl⟩
        rw [may_down rfl]
        go_wp2_with fail
        refine (start_any p g _ w9 hD9).mono ?_
        rintro e w10 ⟨rfl, hD10, hk⟩
        have hk10w := hk9w.into hk (fun k h1 h2 => hS k h1 (.inl h2))
        have hG10 := hk.at_ hG9 (by have := hD9.lt; omega)
        clear hD9 hG9 hk hk9w
        obtain ⟨d10, hd10, hdn, hdt⟩ : ∃ d : Dk, DiskAt w10 p g d ∧ d.down = false ∧ d.data = Dk.put D x (l.take n) := ⟨_, hD10, rfl, by simp [Dk.start]⟩
        have hpl : (Dk.put D x (l.take n)).length = 1024 := by rw [Dk.put_length _ _ _ (by rw [List.length_take]; omega)]; exact HD.out
        clear hD10
        go_wp2_with fail
        refine (read_ok p g d10 0 1024 w10 hd10 (may_in hdn (by rw [hdt, hpl]; omega))).mono ?_
        rintro e w11 ⟨⟨A, c, rfl, hr11, hA, hnc, hcM⟩, hk⟩
        rw [hdt, List.drop_zero, List.take_of_length_le (by omega)] at hr11
        have hk11w := hk10w.trans hk
        have hG11 := hk.at_ hG10 id
        have hgl : w4.heap.size < w10.heap.size := (Array.getElem?_eq_some_iff.1 hG10).1
        clear hd10 hdt hdn hG10 hk hk10w
        have hsub : IntKind.i64.wrap (1024 - (x : Int)) = ((1024 - x : Nat) : Int) := by rw [IntKind.wrap_i64]; omega
        have fin : ∀ (dp : Option Addr) (dl dc m : Nat), dl = 1024 - x → (0 < 1024 - x → dp = some ⟨w4.heap.size, x, none⟩) → m ≤ len1 → l.take m = l.take n →
            ∃ w12, (Builtin.copy_ #[22, 22] 3 #[.slice dp dl dc, .slice a1 m cap1]).run Try.prog w11.drew = .ok (.int .i64 ((min m dl : Nat) : Int)) w12 ∧
              (∀ c', (convert 22 9 (.slice A 1024 c')).run Try.prog w12 = .ok (.string ⟨(Dk.put D x (l.take n)).toArray⟩) w12) ∧
              (∀ c', (convert 22 9 (.slice (some ⟨w4.heap.size, 0, none⟩) 1024 c')).run Try.prog w12 = .ok (.string ⟨(Dk.put D x (l.take n)).toArray⟩) w12) ∧ Keeps Non w w12 := by
          intro dp dl dc m hdl hdp hm hmn
          subst hdl
          have hrm : RdB w11.drew a1 m (l.take m) := (hr.below (hk11w.drew).none_below).take hm
          obtain ⟨w12, hcp, hG12, hk⟩ := run_copy_bytes w11.drew 3 dp w4.heap.size x (1024 - x) dc D [] hG11 a1 m cap1 (l.take m) hrm hdp (by omega)
          rw [List.take_of_length_le (show (l.take m).length ≤ 1024 - x by rw [List.length_take]; omega), hmn] at hG12
          refine ⟨w12, hcp, fun c' => run_str w12 A 1024 c' _ ((hr11.keepN (Keeps.refl _ _).drew).keep hk (fun _ a ha h => ?_)), fun c' => run_str w12 _ 1024 c' _ (row_rdB hG12 hpl (by omega)), (hk11w.drew).into hk (fun k h1 h2 => ?_)⟩
          · have := hA a ha; have h : a.block = w4.heap.size := h; omega
          · have := hk4.size; show False; omega
        clear hr11 hG11
        have hlm : (len1 : Int) < n → l.take len1 = l.take n := fun h => by have := Hl.out; rw [List.take_of_length_le (by omega), List.take_of_length_le (by omega)]
        by_cases hx : x = 1024
        · by_cases hnl : (len1 : Int) < (n : Int)
          ·
            obtain ⟨w12, hcp, hs1, hs2, hkw⟩ := fin (some ⟨w4.heap.size, 0, none⟩) 0 0 len1 (by omega) (by omega) (by omega) (hlm hnl)
            go_wp2_with fail
            go_region
            go_wp2_with fail
            go_ret
            exact ⟨rfl, hkw.none_below⟩
          ·
            obtain ⟨w12, hcp, hs1, hs2, hkw⟩ := fin (some ⟨w4.heap.size, 0, none⟩) 0 0 n (by omega) (by omega) (by omega) rfl
            go_wp2_with fail
            go_region
            go_wp2_with fail
            go_ret
            exact ⟨rfl, hkw.none_below⟩
        · by_cases hnl : (len1 : Int) < (n : Int)
          ·
            obtain ⟨w12, hcp, hs1, hs2, hkw⟩ := fin (some ⟨w4.heap.size, x, none⟩) (1024 - x) (1024 - x) len1 rfl (fun _ => rfl) (by omega) (hlm hnl)
            go_wp2_with fail
            go_region
            go_wp2_with fail
            go_ret
            exact ⟨rfl, hkw.none_below⟩
          ·
            obtain ⟨w12, hcp, hs1, hs2, hkw⟩ := fin (some ⟨w4.heap.size, x, none⟩) (1024 - x) (1024 - x) n rfl (fun _ => rfl) (by omega) rfl
            go_wp2_with fail
            go_region
            go_wp2_with fail
            go_ret
            exact ⟨rfl, hkw.none_below⟩
end Go.Proofs.Ytbmamhcjbhnkiaa
