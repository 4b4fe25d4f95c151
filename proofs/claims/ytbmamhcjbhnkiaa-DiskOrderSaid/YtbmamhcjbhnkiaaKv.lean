/- The walk of the law DiskOrder. -/
import Derived.Test.YtbmamhcjbhnkiaaKt
namespace Go.Proofs.Ytbmamhcjbhnkiaa
open Go.RowKit

/-- The disk behind k writes of which W are done whole. -/
structure OrdD (d : Dk) (W F k : Nat) (X : List UInt8) : Prop where
  data : d.data = X
  up : k ≤ W → d.down = false ∧ d.lit = true ∧ d.fw = (W : Int) - k ∧ d.fb = F
  down : W < k → d.down = true

theorem OrdD.left {d : Dk} {W F k : Nat} {X : List UInt8} (h : OrdD d W F k X) (hk : k < W) {x : Nat} {l : List UInt8} (hx : x + l.length ≤ X.length) : d.writeErr x l = 0 ∧ OrdD (d.write x l) W F (k + 1) (Dk.put X x l) := by
  obtain ⟨h1, h2, h3, h4⟩ := h.up (by omega)
  refine ⟨Dk.err_left h1 h2 (by omega) (by omega) (by rw [h.data]; omega), ?_⟩
  rw [Dk.write_left h1 h2 (by omega) (by omega) (by rw [h.data]; omega)]
  exact ⟨by simp [h.data], fun _ => ⟨h1, h2, by show d.fw - 1 = _; omega, h4⟩, fun h => by omega⟩
theorem OrdD.burnt {d : Dk} {W F k : Nat} {X : List UInt8} (h : OrdD d W F k X) (hk : k = W) {x : Nat} {l : List UInt8} (hx : x + l.length ≤ X.length) : d.writeErr x l = 20 ∧ OrdD (d.write x l) W F (k + 1) (Dk.put X x (l.take F)) := by
  obtain ⟨h1, h2, h3, h4⟩ := h.up (by omega)
  refine ⟨Dk.err_burnt h1 h2 (by omega) (by omega) (by rw [h.data]; omega), ?_⟩
  rw [Dk.write_burnt h1 h2 (by omega) (by omega) (by rw [h.data]; omega)]
  exact ⟨by simp [h.data, h4], fun _ => by omega, fun h => rfl⟩
theorem OrdD.gone {d : Dk} {W F k : Nat} {X : List UInt8} (h : OrdD d W F k X) (hk : W < k) (x : Int) (l : List UInt8) : d.writeErr x l = 20 ∧ OrdD (d.write x l) W F (k + 1) X := by
  have h1 := h.down hk
  refine ⟨Dk.err_down h1, ?_⟩
  rw [Dk.write_down h1]
  exact ⟨h.data, fun _ => by omega, fun _ => h1⟩

set_option maxRecDepth 100000 in
set_option maxHeartbeats 6400000 in
theorem diskOrder_walk (a0 : Option Addr) (len0 cap0 : Nat) (z0 : List Int) (a1 : Option Addr) (len1 cap1 : Nat) (z1 : List Int) (a2 a3 : Int) (w : World) (w0 : IsRow .i64 w a0 len0 cap0 z0) (w1 : IsRow .u8 w a1 len1 cap1 z1)
    (w2 : (Lit.int .i64 a2).wf = true) (w3 : (Lit.int .i64 a3).wf = true) :
    Calls Try.prog 9 #[.slice a0 len0 cap0, .slice a1 len1 cap1, .int .i64 a2, .int .i64 a3] w fun e w' => e = .returned (.bool true) ∧ Below w.heap.size w w' := by
  simp only [Lit.wf, Bool.and_eq_true, decide_eq_true_eq] at w2 w3
  have hmin : IntKind.i64.min = -9223372036854775808 := rfl
  have hmax : IntKind.i64.max = 9223372036854775807 := rfl
  rw [hmin, hmax] at w2 w3
  clear hmin hmax
  have hlen0 := w0.len_le
  have hcap0 := w0.cap_le
  have hlen1 := w1.len_le
  have hcap1 := w1.cap_le
  by_cases hout : 30 < len0 ∨ 40 < len1 ∨ a2 < 0 ∨ a3 < 0
  · have hcases : 30 < len0 ∨ (¬ 30 < len0 ∧ 40 < len1) ∨ (¬ 30 < len0 ∧ ¬ 40 < len1 ∧ a2 < 0) ∨ (¬ 30 < len0 ∧ ¬ 40 < len1 ∧ ¬ a2 < 0 ∧ a3 < 0) := by omega
    clear hout
    rcases hcases with h1 | ⟨h1, h2⟩ | ⟨h1, h2, h3⟩ | ⟨h1, h2, h3, h4⟩
    all_goals
      go_enter Try.func9, Try.ntmps9
      go_wp2_with fail
      refine (anchor7_any _).mono ?_
      rintro e w3 ⟨rfl, hk1⟩
      go_wp2_with fail
      go_ret
      exact ⟨rfl, hk1.none_below⟩
  · have h1 : ¬ 30 < len0 := by omega
    have h2 : ¬ 40 < len1 := by omega
    obtain ⟨W, rfl⟩ := Int.eq_ofNat_of_zero_le (show 0 ≤ a2 by omega)
    obtain ⟨F, rfl⟩ := Int.eq_ofNat_of_zero_le (show 0 ≤ a3 by omega)
    clear hout
    have hr := w1.rdB (by omega)
    generalize bytesOf z1 len1 = l at *
    clear w1
    have hmk := make_1024
    have Hl := Lib.hid hr.len
    have hplace := fun h0 => w0.place h0
    clear w0
    go_enter Try.func9, Try.ntmps9
    go_wp2_with fail
    refine (anchor7_any _).mono ?_
    rintro e w3 ⟨rfl, hk1⟩
    go_wp2_with fail
    refine (new_1024 w3).mono ?_
    rintro e w4 ⟨p, g, rfl, hD, hp, hg, hk2⟩
    have hS : ∀ k, k < w.heap.size → (k = p ∨ k = g) → Non k := fun k h1 h2 => by have := hk1.size; show False; omega
    have hk4 := hk1.trans hk2
    clear hk2
    go_wp2_with fail
    refine (light_any p g _ W F (by omega) (by omega) w4 hD).mono ?_
    rintro e w5 ⟨rfl, hD5, hk⟩
    rw [Dk.lightErr_ok (by omega) (by omega)]
    rw [Dk.light_ok (by omega) (by omega)] at hD5
    have hk5 := hk4.into hk (fun k h1 h2 => hS k h1 (.inl h2))
    clear hk hD hk4
    have hz := heap_zeros w5 1024
    obtain ⟨w6, hw6⟩ : ∃ w6, w6 = w5.alloc (.cells ((zeros 1024).map bv).toArray 5) := ⟨_, rfl⟩
    have hk6 : Keeps Non w5 w6 := by rw [hw6]; exact (Keeps.refl _ _).alloc _
    have hz6 : w6.heap.size = w5.heap.size + 1 := by rw [hw6]; simp
    rw [← hw6] at hz
    have H6 := Lib.hid hw6
    clear hw6
    have hD6 := hD5.keep hk6 id id
    have hlt := hD5.lt
    have hkw6 := hk5.trans hk6
    have hO : OrdD { Dk.new 1024 with lit := true, fw := W, fb := F } W F 0 (zeros 1024) := ⟨rfl, fun _ => ⟨rfl, rfl, by show (W : Int) = _; omega, rfl⟩, fun h => by omega⟩
    clear hD5 hk6
    go_wp2_with fail
    rw [← H6.out]
    go_loopw [51] (fun i wr => ∃ k : Nat, k ≤ len0 ∧ i = .int .i64 k ∧ (∃ (d : Dk) (X : List UInt8), DiskAt wr p g d ∧ OrdD d W F k X ∧ X.length = 1024 ∧ wr.heap[w5.heap.size]? = some (.cells (X.map bv ++ []).toArray 5 (0, 0))) ∧ Keeps Non w wr ∧ w6.heap.size ≤ wr.heap.size) (fun i _ => len0 - (intOf i).toNat)
    case atStart => exact ⟨0, Nat.zero_le _, rfl, ⟨_, zeros 1024, hD6, hO, zeros_length _, hz⟩, hkw6, Nat.le_refl _⟩
    case round =>
      obtain ⟨k, hk, rfl, ⟨d, X, hd, hOd, hXl, hgX⟩, hkr, hsz⟩ := hrel
      by_cases hlt' : k < len0
      · obtain ⟨b0, off0, rfl, hzl, hcz, hwz⟩ := hplace (by omega)
        have hcell := hkr.cell (hcz k (by omega)) id
        have hwf := hwz (z0.getD k 0) (by rw [List.getD_eq_getElem?_getD, List.getElem?_eq_getElem (show k < z0.length by omega)]; exact List.getElem_mem _)
        generalize z0.getD k 0 = x at *
        simp only [Lit.wf, Bool.and_eq_true, decide_eq_true_eq] at hwf
        have hmin : IntKind.i64.min = -9223372036854775808 := rfl
        have hmax : IntKind.i64.max = 9223372036854775807 := rfl
        rw [hmin, hmax] at hwf
        clear hmin hmax
        by_cases hx : x < 0 ∨ 900 < x
        · have hcases : x < 0 ∨ (¬ x < 0 ∧ 900 < x) := by omega
          clear hx
          rcases hcases with h3 | ⟨h3, h4⟩
          all_goals
            go_wp2_with fail
            go_ret
            exact ⟨rfl, hkr.none_below⟩
        · obtain ⟨y, rfl⟩ := Int.eq_ofNat_of_zero_le (show 0 ≤ x by omega)
          have h3 : ¬ (y : Int) < 0 := by omega
          have h4 : ¬ 900 < (y : Int) := by omega
          have hrr := hr.below hkr.none_below
          have hfit : y + l.length ≤ X.length := by have := Hl.out; omega
          have hsub : IntKind.i64.wrap (1024 - (y : Int)) = ((1024 - y : Nat) : Int) := by rw [IntKind.wrap_i64]; omega
          have hHX := Lib.hid hXl
          have hHg := Lib.hid hgX
          clear hx hXl hgX
          go_wp2_with fail
          refine (write_any' p g d y a1 len1 cap1 l (by omega) (by omega) wr hd hrr hcap1.1).mono ?_
          rintro e w7 ⟨rfl, hd7, hk7⟩
          have hkw7 := hkr.into hk7 hS
          have hg7 := hk7.at_ hHg.out (by omega)
          have hs7 := hk7.size
          have hr7 := hr.below hkw7.none_below
          clear hk7 hd hrr
          have hcase : k < W ∨ k = W ∨ W < k := by omega
          have hin : ∀ (w8 : World), Keeps (fun k => k = w5.heap.size) w7 w8 → Keeps Non w w8 := fun w8 h => hkw7.into h (fun k h1 h2 => by have := hk5.size; show False; omega)
          have hin2 : ∀ (w8 : World), Keeps (fun k => k = w5.heap.size) w7 w8 → DiskAt w8 p g (d.write y l) := fun w8 h => hd7.keep h (by omega) (by omega)
          rcases hcase with hkW | hkW | hkW
          · obtain ⟨e1, hO'⟩ := hOd.left hkW hfit
            have hi : (k : Int) < (W : Int) := by omega
            obtain ⟨w8, hcp, hg8, hk8⟩ := run_copy_bytes w7 3 (some ⟨w5.heap.size, y, none⟩) w5.heap.size y (1024 - y) (1024 - y) X [] hg7 a1 len1 cap1 l hr7 (fun _ => rfl) (by have := hHX.out; omega)
            rw [List.take_of_length_le (by have := Hl.out; omega)] at hg8
            rw [e1]
            have HO' := Lib.hid hO'
            have hd8 := hin2 w8 hk8
            have hkw8 := hin w8 hk8
            have hs8 := hk8.size
            clear hg7 hk8 hd7 hkw7 hr7 hin hin2 hOd e1 hO'
            go_wp2_with fail
            go_roundw
            case rel => exact ⟨k + 1, by omega, by go_num, ⟨_, _, hd8, HO'.out, by rw [Dk.put_length _ _ _ (by rw [hHX.out, Hl.out]; omega)]; exact hHX.out, hg8⟩, hkw8, by omega⟩
            case measure => simp [intOf]; omega
          · obtain ⟨e1, hO'⟩ := hOd.burnt hkW hfit
            subst hkW
            rw [e1]
            have HO' := Lib.hid hO'
            clear hOd e1 hO'
            have fin : ∀ m : Nat, m ≤ len1 → l.take m = l.take F → ∃ w8, (Builtin.copy_ #[22, 22] 3 #[.slice (some ⟨w5.heap.size, y, none⟩) (1024 - y) (1024 - y), .slice a1 m cap1]).run Try.prog w7.drew = .ok (.int .i64 ((min m (1024 - y) : Nat) : Int)) w8 ∧
                w8.heap[w5.heap.size]? = some (.cells ((Dk.put X y (l.take F)).map bv ++ []).toArray 5 (0, 0)) ∧ DiskAt w8 p g (d.write y l) ∧ Keeps Non w w8 ∧ w7.heap.size ≤ w8.heap.size := by
              intro m hm hmF
              obtain ⟨w8, hcp, hg8, hk8⟩ := run_copy_bytes w7.drew 3 (some ⟨w5.heap.size, y, none⟩) w5.heap.size y (1024 - y) (1024 - y) X [] hg7 a1 m cap1 (l.take m) ((hr7.keepN (Keeps.refl _ _).drew).take hm) (fun _ => rfl) (by have := hHX.out; omega)
              rw [List.take_of_length_le (show (l.take m).length ≤ 1024 - y by rw [List.length_take]; have := Hl.out; omega), hmF] at hg8
              have hk : Keeps (fun k => k = w5.heap.size) w7 w8 := (Keeps.refl _ _).drew.trans hk8
              exact ⟨w8, hcp, hg8, hin2 w8 hk, hin w8 hk, hk.size⟩
            have hpl : (Dk.put X y (l.take F)).length = 1024 := by rw [Dk.put_length _ _ _ (by rw [List.length_take, hHX.out, Hl.out]; omega)]; exact hHX.out
            clear hg7 hd7 hkw7 hr7 hin hin2
            by_cases hnl : (len1 : Int) < (F : Int)
            · obtain ⟨w8, hcp, hg8, hd8, hkw8, hs8⟩ := fin len1 (by omega) (by have := Hl.out; rw [List.take_of_length_le (by omega), List.take_of_length_le (by omega)])
              go_wp2_with fail
              go_region
              go_wp2_with fail
              go_roundw
              case rel => exact ⟨k + 1, by omega, by go_num, ⟨_, _, hd8, HO'.out, hpl, hg8⟩, hkw8, by omega⟩
              case measure => simp [intOf]; omega
            · obtain ⟨w8, hcp, hg8, hd8, hkw8, hs8⟩ := fin F (by omega) rfl
              go_wp2_with fail
              go_region
              go_wp2_with fail
              go_roundw
              case rel => exact ⟨k + 1, by omega, by go_num, ⟨_, _, hd8, HO'.out, hpl, hg8⟩, hkw8, by omega⟩
              case measure => simp [intOf]; omega
          · obtain ⟨e1, hO'⟩ := hOd.gone hkW y l
            have hi : ¬ (k : Int) < (W : Int) := by omega
            have hi2 : ¬ (k : Int) = (W : Int) := by omega
            rw [e1]
            have HO' := Lib.hid hO'
            clear hin hin2 hr7 hOd e1 hO'
            go_wp2_with fail
            go_roundw
            case rel => exact ⟨k + 1, by omega, by go_num, ⟨_, _, hd7, HO'.out, hHX.out, hg7⟩, hkw7, by omega⟩
            case measure => simp [intOf]; omega
      · obtain rfl : k = len0 := by omega
        have hHX := Lib.hid hXl
        have hdt := hOd.data
        have hHg := Lib.hid hgX
        clear hXl hgX
        go_wp2_with fail
        refine (start_any p g _ wr hd).mono ?_
        rintro e w7 ⟨rfl, hd7, hk7⟩
        have hg7 := hk7.at_ hHg.out (by omega)
        have hkw7 := hkr.into hk7 (fun k h1 h2 => hS k h1 (.inl h2))
        have hd0 : d.start.data = X := hdt
        have hml : d.start.may (0 : Nat) (1024 : Nat) = 0 := may_in rfl (by rw [hd0, hHX.out]; omega)
        clear hk7 hd
        go_wp2_with fail
        refine (read_ok p g d.start 0 1024 w7 hd7 hml).mono ?_
        rintro e w8 ⟨⟨A, c, rfl, hr8, _, _, _⟩, hk8⟩
        rw [hd0, List.drop_zero, List.take_of_length_le (by rw [hHX.out]; omega)] at hr8
        have s1 := run_str w8 A 1024 c _ hr8
        have s2 := run_str w8 _ 1024 1024 _ (row_rdB (hk8.at_ hg7 id) hHX.out (by omega))
        have hkw8 := hkw7.trans hk8
        clear hg7 hk8 hd7 hr8
        go_wp2_with fail
        go_ret
        exact ⟨rfl, hkw8.none_below⟩
end Go.Proofs.Ytbmamhcjbhnkiaa
