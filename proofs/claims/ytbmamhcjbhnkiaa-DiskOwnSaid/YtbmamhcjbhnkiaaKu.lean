/- The walk of the law DiskOwn. -/
import Derived.Test.YtbmamhcjbhnkiaaKr
import Derived.Test.YtbmamhcjbhnkiaaKi
import Derived.RegionTactic
namespace Go.Proofs.Ytbmamhcjbhnkiaa
open Go.RowKit

/-- Read, its answer as a row of its own. -/
def RetRead (w : World) (n : Nat) (l : List UInt8) (e : Ending) (w' : World) : Prop := ∃ A c g rest, e = .returned (.tuple #[.slice A n c, .int .i64 0]) ∧ w.heap.size ≤ g ∧ n ≤ c ∧ c ≤ 9223372036854775807 ∧
  (0 < n → A = some ⟨g, 0, none⟩ ∧ w'.heap[g]? = some (.cells (l.map bv ++ rest).toArray 5 (0, 0))) ∧ Keeps Non w w'
theorem read_own (p g : Nat) (d : Dk) (x n : Nat) (w : World) (h : DiskAt w p g d) (he : d.may x n = 0) :
    Calls Try.prog 35 #[.pointer (some ⟨p, 0, none⟩), .int .i64 (x : Int), .int .i64 (n : Int)] w (RetRead w n ((d.data.drop x).take n)) := by
  obtain ⟨h1, h2, h3, h4, h5⟩ := Dk.may_zero he
  have hb : (d.may x n != 0) = false := by rw [he]; rfl
  have h' := h
  obtain ⟨cap, rest, h'⟩ := h'
  have c0 := (six h'.st).c0
  have hle := h'.wf.le
  have hroom := h'.room
  have hcm := h'.capm
  have hlen : Hid (((d.data.drop x).take n).length = n) := by show _ = _; simp; omega
  have HE := Lib.hid he
  clear he h1
  have hsrc : ∀ A : Option Addr, (0 < n → A = some ⟨g, x, none⟩) → RdB w A n ((d.data.drop x).take n) := fun A hA => ⟨hlen.out, by omega, fun h0 => ⟨g, x, hA h0, fun j u hu => by
    rw [List.getElem?_take] at hu
    split at hu
    · rw [List.getElem?_drop] at hu
      exact row_cell h'.row hu
    · cases hu⟩⟩
  have Hsrc := Lib.hid hsrc
  clear hsrc
  go_enter Try.func35, Try.ntmps35
  go_wp2_with fail
  refine (may_any p g d x n (by omega) (by omega) w h).mono ?_
  rintro e w' ⟨rfl, rfl⟩
  go_wp2_with fail
  all_goals
    refine (clone_own _ n _ _ w (Hsrc.out _ (fun h0 => by first | rfl | omega))).mono ?_
    rintro e w1 ⟨v, rfl, hown, hk⟩
    rw [hlen.out] at hown
    obtain ⟨A, c1, g1, rest1, rfl, hg1, hnc, hcm', hrow⟩ := own_form hown
    clear hown
    go_wp2_with fail
    go_ret2
    exact ⟨A, c1, g1, rest1, rfl, hg1, hnc, hcm', hrow, hk⟩

theorem xor_u8 (x : UInt8) (k : Int) : ∃ y : UInt8, Value.int .u8 (bits .xor .u8 (x.toNat : Int) k) = bv y := by
  refine ⟨UInt8.ofNat (bits .xor .u8 (x.toNat : Int) k).toNat, ?_⟩
  have h0 : 0 ≤ bits .xor .u8 (x.toNat : Int) k ∧ bits .xor .u8 (x.toNat : Int) k < 256 := by
    show 0 ≤ IntKind.u8.wrap _ ∧ IntKind.u8.wrap _ < 256
    generalize (_ : Int) = z
    show 0 ≤ _ ∧ _
    unfold IntKind.wrap
    simp [IntKind.min, IntKind.max, IntKind.bits, IntKind.signed]
    omega
  simp only [bv, UInt8.toNat_ofNat']
  congr 1
  omega

set_option maxRecDepth 100000 in
set_option maxHeartbeats 1600000 in
theorem diskOwn_walk (a0 : Option Addr) (len0 cap0 : Nat) (z0 : List Int) (a1 : Option Addr) (len1 cap1 : Nat) (z1 : List Int) (w : World) (w0 : IsRow .u8 w a0 len0 cap0 z0) (w1 : IsRow .u8 w a1 len1 cap1 z1) :
    Calls Try.prog 11 #[.slice a0 len0 cap0, .slice a1 len1 cap1] w fun e w' => e = .returned (.bool true) ∧ Below w.heap.size w w' := by
  have hlen0 := w0.len_le
  have hcap0 := w0.cap_le
  have hlen1 := w1.len_le
  have hcap1 := w1.cap_le
  by_cases hout : 500 < len0 ∨ 500 < len1
  · have hcases : 500 < len0 ∨ (¬ 500 < len0 ∧ 500 < len1) := by omega
    clear hout
    rcases hcases with h1 | ⟨h1, h2⟩
    all_goals
      go_enter Try.func11, Try.ntmps11
      go_wp2_with fail
      refine (anchor7_any _).mono ?_
      rintro e w3 ⟨rfl, hk1⟩
      go_wp2_with fail
      go_ret
      exact ⟨rfl, hk1.none_below⟩
  · have h1 : ¬ 500 < len0 := by omega
    have h2 : ¬ 500 < len1 := by omega
    clear hout
    have hr0 := w0.rdB (by omega)
    have hr1 := w1.rdB (by omega)
    generalize bytesOf z0 len0 = b at *
    generalize bytesOf z1 len1 = c at *
    clear w0 w1
    have HL0 := Lib.hid hr0.len
    have HL1 := Lib.hid hr1.len
    go_enter Try.func11, Try.ntmps11
    go_wp2_with fail
    refine (anchor7_any _).mono ?_
    rintro e w3 ⟨rfl, hk1⟩
    go_wp2_with fail
    refine (new_1024 w3).mono ?_
    rintro e w4 ⟨p, g, rfl, hD, hp, hg, hk2⟩
    have hk4 := hk1.trans hk2
    have hown := own_empty w4 w4.heap.size 5 (Nat.le_refl _)
    have hlt := hD.lt
    have hsrc := src_bytes (P := Try.prog) Try.underlying22 ((hr0.below hk4.none_below).keepN ((Keeps.refl _ _).alloc (.cells #[] 5))) cap0
    go_wp2_with (at_builtin; refine wpList_append_src _ rfl _ _ 22 22 rfl w4.heap.size 5 (.int .u8 0) 1 1 Try.underlying22 info_u8 rfl (by decide) (.slice (some ⟨w4.heap.size, 0, none⟩) 0 0) _ _ rfl hown _ _ _ rfl hsrc (by unfold maxLen; omega) (by omega) (by simp) ?_; intro v' w5 hown' hgrow hat)
    simp only [Nat.zero_add, List.nil_append] at hown'
    have hb : Below w4.heap.size w4 w5 := ((Below.refl _ _).alloc (Nat.le_refl _) _).grown hgrow (by simp) (fun j hj => by simp [Value.ownBlock] at hj; omega)
    obtain ⟨A, c1, g1, rest1, rfl, hg1, hnc, hcm', hrow⟩ := own_form hown'
    have hk5 : Keeps Non w4 w5 := Keeps.of_below hb
    have hD5 := hD.keep hk5 id id
    have hkw5 := hk4.trans hk5
    have hrA : RdB w5 A len0 b := ⟨HL0.out, by omega, fun h0 => by obtain ⟨e1, e2⟩ := hrow h0; exact (e1 ▸ row_rdB e2 HL0.out (by omega)).cells h0⟩
    clear hown hsrc hgrow hat hb hown' hD hk5
    go_wp2_with fail
    have hS : ∀ k, k < w.heap.size → (k = p ∨ k = g) → Non k := fun k h1 h2 => by have := hk1.size; show False; omega
    have hn0 : (0 : Int) + b.length ≤ (Dk.new 1024).data.length := by rw [new_len, HL0.out]; omega
    refine (write_any' p g _ 0 A len0 c1 b (by omega) (by omega) w5 hD5 hrA hnc).mono ?_
    rintro e w6 ⟨rfl, hD6, hk⟩
    rw [Dk.err_open rfl rfl (by omega) hn0]
    rw [Dk.write_open rfl rfl (by omega) hn0, show wrap64 ((Dk.new 1024).wr + 1) = 1 by simp [Dk.new, wrap64]] at hD6
    have hkw6 := hkw5.into hk hS
    have hrow6 : 0 < len0 → A = some ⟨g1, 0, none⟩ ∧ w6.heap[g1]? = some (.cells (b.map bv ++ rest1).toArray 5 (0, 0)) := fun h0 => ⟨(hrow h0).1, hk.at_ (hrow h0).2 (by omega)⟩
    clear hrow hrA hD5 hk hkw5
    obtain ⟨d6, hd6, hdn6, hlt6, hdt6, hwr6⟩ : ∃ d : Dk, DiskAt w6 p g d ∧ d.down = false ∧ d.lit = false ∧ d.data = Dk.put (zeros 1024) 0 b ∧ d.wr = 1 := ⟨_, hD6, rfl, rfl, rfl, rfl⟩
    have hdl6 : d6.data.length = 1024 := by rw [hdt6, Dk.put_length _ _ _ (by rw [zeros_length, HL0.out]; omega), zeros_length]
    have hrd6 : (d6.data.drop 0).take len0 = b := by rw [hdt6, ← HL0.out]; simp [Dk.put]
    clear hD6
    go_wp2_with fail
    have hk6r : Keeps (fun k => k = g1) w6 w6 := Keeps.refl _ _
    go_loopw [39] (fun i wr => ∃ k : Nat, k ≤ len0 ∧ i = .int .i64 k ∧ (0 < len0 → ∃ D : List UInt8, D.length = len0 ∧ wr.heap[g1]? = some (.cells (D.map bv ++ rest1).toArray 5 (0, 0))) ∧ Keeps (fun k => k = g1) w6 wr) (fun i _ => len0 - (intOf i).toNat)
    case atStart => exact ⟨0, Nat.zero_le _, rfl, (fun h0 => ⟨b, HL0.out, (hrow6 h0).2⟩), Keeps.refl _ _⟩
    case round =>
      obtain ⟨k, hk, rfl, hDD, hkr⟩ := hrel
      by_cases hlt' : k < len0
      · obtain ⟨D, hDl, hgD⟩ := hDD (by omega)
        have hA := (hrow6 (by omega)).1
        obtain ⟨xd, hxd⟩ : ∃ y, D[k]? = some y := ⟨_, List.getElem?_eq_getElem (by omega)⟩
        have e3 := row_cell hgD hxd
        have e4 := row_free hgD k
        obtain ⟨y, hy⟩ := xor_u8 xd 1
        have hset := row_set hgD (k := k) (by omega) y
        have Hset := Lib.hid hset
        have HDl := Lib.hid hDl
        clear hset hxd hDl hgD
        subst hA
        go_wp2
        go_roundw
        case rel => exact ⟨k + 1, by omega, by go_num, (fun _ => ⟨D.set k y, by rw [List.length_set]; exact HDl.out, Hset.out⟩), hkr.set1 _ _⟩
        case measure => simp [intOf]; omega
      · obtain rfl : k = len0 := by omega
        have hd7 := hd6.keep hkr (by omega) (by omega)
        have hk7w := hkw6.into hkr (fun k h1 h2 => by have := hk4.size; show False; omega)
        have hk7 := hkr.size
        clear hDD hkr hrow6
        go_wp2_with fail
        refine (read_own p g d6 0 k wr hd7 (may_in hdn6 (by rw [hdl6]; omega))).mono ?_
        rintro e w8 ⟨B, cB, g2, rest2, rfl, hg2, hnB, hcB, hrowB, hk⟩
        rw [hrd6] at hrowB
        have hd8 := hd7.keep hk id id
        have hk8w := hk7w.trans hk
        have hwr := hd7.lt
        clear hk hd7
        go_wp2_with fail
        go_loopw [58] (fun i ws => ∃ j : Nat, j ≤ k ∧ i = .int .i64 j ∧ (0 < k → ∃ D : List UInt8, D.length = k ∧ ws.heap[g2]? = some (.cells (D.map bv ++ rest2).toArray 5 (0, 0))) ∧ Keeps (fun k => k = g2) w8 ws) (fun i _ => k - (intOf i).toNat)
        case atStart => exact ⟨0, Nat.zero_le _, rfl, (fun h0 => ⟨b, HL0.out, (hrowB h0).2⟩), Keeps.refl _ _⟩
        case round =>
          rename World => ws
          obtain ⟨j, hj, rfl, hDD, hkr⟩ := hrel
          by_cases hlt' : j < k
          · obtain ⟨D, hDl, hgD⟩ := hDD (by omega)
            have hA := (hrowB (by omega)).1
            obtain ⟨xd, hxd⟩ : ∃ y, D[j]? = some y := ⟨_, List.getElem?_eq_getElem (by omega)⟩
            have e3 := row_cell hgD hxd
            have e4 := row_free hgD j
            obtain ⟨y, hy⟩ := xor_u8 xd 2
            have hset := row_set hgD (k := j) (by omega) y
            have Hset := Lib.hid hset
            have HDl := Lib.hid hDl
            clear hset hxd hDl hgD
            subst hA
            go_wp2
            go_roundw
            case rel => exact ⟨j + 1, by omega, by go_num, (fun _ => ⟨D.set j y, by rw [List.length_set]; exact HDl.out, Hset.out⟩), hkr.set1 _ _⟩
            case measure => simp [intOf]; omega
          · obtain rfl : j = k := by omega
            have hd9 := hd8.keep hkr (by omega) (by omega)
            have hk9w := hk8w.into hkr (fun k h1 h2 => by have := hk7w.size; show False; omega)
            clear hDD hkr hrowB hd8 hk8w
            go_wp2_with fail
            refine (copy_any p g d6 ws hd9).mono ?_
            rintro e w10 ⟨p', g', rfl, hX, hp', hg', hk⟩
            have hdA := hd9.keep hk id id
            have hkA := hk9w.trans hk
            have hltA := hd9.lt
            have hsA := hk9w.size
            have hSx : ∀ k, k < w.heap.size → (k = p' ∨ k = g') → Non k := fun k h1 h2 => by show False; omega
            have hSd : ∀ q, q < ws.heap.size → ¬ (q = p' ∨ q = g') := fun q h1 h2 => by omega
            clear hk hd9 hk9w
            have hnx : (0 : Int) + c.length ≤ (1024 : Nat) := by rw [HL1.out]; omega
            have hrc := hr1.below hkA.none_below
            go_wp2_with fail
            refine (write_any' p' g' d6 0 a1 len1 cap1 c (by omega) (by omega) w10 hX hrc hcap1.1).mono ?_
            rintro e w11 ⟨rfl, hX1, hk⟩
            rw [Dk.err_open hdn6 hlt6 (by omega) (by rw [hdl6]; exact hnx)]
            rw [Dk.write_open hdn6 hlt6 (by omega) (by rw [hdl6]; exact hnx), hwr6, show wrap64 (1 + 1) = 2 by simp [wrap64]] at hX1
            obtain ⟨x1, hX1, hxn1, hxl1, hxw1⟩ : ∃ d : Dk, DiskAt w11 p' g' d ∧ d.down = false ∧ d.data.length = 1024 ∧ d.wr = 2 := ⟨_, hX1, hdn6, by rw [Dk.put_length _ _ _ (by rw [hdl6, HL1.out]; omega)]; exact hdl6, rfl⟩
            have hkB := hkA.into hk hSx
            have hdB := hdA.keep hk (hSd _ (by omega)) (hSd _ (by omega))
            have hszB := hk.size
            clear hk hkA hdA hX hrc
            go_wp2_with fail
            refine (light_any p' g' x1 0 0 (by omega) (by omega) w11 hX1).mono ?_
            rintro e w12 ⟨rfl, hX2, hk⟩
            rw [Dk.lightErr_ok (by omega) (by omega)]
            rw [Dk.light_ok (by omega) (by omega)] at hX2
            obtain ⟨x2, hX2, hxn2, hxl2, hxf2, hxd2, hxw2⟩ : ∃ d : Dk, DiskAt w12 p' g' d ∧ d.down = false ∧ d.lit = true ∧ ¬ 1 ≤ d.fw ∧ d.data.length = 1024 ∧ d.wr = 2 := ⟨_, hX2, hxn1, rfl, by show ¬ (1 : Int) ≤ 0; omega, hxl1, hxw1⟩
            have hkC := hkB.into hk (fun k h1 h2 => hSx k h1 (.inl h2))
            have hdC := hdB.keep hk (fun h => hSd _ (by omega) (.inl h)) (fun h => hSd _ (by omega) (.inl h))
            have hrc := hr1.below hkC.none_below
            clear hk hkB hdB hX1
            go_wp2_with fail
            refine (write_any' p' g' _ 0 a1 len1 cap1 c (by omega) (by omega) w12 hX2 hrc hcap1.1).mono ?_
            rintro e w13 ⟨rfl, hX3, hk⟩
            rw [Dk.err_burnt (x := 0) hxn2 hxl2 (by omega) (by omega) (by rw [hxd2]; exact hnx)]
            rw [Dk.write_burnt (x := 0) hxn2 hxl2 (by omega) (by omega) (by rw [hxd2]; exact hnx), hxw2, show wrap64 (2 + 1) = 3 by simp [wrap64]] at hX3
            obtain ⟨x3, hX3, hxd3, hxw3⟩ : ∃ d : Dk, DiskAt w13 p' g' d ∧ d.down = true ∧ d.wr = 3 := ⟨_, hX3, rfl, rfl⟩
            have hkD := hkC.into hk hSx
            have hdD := hdC.keep hk (hSd _ (by omega)) (hSd _ (by omega))
            clear hk hkC hdC hX2 hrc
            go_wp2_with fail
            refine (read_ok p g d6 0 j w13 hdD (may_in hdn6 (by rw [hdl6]; omega))).mono ?_
            rintro e w14 ⟨⟨C, cC, rfl, hrC, _, _, _⟩, hk⟩
            rw [hrd6] at hrC
            have hkE := hkD.trans hk
            have hdE := hdD.keep hk id id
            have hXE := hX3.keep hk id id
            have s1 := run_str w14 C j cC b hrC
            have s2 := run_str w14 a0 j cap0 b (hr0.below hkE.none_below)
            clear hk hkD hdD hX3 hrC
            go_wp2_with fail
            refine (up_any p g _ w14 hdE).mono ?_
            rintro e w' ⟨rfl, rfl⟩
            rw [hdn6]
            go_wp2_with fail
            refine (up_any p' g' _ w14 hXE).mono ?_
            rintro e w' ⟨rfl, rfl⟩
            rw [hxd3]
            go_wp2_with fail
            refine (writes_any p g _ w14 hdE).mono ?_
            rintro e w' ⟨rfl, rfl⟩
            rw [hwr6]
            go_wp2_with fail
            refine (writes_any p' g' _ w14 hXE).mono ?_
            rintro e w' ⟨rfl, rfl⟩
            rw [hxw3]
            go_wp2_with fail
            go_ret
            exact ⟨rfl, hkE.none_below⟩
end Go.Proofs.Ytbmamhcjbhnkiaa
