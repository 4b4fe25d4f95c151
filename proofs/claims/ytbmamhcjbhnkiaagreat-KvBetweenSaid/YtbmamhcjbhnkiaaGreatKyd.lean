/- Layer 8: the walks of laid and fits. -/
import Derived.Test.YtbmamhcjbhnkiaaGreatKyc
namespace Go.Proofs.YtbmamhcjbhnkiaaGreat
open Go.RowKit

theorem cost_take_le (ls : List (List UInt8)) (k : Nat) : Wal.cost (ls.take k) ≤ Wal.cost ls := by
  induction ls generalizing k with
  | nil => simp
  | cons a l ih =>
    cases k with
    | zero => simp [Wal.cost]
    | succ k => simp only [List.take_succ_cons, Wal.cost]; have := ih k; omega

/-- Rows of bytes that lie outside of some blocks. -/
structure RdLZ (Z : Nat → Prop) (w : World) (A : Option Addr) (n : Nat) (ls : List (List UInt8)) : Prop where
  len : ls.length = n
  le : n ≤ 140737488355328
  cells : 0 < n → ∃ b off, A = some ⟨b, off, none⟩ ∧ ¬ Z b ∧ ∀ j l, ls[j]? = some l → ∃ Aj nj cj, w.cell? ⟨b, off + j, none⟩ = some (.slice Aj nj cj) ∧ RdB w Aj nj l ∧ nj ≤ cj ∧ cj ≤ 9223372036854775807 ∧ (0 < nj → ∀ a, Aj = some a → ¬ Z a.block)
theorem RdLZ.rdL {Z : Nat → Prop} {w : World} {A : Option Addr} {n : Nat} {ls : List (List UInt8)} (h : RdLZ Z w A n ls) : RdL w A n ls :=
  ⟨h.len, h.le, fun h0 => by
    obtain ⟨b, off, e, _, hc⟩ := h.cells h0
    refine ⟨b, off, e, fun j l hl => ?_⟩
    obtain ⟨Aj, nj, cj, h1, h2, _⟩ := hc j l hl
    exact ⟨Aj, nj, cj, h1, h2⟩⟩
theorem RdLZ.keep {Z : Nat → Prop} {w w' : World} {A : Option Addr} {n : Nat} {ls : List (List UInt8)} (h : RdLZ Z w A n ls) (hk : Keeps Z w w') : RdLZ Z w' A n ls :=
  ⟨h.len, h.le, fun h0 => by
    obtain ⟨b, off, e, hz, hc⟩ := h.cells h0
    refine ⟨b, off, e, hz, fun j l hl => ?_⟩
    obtain ⟨Aj, nj, cj, h1, h2, h3, h4, h5⟩ := hc j l hl
    exact ⟨Aj, nj, cj, hk.cell h1 hz, h2.keep hk h5, h3, h4, h5⟩⟩
theorem RdLZ.at_ {Z : Nat → Prop} {w : World} {A : Option Addr} {n : Nat} {ls : List (List UInt8)} (h : RdLZ Z w A n ls) (k : Nat) (hk : k < n) :
    ∃ b off Aj nj cj, A = some ⟨b, off, none⟩ ∧ w.cell? ⟨b, off + k, none⟩ = some (.slice Aj nj cj) ∧ RdB w Aj nj (ls[k]'(by rw [h.len]; exact hk)) ∧ nj ≤ cj ∧ cj ≤ 9223372036854775807 ∧ (0 < nj → ∀ a, Aj = some a → ¬ Z a.block) := by
  obtain ⟨b, off, e, _, hc⟩ := h.cells (by omega)
  obtain ⟨Aj, nj, cj, h1, h2⟩ := hc k _ (List.getElem?_eq_getElem (by rw [h.len]; exact hk))
  exact ⟨b, off, Aj, nj, cj, e, h1, h2⟩

set_option maxHeartbeats 2000000 in
set_option maxRecDepth 100000 in
theorem laid_any (gen : Nat) (hg : gen < 4294967296) (A : Option Addr) (m c : Nat) (ls : List (List UInt8)) (hf : ∀ b ∈ ls, Wal.Fit b) (hc : Wal.cost ls ≤ 1048576) (w : World) (hr : RdL w A m ls) :
    Calls Tryz.prog 62 #[.int .i64 (gen : Int), .slice A m c] w (RetOwn w (Wal.laid gen 16 ls)) := by
  have hml := Lib.hid hr.len
  have hm := hr.le
  go_enter Tryz.func62, Tryz.ntmps62
  go_wp2
  go_loopw [5, 10] (fun v i wr => ∃ k : Nat, k ≤ m ∧ i = .int .i64 k ∧ wr.ownsRow w.heap.size 5 1 v (Wal.cost (ls.take k)) ((Wal.laid gen 16 (ls.take k)).map bv) ∧ Below w.heap.size w wr) (fun _ i _ => m - (intOf i).toNat)
  case atStart => exact ⟨0, Nat.zero_le _, rfl, by simpa [Wal.cost, Wal.laid] using World.ownsRow_nil _ _ _ _, Below.refl _ _⟩
  case round =>
    obtain ⟨k, hk, rfl, hown, hbel⟩ := hrel
    by_cases hlt : k < m
    · obtain ⟨b, off, Aj, nj, cj, rfl, hck, hrk⟩ := (hr.below hbel).at_ k hlt
      have hlen : k < ls.length := by rw [hml.out]; exact hlt
      have hF := hf ls[k] (List.getElem_mem _)
      have hsn : ls.take (k + 1) = ls.take k ++ [ls[k]] := List.take_succ_eq_append_getElem hlen
      have H2 : Hid (Wal.laid gen 16 (ls.take (k + 1)) = Wal.laid gen 16 (ls.take k) ++ Wal.recOf gen (16 + Wal.cost (ls.take k)) ls[k] 1) := by show _ = _; rw [hsn, Wal.laid_snoc]
      have H3 : Hid (Wal.cost (ls.take (k + 1)) = Wal.cost (ls.take k) + (9 + nj)) := by show _ = _; rw [hsn, Wal.cost_snoc, hrk.len]
      have hcb := cost_take_le ls (k + 1)
      rw [H3.out] at hcb
      have hn1 : 1 ≤ nj := by rw [← hrk.len]; exact hF.1
      have hn2 : nj ≤ 65536 := by rw [← hrk.len]; exact hF.2
      obtain ⟨x, hx⟩ : ∃ x, x = ls[k] := ⟨_, rfl⟩
      rw [← hx] at H2 hrk
      have hsz := hbel.size
      obtain ⟨A5, c5, rfl, _, _, hnc5, hcm5⟩ := own_rdB hown (by omega)
      obtain ⟨s, hs⟩ : ∃ s, s = Wal.cost (ls.take k) := ⟨_, rfl⟩
      rw [← hs] at hown hcb H2 H3 hnc5
      obtain ⟨l0, hl0⟩ : ∃ l0, l0 = Wal.laid gen 16 (ls.take k) := ⟨_, rfl⟩
      rw [← hl0] at hown H2
      rw [← hs]
      obtain ⟨rec, hrec⟩ : ∃ rec, rec = Wal.recOf gen (16 + s) x 1 := ⟨_, rfl⟩
      have HL : Hid (rec.length = 9 + nj) := by show _ = _; rw [hrec, Wal.recOf_length, hrk.len]
      have HRec := Lib.hid hrec
      rw [← hrec] at H2
      clear hx hs hl0 hrec hF hsn
      go_wp2_with fail
      refine (record_any gen (16 + s) hg (by omega) Aj nj cj x 1 (by omega) wr hrk).mono ?_
      rintro e w2 ⟨u, rfl, hu, hk2⟩
      rw [← HRec.out, HL.out] at hu
      obtain ⟨Au, cu, rfl, hru, _, hnu, hcu⟩ := own_rdB hu (by omega)
      have hown2 := own_kept hown hk2 fun _ _ h => h
      have hbel2 : Below w.heap.size w w2 := hbel.trans (hk2.none_below.mono hsz)
      have hz2 := hbel2.size
      have hsrc := src_bytes (P := Tryz.prog) Tryz.underlying60 hru cu
      clear hown hu hrk hck hbel hk2 hru
      go_wp2_with (at_builtin; refine wpList_append_src _ rfl _ _ 60 60 rfl w.heap.size 5 (.int .u8 0) 1 1 Tryz.underlying60 info_u8 rfl (by decide) (.slice A5 s c5) _ _ rfl hown2 _ _ _ rfl hsrc (by unfold maxLen; omega) (by omega) hz2 ?_; intro v' w5 hown' hgrow _)
      have hbel' := own_below hown2 hbel2 hgrow hz2
      have Hown : Hid (w5.ownsRow w.heap.size 5 1 v' (Wal.cost (ls.take (k + 1))) ((Wal.laid gen 16 (ls.take (k + 1))).map bv)) := by show World.ownsRow _ _ _ _ _ _ _; rw [H2.out, H3.out, List.map_append]; exact hown'
      clear hown' hgrow hown2 hbel2
      go_wp2
      go_roundw
      case rel => exact ⟨k + 1, by omega, by go_num, Hown.out, hbel'⟩
      case measure => simp [intOf]; omega
    · obtain rfl : k = m := by omega
      have H3 : Hid (ls.take k = ls) := by show ls.take k = ls; rw [List.take_of_length_le (by rw [hml.out]; omega)]
      rw [H3.out] at hown
      have HO := Lib.hid hown
      clear hown
      go_wp2
      go_ret
      exact ⟨_, rfl, by rw [Wal.laid_length]; exact HO.out, Keeps.of_below hbel⟩

/-- What a beginning anew with some records is refused with. -/
def fitErr (ls : List (List UInt8)) (n : Nat) : Int := if ∀ b ∈ ls, 1 ≤ b.length ∧ b.length ≤ 65536 then (if n < 16 + Wal.cost ls then 21 else 0) else 11

set_option maxHeartbeats 2000000 in
set_option maxRecDepth 100000 in
theorem fits_any (F : Nat → Prop) (b p g : Nat) (d : Dk) (L : Wal.Lg) (A : Option Addr) (m c : Nat) (ls : List (List UInt8)) (big : 512 ≤ Wal.hs d) (w : World) (hW : Wl w F b p g d L) (hr : RdL w A m ls) :
    Calls Tryz.prog 61 #[.pointer (some ⟨b, 0, none⟩), .slice A m c] w fun e w' => e = .returned (.int .i64 (fitErr ls (Wal.hs d))) ∧ w = w' := by
  have hml := Lib.hid hr.len
  have hm := hr.le
  have hz := Wal.hs_le hW.disk.wf
  obtain ⟨z, hzz⟩ : ∃ z, z = fitErr ls (Wal.hs d) := ⟨_, rfl⟩
  rw [← hzz]
  have HZ := Lib.hid hzz
  clear hzz
  go_enter Tryz.func61, Tryz.ntmps61
  go_wp2
  go_loop [12] (fun i => ∃ k : Nat, k ≤ m ∧ i = .int .i64 k ∧ ∀ b ∈ ls.take k, Wal.Fit b) (fun i => m - (intOf i).toNat)
  case atStart => exact ⟨0, Nat.zero_le _, rfl, by simp⟩
  case round =>
    obtain ⟨k, hk, rfl, hall⟩ := hrel
    by_cases hlt : k < m
    · obtain ⟨bb, off, Aj, nj, cj, rfl, hck, hrk⟩ := hr.at_ k hlt
      have hlen : k < ls.length := by rw [hml.out]; exact hlt
      have hsn : ls.take (k + 1) = ls.take k ++ [ls[k]] := List.take_succ_eq_append_getElem hlen
      have hnle := hrk.le
      by_cases hn : 1 ≤ nj ∧ nj ≤ 65536
      · have HA : Hid (∀ b ∈ ls.take (k + 1), Wal.Fit b) := fun b hb => by
          rw [hsn] at hb
          rcases List.mem_append.1 hb with hb | hb
          · exact hall b hb
          · simp at hb; subst hb; exact ⟨by rw [hrk.len]; exact hn.1, by rw [hrk.len]; exact hn.2⟩
        clear hall hsn hrk
        go_wp2_with fail
        refine (cost_ok nj hn.1 hn.2 w).mono ?_
        rintro e w' ⟨rfl, rfl⟩
        go_wp2_with fail
        go_round
        case rel => exact ⟨k + 1, by omega, by go_num, HA.out⟩
        case measure => simp [intOf]; omega
      · have HE : Hid (z = 11) := by
          show _ = _
          rw [HZ.out]
          unfold fitErr
          rw [if_neg]
          intro h
          have := h ls[k] (List.getElem_mem _)
          rw [hrk.len] at this
          exact hn this
        clear hall hsn hrk
        go_wp2_with fail
        refine (cost_bad nj (by omega) w).mono ?_
        rintro e w' ⟨rfl, rfl⟩
        go_wp2_with fail
        go_ret
        rw [HE.out]
        exact ⟨rfl, rfl⟩
    · obtain rfl : k = m := by omega
      have H3 : Hid (ls.take k = ls) := by show ls.take k = ls; rw [List.take_of_length_le (by rw [hml.out]; omega)]
      rw [H3.out] at hall
      have HA := Lib.hid hall
      have HZ2 : Hid (z = if Wal.hs d < 16 + Wal.cost ls then 21 else 0) := by show _ = _; rw [HZ.out]; unfold fitErr; rw [if_pos (show ∀ b ∈ ls, 1 ≤ b.length ∧ b.length ≤ 65536 from hall)]
      clear hall HZ
      go_wp2
      go_loop [5, 23] (fun s i => ∃ j : Nat, j ≤ k ∧ i = .int .i64 j ∧ s = .int .i64 ((16 + Wal.cost (ls.take j) : Nat) : Int) ∧ 16 + Wal.cost (ls.take j) ≤ Wal.hs d) (fun _ i => k - (intOf i).toNat)
      case atStart => exact ⟨0, Nat.zero_le _, rfl, by simp [Wal.cost], by simp [Wal.cost]; omega⟩
      case round =>
        obtain ⟨j, hj, rfl, rfl, hle⟩ := hrel
        by_cases hlt2 : j < k
        · obtain ⟨bb, off, Aj, nj, cj, rfl, hck, hrk⟩ := hr.at_ j hlt2
          have hlen : j < ls.length := by rw [hml.out]; exact hlt2
          have hF := HA.out ls[j] (List.getElem_mem _)
          have hn1 : 1 ≤ nj := by rw [← hrk.len]; exact hF.1
          have hn2 : nj ≤ 65536 := by rw [← hrk.len]; exact hF.2
          have hsn : ls.take (j + 1) = ls.take j ++ [ls[j]] := List.take_succ_eq_append_getElem hlen
          have H5 : Hid (Wal.cost (ls.take (j + 1)) = Wal.cost (ls.take j) + (9 + nj)) := by show _ = _; rw [hsn, Wal.cost_snoc, hrk.len]
          have hcl := cost_take_le ls (j + 1)
          rw [H5.out] at hcl
          have hs0 : Wal.cost (ls.take j) ≤ 1048576 := by omega
          obtain ⟨s, hs⟩ : ∃ s, s = Wal.cost (ls.take j) := ⟨_, rfl⟩
          rw [← hs] at H5 hcl hs0 ⊢
          clear hs hle hF hsn hrk
          have hq : (((16 + s : Nat) : Int) + ((9 + nj : Nat) : Int)) = ((16 + (s + (9 + nj)) : Nat) : Int) := by omega
          by_cases hgt : Wal.hs d < 16 + (s + (9 + nj))
          · have HE : Hid (z = 21) := by show _ = _; rw [HZ2.out, if_pos (by omega)]
            go_wp2_with fail
            refine (cost_ok nj hn1 hn2 w).mono ?_
            rintro e w' ⟨rfl, rfl⟩
            go_wp2_with fail
            refine (lsize' hW).mono ?_
            rintro e w' ⟨rfl, rfl⟩
            go_wp2_with fail
            go_ret
            rw [HE.out]
            exact ⟨rfl, rfl⟩
          · go_wp2_with fail
            refine (cost_ok nj hn1 hn2 w).mono ?_
            rintro e w' ⟨rfl, rfl⟩
            go_wp2_with fail
            refine (lsize' hW).mono ?_
            rintro e w' ⟨rfl, rfl⟩
            go_wp2_with fail
            go_round
            case rel => exact ⟨j + 1, by omega, by go_num, by rw [H5.out]; go_num, by rw [H5.out]; omega⟩
            case measure => simp [intOf]; omega
        · obtain rfl : j = k := by omega
          rw [H3.out] at hle ⊢
          have HE : Hid (z = 0) := by
            show _ = _
            rw [HZ2.out]
            rw [if_neg (by omega)]
          clear hle
          go_wp2
          go_ret
          rw [HE.out]
          exact ⟨rfl, rfl⟩
end Go.Proofs.YtbmamhcjbhnkiaaGreat
