/- The walk of the law DiskDiffers. -/
import Derived.Test.YtbmamhcjbhnkiaaKr
import Derived.Test.YtbmamhcjbhnkiaaKx
import Derived.Test.YtbmamhcjbhnkiaaKi
import Derived.RegionTactic
namespace Go.Proofs.Ytbmamhcjbhnkiaa
open Go.RowKit

theorem new_1025 (w : World) : Calls Try.prog 32 #[.int .i64 1025] w (RetNew w 1025) := new_ex 1025 (by omega) (by omega) w

theorem Str.fits {D O : List UInt8} {e : Int} {a m : Nat} (h : Str D O e (a, m)) {n : Nat} (hD : D.length = n) (hO : O.length = n) : a + m ≤ n := by
  rcases Nat.lt_or_ge n (a + m) with h1 | h1
  · have hp : 1 ≤ m := h.pos
    exact absurd (by rw [List.getElem?_eq_none (by omega), List.getElem?_eq_none (by omega)]) (h.unlike (a + m - 1) (by show a ≤ _; omega) (by show _ < a + m; omega))
  · exact h1

set_option maxRecDepth 100000 in
set_option maxHeartbeats 6400000 in
theorem diskDiffers_walk (a0 : Option Addr) (len0 cap0 : Nat) (z0 : List Int) (a1 : Option Addr) (len1 cap1 : Nat) (z1 : List Int) (a2 : Int) (w : World) (w0 : IsRow .u8 w a0 len0 cap0 z0) (w1 : IsRow .u8 w a1 len1 cap1 z1) (w2 : (Lit.int .i64 a2).wf = true) :
    Calls Try.prog 13 #[.slice a0 len0 cap0, .slice a1 len1 cap1, .int .i64 a2] w fun e w' => e = .returned (.bool true) ∧ Below w.heap.size w w' := by
  simp only [Lit.wf, Bool.and_eq_true, decide_eq_true_eq] at w2
  have hmin : IntKind.i64.min = -9223372036854775808 := rfl
  have hmax : IntKind.i64.max = 9223372036854775807 := rfl
  rw [hmin, hmax] at w2
  clear hmin hmax
  have hlen0 := w0.len_le
  have hcap0 := w0.cap_le
  have hlen1 := w1.len_le
  have hcap1 := w1.cap_le
  by_cases hout : 200 < len0 ∨ 200 < len1 ∨ a2 < 0 ∨ 800 < a2
  · have hcases : 200 < len0 ∨ (¬ 200 < len0 ∧ 200 < len1) ∨ (¬ 200 < len0 ∧ ¬ 200 < len1 ∧ a2 < 0) ∨ (¬ 200 < len0 ∧ ¬ 200 < len1 ∧ ¬ a2 < 0 ∧ 800 < a2) := by omega
    clear hout
    rcases hcases with h1 | ⟨h1, h2⟩ | ⟨h1, h2, h3⟩ | ⟨h1, h2, h3, h4⟩
    all_goals
      go_enter Try.func13, Try.ntmps13
      go_wp2_with fail
      refine (anchor7_any _).mono ?_
      rintro e w3 ⟨rfl, hk1⟩
      go_wp2_with fail
      go_ret
      exact ⟨rfl, hk1.none_below⟩
  · have h1 : ¬ 200 < len0 := by omega
    have h2 : ¬ 200 < len1 := by omega
    obtain ⟨x, rfl⟩ := Int.eq_ofNat_of_zero_le (show 0 ≤ a2 by omega)
    have h4 : ¬ 800 < (x : Int) := by omega
    clear hout
    have hr0 := w0.rdB (by omega)
    have hr1 := w1.rdB (by omega)
    generalize bytesOf z0 len0 = b at *
    generalize bytesOf z1 len1 = c at *
    clear w0 w1
    have HL0 := Lib.hid hr0.len
    have HL1 := Lib.hid hr1.len
    go_enter Try.func13, Try.ntmps13
    go_wp2_with fail
    refine (anchor7_any _).mono ?_
    rintro e w3 ⟨rfl, hk1⟩
    go_wp2_with fail
    refine (new_1024 w3).mono ?_
    rintro e w4 ⟨p, g, rfl, hD, hp, hg, hk2⟩
    have hk4 := hk1.trans hk2
    have hsz3 := hk1.size
    have hltD := hD.lt
    clear hk2 hk1
    go_wp2_with fail
    refine (new_1024 w4).mono ?_
    rintro e w5 ⟨q, h, rfl, hO, hq, hh, hk⟩
    have hk5 := hk4.trans hk
    have hD5 := hD.keep hk id id
    have hltO := hO.lt
    clear hk4 hD hk
    go_wp2_with fail
    refine (new_1025 w5).mono ?_
    rintro e w6 ⟨r, s, rfl, hX, hr, hs, hk⟩
    have hk6 := hk5.trans hk
    have hD6 := hD5.keep hk id id
    have hO6 := hO.keep hk id id
    clear hk5 hD5 hO hk
    have hnb : (100 : Int) + b.length ≤ (Dk.new 1024).data.length := by rw [new_len, HL0.out]; omega
    have hnc : (x : Int) + c.length ≤ (Dk.new 1024).data.length := by rw [new_len, HL1.out]; omega
    have hrb := hr0.below hk6.none_below
    go_wp2_with fail
    refine (write_any' p g _ 100 a0 len0 cap0 b (by omega) (by omega) w6 hD6 hrb hcap0.1).mono ?_
    rintro e w7 ⟨rfl, hD7, hk⟩
    rw [Dk.err_open rfl rfl (by omega) hnb]
    rw [Dk.write_open rfl rfl (by omega) hnb] at hD7
    obtain ⟨dD, hD7, hdn, hdl⟩ : ∃ d : Dk, DiskAt w7 p g d ∧ d.down = false ∧ d.data.length = 1024 := ⟨_, hD7, rfl, by rw [Dk.put_length _ _ _ (by rw [new_len, HL0.out]; show 100 + len0 ≤ 1024; omega)]; exact new_len 1024⟩
    have hk7 := hk6.into hk (fun k h1 h2 => by show False; omega)
    have hO7 := hO6.keep hk (by omega) (by omega)
    have hX7 := hX.keep hk (by omega) (by omega)
    clear hk6 hD6 hO6 hX hk hnb
    have hrc := hr1.below hk7.none_below
    go_wp2_with fail
    refine (write_any' q h _ x a1 len1 cap1 c (by omega) (by omega) w7 hO7 hrc hcap1.1).mono ?_
    rintro e w8 ⟨rfl, hO8, hk⟩
    rw [Dk.err_open rfl rfl (by omega) hnc]
    rw [Dk.write_open rfl rfl (by omega) hnc] at hO8
    obtain ⟨dO, hO8, hon, hol⟩ : ∃ d : Dk, DiskAt w8 q h d ∧ d.down = false ∧ d.data.length = 1024 := ⟨_, hO8, rfl, by rw [Dk.put_length _ _ _ (by rw [new_len, HL1.out]; show x + len1 ≤ 1024; omega)]; exact new_len 1024⟩
    have hk8 := hk7.into hk (fun k h1 h2 => by show False; omega)
    have hD8 := hD7.keep hk (by omega) (by omega)
    have hX8 := hX7.keep hk (by omega) (by omega)
    clear hk7 hO7 hD7 hX7 hk hnc hrb hrc
    go_wp2_with fail
    refine (differ_yes p g q h dD dO w8 hD8 hO8 (by omega)).mono ?_
    rintro e w9 ⟨S, A, n, cA, gA, restA, rfl, hdif, hSl, hncA, hcmA, hgA, hrowA, hk⟩
    have hk9 := hk8.trans hk
    have hD9 := hD8.keep hk id id
    have hO9 := hO8.keep hk id id
    have hX9 := hX8.keep hk id id
    have HS := Lib.hid hSl
    have Hdif := Lib.hid hdif
    clear hk8 hD8 hO8 hX8 hk hSl hdif
    go_wp2_with fail
    refine (copy_any p g dD w9 hD9).mono ?_
    rintro e w10 ⟨t, u, rfl, hC, ht, hu, hk⟩
    have hk10 := hk9.trans hk
    have hD10 := hD9.keep hk id id
    have hO10 := hO9.keep hk id id
    have hX10 := hX9.keep hk id id
    have hrowA10 : 0 < n → A = some ⟨gA, 0, none⟩ ∧ w10.heap[gA]? = some (.cells (cellsS S ++ restA).toArray 72 (0, 0)) := fun h0 => ⟨(hrowA h0).1, hk.at_ (hrowA h0).2 id⟩
    clear hk9 hD9 hO9 hX9 hk hrowA
    go_wp2_with fail
    refine (differ_yes p g t u dD dD w10 hD10 hC rfl).mono ?_
    rintro e w11 ⟨S2, A2, n2, cA2, gA2, restA2, rfl, hdif2, hSl2, _, _, _, _, hk⟩
    have h20 : n2 = 0 := by rw [← hSl2, hdif2.ok.same]; rfl
    subst h20
    have hk11 := hk10.trans hk
    have hD11 := hD10.keep hk id id
    have hO11 := hO10.keep hk id id
    have hX11 := hX10.keep hk id id
    have hrowA11 : 0 < n → A = some ⟨gA, 0, none⟩ ∧ w11.heap[gA]? = some (.cells (cellsS S ++ restA).toArray 72 (0, 0)) := fun h0 => ⟨(hrowA10 h0).1, hk.at_ (hrowA10 h0).2 id⟩
    clear hk10 hD10 hO10 hX10 hk hrowA10 hC hdif2 hSl2
    go_wp2_with fail
    refine (differ_no p g r s dD _ w11 hD11 hX11 (by rw [hdl, new_len]; omega)).mono ?_
    rintro e w12 ⟨rfl, hk⟩
    have hk12 := hk11.trans hk
    have hD12 := hD11.keep hk id id
    have hO12 := hO11.keep hk id id
    have hrowA12 : 0 < n → A = some ⟨gA, 0, none⟩ ∧ w12.heap[gA]? = some (.cells (cellsS S ++ restA).toArray 72 (0, 0)) := fun h0 => ⟨(hrowA11 h0).1, hk.at_ (hrowA11 h0).2 id⟩
    clear hk11 hD11 hO11 hX11 hk hrowA11
    go_wp2_with fail
    refine (read_ok p g dD 0 1024 w12 hD12 (may_in hdn (by rw [hdl]; omega))).mono ?_
    rintro e w13 ⟨⟨P, cP, rfl, hrP, _, hncP, hcmP⟩, hk⟩
    rw [List.drop_zero, List.take_of_length_le (by omega)] at hrP
    have hk13 := hk12.trans hk
    have hO13 := hO12.keep hk id id
    have hrowA13 : 0 < n → A = some ⟨gA, 0, none⟩ ∧ w13.heap[gA]? = some (.cells (cellsS S ++ restA).toArray 72 (0, 0)) := fun h0 => ⟨(hrowA12 h0).1, hk.at_ (hrowA12 h0).2 id⟩
    clear hk12 hD12 hO12 hk hrowA12
    go_wp2_with fail
    refine (read_ok q h dO 0 1024 w13 hO13 (may_in hon (by rw [hol]; omega))).mono ?_
    rintro e w14 ⟨⟨Q, cQ, rfl, hrQ, _, hncQ, hcmQ⟩, hk⟩
    rw [List.drop_zero, List.take_of_length_le (by omega)] at hrQ
    have hk14 := hk13.trans hk
    have hrP14 := hrP.keepN hk
    have hrowA14 : 0 < n → A = some ⟨gA, 0, none⟩ ∧ w14.heap[gA]? = some (.cells (cellsS S ++ restA).toArray 72 (0, 0)) := fun h0 => ⟨(hrowA13 h0).1, hk.at_ (hrowA13 h0).2 id⟩
    clear hk13 hO13 hk hrowA13 hrP
    generalize hDD : dD.data = D at *
    generalize hOO : dO.data = O at *
    obtain ⟨bP, oP, rfl, hcP⟩ := hrP14.cells (by omega)
    obtain ⟨bQ, oQ, rfl, hcQ⟩ := hrQ.cells (by omega)
    go_wp2_with fail
    clear hrP14 hrQ hD7 hO8 hDD hOO
    go_loopw [23, 130] (fun v23 v130 wr => ∃ j : Nat, j ≤ n ∧ v130 = .int .i64 j ∧ v23 = .int .i64 (fin (S.take j)) ∧ Keeps Non w14 wr) (fun _ i _ => n - (intOf i).toNat)
    case atStart => exact ⟨0, Nat.zero_le _, rfl, rfl, Keeps.refl _ _⟩
    case round =>
      obtain ⟨j, hj, rfl, rfl, hkr⟩ := hrel
      by_cases hlt : j < n
      · obtain ⟨⟨a, m⟩, hS⟩ : ∃ s, S[j]? = some s := ⟨_, List.getElem?_eq_getElem (by rw [HS.out]; exact hlt)⟩
        obtain ⟨rfl, hrow⟩ := hrowA14 (by omega)
        have hstr := Hdif.out.ok j _ hS
        have hfits := hstr.fits hdl hol
        have hgap : fin (S.take j) < a := hstr.gap
        have hpos : 1 ≤ m := hstr.pos
        have hge := fin_ge (S.take j)
        have hft := fin_take hS
        have hget := cellsS_get hS restA
        have hrow' := hkr.at_ hrow id
        have c1 : wr.cell? ⟨gA, j * 2, none⟩ = some (.int .i64 (a : Int)) := by
          simp only [World.cell?, hrow', Option.isSome_none, Bool.false_eq_true, if_false, List.getElem?_toArray]; exact hget.1
        have c2 : wr.cell? ⟨gA, j * 2 + 1, none⟩ = some (.int .i64 (m : Int)) := by
          simp only [World.cell?, hrow', Option.isSome_none, Bool.false_eq_true, if_false, List.getElem?_toArray]; exact hget.2
        have hstr' := Lib.hid hstr
        have HG := Lib.hid hft
        clear hstr hft hget hrow hrow' hS
        generalize fin (S.take j) = E at *
        obtain ⟨w15, hw15⟩ : ∃ w15, w15 = wr.alloc (.cells #[.int .i64 (a : Int), .int .i64 (m : Int)] 72) := ⟨_, rfl⟩
        have hk15 : Keeps Non w14 w15 := by rw [hw15]; exact hkr.alloc _
        have hb15 : w15.heap[wr.heap.size]? = some (.cells #[.int .i64 (a : Int), .int .i64 (m : Int)] 72) := by rw [hw15]; exact heap_new _ _
        have H15 := Lib.hid hw15
        clear hw15
        have hE0 : ((E.toNat : Nat) : Int) = max E 0 := by omega
        have HE0 := Lib.hid hE0
        clear hE0 hkr
        have hB : ∃ B, B = wr.heap.size := ⟨_, rfl⟩
        obtain ⟨B, hB⟩ := hB
        rw [← hB] at hb15
        have HB := Lib.hid hB
        clear hB
        go_wp2_with fail
        all_goals
          rw [← H15.out, ← HB.out]
          go_loopw [26] (fun v26 ws => ∃ i : Nat, E.toNat ≤ i ∧ i ≤ a ∧ v26 = .int .i64 i ∧ Keeps Non w15 ws) (fun v26 _ => a - (intOf v26).toNat)
          case atStart => exact ⟨E.toNat, Nat.le_refl _, by omega, congrArg (Value.int .i64) (by omega), Keeps.refl _ _⟩
          case round =>
            rename World => ws
            obtain ⟨i, hi0, hi1, rfl, hks⟩ := hrel
            have hbs := hks.at_ hb15 id
            have d0 : ws.cell? ⟨B, 0, none⟩ = some (.int .i64 (a : Int)) := by simp [World.cell?, hbs]
            have d1 : ws.cell? ⟨B, 1, none⟩ = some (.int .i64 (m : Int)) := by simp [World.cell?, hbs]
            by_cases hia : i < a
            · have hlik := hstr'.out.like i (by omega) hia
              obtain ⟨u1, hu1⟩ : ∃ y, D[i]? = some y := ⟨_, List.getElem?_eq_getElem (by omega)⟩
              have k1 := (hk15.trans hks).cell (hcP i u1 hu1) id
              have k2 := (hk15.trans hks).cell (hcQ i u1 (hlik ▸ hu1)) id
              have Hlik := Lib.hid hlik
              clear hlik hu1 hbs
              go_wp2_with fail
              go_region
              go_wp2_with fail
              go_roundw
              case rel => exact ⟨i + 1, by omega, by omega, by go_num, hks.drew⟩
              case measure => simp [intOf]; omega
            · obtain rfl : i = a := by omega
              clear hbs
              go_wp2_with fail
              go_loopw [27] (fun v27 wt => ∃ l : Nat, i ≤ l ∧ l ≤ i + m ∧ v27 = .int .i64 l ∧ Keeps Non w15 wt) (fun v27 _ => i + m - (intOf v27).toNat)
              case atStart => exact ⟨i, Nat.le_refl _, by omega, rfl, hks⟩
              case round =>
                rename World => wt
                obtain ⟨l, hl0, hl1, rfl, hkt⟩ := hrel
                have hbt := hkt.at_ hb15 id
                have d0 : wt.cell? ⟨B, 0, none⟩ = some (.int .i64 (i : Int)) := by simp [World.cell?, hbt]
                have d1 : wt.cell? ⟨B, 1, none⟩ = some (.int .i64 (m : Int)) := by simp [World.cell?, hbt]
                by_cases hla : l < i + m
                · have hun := hstr'.out.unlike l hl0 hla
                  obtain ⟨u1, hu1⟩ : ∃ y, D[l]? = some y := ⟨_, List.getElem?_eq_getElem (by omega)⟩
                  obtain ⟨u2, hu2⟩ : ∃ y, O[l]? = some y := ⟨_, List.getElem?_eq_getElem (by omega)⟩
                  have k1 := (hk15.trans hkt).cell (hcP l u1 hu1) id
                  have k2 := (hk15.trans hkt).cell (hcQ l u2 hu2) id
                  have hne : ¬ (u1.toNat : Int) = (u2.toNat : Int) := fun h => hun (by rw [hu1, hu2, UInt8.toNat_inj.1 (show u1.toNat = u2.toNat by omega)])
                  clear hun hu1 hu2 hbt
                  go_wp2_with fail
                  go_region
                  go_wp2_with fail
                  go_roundw
                  case rel => exact ⟨l + 1, by omega, by omega, by go_num, hkt.drew⟩
                  case measure => simp [intOf]; omega
                · obtain rfl : l = i + m := by omega
                  clear hbt
                  go_wp2_with fail
                  go_roundw
                  case rel => exact ⟨j + 1, by omega, by go_num, by rw [HG.out]; go_num, hk15.trans hkt⟩
                  case measure => simp [intOf]; omega
      · obtain rfl : j = n := by omega
        rw [← HS.out, List.take_length]
        have hle := Hdif.out.le
        have hge := fin_ge S
        have htail := Hdif.out.tail
        have hP' : ∀ (j : Nat) (u : UInt8), D[j]? = some u → wr.drew.cell? ⟨bP, oP + j, none⟩ = some (bv u) := fun j u hu => hkr.drew.cell (hcP j u hu) id
        have hQ' : ∀ (j : Nat) (u : UInt8), O[j]? = some u → wr.drew.cell? ⟨bQ, oQ + j, none⟩ = some (bv u) := fun j u hu => hkr.drew.cell (hcQ j u hu) id
        have hkw := hk14.trans hkr
        obtain ⟨m0, hm0⟩ : ∃ m0 : Nat, m0 = (fin S).toNat := ⟨_, rfl⟩
        have hdrop : O.drop m0 = D.drop m0 := by
          apply List.ext_getElem?
          intro i
          rw [List.getElem?_drop, List.getElem?_drop]
          rcases Nat.lt_or_ge (m0 + i) 1024 with h1 | h1
          · exact (htail (m0 + i) (by omega) (by omega)).symm
          · rw [List.getElem?_eq_none (by omega), List.getElem?_eq_none (by omega)]
        have s1 : ∀ A' c', (0 < 1024 - m0 → A' = some ⟨bP, oP + m0, none⟩) → (convert 22 9 (.slice A' (1024 - m0) c')).run Try.prog wr.drew = .ok (.string ⟨(D.drop m0).toArray⟩) wr.drew :=
          fun A' c' hA => run_str _ A' (1024 - m0) c' _ ⟨by simp [hdl], by omega, fun h0 => ⟨bP, oP + m0, hA h0, fun j u hu => by rw [Nat.add_assoc]; exact hP' (m0 + j) u (by rwa [List.getElem?_drop] at hu)⟩⟩
        have s2 : ∀ A' c', (0 < 1024 - m0 → A' = some ⟨bQ, oQ + m0, none⟩) → (convert 22 9 (.slice A' (1024 - m0) c')).run Try.prog wr.drew = .ok (.string ⟨(D.drop m0).toArray⟩) wr.drew :=
          fun A' c' hA => run_str _ A' (1024 - m0) c' _ ⟨by rw [← hdrop]; simp [hol], by omega, fun h0 => ⟨bQ, oQ + m0, hA h0, fun j u hu => by rw [Nat.add_assoc]; exact hQ' (m0 + j) u (by rw [← hdrop] at hu; rwa [List.getElem?_drop] at hu)⟩⟩
        obtain ⟨E, hE⟩ : ∃ E, E = fin S := ⟨_, rfl⟩
        rw [← hE] at hle hge hm0 ⊢
        clear hE hP' hQ' htail hkr hcP hcQ hdrop hrowA14
        by_cases hneg : E < 0
        · have t1 := s1 (some ⟨bP, oP, none⟩) cP (fun _ => by rw [show m0 = 0 by omega]; rfl)
          have t2 := s2 (some ⟨bQ, oQ, none⟩) cQ (fun _ => by rw [show m0 = 0 by omega]; rfl)
          rw [show 1024 - m0 = 1024 by omega] at t1 t2
          clear s1 s2 hm0
          go_wp2_with fail
          go_region
          go_wp2_with fail
          go_ret
          exact ⟨rfl, hkw.drew.none_below⟩
        · obtain rfl : E = (m0 : Int) := by omega
          clear hm0
          by_cases hend : m0 = 1024
          · subst hend
            have t1 := fun A' c' => s1 A' c' (fun h => by omega)
            have t2 := fun A' c' => s2 A' c' (fun h => by omega)
            rw [show 1024 - 1024 = 0 from rfl] at t1 t2
            clear s1 s2
            by_cases hc1 : cP = 1024
            · by_cases hc2 : cQ = 1024
              · go_wp2_with fail
                go_region
                go_wp2_with fail
                go_ret
                exact ⟨rfl, hkw.drew.none_below⟩
              · go_wp2_with fail
                go_region
                go_wp2_with fail
                go_ret
                exact ⟨rfl, hkw.drew.none_below⟩
            · by_cases hc2 : cQ = 1024
              · go_wp2_with fail
                go_region
                go_wp2_with fail
                go_ret
                exact ⟨rfl, hkw.drew.none_below⟩
              · go_wp2_with fail
                go_region
                go_wp2_with fail
                go_ret
                exact ⟨rfl, hkw.drew.none_below⟩
          · have t1 := fun c' => s1 _ c' (fun h => rfl)
            have t2 := fun c' => s2 _ c' (fun h => rfl)
            have hc1 : ¬ m0 = cP := by omega
            have hc2 : ¬ m0 = cQ := by omega
            have hsub : IntKind.i64.wrap (1024 - (m0 : Int)) = ((1024 - m0 : Nat) : Int) := by rw [IntKind.wrap_i64]; omega
            clear s1 s2
            go_wp2_with fail
            go_region
            go_wp2_with fail
            go_ret
            exact ⟨rfl, hkw.drew.none_below⟩
end Go.Proofs.Ytbmamhcjbhnkiaa
