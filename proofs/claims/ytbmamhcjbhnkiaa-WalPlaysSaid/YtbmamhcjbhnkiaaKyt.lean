/- The walk of the law WalPlays. -/
import Derived.Test.YtbmamhcjbhnkiaaKys
namespace Go.Proofs.Ytbmamhcjbhnkiaa
open Go.RowKit

set_option maxHeartbeats 16000000 in
set_option maxRecDepth 100000 in
theorem walPlays_walk (a0 : Int) (a1 : Option Addr) (len1 cap1 : Nat) (Y : Nat → O8) (w : World) (w0 : (Lit.int .i64 a0).wf = true) (w1 : IsOps8 w a1 len1 cap1 Y) :
    Calls Try.prog 18 #[.int .i64 a0, .slice a1 len1 cap1] w fun e w' => e = .returned (.bool true) ∧ Below w.heap.size w w' := by
  have hw0 : -9223372036854775808 ≤ a0 ∧ a0 ≤ 9223372036854775807 := by simpa [Lit.wf, IntKind.min, IntKind.max, IntKind.bits, IntKind.signed] using w0
  have hlen1 := w1.1.len_le
  clear w0
  by_cases hout : a0 < 1024 ∨ 3000 < a0
  · have hcases : a0 < 1024 ∨ (¬ a0 < 1024 ∧ 3000 < a0) := by omega
    clear hout
    rcases hcases with q1 | ⟨q1, q2⟩
    all_goals
      go_enter Try.func18, Try.ntmps18
      go_wp2_with fail
      refine (anchor8_any _).mono ?_
      rintro e w3 ⟨rfl, hk1⟩
      go_wp2_with fail
      go_ret
      exact ⟨rfl, hk1.none_below⟩
  · obtain ⟨sz, rfl⟩ := Int.eq_ofNat_of_zero_le (show 0 ≤ a0 by omega)
    have hn0 : ¬ (sz : Int) < 1024 := by omega
    have hn1 : ¬ 3000 < (sz : Int) := by omega
    obtain ⟨hz, hze⟩ : ∃ hz, hz = sz / 2 := ⟨_, rfl⟩
    have hq : (sz : Int) / 2 = (hz : Int) := by omega
    have hb1 : 2 * hz ≤ sz := by omega
    have hb2 : sz ≤ 2 * hz + 1 := by omega
    have hwz : IntKind.i64.wrap (hz : Int) = (hz : Int) := by rw [IntKind.wrap_i64]; omega
    have HZ := Lib.hid hze
    clear hout hze
    go_enter Try.func18, Try.ntmps18
    go_wp2_with fail
    refine (anchor8_any _).mono ?_
    rintro e w3 ⟨rfl, hk1⟩
    go_wp2_with fail
    refine (mild_any a1 len1 cap1 Y w3 ⟨?_, ?_⟩).mono ?_
    · rcases w1.1 with h | ⟨x, e, h1, h2, h3⟩
      · exact .inl h
      · exact .inr ⟨x, e, h1, h2, fun i hi j hj => hk1.cell (h3 i hi j hj) id⟩
    · intro i hi
      have h := w1.2 i hi
      exact ⟨h.wk, h.wt, h.wn, h.d.below hk1.none_below, h.a.below hk1.none_below⟩
    rintro e w4 ⟨⟨ok, rfl, hmild⟩, hk2⟩
    have hk4 := hk1.trans hk2
    clear hk1 hk2
    cases ok with
    | false =>
      clear hmild
      go_wp2_with fail
      go_ret
      exact ⟨rfl, hk4.none_below⟩
    | true =>
      have hm := hmild rfl
      have HM := Lib.hid hm.2
      clear hmild hm
      go_wp2_with fail
      refine (new_ex sz (by omega) (by omega) w4).mono ?_
      rintro e w5 ⟨p, g, rfl, hD, hp, hg, hk5⟩
      have hk05 := hk4.trans hk5
      have hs4 := hk4.size
      clear hk4 hk5
      go_wp2_with fail
      refine (open_fresh p g sz (by omega) (by omega) w5 hD).mono ?_
      rintro e w6 ⟨d, F, b, rfl, hL, hlit, hdl, hW, hF, hk6⟩
      have hs5 := hk05.size
      have hP : P8 w w6 p g sz F b d ⟨0, 1, 16, [], false⟩ [] [] none 0 0 none 0 := ⟨hW, hk05.into hk6 fun k h1 h2 => by show False; omega, by omega, by omega, fun k h => by have := hF k h; omega, hdl, RdLZ.nil _ _ _, RdLZ.nil _ _ _, Nat.le_refl _, by omega, by simp, by simp [Wal.cost], by omega⟩
      have hS : Stand d ⟨0, 1, 16, [], false⟩ [] [] false := .inl ⟨rfl, hL, rfl⟩
      clear hk05 hk6 hD hL hW hF hlit hdl
      go_wp2_with fail
      go_loopw [7, 9, 10, 11, 48] (fun v7 v9 v10 v11 i wr => ∃ (j : Nat) (F : Nat → Prop) (b : Nat) (d : Dk) (L : Wal.Lg) (W M : List (List UInt8)) (A9 : Option Addr) (n9 c9 : Nat) (A10 : Option Addr) (n10 c10 : Nat) (cut : Bool), j ≤ len1 ∧ v7 = .pointer (some ⟨b, 0, none⟩) ∧ v9 = .slice A9 n9 c9 ∧ v10 = .slice A10 n10 c10 ∧ v11 = .bool cut ∧ i = .int .i64 j ∧ P8 w wr p g sz F b d L W M A9 n9 c9 A10 n10 ∧ Stand d L W M cut) (fun _ _ _ _ i _ => len1 - (intOf i).toNat)
      case atStart => exact ⟨0, F, b, d, _, [], [], none, 0, 0, none, 0, 0, false, Nat.zero_le _, rfl, rfl, rfl, rfl, rfl, hP, hS⟩
      case round =>
        clear hP hS
        obtain ⟨j, F, b, d, L, W, M, A9, n9, c9, A10, n10, c10, cut, hj, rfl, rfl, rfl, rfl, rfl, hP, hS⟩ := hrel
        by_cases hlt : j < len1
        · obtain ⟨b0, off0, rfl, hc, hO⟩ := w1.at_ hlt
          obtain ⟨m1, m2, m3⟩ := HM.out j hlt
          have hcw := hc.keep hP.k id
          obtain ⟨o, ho⟩ : ∃ o, o = Y j := ⟨_, rfl⟩
          rw [← ho] at hcw hO m1 m2 m3
          clear hc ho
          obtain ⟨kk, tt, nn, da, dl, dc, dz, aa, al, ac, A', L', C', Z'⟩ := o
          obtain ⟨e0, e1, e2, e3, e4⟩ := hcw
          obtain ⟨wk, wt, wn, wd, wa⟩ := hO
          simp only [] at e0 e1 e2 e3 e4 m1 m2 m3 wk wt wn wd wa
          have hwt : -9223372036854775808 ≤ tt ∧ tt ≤ 9223372036854775807 := by simpa [Lit.wf, IntKind.min, IntKind.max, IntKind.bits, IntKind.signed] using wt
          have hwn : -9223372036854775808 ≤ nn ∧ nn ≤ 9223372036854775807 := by simpa [Lit.wf, IntKind.min, IntKind.max, IntKind.bits, IntKind.signed] using wn
          have hlcd := wd.cap_le
          have hlca := wa.cap_le
          obtain ⟨w5, hw5⟩ : ∃ w5, w5 = wr.alloc (.cells #[.int .i64 kk, .int .i64 tt, .int .i64 nn, .slice da dl dc, .slice aa al ac] 89) := ⟨_, rfl⟩
          have hk5 : Keeps Non wr w5 := by rw [hw5]; exact (Keeps.refl _ _).alloc _
          have h5 : Cells5 w5 wr.heap.size 0 ⟨kk, tt, nn, da, dl, dc, dz, aa, al, ac, A', L', C', Z'⟩ := by rw [hw5]; exact cells5 (heap_new _ _)
          obtain ⟨B, hB⟩ : ∃ B, B = wr.heap.size := ⟨_, rfl⟩
          rw [← hB] at h5
          have hBz : ¬ Zz p g F B := by rw [hB]; exact hP.new (Nat.le_refl _)
          obtain ⟨u0, u1, u2, u3, u4⟩ := h5
          simp only [Nat.zero_add] at u0 u1 u2 u3 u4
          have hP5 := hP.keepN hk5
          have H5 := Lib.hid hw5
          have HB := Lib.hid hB
          clear hw5 hB hk5 hP wk wt wn
          by_cases k1 : kk = 1
          · subst k1
            have hrx : RdB w da dl (bytesOf dz dl) := wd.rdB (by omega)
            obtain ⟨x, hx⟩ : ∃ x, x = bytesOf dz dl := ⟨_, rfl⟩
            rw [← hx] at hrx
            have hxl := hrx.len
            have HXl := Lib.hid hxl
            clear hx hxl
            obtain ⟨vs, hvl, hvsrc, hvel⟩ := hP5.rw_.srcs (P := Try.prog) Try.underlying28 c9
            have hn9 := hP5.n9
            have Hn9 := Lib.hid hn9.2
            have hn9l := hn9.1
            have Hvl := Lib.hid hvl
            have Hvel := Lib.hid hvel
            clear hn9 hvl hvel
            obtain ⟨i0, hi0, hz0, hs0, hb0⟩ := info_sl'
            have c3D : w5.drew.cell? ⟨B, 3, none⟩ = some (.slice da dl dc) := u3
            have hkEa : Keeps Non w5 (w5.drew.alloc (.cells #[] 22)) := ((Keeps.refl Non w5).drew).alloc _
            have hEa : (w5.drew.alloc (.cells #[] 22)).ownsRow w5.heap.size 22 1 (.slice (some ⟨w5.heap.size, 0, none⟩) 0 0) 0 [] := own_empty w5.drew w5.heap.size 22 (Nat.le_refl _)
            have hkEb : Keeps Non w5 ((w5.drew.alloc (.cells #[] 22)).alloc (.cells #[.slice da dl dc] 22)) := hkEa.alloc _
            have hEb : ((w5.drew.alloc (.cells #[] 22)).alloc (.cells #[.slice da dl dc] 22)).ownsRow w5.heap.size 22 1 (.slice (some ⟨w5.heap.size, 0, none⟩) 0 0) 0 [] := own_kept hEa ((Keeps.refl Non _).alloc _) fun _ _ h => h
            have hDb : ((w5.drew.alloc (.cells #[] 22)).alloc (.cells #[.slice da dl dc] 22)).heap[w5.heap.size + 1]? = some (.cells #[.slice da dl dc] 22) := by
              have := heap_new (w5.drew.alloc (.cells #[] 22)) (.cells #[.slice da dl dc] 22)
              rwa [show (w5.drew.alloc (.cells #[] 22)).heap.size = w5.heap.size + 1 by simp] at this
            have hkEc : Keeps Non w5 ((w5.drew.alloc (.cells #[.slice da dl dc] 22)).alloc (.cells #[] 22)) := (((Keeps.refl Non w5).drew).alloc _).alloc _
            have hEc : ((w5.drew.alloc (.cells #[.slice da dl dc] 22)).alloc (.cells #[] 22)).ownsRow w5.heap.size 22 1 (.slice (some ⟨w5.heap.size + 1, 0, none⟩) 0 0) 0 [] := by
              have := own_empty (w5.drew.alloc (.cells #[.slice da dl dc] 22)) w5.heap.size 22 (by simp)
              rwa [show (w5.drew.alloc (.cells #[.slice da dl dc] 22)).heap.size = w5.heap.size + 1 by simp] at this
            have hDc : ((w5.drew.alloc (.cells #[.slice da dl dc] 22)).alloc (.cells #[] 22)).heap[w5.heap.size]? = some (.cells #[.slice da dl dc] 22) := heap_old (heap_new w5.drew _) _
            go_wp2_with fail
            rw [← H5.out, ← HB.out]
            go_wp2_with fail
            go_region_held3 (fun w' => w'.cell? ⟨B, 3, none⟩ = some (.slice da dl dc)) (first | exact c3b | exact c3a | exact alloc_cell c3a _ | exact c3D | exact alloc_cell c3D _ | exact alloc_cell (alloc_cell c3D _) _) (first
              | (refine step_append_src (by rfl) _ _ _ _ (by rfl) w5.heap.size 22 i0 (.slice none 0 0) 1 24 Try.underlying28 hi0 hz0 hs0 hb0 rfl (by omega) va (0 + n9) ([] ++ vs) (by rfl) howna _ 1 [.slice da dl dc] (by rfl) hsrcD (by unfold maxLen; omega) (by omega) (by first | exact hka.size | (have := hka.size; simp; omega)) ?_; intro vb wb hownb hgrowb; have hkb : Keeps Non w5 wb := Keeps.of_below (own_below howna hka.none_below hgrowb (by first | exact hka.size | (have := hka.size; simp; omega))); have c3b : wb.cell? ⟨B, 3, none⟩ = some (.slice da dl dc) := hkb.cell u3 id; clear hgrowb)
              | (refine step_append_src (by rfl) _ _ _ _ (by rfl) w5.heap.size 22 i0 (.slice none 0 0) 1 24 Try.underlying28 hi0 hz0 hs0 hb0 rfl (by omega) va (0 + n9) ([] ++ vs) (by rfl) hownA _ 1 [.slice da dl dc] (by rfl) hsrcA (by unfold maxLen; omega) (by omega) (by first | exact hka.size | (have := hka.size; simp; omega)) ?_; intro vb wb hownb hgrowb; have hkb : Keeps Non w5 wb := Keeps.of_below (own_below hownA hkA.none_below hgrowb (by first | exact hka.size | (have := hka.size; simp; omega))); have c3b : wb.cell? ⟨B, 3, none⟩ = some (.slice da dl dc) := hkb.cell u3 id; clear hgrowb)
              | (refine step_append_src (by rfl) _ _ _ _ (by rfl) w5.heap.size 22 i0 (.slice none 0 0) 1 24 Try.underlying28 hi0 hz0 hs0 hb0 rfl (by omega) (.slice (some ⟨w5.heap.size, 0, none⟩) 0 0) 0 [] (by rfl) hEa _ n9 vs (by rfl) (hvsrc _ hkEa) (by unfold maxLen; omega) (by omega) hkEa.size ?_; intro va wa howna hgrowa; have hka : Keeps Non w5 wa := Keeps.of_below (own_below hEa hkEa.none_below hgrowa hkEa.size); have c3a : wa.cell? ⟨B, 3, none⟩ = some (.slice da dl dc) := hka.cell u3 id; have hkA : Keeps Non w5 (wa.alloc (.cells #[.slice da dl dc] 22)) := hka.alloc _; have hownA : (wa.alloc (.cells #[.slice da dl dc] 22)).ownsRow w5.heap.size 22 1 va (0 + n9) ([] ++ vs) := own_kept howna ((Keeps.refl Non _).alloc _) (fun _ _ h => h); have hsrcA := (Src.ofSlice (P := Try.prog) (w := (wa.alloc (.cells #[.slice da dl dc] 22))) (size := 1) Try.underlying28 ⟨wa.heap.size, 0, none⟩ 1 1 [.slice da dl dc] rfl (World.news_of_block (heap_new _ _)) (fun u hu => by simp at hu; subst hu; rfl)); clear hgrowa)
              | (refine step_append_src (by rfl) _ _ _ _ (by rfl) w5.heap.size 22 i0 (.slice none 0 0) 1 24 Try.underlying28 hi0 hz0 hs0 hb0 rfl (by omega) (.slice (some ⟨w5.heap.size, 0, none⟩) 0 0) 0 [] (by rfl) hEb _ n9 vs (by rfl) (hvsrc _ hkEb) (by unfold maxLen; omega) (by omega) hkEb.size ?_; intro va wa howna hgrowa; have hka : Keeps Non w5 wa := Keeps.of_below (own_below hEb hkEb.none_below hgrowa hkEb.size); have c3a : wa.cell? ⟨B, 3, none⟩ = some (.slice da dl dc) := hka.cell u3 id; have hblk : wa.heap[w5.heap.size + 1]? = some (.cells #[.slice da dl dc] 22) := (Keeps.of_grown hgrowa).at_ hDb (fun e => by simp [Value.ownBlock] at e); have hsrcD := (Src.ofSlice (P := Try.prog) (w := wa) (size := 1) Try.underlying28 ⟨w5.heap.size + 1, 0, none⟩ 1 1 [.slice da dl dc] rfl (World.news_of_block hblk) (fun u hu => by simp at hu; subst hu; rfl)); clear hgrowa)
              | (refine step_append_src (by rfl) _ _ _ _ (by rfl) w5.heap.size 22 i0 (.slice none 0 0) 1 24 Try.underlying28 hi0 hz0 hs0 hb0 rfl (by omega) (.slice (some ⟨w5.heap.size + 1, 0, none⟩) 0 0) 0 [] (by rfl) hEc _ n9 vs (by rfl) (hvsrc _ hkEc) (by unfold maxLen; omega) (by omega) hkEc.size ?_; intro va wa howna hgrowa; have hka : Keeps Non w5 wa := Keeps.of_below (own_below hEc hkEc.none_below hgrowa hkEc.size); have c3a : wa.cell? ⟨B, 3, none⟩ = some (.slice da dl dc) := hka.cell u3 id; have hblk : wa.heap[w5.heap.size]? = some (.cells #[.slice da dl dc] 22) := (Keeps.of_grown hgrowa).at_ hDc (fun e => by simp [Value.ownBlock] at e); have hsrcD := (Src.ofSlice (P := Try.prog) (w := wa) (size := 1) Try.underlying28 ⟨w5.heap.size, 0, none⟩ 1 1 [.slice da dl dc] rfl (World.news_of_block hblk) (fun u hu => by simp at hu; subst hu; rfl)); clear hgrowa))
            all_goals as_aux_lemma =>
              simp only [Nat.zero_add, List.nil_append] at hownb
              have hrxb := hrx.below (hP5.k.trans hkb).none_below
              have hel : ∀ (i : Nat) (l : List UInt8), (W ++ [x])[i]? = some l → ∃ A m c, (vs ++ [.slice da dl dc])[i]? = some (.slice A m c) ∧ RdB wb A m l ∧ m ≤ c ∧ c ≤ 9223372036854775807 ∧ (0 < m → ∀ a, A = some a → ¬ Zz p g F a.block) := by
                intro i l hl
                by_cases hi : i < n9
                · rw [List.getElem?_append_left (by rw [Hn9.out]; exact hi)] at hl
                  obtain ⟨Aj, nj, cj, q1, q2, q3⟩ := Hvel.out i l hl
                  exact ⟨Aj, nj, cj, by rw [List.getElem?_append_left (by rw [Hvl.out]; exact hi)]; exact q1, q2.keepN hkb, q3⟩
                · have hi' : i = n9 := by
                    have := (List.getElem?_eq_some_iff.1 hl).1
                    rw [List.length_append, Hn9.out] at this
                    simp at this; omega
                  subst hi'
                  rw [List.getElem?_append_right (by rw [Hn9.out]; exact Nat.le_refl _), Hn9.out] at hl
                  simp at hl
                  subst hl
                  exact ⟨da, dl, dc, by rw [List.getElem?_append_right (by rw [Hvl.out]; exact Nat.le_refl _), Hvl.out]; simp, hrxb, hlcd.1, hlcd.2, fun h0 a ha => hP5.old (hrx.old h0 a ha)⟩
              obtain ⟨AN, cN, rfl, hrNb, hcN1, hcN2⟩ := own_rdLZ (Z := Zz p g F) hownb (ls := W ++ [x]) (by rw [List.length_append, Hn9.out]; rfl) (by omega) (fun k hk => hP5.new hk) hel
              have hPb := hP5.keepN hkb
              have v0 := hkb.cell u0 id
              have v1 := hkb.cell u1 id
              have v2 := hkb.cell u2 id
              have v3 := hkb.cell u3 id
              have v4 := hkb.cell u4 id
              clear c3D hkEa hEa hkEb hEb hDb hkEc hEc hDc hownb hel hvsrc Hvel Hvl howna hka c3a c3b hP5 hkb hrxb u0 u1 u2 u3 u4
              have hwf := hPb.wf
              have hwc := hPb.wc
              have hcw : rcost W = ((16 + Wal.cost W : Nat) : Int) := if_pos hwf
              have hrWd : RdL wb.drew A9 n9 W := (hPb.rw_.keep ((Keeps.refl _ wb).drew)).rdL
              have hcw2 : 16 + Wal.cost W ≤ 2097152 := by omega
              have Hcw := Lib.hid hcw
              clear hcw
              go_wp2_with fail
              have hPd := hPb.keepN ((Keeps.refl _ _).drew)
              have sd : wb.drew.cell? ⟨B, 0, none⟩ = some (.int .i64 1) ∧ wb.drew.cell? ⟨B, 1, none⟩ = some (.int .i64 tt) ∧ wb.drew.cell? ⟨B, 2, none⟩ = some (.int .i64 nn) ∧ wb.drew.cell? ⟨B, 3, none⟩ = some (.slice da dl dc) ∧ wb.drew.cell? ⟨B, 4, none⟩ = some (.slice aa al ac) := ⟨v0, v1, v2, v3, v4⟩
              go_region_held3 (fun w' => w'.cell? ⟨B, 0, none⟩ = some (.int .i64 1) ∧ w'.cell? ⟨B, 1, none⟩ = some (.int .i64 tt) ∧ w'.cell? ⟨B, 2, none⟩ = some (.int .i64 nn) ∧ w'.cell? ⟨B, 3, none⟩ = some (.slice da dl dc) ∧ w'.cell? ⟨B, 4, none⟩ = some (.slice aa al ac)) (first | exact sd | exact s6) (first
                | (go_at_call 52; refine (gen_any F b p g d L _ hPd.wl).mono ?_; rintro e w' ⟨rfl, rfl⟩)
                | (go_at_call 54; refine (told1_any A9 n9 c9 W (by omega) ⟨1, tt, nn, da, dl, dc, dz, aa, al, ac, A', L', C', Z'⟩ rfl hz L.gen (16 + Wal.cost W) Hcw.out hcw2 m1 _ hrWd).mono ?_; rintro e w6 ⟨rfl, hk6⟩; have s6 : w6.cell? ⟨B, 0, none⟩ = some (.int .i64 1) ∧ w6.cell? ⟨B, 1, none⟩ = some (.int .i64 tt) ∧ w6.cell? ⟨B, 2, none⟩ = some (.int .i64 nn) ∧ w6.cell? ⟨B, 3, none⟩ = some (.slice da dl dc) ∧ w6.cell? ⟨B, 4, none⟩ = some (.slice aa al ac) := ⟨hk6.cell sd.1 id, hk6.cell sd.2.1 id, hk6.cell sd.2.2.1 id, hk6.cell sd.2.2.2.1 id, hk6.cell sd.2.2.2.2 id⟩))
            
              all_goals
                have hP6 := hPd.keepN hk6
                have hrN := hrNb.keep ((((Keeps.refl Non wb).drew).trans hk6).mono fun _ _ h => h.elim)
                obtain ⟨t0, -, -, t3, t4⟩ := s6
                clear hPb hPd hk6 hrNb hrWd sd v0 v1 v2 v3 v4 Hcw hcw2
                have hbF := hP6.wl.hb
                have hhs : Wal.hs d = hz := by unfold Wal.hs; rw [hP6.len, ← HZ.out]
                rcases hS with ⟨rfl, hL, hrec⟩ | ⟨rfl, hdn, gen, R, h, hH, hR⟩
                · have hup := Lib.hid hL.up
                  have hfin : L.fin = 16 + Wal.cost W := by rw [hL.fin, hrec]
                  have hfle := hL.le
                  by_cases hd1 : dl < 1
                  · have HT2 : Hid (told1 dl hz (16 + Wal.cost W) = 11) := if_pos hd1
                    have HA := Lib.hid (append_size F b p g d L da dl dc (.inl hd1) w6 hP6.wl hL.alive hL.up)
                    go_wp2_with fail
                    refine (up_any p g d w6 hP6.wl.disk).mono ?_
                    rintro e w' ⟨rfl, rfl⟩
                    rw [hup.out]
                    go_wp2_with fail
                    refine HA.out.mono ?_
                    rw [HT2.out]
                    rintro e wX ⟨rfl, hWX, hkX⟩
                    have hPX := hP6.step (hkX.mono fun k _ h => .inr (.inr (h ▸ hbF))) hWX (fun k h => .inl h) rfl
                    clear hP6 hWX hkX HA hrN
                    go_wp2_with fail
                    as_aux_lemma =>
                      refine (stored_any p g d (by rw [hPX.len]; omega) wX hPX.wl.disk).mono ?_
                      rw [Wal.refRead_has hL.has]
                      rintro e wS ⟨vS, vsS, rfl, hownS, hkS⟩
                      have hownS' : OwnL wS wX.heap.size vS vsS W := by rw [← hrec]; exact hownS
                      have hnW := hPX.n9
                      obtain ⟨AS, cS, rfl, hrS, -, -⟩ := hownS'.rdL (by omega) (fit_len hPX.wf)
                      rw [hnW.2] at hrS ⊢
                      have hPS := hPX.keepN hkS
                      clear hownS hownS' hPX hkS
                      go_wp2_with fail
                      refine (same8_any AS A9 n9 n9 cS c9 W W wS hrS hPS.rw_.rdL).mono ?_
                      rintro e wT ⟨rfl, qq, hqq⟩
                      have hkT : Keeps Non wS wT := by rw [← hqq]; exact (Keeps.refl _ _).drewN qq
                      have hPT := hPS.keepN hkT
                      clear hqq hkT hrS hPS
                      go_wp2_with fail
                      refine (gen_any F b p g d L wT hPT.wl).mono ?_
                      rintro e w' ⟨rfl, rfl⟩
                      go_wp2_with fail
                      go_roundw
                      case rel => exact ⟨j + 1, F, b, d, L, W, M, A9, n9, c9, A10, n10, c10, false, by omega, rfl, rfl, rfl, rfl, by go_num, hPT, .inl ⟨rfl, hL, hrec⟩⟩
                      case measure => simp [intOf]; omega
            
                  · by_cases hsp : hz < 16 + Wal.cost W + 9 + dl
                    · have HT2 : Hid (told1 dl hz (16 + Wal.cost W) = 21) := by show _ = _; unfold told1; rw [if_neg hd1, if_pos hsp]
                      have HA := Lib.hid (append_space F b p g d L da dl dc (by omega) (by omega) hfle (by rw [hhs]; omega) w6 hP6.wl hL.alive hL.up)
                      go_wp2_with fail
                      refine (up_any p g d w6 hP6.wl.disk).mono ?_
                      rintro e w' ⟨rfl, rfl⟩
                      rw [hup.out]
                      go_wp2_with fail
                      refine HA.out.mono ?_
                      rw [HT2.out]
                      rintro e wX ⟨rfl, hWX, hkX⟩
                      have hPX := hP6.step (hkX.mono fun k _ h => .inr (.inr (h ▸ hbF))) hWX (fun k h => .inl h) rfl
                      clear hP6 hWX hkX HA hrN
                      go_wp2_with fail
                      as_aux_lemma =>
                        refine (stored_any p g d (by rw [hPX.len]; omega) wX hPX.wl.disk).mono ?_
                        rw [Wal.refRead_has hL.has]
                        rintro e wS ⟨vS, vsS, rfl, hownS, hkS⟩
                        have hownS' : OwnL wS wX.heap.size vS vsS W := by rw [← hrec]; exact hownS
                        have hnW := hPX.n9
                        obtain ⟨AS, cS, rfl, hrS, -, -⟩ := hownS'.rdL (by omega) (fit_len hPX.wf)
                        rw [hnW.2] at hrS ⊢
                        have hPS := hPX.keepN hkS
                        clear hownS hownS' hPX hkS
                        go_wp2_with fail
                        refine (same8_any AS A9 n9 n9 cS c9 W W wS hrS hPS.rw_.rdL).mono ?_
                        rintro e wT ⟨rfl, qq, hqq⟩
                        have hkT : Keeps Non wS wT := by rw [← hqq]; exact (Keeps.refl _ _).drewN qq
                        have hPT := hPS.keepN hkT
                        clear hqq hkT hrS hPS
                        go_wp2_with fail
                        refine (gen_any F b p g d L wT hPT.wl).mono ?_
                        rintro e w' ⟨rfl, rfl⟩
                        go_wp2_with fail
                        go_roundw
                        case rel => exact ⟨j + 1, F, b, d, L, W, M, A9, n9, c9, A10, n10, c10, false, by omega, rfl, rfl, rfl, rfl, by go_num, hPT, .inl ⟨rfl, hL, hrec⟩⟩
                        case measure => simp [intOf]; omega
            
                    · have HT2 : Hid (told1 dl hz (16 + Wal.cost W) = 0) := by show _ = _; unfold told1; rw [if_neg hd1, if_neg hsp]
                      have HA := Lib.hid (append_step F b p g d L da dl dc x hL (by omega) (by omega) (by rw [hhs]; omega) w6 hP6.wl (hrx.below hP6.k.none_below) (fun a ha => hP6.old (hrx.old (by omega) a ha)))
                      have hxf : Wal.Fit x := ⟨by rw [HXl.out]; omega, by rw [HXl.out]; omega⟩
                      have HWf : Hid (∀ t ∈ W ++ [x], Wal.Fit t) := fun t ht => by
                        rcases List.mem_append.1 ht with ht | ht
                        · exact hwf t ht
                        · simp at ht; subst ht; exact hxf
                      have hWc : Wal.cost (W ++ [x]) ≤ 1048576 := by rw [Wal.cost_snoc, HXl.out]; omega
                      clear hsp hd1 hxf
                      go_wp2_with fail
                      refine (up_any p g d w6 hP6.wl.disk).mono ?_
                      rintro e w' ⟨rfl, rfl⟩
                      rw [hup.out]
                      go_wp2_with fail
                      refine HA.out.mono ?_
                      rw [HT2.out]
                      rintro e wX ⟨dX, -, hdlX, hkX, hX⟩
                      have hrX := hrN.over hkX (Z' := Zz p g F) fun k h => .inl h
                      rcases hX with ⟨rfl, hLX, -, FX, hWX, hFX⟩ | ⟨-, rfl, hdn, hWX, hHX⟩
                      · have hrX2 := hrN.over hkX (Z' := Zz p g FX) fun k h => by
                          rcases h with h | h | h
                          · exact .inl (.inl h)
                          · exact .inl (.inr (.inl h))
                          · rcases hFX k h with h | h
                            · exact .inl (.inr (.inr h))
                            · exact .inr h
                        have hPX := (hP6.step hkX hWX hFX hdlX).want hrX2 hcN1 hcN2 HWf.out hWc
                        obtain ⟨LX, hLXe⟩ : ∃ LX : Wal.Lg, LX = L.added x := ⟨_, rfl⟩
                        rw [← hLXe] at hLX hPX
                        have hrecX : LX.recs = W ++ [x] := by rw [hLXe, ← hrec]; rfl
                        clear hP6 hWX hFX hkX HA hrN hrX hrX2 hrec hL hLXe
                        go_wp2_with fail
                        as_aux_lemma =>
                          refine (stored_any p g dX (by rw [hPX.len]; omega) wX hPX.wl.disk).mono ?_
                          rw [Wal.refRead_has hLX.has]
                          rintro e wS ⟨vS, vsS, rfl, hownS, hkS⟩
                          have hownS' : OwnL wS wX.heap.size vS vsS (W ++ [x]) := by rw [← hrecX]; exact hownS
                          have hnW := hPX.n9
                          obtain ⟨AS, cS, rfl, hrS, -, -⟩ := hownS'.rdL (by omega) (fit_len hPX.wf)
                          rw [hnW.2] at hrS ⊢
                          have hPS := hPX.keepN hkS
                          clear hownS hownS' hPX hkS
                          go_wp2_with fail
                          refine (same8_any AS AN (n9 + 1) (n9 + 1) cS cN (W ++ [x]) (W ++ [x]) wS hrS hPS.rw_.rdL).mono ?_
                          rintro e wT ⟨rfl, qq, hqq⟩
                          have hkT : Keeps Non wS wT := by rw [← hqq]; exact (Keeps.refl _ _).drewN qq
                          have hPT := hPS.keepN hkT
                          clear hqq hkT hrS hPS
                          go_wp2_with fail
                          refine (gen_any FX b p g dX LX wT hPT.wl).mono ?_
                          rintro e w' ⟨rfl, rfl⟩
                          go_wp2_with fail
                          go_roundw
                          case rel => exact ⟨j + 1, FX, b, dX, LX, (W ++ [x]), M, AN, (n9 + 1), cN, A10, n10, c10, false, by omega, rfl, rfl, rfl, rfl, by go_num, hPT, .inl ⟨rfl, hLX, hrecX⟩⟩
                          case measure => simp [intOf]; omega
            
                      · have hPX := (hP6.step hkX hWX (fun k h => .inl h) hdlX).may hrX (by omega)
                        have hHR : ∃ gen R h, Wal.Has dX gen R h ∧ (R = W ∨ R = W ++ [x]) := by
                          rcases hHX with h | h
                          · exact ⟨_, _, _, h, .inl hrec⟩
                          · refine ⟨_, _, _, h, .inr ?_⟩
                            show L.recs ++ [x] = _
                            rw [hrec]
                        obtain ⟨gen, R, h, hH, hR⟩ := hHR
                        have HRR := Lib.hid hR
                        have hdnb := Lib.hid hdn
                        clear hP6 hWX hkX HA hrN hrX hrec hL hHX hR
                        go_wp2_with fail
                        refine (up_any p g dX wX hPX.wl.disk).mono ?_
                        rintro e w' ⟨rfl, rfl⟩
                        rw [hdnb.out]
                        go_wp2_with fail
                        as_aux_lemma =>
                          have hsm := has_small hH
                          have HRf := Lib.hid hsm.1
                          have hRn := hsm.2
                          clear hsm
                          refine (stored_any p g dX (by rw [hPX.len]; omega) wX hPX.wl.disk).mono ?_
                          rw [Wal.refRead_has hH]
                          rintro e wS ⟨vS, vsS, rfl, hownS, hkS⟩
                          have hownS' : OwnL wS wX.heap.size vS vsS R := hownS
                          obtain ⟨AS, cS, rfl, hrS, -, -⟩ := hownS'.rdL (by omega) HRf.out
                          have hPS := hPX.keepN hkS
                          obtain ⟨nR, hnR⟩ : ∃ nR, nR = R.length := ⟨_, rfl⟩
                          have hR1 : (R, gen).1.length = nR := hnR.symm
                          rw [hR1]
                          rw [← hnR] at hrS hRn
                          clear hownS hownS' hPX hkS hnR hR1
                          have hS1 := Lib.hid (same8_any AS A9 nR n9 cS c9 R W wS hrS hPS.rw_.rdL)
                          by_cases hRW : R = W
                          · have HD : Hid (decide (R = W) = true) := by show _ = _; simpa using hRW
                            clear hRW
                            go_wp2_with fail
                            refine hS1.out.mono ?_
                            rintro e wT ⟨rfl, qq, hqq⟩
                            rw [HD.out]
                            have hkT : Keeps Non wS wT := by rw [← hqq]; exact (Keeps.refl _ _).drewN qq
                            have hPT := hPS.keepN hkT
                            clear hqq hkT hrS hPS
                            go_wp2_with fail
                            go_roundw
                            case rel => exact ⟨j + 1, F, b, dX, (L.die false), W, (W ++ [x]), A9, n9, c9, AN, (n9 + 1), cN, true, by omega, rfl, rfl, rfl, rfl, by go_num, hPT, .inr ⟨rfl, hdn, gen, R, h, hH, HRR.out⟩⟩
                            case measure => simp [intOf]; omega
                          · have hRM : R = (W ++ [x]) := by rcases HRR.out with h | h; exact absurd h hRW; exact h
                            have HD : Hid (decide (R = W) = false) := by show _ = _; simpa using hRW
                            have HD2 : Hid (decide (R = (W ++ [x])) = true) := by show _ = _; simpa using hRM
                            have hS2 := Lib.hid (fun (wz : World) (hk : Keeps Non wS wz) => same8_any AS AN nR (n9 + 1) cS cN R (W ++ [x]) wz (hrS.below hk.none_below) (hPS.keepN hk).rm.rdL)
                            clear hRW hRM
                            go_wp2_with fail
                            refine hS1.out.mono ?_
                            rintro e wT ⟨rfl, qq, hqq⟩
                            rw [HD.out]
                            have hkT : Keeps Non wS wT := by rw [← hqq]; exact (Keeps.refl _ _).drewN qq
                            clear hqq
                            go_wp2_with fail
                            refine (hS2.out wT hkT).mono ?_
                            rintro e wU ⟨rfl, q2, hq2⟩
                            rw [HD2.out]
                            have hkU : Keeps Non wS wU := hkT.trans (by rw [← hq2]; exact (Keeps.refl _ _).drewN q2)
                            have hPU := hPS.keepN hkU
                            clear hq2 hkT hkU hrS hPS
                            go_wp2_with fail
                            go_roundw
                            case rel => exact ⟨j + 1, F, b, dX, (L.die false), W, (W ++ [x]), A9, n9, c9, AN, (n9 + 1), cN, true, by omega, rfl, rfl, rfl, rfl, by go_num, hPU, .inr ⟨rfl, hdn, gen, R, h, hH, HRR.out⟩⟩
                            case measure => simp [intOf]; omega
            
                · have HRR := Lib.hid hR
                  have hdnb := Lib.hid hdn
                  clear hR
                  go_wp2_with fail
                  refine (up_any p g d w6 hP6.wl.disk).mono ?_
                  rintro e w' ⟨rfl, rfl⟩
                  rw [hdnb.out]
                  go_wp2_with fail
                  refine (append_down F b p g d L da dl dc w6 hP6.wl (.inr hdnb.out)).mono ?_
                  rintro e wX ⟨rfl, hWX, hkX⟩
                  have hPX := hP6.step (hkX.mono fun k _ h => .inr (.inr (h ▸ hbF))) hWX (fun k h => .inl h) rfl
                  clear hP6 hWX hkX hrN
                  go_wp2_with fail
                  as_aux_lemma =>
                    have hsm := has_small hH
                    have HRf := Lib.hid hsm.1
                    have hRn := hsm.2
                    clear hsm
                    refine (stored_any p g d (by rw [hPX.len]; omega) wX hPX.wl.disk).mono ?_
                    rw [Wal.refRead_has hH]
                    rintro e wS ⟨vS, vsS, rfl, hownS, hkS⟩
                    have hownS' : OwnL wS wX.heap.size vS vsS R := hownS
                    obtain ⟨AS, cS, rfl, hrS, -, -⟩ := hownS'.rdL (by omega) HRf.out
                    have hPS := hPX.keepN hkS
                    obtain ⟨nR, hnR⟩ : ∃ nR, nR = R.length := ⟨_, rfl⟩
                    have hR1 : (R, gen).1.length = nR := hnR.symm
                    rw [hR1]
                    rw [← hnR] at hrS hRn
                    clear hownS hownS' hPX hkS hnR hR1
                    have hS1 := Lib.hid (same8_any AS A9 nR n9 cS c9 R W wS hrS hPS.rw_.rdL)
                    by_cases hRW : R = W
                    · have HD : Hid (decide (R = W) = true) := by show _ = _; simpa using hRW
                      clear hRW
                      go_wp2_with fail
                      refine hS1.out.mono ?_
                      rintro e wT ⟨rfl, qq, hqq⟩
                      rw [HD.out]
                      have hkT : Keeps Non wS wT := by rw [← hqq]; exact (Keeps.refl _ _).drewN qq
                      have hPT := hPS.keepN hkT
                      clear hqq hkT hrS hPS
                      go_wp2_with fail
                      go_roundw
                      case rel => exact ⟨j + 1, F, b, d, (L.die false), W, M, A9, n9, c9, A10, n10, c10, true, by omega, rfl, rfl, rfl, rfl, by go_num, hPT, .inr ⟨rfl, hdn, gen, R, h, hH, HRR.out⟩⟩
                      case measure => simp [intOf]; omega
                    · have hRM : R = M := by rcases HRR.out with h | h; exact absurd h hRW; exact h
                      have HD : Hid (decide (R = W) = false) := by show _ = _; simpa using hRW
                      have HD2 : Hid (decide (R = M) = true) := by show _ = _; simpa using hRM
                      have hS2 := Lib.hid (fun (wz : World) (hk : Keeps Non wS wz) => same8_any AS A10 nR n10 cS c10 R M wz (hrS.below hk.none_below) (hPS.keepN hk).rm.rdL)
                      clear hRW hRM
                      go_wp2_with fail
                      refine hS1.out.mono ?_
                      rintro e wT ⟨rfl, qq, hqq⟩
                      rw [HD.out]
                      have hkT : Keeps Non wS wT := by rw [← hqq]; exact (Keeps.refl _ _).drewN qq
                      clear hqq
                      go_wp2_with fail
                      refine (hS2.out wT hkT).mono ?_
                      rintro e wU ⟨rfl, q2, hq2⟩
                      rw [HD2.out]
                      have hkU : Keeps Non wS wU := hkT.trans (by rw [← hq2]; exact (Keeps.refl _ _).drewN q2)
                      have hPU := hPS.keepN hkU
                      clear hq2 hkT hkU hrS hPS
                      go_wp2_with fail
                      go_roundw
                      case rel => exact ⟨j + 1, F, b, d, (L.die false), W, M, A9, n9, c9, A10, n10, c10, true, by omega, rfl, rfl, rfl, rfl, by go_num, hPU, .inr ⟨rfl, hdn, gen, R, h, hH, HRR.out⟩⟩
                      case measure => simp [intOf]; omega
          by_cases k2 : kk = 2
          · subst k2
            obtain ⟨N, hN⟩ : ∃ N, N = rowsOf L' Z' al := ⟨_, rfl⟩
            have hrN5 : RdLZ (Zz p g F) w5 aa al N := by rw [hN]; exact (IsRows.rdLZ wa (by omega) (fun r hr => by have := m3 r hr; omega) (fun k hk => hP5.old hk)).keep (hP5.k.mono fun _ _ h => h.elim)
            have hNl : ∀ t ∈ N, t.length ≤ 300 := by
              intro t ht
              rw [hN] at ht
              simp only [rowsOf, List.mem_map, List.mem_range] at ht
              obtain ⟨r, hr, rfl⟩ := ht
              have := m3 r hr
              obtain ⟨_, _, _, hrow⟩ := wa.place (by omega)
              rw [bytesOf_length (hrow r hr).2]; exact this
            have HNl := Lib.hid hNl
            clear hN hNl
            have hrNd : RdL w5.drew aa al N := (hrN5.keep ((Keeps.refl _ w5).drew)).rdL
            go_wp2_with fail
            rw [← H5.out, ← HB.out]
            go_wp2_with fail
            
            have hPd := hP5.keepN ((Keeps.refl _ _).drew)
            have sd : w5.drew.cell? ⟨B, 0, none⟩ = some (.int .i64 2) ∧ w5.drew.cell? ⟨B, 1, none⟩ = some (.int .i64 tt) ∧ w5.drew.cell? ⟨B, 2, none⟩ = some (.int .i64 nn) ∧ w5.drew.cell? ⟨B, 3, none⟩ = some (.slice da dl dc) ∧ w5.drew.cell? ⟨B, 4, none⟩ = some (.slice aa al ac) := ⟨u0, u1, u2, u3, u4⟩
            go_region_held3 (fun w' => w'.cell? ⟨B, 0, none⟩ = some (.int .i64 2) ∧ w'.cell? ⟨B, 1, none⟩ = some (.int .i64 tt) ∧ w'.cell? ⟨B, 2, none⟩ = some (.int .i64 nn) ∧ w'.cell? ⟨B, 3, none⟩ = some (.slice da dl dc) ∧ w'.cell? ⟨B, 4, none⟩ = some (.slice aa al ac)) (first | exact sd | exact s6) (first
              | (go_at_call 52; refine (gen_any F b p g d L _ hPd.wl).mono ?_; rintro e w' ⟨rfl, rfl⟩)
              | (go_at_call 54; refine (told2_any A9 n9 c9 ⟨2, tt, nn, da, dl, dc, dz, aa, al, ac, A', L', C', Z'⟩ N (by show al ≤ _; omega) (by show ((2 : Int) == 1) = false; decide) hz L.gen _ hrNd).mono ?_; rintro e w6 ⟨rfl, hk6⟩; have s6 : w6.cell? ⟨B, 0, none⟩ = some (.int .i64 2) ∧ w6.cell? ⟨B, 1, none⟩ = some (.int .i64 tt) ∧ w6.cell? ⟨B, 2, none⟩ = some (.int .i64 nn) ∧ w6.cell? ⟨B, 3, none⟩ = some (.slice da dl dc) ∧ w6.cell? ⟨B, 4, none⟩ = some (.slice aa al ac) := ⟨hk6.cell sd.1 id, hk6.cell sd.2.1 id, hk6.cell sd.2.2.1 id, hk6.cell sd.2.2.2.1 id, hk6.cell sd.2.2.2.2 id⟩))
            
            all_goals
              have hP6 := hPd.keepN hk6
              have hrN := hrN5.keep ((((Keeps.refl Non w5).drew).trans hk6).mono fun _ _ h => h.elim)
              obtain ⟨t0, -, -, t3, t4⟩ := s6
              clear hP5 hPd hk6 hrN5 hrNd sd u0 u1 u2 u3 u4
              have hbF := hP6.wl.hb
              have hhs : Wal.hs d = hz := by unfold Wal.hs; rw [hP6.len, ← HZ.out]
              have hbig : 512 ≤ Wal.hs d := by rw [hhs]; omega
              have HT := Lib.hid (told2_eq N hz L.gen)
              rcases hS with ⟨rfl, hL, hrec⟩ | ⟨rfl, hdn, gen, R, h, hH, hR⟩
              · have hup := Lib.hid hL.up
                by_cases hfe : fitErr N hz = 0
                · by_cases hgf : L.gen = 2147483647
                  · have HT2 : Hid (told2 N hz L.gen = 14) := by show _ = _; rw [HT.out, if_neg (by simpa using hfe), if_pos hgf]
                    have HA := Lib.hid (anew_full F b p g d L aa al ac N hbig (by rw [hhs]; exact hfe) hgf w6 hP6.wl hL.alive hL.up hrN)
                    clear hfe hgf
                    go_wp2_with fail
                    refine (up_any p g d w6 hP6.wl.disk).mono ?_
                    rintro e w' ⟨rfl, rfl⟩
                    rw [hup.out]
                    go_wp2_with fail
                    refine HA.out.mono ?_
                    rintro e wX ⟨rfl, hWX, hkX⟩
                    rw [HT2.out]
                    have hPX := hP6.step (hkX.mono fun k _ h => .inr (.inr (h ▸ hbF))) hWX (fun k h => .inl h) rfl
                    clear hP6 hWX hkX HA hrN
                    go_wp2_with fail
                    as_aux_lemma =>
                      refine (stored_any p g d (by rw [hPX.len]; omega) wX hPX.wl.disk).mono ?_
                      rw [Wal.refRead_has hL.has]
                      rintro e wS ⟨vS, vsS, rfl, hownS, hkS⟩
                      have hownS' : OwnL wS wX.heap.size vS vsS W := by rw [← hrec]; exact hownS
                      have hnW := hPX.n9
                      obtain ⟨AS, cS, rfl, hrS, -, -⟩ := hownS'.rdL (by omega) (fit_len hPX.wf)
                      rw [hnW.2] at hrS ⊢
                      have hPS := hPX.keepN hkS
                      clear hownS hownS' hPX hkS
                      go_wp2_with fail
                      refine (same8_any AS A9 n9 n9 cS c9 W W wS hrS hPS.rw_.rdL).mono ?_
                      rintro e wT ⟨rfl, qq, hqq⟩
                      have hkT : Keeps Non wS wT := by rw [← hqq]; exact (Keeps.refl _ _).drewN qq
                      have hPT := hPS.keepN hkT
                      clear hqq hkT hrS hPS
                      go_wp2_with fail
                      refine (gen_any F b p g d L wT hPT.wl).mono ?_
                      rintro e w' ⟨rfl, rfl⟩
                      go_wp2_with fail
                      go_roundw
                      case rel => exact ⟨j + 1, F, b, d, L, W, M, A9, n9, c9, A10, n10, c10, false, by omega, rfl, rfl, rfl, rfl, by go_num, hPT, .inl ⟨rfl, hL, hrec⟩⟩
                      case measure => simp [intOf]; omega
            
                  · have HT2 : Hid (told2 N hz L.gen = 0) := by show _ = _; rw [HT.out, if_neg (by simpa using hfe), if_neg hgf]
                    obtain ⟨hfit, hcost⟩ := fitErr_zero hfe
                    have hgl := hL.has.gen_le
                    have HA := Lib.hid (anew_step F b p g d L aa al ac N hL hfit (by rw [hhs]; exact hcost) (by omega) w6 hP6.wl hrN)
                    have HF := Lib.hid hfit
                    have hcb : Wal.cost N ≤ 1048576 := by omega
                    clear hfe hgf hfit hcost hgl
                    go_wp2_with fail
                    refine (up_any p g d w6 hP6.wl.disk).mono ?_
                    rintro e w' ⟨rfl, rfl⟩
                    rw [hup.out]
                    go_wp2_with fail
                    refine HA.out.mono ?_
                    rw [HT2.out]
                    rintro e wX ⟨dX, -, hdlX, hkX, hX⟩
                    have hrX := hrN.over hkX (Z' := Zz p g F) fun k h => .inl h
                    rcases hX with ⟨rfl, hLX, -, FX, hWX, hFX⟩ | ⟨-, rfl, hdn, hWX, hHX⟩
                    · have hrX2 := hrN.over hkX (Z' := Zz p g FX) fun k h => by
                        rcases h with h | h | h
                        · exact .inl (.inl h)
                        · exact .inl (.inr (.inl h))
                        · rcases hFX k h with h | h
                          · exact .inl (.inr (.inr h))
                          · exact .inr h
                      have hPX := (hP6.step hkX hWX hFX hdlX).want hrX2 hlca.1 hlca.2 HF.out hcb
                      obtain ⟨LX, hLXe⟩ : ∃ LX : Wal.Lg, LX = ⟨1 - L.half, L.gen + 1, 16 + Wal.cost N, N, false⟩ := ⟨_, rfl⟩
                      rw [← hLXe] at hLX hPX
                      have hrecX : LX.recs = N := by rw [hLXe]
                      clear hP6 hWX hFX hkX HA hrN hrX hrX2 hrec hL hLXe
                      go_wp2_with fail
                      as_aux_lemma =>
                        refine (stored_any p g dX (by rw [hPX.len]; omega) wX hPX.wl.disk).mono ?_
                        rw [Wal.refRead_has hLX.has]
                        rintro e wS ⟨vS, vsS, rfl, hownS, hkS⟩
                        have hownS' : OwnL wS wX.heap.size vS vsS N := by rw [← hrecX]; exact hownS
                        have hnW := hPX.n9
                        obtain ⟨AS, cS, rfl, hrS, -, -⟩ := hownS'.rdL (by omega) (fit_len hPX.wf)
                        rw [hnW.2] at hrS ⊢
                        have hPS := hPX.keepN hkS
                        clear hownS hownS' hPX hkS
                        go_wp2_with fail
                        refine (same8_any AS aa al al cS ac N N wS hrS hPS.rw_.rdL).mono ?_
                        rintro e wT ⟨rfl, qq, hqq⟩
                        have hkT : Keeps Non wS wT := by rw [← hqq]; exact (Keeps.refl _ _).drewN qq
                        have hPT := hPS.keepN hkT
                        clear hqq hkT hrS hPS
                        go_wp2_with fail
                        refine (gen_any FX b p g dX LX wT hPT.wl).mono ?_
                        rintro e w' ⟨rfl, rfl⟩
                        go_wp2_with fail
                        go_roundw
                        case rel => exact ⟨j + 1, FX, b, dX, LX, N, M, aa, al, ac, A10, n10, c10, false, by omega, rfl, rfl, rfl, rfl, by go_num, hPT, .inl ⟨rfl, hLX, hrecX⟩⟩
                        case measure => simp [intOf]; omega
            
                    · have hPX := (hP6.step hkX hWX (fun k h => .inl h) hdlX).may hrX (by omega)
                      have hHR : ∃ gen R h, Wal.Has dX gen R h ∧ (R = W ∨ R = N) := by
                        rcases hHX with h | h
                        · exact ⟨_, _, _, h, .inl hrec⟩
                        · exact ⟨_, _, _, h, .inr rfl⟩
                      obtain ⟨gen, R, h, hH, hR⟩ := hHR
                      have HRR := Lib.hid hR
                      have hdnb := Lib.hid hdn
                      clear hP6 hWX hkX HA hrN hrX hrec hL hHX hR
                      go_wp2_with fail
                      refine (up_any p g dX wX hPX.wl.disk).mono ?_
                      rintro e w' ⟨rfl, rfl⟩
                      rw [hdnb.out]
                      go_wp2_with fail
                      as_aux_lemma =>
                        have hsm := has_small hH
                        have HRf := Lib.hid hsm.1
                        have hRn := hsm.2
                        clear hsm
                        refine (stored_any p g dX (by rw [hPX.len]; omega) wX hPX.wl.disk).mono ?_
                        rw [Wal.refRead_has hH]
                        rintro e wS ⟨vS, vsS, rfl, hownS, hkS⟩
                        have hownS' : OwnL wS wX.heap.size vS vsS R := hownS
                        obtain ⟨AS, cS, rfl, hrS, -, -⟩ := hownS'.rdL (by omega) HRf.out
                        have hPS := hPX.keepN hkS
                        obtain ⟨nR, hnR⟩ : ∃ nR, nR = R.length := ⟨_, rfl⟩
                        have hR1 : (R, gen).1.length = nR := hnR.symm
                        rw [hR1]
                        rw [← hnR] at hrS hRn
                        clear hownS hownS' hPX hkS hnR hR1
                        have hS1 := Lib.hid (same8_any AS A9 nR n9 cS c9 R W wS hrS hPS.rw_.rdL)
                        by_cases hRW : R = W
                        · have HD : Hid (decide (R = W) = true) := by show _ = _; simpa using hRW
                          clear hRW
                          go_wp2_with fail
                          refine hS1.out.mono ?_
                          rintro e wT ⟨rfl, qq, hqq⟩
                          rw [HD.out]
                          have hkT : Keeps Non wS wT := by rw [← hqq]; exact (Keeps.refl _ _).drewN qq
                          have hPT := hPS.keepN hkT
                          clear hqq hkT hrS hPS
                          go_wp2_with fail
                          go_roundw
                          case rel => exact ⟨j + 1, F, b, dX, (L.die false), W, N, A9, n9, c9, aa, al, ac, true, by omega, rfl, rfl, rfl, rfl, by go_num, hPT, .inr ⟨rfl, hdn, gen, R, h, hH, HRR.out⟩⟩
                          case measure => simp [intOf]; omega
                        · have hRM : R = N := by rcases HRR.out with h | h; exact absurd h hRW; exact h
                          have HD : Hid (decide (R = W) = false) := by show _ = _; simpa using hRW
                          have HD2 : Hid (decide (R = N) = true) := by show _ = _; simpa using hRM
                          have hS2 := Lib.hid (fun (wz : World) (hk : Keeps Non wS wz) => same8_any AS aa nR al cS ac R N wz (hrS.below hk.none_below) (hPS.keepN hk).rm.rdL)
                          clear hRW hRM
                          go_wp2_with fail
                          refine hS1.out.mono ?_
                          rintro e wT ⟨rfl, qq, hqq⟩
                          rw [HD.out]
                          have hkT : Keeps Non wS wT := by rw [← hqq]; exact (Keeps.refl _ _).drewN qq
                          clear hqq
                          go_wp2_with fail
                          refine (hS2.out wT hkT).mono ?_
                          rintro e wU ⟨rfl, q2, hq2⟩
                          rw [HD2.out]
                          have hkU : Keeps Non wS wU := hkT.trans (by rw [← hq2]; exact (Keeps.refl _ _).drewN q2)
                          have hPU := hPS.keepN hkU
                          clear hq2 hkT hkU hrS hPS
                          go_wp2_with fail
                          go_roundw
                          case rel => exact ⟨j + 1, F, b, dX, (L.die false), W, N, A9, n9, c9, aa, al, ac, true, by omega, rfl, rfl, rfl, rfl, by go_num, hPU, .inr ⟨rfl, hdn, gen, R, h, hH, HRR.out⟩⟩
                          case measure => simp [intOf]; omega
            
                · have HT2 : Hid (told2 N hz L.gen = fitErr N hz) := by show _ = _; rw [HT.out, if_pos hfe]
                  have HA := Lib.hid (anew_no F b p g d L aa al ac N hbig (by rw [hhs]; exact hfe) w6 hP6.wl hL.alive hL.up hrN)
                  have hzb : (fitErr N hz != 0) = true := by rw [bne_iff_ne]; exact hfe
                  clear hfe
                  go_wp2_with fail
                  refine (up_any p g d w6 hP6.wl.disk).mono ?_
                  rintro e w' ⟨rfl, rfl⟩
                  rw [hup.out]
                  go_wp2_with fail
                  refine HA.out.mono ?_
                  rw [hhs, HT2.out]
                  rintro e wX ⟨rfl, hWX, hkX⟩
                  have hPX := hP6.step (hkX.mono fun k _ h => .inr (.inr (h ▸ hbF))) hWX (fun k h => .inl h) rfl
                  clear hP6 hWX hkX HA hrN
                  go_wp2_with fail
                  as_aux_lemma =>
                    refine (stored_any p g d (by rw [hPX.len]; omega) wX hPX.wl.disk).mono ?_
                    rw [Wal.refRead_has hL.has]
                    rintro e wS ⟨vS, vsS, rfl, hownS, hkS⟩
                    have hownS' : OwnL wS wX.heap.size vS vsS W := by rw [← hrec]; exact hownS
                    have hnW := hPX.n9
                    obtain ⟨AS, cS, rfl, hrS, -, -⟩ := hownS'.rdL (by omega) (fit_len hPX.wf)
                    rw [hnW.2] at hrS ⊢
                    have hPS := hPX.keepN hkS
                    clear hownS hownS' hPX hkS
                    go_wp2_with fail
                    refine (same8_any AS A9 n9 n9 cS c9 W W wS hrS hPS.rw_.rdL).mono ?_
                    rintro e wT ⟨rfl, qq, hqq⟩
                    have hkT : Keeps Non wS wT := by rw [← hqq]; exact (Keeps.refl _ _).drewN qq
                    have hPT := hPS.keepN hkT
                    clear hqq hkT hrS hPS
                    go_wp2_with fail
                    refine (gen_any F b p g d L wT hPT.wl).mono ?_
                    rintro e w' ⟨rfl, rfl⟩
                    go_wp2_with fail
                    go_roundw
                    case rel => exact ⟨j + 1, F, b, d, L, W, M, A9, n9, c9, A10, n10, c10, false, by omega, rfl, rfl, rfl, rfl, by go_num, hPT, .inl ⟨rfl, hL, hrec⟩⟩
                    case measure => simp [intOf]; omega
            
              · have HRR := Lib.hid hR
                have hdnb := Lib.hid hdn
                clear hR
                go_wp2_with fail
                refine (up_any p g d w6 hP6.wl.disk).mono ?_
                rintro e w' ⟨rfl, rfl⟩
                rw [hdnb.out]
                go_wp2_with fail
                refine (anew_down F b p g d L aa al ac w6 hP6.wl (.inr hdnb.out)).mono ?_
                rintro e wX ⟨rfl, hWX, hkX⟩
                have hPX := hP6.step (hkX.mono fun k _ h => .inr (.inr (h ▸ hbF))) hWX (fun k h => .inl h) rfl
                clear hP6 hWX hkX hrN
                go_wp2_with fail
                as_aux_lemma =>
                  have hsm := has_small hH
                  have HRf := Lib.hid hsm.1
                  have hRn := hsm.2
                  clear hsm
                  refine (stored_any p g d (by rw [hPX.len]; omega) wX hPX.wl.disk).mono ?_
                  rw [Wal.refRead_has hH]
                  rintro e wS ⟨vS, vsS, rfl, hownS, hkS⟩
                  have hownS' : OwnL wS wX.heap.size vS vsS R := hownS
                  obtain ⟨AS, cS, rfl, hrS, -, -⟩ := hownS'.rdL (by omega) HRf.out
                  have hPS := hPX.keepN hkS
                  obtain ⟨nR, hnR⟩ : ∃ nR, nR = R.length := ⟨_, rfl⟩
                  have hR1 : (R, gen).1.length = nR := hnR.symm
                  rw [hR1]
                  rw [← hnR] at hrS hRn
                  clear hownS hownS' hPX hkS hnR hR1
                  have hS1 := Lib.hid (same8_any AS A9 nR n9 cS c9 R W wS hrS hPS.rw_.rdL)
                  by_cases hRW : R = W
                  · have HD : Hid (decide (R = W) = true) := by show _ = _; simpa using hRW
                    clear hRW
                    go_wp2_with fail
                    refine hS1.out.mono ?_
                    rintro e wT ⟨rfl, qq, hqq⟩
                    rw [HD.out]
                    have hkT : Keeps Non wS wT := by rw [← hqq]; exact (Keeps.refl _ _).drewN qq
                    have hPT := hPS.keepN hkT
                    clear hqq hkT hrS hPS
                    go_wp2_with fail
                    go_roundw
                    case rel => exact ⟨j + 1, F, b, d, (L.die false), W, M, A9, n9, c9, A10, n10, c10, true, by omega, rfl, rfl, rfl, rfl, by go_num, hPT, .inr ⟨rfl, hdn, gen, R, h, hH, HRR.out⟩⟩
                    case measure => simp [intOf]; omega
                  · have hRM : R = M := by rcases HRR.out with h | h; exact absurd h hRW; exact h
                    have HD : Hid (decide (R = W) = false) := by show _ = _; simpa using hRW
                    have HD2 : Hid (decide (R = M) = true) := by show _ = _; simpa using hRM
                    have hS2 := Lib.hid (fun (wz : World) (hk : Keeps Non wS wz) => same8_any AS A10 nR n10 cS c10 R M wz (hrS.below hk.none_below) (hPS.keepN hk).rm.rdL)
                    clear hRW hRM
                    go_wp2_with fail
                    refine hS1.out.mono ?_
                    rintro e wT ⟨rfl, qq, hqq⟩
                    rw [HD.out]
                    have hkT : Keeps Non wS wT := by rw [← hqq]; exact (Keeps.refl _ _).drewN qq
                    clear hqq
                    go_wp2_with fail
                    refine (hS2.out wT hkT).mono ?_
                    rintro e wU ⟨rfl, q2, hq2⟩
                    rw [HD2.out]
                    have hkU : Keeps Non wS wU := hkT.trans (by rw [← hq2]; exact (Keeps.refl _ _).drewN q2)
                    have hPU := hPS.keepN hkU
                    clear hq2 hkT hkU hrS hPS
                    go_wp2_with fail
                    go_roundw
                    case rel => exact ⟨j + 1, F, b, d, (L.die false), W, M, A9, n9, c9, A10, n10, c10, true, by omega, rfl, rfl, rfl, rfl, by go_num, hPU, .inr ⟨rfl, hdn, gen, R, h, hH, HRR.out⟩⟩
                    case measure => simp [intOf]; omega
          by_cases k3 : kk = 3
          · subst k3
            go_wp2_with fail
            rw [← H5.out, ← HB.out]
            go_wp2_with fail
            refine (light_any p g d tt nn hwt.2 hwn.2 w5 hP5.wl.disk).mono ?_
            rintro e w6 ⟨rfl, hD6, hk6⟩
            have hk6' : Keeps (fun k => k = p ∨ k = g) w5 w6 := hk6.mono fun _ _ h => .inl h
            have hP6 := hP5.step (hk6'.mono fun k _ h => by rcases h with h | h; exact .inl h; exact .inr (.inl h)) (hP5.wl.disk_ hk6' hD6) (fun k h => .inl h) (by rw [light_data])
            have hS6 := hS.light hwt.2 hwn.2
            clear hP5 hS hD6 hk6 hk6'
            go_wp2_with fail
            go_roundw
            case rel => exact ⟨j + 1, F, b, d.light tt nn, L, W, M, A9, n9, c9, A10, n10, c10, cut, by omega, rfl, rfl, rfl, rfl, by go_num, hP6, hS6⟩
            case measure => simp [intOf]; omega
          by_cases k4 : kk = 4
          · subst k4
            obtain ⟨gen, R, h, hH, hR⟩ := hS.has
            have HR := Lib.hid hR
            clear hS hR
            go_wp2_with fail
            rw [← H5.out, ← HB.out]
            go_wp2_with fail
            refine (start_any p g d w5 hP5.wl.disk).mono ?_
            rintro e w6 ⟨rfl, hD6, hk6⟩
            have hk6' : Keeps (fun k => k = p ∨ k = g) w5 w6 := hk6.mono fun _ _ h => .inl h
            have hP6 := hP5.step (hk6'.mono fun k _ h => by rcases h with h | h; exact .inl h; exact .inr (.inl h)) (hP5.wl.disk_ hk6' hD6) (fun k h => .inl h) (by rfl)
            have hH6 := Has.start hH
            clear hP5 hD6 hk6 hk6' hH
            go_wp2_with fail
            refine (open_step p g d.start gen R h hH6 rfl w6 hP6.wl.disk).mono ?_
            rintro e w7 ⟨d7, hH7, hdl7, hk7, h7⟩
            rcases h7 with ⟨F7, b7, rfl, hL7, hlit7, hW7, hF7⟩ | ⟨hbad, _⟩
            rotate_left
            · exact absurd hbad (by show ¬ (false = true); simp)
            have hP7 := hP6.step (hk7.mono fun k _ h => by rcases h with h | h; exact .inl h; exact .inr (.inl h)) hW7 (fun k h => .inr (hF7 k h)) hdl7
            have hRf : ∀ t ∈ R, Wal.Fit t := hL7.ex.fit
            have hRc : Wal.cost R ≤ 1048576 := by
              have h1 := hL7.le
              have h2 := Wal.hs_le hL7.wf
              have h1 : 16 + Wal.cost R ≤ Wal.hs d7 := h1
              omega
            have HRl : Hid (∀ t ∈ R, t.length ≤ 140737488355328) := fit_len hRf
            have hRn : R.length ≤ 104857 := by have := cost_ge R hRf; omega
            have HRf := Lib.hid hRf
            have hn9 := hP7.n9
            clear hP6 hH6 hH7 hlit7 hW7 hF7 hk7 hRf
            go_wp2_with fail
            refine (records_any F7 b7 p g d7 _ w7 hP7.wl).mono ?_
            rintro e w8 ⟨v8, vs8, rfl, hown8, hk8⟩
            have hown8' : OwnL w8 w7.heap.size v8 vs8 R := hown8
            obtain ⟨A8, c8, rfl, hr8, h81, h82⟩ := hown8'.rdLZ (Z := Zz p g F7) (by omega) HRl.out (fun k hk => hP7.new hk)
            have hP8 := hP7.keepN hk8
            obtain ⟨nR, hnR⟩ : ∃ nR, nR = R.length := ⟨_, rfl⟩
            rw [← hnR] at hr8 h81 hRn ⊢
            have HnR := Lib.hid hnR
            have hS1 := Lib.hid (same8_any A8 A9 nR n9 c8 c9 R W w8 hr8.rdL hP8.rw_.rdL)
            clear hown8 hown8' hP7 hk8 hnR
            have hSt : ∀ wz : World, Keeps Non w8 wz → P8 w wz p g sz F7 b7 d7 ⟨h, gen, 16 + Wal.cost R, R, false⟩ R M A8 nR c8 A10 n10 ∧ Stand d7 ⟨h, gen, 16 + Wal.cost R, R, false⟩ R M false := fun wz hk =>
              ⟨(hP8.keepN hk).want (hr8.keep (hk.mono fun _ _ h => h.elim)) h81 h82 HRf.out hRc, .inl ⟨rfl, hL7, rfl⟩⟩
            have HSt := Lib.hid hSt
            clear hSt hL7
            by_cases hRW : R = W
            · have HD : Hid (decide (R = W) = true) := by show _ = _; simpa using hRW
              clear hRW
              go_wp2_with fail
              refine hS1.out.mono ?_
              rintro e w9 ⟨rfl, qq, hqq⟩
              rw [HD.out]
              have hk9 : Keeps Non w8 w9 := by rw [← hqq]; exact (Keeps.refl _ _).drewN qq
              obtain ⟨hP9, hS9⟩ := HSt.out w9 hk9
              clear hqq hk9 hr8 hP8
              go_wp2_with fail
              go_roundw
              case rel => exact ⟨j + 1, F7, b7, d7, _, R, M, A8, nR, c8, A10, n10, c10, false, by omega, rfl, rfl, rfl, rfl, by go_num, hP9, hS9⟩
              case measure => simp [intOf]; omega
            · have hcm : cut = true ∧ R = M := by rcases HR.out with h | h; exact absurd h hRW; exact h
              obtain ⟨rfl, hRM⟩ := hcm
              have HD : Hid (decide (R = W) = false) := by show _ = _; simpa using hRW
              have HD2 : Hid (decide (R = M) = true) := by show _ = _; simpa using hRM
              have hS2 := Lib.hid (fun (wz : World) (hk : Keeps Non w8 wz) => same8_any A8 A10 nR n10 c8 c10 R M wz (hr8.keep (hk.mono fun _ _ h => h.elim)).rdL (hP8.keepN hk).rm.rdL)
              clear hRW hRM
              go_wp2_with fail
              refine hS1.out.mono ?_
              rintro e w9 ⟨rfl, qq, hqq⟩
              rw [HD.out]
              have hk9 : Keeps Non w8 w9 := by rw [← hqq]; exact (Keeps.refl _ _).drewN qq
              clear hqq
              go_wp2_with fail
              refine (hS2.out w9 hk9).mono ?_
              rintro e w10 ⟨rfl, q2, hq2⟩
              rw [HD2.out]
              have hk10 : Keeps Non w8 w10 := hk9.trans (by rw [← hq2]; exact (Keeps.refl _ _).drewN q2)
              obtain ⟨hP9, hS9⟩ := HSt.out w10 hk10
              clear hq2 hk9 hk10 hr8 hP8
              go_wp2_with fail
              go_roundw
              case rel => exact ⟨j + 1, F7, b7, d7, _, R, M, A8, nR, c8, A10, n10, c10, false, by omega, rfl, rfl, rfl, rfl, by go_num, hP9, hS9⟩
              case measure => simp [intOf]; omega
          · have b1 : ((kk == 1) : Bool) = false := by rw [beq_eq_false_iff_ne]; exact k1
            have b2 : ((kk == 2) : Bool) = false := by rw [beq_eq_false_iff_ne]; exact k2
            have b3 : ((kk == 3) : Bool) = false := by rw [beq_eq_false_iff_ne]; exact k3
            have b4 : ((kk == 4) : Bool) = false := by rw [beq_eq_false_iff_ne]; exact k4
            clear k1 k2 k3 k4
            go_wp2_with fail
            rw [← H5.out]
            go_roundw
            case rel => exact ⟨j + 1, F, b, d, L, W, M, A9, n9, c9, A10, n10, c10, cut, by omega, rfl, rfl, rfl, rfl, by go_num, hP5, hS⟩
            case measure => simp [intOf]; omega
        · obtain rfl : j = len1 := by omega
          have hkb := hP.k.none_below
          clear hP hS
          go_wp2_with fail
          go_ret
          exact ⟨rfl, hkb⟩
end Go.Proofs.Ytbmamhcjbhnkiaa
