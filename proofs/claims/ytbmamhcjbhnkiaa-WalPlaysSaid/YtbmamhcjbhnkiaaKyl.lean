/- Layer 8: the walk of the reference's Read. -/
import Derived.Test.YtbmamhcjbhnkiaaKyk
namespace Go.Proofs.Ytbmamhcjbhnkiaa
open Go.RowKit

/-- The answer of Read: rows of its own, and the generation. -/
def RetRead8 (w : World) (T : List (List UInt8) × Nat) (e : Ending) (w' : World) : Prop := ∃ v vs, e = .returned (.tuple #[v, .int .i64 (T.2 : Int)]) ∧ OwnL w' w.heap.size v vs T.1 ∧ Keeps Non w w'

set_option maxHeartbeats 8000000 in
set_option maxRecDepth 100000 in
theorem rread8_any (A : Option Addr) (n c : Nat) (D : List UInt8) (hnc : n ≤ c) (hcm : c ≤ 9223372036854775807) (h0 : 1024 ≤ n) (h1 : n ≤ 1048576) (w : World) (hr : RdB w A n D) :
    Calls Try.prog 83 #[.slice A n c] w (RetRead8 w (Wal.refRead D)) := by
  have hlen := hr.len
  obtain ⟨b, off, rfl, _⟩ := hr.cells (by omega)
  obtain ⟨sz, hsz⟩ : ∃ sz, sz = n / 2 := ⟨_, rfl⟩
  have hq : (n : Int) / 2 = (sz : Int) := by omega
  have hb1 : 2 * sz ≤ n := by omega
  have hb2 : n ≤ 2 * sz + 1 := by omega
  have hle0 := Wal.genOf_le (Wal.slc D 0 16)
  have hle1 := Wal.genOf_le (Wal.slc D sz 16)
  have e0 : Wal.genOf (Wal.slc D 0 sz) = Wal.genOf (Wal.slc D 0 16) := by rw [genOf_slc (by rw [Wal.slc_length (by omega)]; omega), Wal.slc_slc (by omega)]
  have e1 : Wal.genOf (Wal.slc D sz sz) = Wal.genOf (Wal.slc D sz 16) := by rw [genOf_slc (by rw [Wal.slc_length (by omega)]; omega), Wal.slc_slc (by omega)]; rfl
  obtain ⟨g0, hg0⟩ : ∃ g0, g0 = Wal.genOf (Wal.slc D 0 16) := ⟨_, rfl⟩
  obtain ⟨g1, hg1⟩ : ∃ g1, g1 = Wal.genOf (Wal.slc D sz 16) := ⟨_, rfl⟩
  obtain ⟨T, hT⟩ : ∃ T, T = Wal.refRead D := ⟨_, rfl⟩
  rw [← hT]
  have hT2 : T = if g0 = 0 ∧ g1 = 0 then ([], 0) else if g0 < g1 then ((Wal.scan (Wal.slc D sz sz) g1 sz 16).1, g1) else ((Wal.scan (Wal.slc D 0 sz) g0 sz 16).1, g0) := by
    rw [hT]; unfold Wal.refRead
    rw [hlen, ← hsz, e0, e1, ← hg0, ← hg1]
  rw [← hg0] at hle0
  rw [← hg1] at hle1
  have HG0 := Lib.hid hg0
  have HG1 := Lib.hid hg1
  clear hT e0 e1 hg0 hg1 hsz
  by_cases hz : g0 = 0 ∧ g1 = 0
  · obtain ⟨z0, z1⟩ := hz
    have HT : Hid (T = ([], 0)) := by show _ = _; rw [hT2, if_pos ⟨z0, z1⟩]
    have Hz0 := Lib.hid z0
    have Hz1 := Lib.hid z1
    clear hT2 z0 z1
    go_enter Try.func83, Try.ntmps83
    go_wp2_with fail
    refine (rgeneration_any _ n c D 0 (by omega) w hr).mono ?_
    rintro e w1 ⟨rfl, hk1⟩
    rw [← HG0.out, Hz0.out]
    go_wp2_with fail
    refine (rgeneration_any _ n c D sz (by omega) w1 (hr.keepN hk1)).mono ?_
    rintro e w2 ⟨rfl, hk2⟩
    rw [← HG1.out, Hz1.out]
    have hk := hk1.trans hk2
    go_wp2_with fail
    go_ret2
    rw [HT.out]
    exact ⟨_, [], rfl, OwnL.nil _ _, hk⟩
  have walk : True := trivial
  by_cases hlt : g0 < g1
  · have HT : Hid (T = ((Wal.scan (Wal.slc D sz sz) g1 sz 16).1, g1)) := by show _ = _; rw [hT2, if_neg hz, if_pos hlt]
    obtain ⟨gn, hgne⟩ : ∃ gn, gn = g1 := ⟨_, rfl⟩
    rw [← hgne] at HT hlt hle1 HG1
    have hgn : gn < 4294967296 := by omega
    have hg0' : ((gn : Int) == 0) = false := by simp; omega
    clear hT2 hz hgne
    go_enter Try.func83, Try.ntmps83
    go_wp2_with fail
    refine (rgeneration_any _ n c D 0 (by omega) w hr).mono ?_
    rintro e w1 ⟨rfl, hk1⟩
    rw [← HG0.out]
    go_wp2_with fail
    refine (rgeneration_any _ n c D sz (by omega) w1 (hr.keepN hk1)).mono ?_
    rintro e w2 ⟨rfl, hk2⟩
    rw [← HG1.out]
    have hb0 : Below w.heap.size w w2 := (hk1.trans hk2).none_below
    clear hk1 hk2
    go_wp2_with fail
    obtain ⟨H, hHe⟩ : ∃ H, H = Wal.slc D sz sz := ⟨_, rfl⟩
    have hHl : Hid (H.length = sz) := by show _ = _; rw [hHe, Wal.slc_length (by omega)]
    have HHe := Lib.hid hHe
    rw [← hHe] at HT
    clear hHe
    go_loopw [8, 9] (fun v i wr => ∃ (p : Nat) (outl : List (List UInt8)) (us : List Value), 16 ≤ p ∧ p ≤ sz ∧ i = .int .i64 p ∧ OwnL wr w.heap.size v us outl ∧ outl.length ≤ p ∧ Below w.heap.size w wr ∧ T.1 = outl ++ (Wal.scan H gn sz p).1) (fun _ i _ => sz - (intOf i).toNat)
    case atStart => exact ⟨16, [], [], Nat.le_refl _, by omega, rfl, OwnL.nil _ _, Nat.zero_le _, hb0, by rw [HT.out]; rfl⟩
    case round =>
      obtain ⟨p, outl, us, hp, hps, rfl, hown, hol, hbel, hT⟩ := hrel
      have HT1 := Lib.hid hT
      have HT2 : Hid (T.2 = gn) := by show _ = _; rw [HT.out]
      have hsz0 := hbel.size
      clear hT
      by_cases h9 : p + 9 ≤ sz
      · obtain ⟨f, hf⟩ : ∃ f, f = Wal.slc D (sz + p) 9 := ⟨_, rfl⟩
        have hfH : f = Wal.slc H p 9 := by rw [hf, HHe.out, Wal.slc_slc (by omega)]
        have hfl : f.length = 9 := by rw [hf, Wal.slc_length (by omega)]
        obtain ⟨x8, hx8⟩ : ∃ x, f[8]? = some x := ⟨_, List.getElem?_eq_getElem (by omega)⟩
        have hD8 : D[sz + p + 8]? = some x8 := by rw [← hx8, hf, Wal.slc_get (by omega)]
        have HC := Lib.hid (next_case (gen := gn) (show p + 9 ≤ H.length by rw [hHl.out]; exact h9) hfH hx8)
        rw [hHl.out] at HC
        have e4 : f.take 4 = Wal.slc D (sz + p) 4 := by rw [hf]; simp [Wal.slc, List.take_take]
        have e44 : Wal.slc f 4 4 = Wal.slc D (sz + p + 4) 4 := by rw [hf, Wal.slc_slc (by omega)]
        obtain ⟨nn, hnn⟩ : ∃ nn, nn = Crc.get (f.take 4) := ⟨_, rfl⟩
        have hxx : nn ≤ sz → p + 9 + nn ≤ sz → Wal.slc H (p + 9) nn = Wal.slc D (sz + p + 9) nn := fun _ h2 => by rw [HHe.out, Wal.slc_slc (by omega)]; simp [Nat.add_assoc]
        rw [← hnn, e44] at HC
        have Hnn : Hid (Crc.get (Wal.slc D (sz + p) 4) = nn) := by show _ = _; rw [hnn, e4]
        have hn4 : nn < 4294967296 := by rw [hnn]; exact Crc.get_lt _ (by rw [List.length_take]; omega)
        obtain ⟨_, _, y8, q8, g8, e8⟩ := hr.get (k := sz + p + 8) (by omega)
        cases q8
        rw [hD8] at g8
        cases g8
        have e8w : wr.cell? ⟨b, off + (sz + p + 8), none⟩ = some (bv x8) := (hbel.cell (World.block_lt_of_cell? w _ e8)).trans e8
        have f8 : ∀ q, (wr.drewN q).cell? ⟨b, off + (sz + p + 8), none⟩ = some (bv x8) := fun q => e8w
        have hrw := hr.below hbel
        clear hf hfH hx8 hD8 e4 e44 hnn e8 e8w hfl
        by_cases hbad : nn < 1 ∨ 65536 < nn ∨ sz < p + 9 + nn ∨ x8 ≠ 1
        · have HE : Hid (T.1 = outl) := by show _ = _; rw [HT1.out, scan_stop (by rw [HC.out, if_pos hbad]), List.append_nil]
          have hcases : nn < 1 ∨ (¬ nn < 1 ∧ 65536 < nn) ∨ (¬ nn < 1 ∧ ¬ 65536 < nn ∧ sz < p + 9 + nn) ∨ (¬ nn < 1 ∧ ¬ 65536 < nn ∧ ¬ sz < p + 9 + nn ∧ ((x8.toNat : Int) != 1) = true) := by
            by_cases q1 : nn < 1
            · exact .inl q1
            · by_cases q2 : 65536 < nn
              · exact .inr (.inl ⟨q1, q2⟩)
              · by_cases q3 : sz < p + 9 + nn
                · exact .inr (.inr (.inl ⟨q1, q2, q3⟩))
                · refine .inr (.inr (.inr ⟨q1, q2, q3, ?_⟩))
                  have q4 : x8 ≠ 1 := by
                    rcases hbad with h | h | h | h
                    · exact (q1 h).elim
                    · exact (q2 h).elim
                    · exact (q3 h).elim
                    · exact h
                  rw [bne_iff_ne]
                  intro hh
                  exact q4 (UInt8.toNat_inj.1 (by show x8.toNat = 1; omega))
          clear hbad HC HT1 HT
          rcases hcases with q1 | ⟨q1, q2⟩ | ⟨q1, q2, q3⟩ | ⟨q1, q2, q3, q4⟩
          all_goals
            go_wp2_with fail
            refine (rnumber_any _ n c D (sz + p) (by omega) wr hrw).mono ?_
            rintro e w1 ⟨rfl, q, rfl⟩
            rw [Hnn.out]
            go_wp2_with fail
            go_ret2
            refine ⟨u8, us, by rw [HT2.out]; rfl, ?_, Keeps.of_below (hbel.trans (((Keeps.refl Non wr).drewN q).none_below.mono hsz0))⟩
            rw [HE.out]
            exact hown.keep ((Keeps.refl Non wr).drewN q) fun _ _ h => h
        · have q1 : ¬ nn < 1 := fun h => hbad (.inl h)
          have q2 : ¬ 65536 < nn := fun h => hbad (.inr (.inl h))
          have q3 : ¬ sz < p + 9 + nn := fun h => hbad (.inr (.inr (.inl h)))
          have q4 : x8 = 1 := Decidable.not_not.1 fun h => hbad (.inr (.inr (.inr h)))
          subst q4
          obtain ⟨x, hx⟩ : ∃ x, x = Wal.slc D (sz + p + 9) nn := ⟨_, rfl⟩
          have HC2 : Hid (Wal.next H gn p = if Crc.four (Wal.sumOf gn p x) = Wal.slc D (sz + p + 4) 4 then some x else none) := by
            show _ = _
            rw [HC.out, if_neg hbad, hxx (by omega) (by omega), hx]
          have hxl : x.length = nn := by rw [hx, Wal.slc_length (by omega)]
          have HX := Lib.hid hx
          have HXl := Lib.hid hxl
          obtain ⟨u, hu⟩ : ∃ u, u = Crc.get (Wal.slc D (sz + p + 4) 4) := ⟨_, rfl⟩
          have hl4 : (Wal.slc D (sz + p + 4) 4).length = 4 := Wal.slc_length (by omega)
          have hslt := Wal.sumOf_lt gn p x
          have HC3 : Hid (Wal.next H gn p = if Wal.sumOf gn p x = u then some x else none) := by
            show _ = _
            rw [HC2.out]
            by_cases hE : Wal.sumOf gn p x = u
            · rw [if_pos hE, if_pos]
              rw [hE, hu, Crc.four_get _ hl4]
            · rw [if_neg hE, if_neg]
              intro hh
              apply hE
              rw [hu, ← hh, Crc.get_four hslt]
          have HU := Lib.hid hu
          have hS : Hid (([Crc.four gn, Crc.four p, Crc.four nn, x] : List (List UInt8)).flatten = Crc.four gn ++ Crc.four p ++ Crc.four x.length ++ x) := by show _ = _; rw [hxl]; simp
          have HSum : Hid (Crc.sum (Crc.four gn ++ Crc.four p ++ Crc.four x.length ++ x) = Wal.sumOf gn p x) := rfl
          have HSl : Hid ((Crc.four gn ++ Crc.four p ++ Crc.four x.length ++ x).length ≤ 140737488355328) := by
            show _ ≤ _
            simp only [List.length_append, Crc.four_length, hxl]; omega
          have hrx : RdB wr (some ⟨b, off + (sz + p + 9), none⟩) nn x := by rw [HX.out]; exact hrw.sub (by omega)
          clear hbad HC HC2 hx hxl hu hl4
          obtain ⟨sm, hsm⟩ : ∃ sm, sm = Wal.sumOf gn p x := ⟨_, rfl⟩
          rw [← hsm] at HC3 HSum hslt
          have HSm := Lib.hid hsm
          have hcne : ¬ c = sz + p + 9 := by omega
          clear hsm
          go_wp2_with fail
          refine (rnumber_any _ n c D (sz + p) (by omega) wr hrw).mono ?_
          rintro e w1 ⟨rfl, q, hq⟩
          have hk1 : Keeps Non wr w1 := by rw [← hq]; exact (Keeps.refl _ _).drewN q
          have f81 : w1.cell? ⟨b, off + (sz + p + 8), none⟩ = some (bv 1) := by rw [← hq]; exact f8 q
          rw [Hnn.out]
          clear hq
          go_wp2_with fail
          refine (rfour_any gn hgn w1).mono ?_
          rintro e w2 ⟨rfl, h2, hk2⟩
          go_wp2_with fail
          refine (rfour_any p (by omega) w2).mono ?_
          rintro e w3 ⟨rfl, h3, hk3⟩
          go_wp2_with fail
          refine (rfour_any nn hn4 w3).mono ?_
          rintro e w4 ⟨rfl, h4, hk4⟩
          have r2 := ((rd_four h2).keepN hk3).keepN hk4
          have r3 := (rd_four h3).keepN hk4
          have r4 := rd_four h4
          have hk14 := (hk1.trans hk2).trans (hk3.trans hk4)
          have rx := hrx.keepN hk14
          clear h2 h3 h4 hk1 hk2 hk3 hk4
          go_wp2_with fail
          have hk5 : Keeps Non w4 (w4.alloc (.cells #[.slice (some ⟨w1.heap.size, 0, none⟩) 4 4, .slice (some ⟨w2.heap.size, 0, none⟩) 4 4, .slice (some ⟨w3.heap.size, 0, none⟩) 4 4, .slice (some ⟨b, off + (sz + p + 9), none⟩) nn (c - (sz + p + 9))] 22)) := (Keeps.refl _ _).alloc _
          have HL := Lib.hid (RdL.four (heap_new w4 (.cells #[.slice (some ⟨w1.heap.size, 0, none⟩) 4 4, .slice (some ⟨w2.heap.size, 0, none⟩) 4 4, .slice (some ⟨w3.heap.size, 0, none⟩) 4 4, .slice (some ⟨b, off + (sz + p + 9), none⟩) nn (c - (sz + p + 9))] 22)) (r2.keepN hk5) (r3.keepN hk5) (r4.keepN hk5) (rx.keepN hk5))
          have hk15 := hk14.trans hk5
          clear r2 r3 r4 rx hk5 hk14
          refine (join_any _ 4 4 _ _ HL.out (by rw [hS.out]; exact HSl.out)).mono ?_
          rintro e w6 ⟨A6, n6, c6, rfl, r6, hk6, -, hnc6, hcm6⟩
          rw [hS.out] at r6
          have hk16 := hk15.trans hk6
          clear HL hk6 hk15
          go_wp2_with fail
          refine (rsum3_any A6 n6 c6 _ w6 r6).mono ?_
          rintro e w' ⟨rfl, rfl⟩
          rw [HSum.out]
          have hrw6 := hrw.keepN hk16
          have hrx6 := hrx.keepN hk16
          clear r6
          go_wp2_with fail
          refine (rnumber_any _ n c D (sz + p + 4) (by omega) w6 hrw6).mono ?_
          rintro e w7 ⟨rfl, qq, hqq⟩
          have hk7 : Keeps Non w6 w7 := by rw [← hqq]; exact (Keeps.refl _ _).drewN qq
          have hrx7 := hrx6.keepN hk7
          have hk17 := hk16.trans hk7
          rw [← HU.out]
          clear hqq hrw6 hrx6 hk16 hk7
          have hbel7 : Below w.heap.size w w7 := hbel.trans (hk17.none_below.mono hsz0)
          have hown7 := hown.keep hk17 fun _ _ h => h
          by_cases hE : sm = u
          · have HE : Hid (T.1 = (outl ++ [x]) ++ (Wal.scan H gn sz (p + (9 + nn))).1) := by
              have hsn := scan_next (by rw [HC3.out, if_pos hE] : Wal.next H gn p = some x) (f := sz) (by rw [hHl.out]; omega)
              show _ = _
              rw [HT1.out, hsn, HXl.out, Nat.add_assoc]; simp
            subst hE
            clear HC3 HT1 hown hbel hrx
            have hsz7 := hbel7.size
            have hown8 := own_empty w7 w7.heap.size 5 (Nat.le_refl _)
            have hk8 : Keeps Non w7 (w7.alloc (.cells #[] 5)) := (Keeps.refl _ _).alloc _
            have hsrc8 := src_bytes (P := Try.prog) Try.underlying22 (hrx7.keepN hk8) (c - (sz + p + 9))
            obtain ⟨i0, hi0, hz0, hs0, hb00⟩ := info_sl'
            have hnn48 : nn ≤ 65536 := by omega
            go_wp2_with (at_builtin; first
              | (refine wpList_append_lies _ rfl _ _ _ rfl w.heap.size 22 i0 (.slice none 0 0) 1 24 Try.underlying28 hi0 hz0 hs0 hb00 rfl (by omega) u8 outl.length us rfl hownA ⟨w9.heap.size, 0, none⟩ 1 1 [.slice Ax nn cx] rfl rfl (World.news_of_block (heap_new _ _)) (fun z hz => by simp at hz; subst hz; rfl) (by omega) (by unfold maxLen; omega) (by omega) hszA (w9.heap.size + 1) (by simp) ?_; intro gg cap w11 hown11 hgrow11 hor11 hlt11)
              | (refine wpList_append_src _ rfl _ _ 22 22 rfl w7.heap.size 5 (.int .u8 0) 1 1 Try.underlying22 info_u8 rfl (by decide) (.slice (some ⟨w7.heap.size, 0, none⟩) 0 0) _ _ rfl hown8 _ _ _ rfl hsrc8 (by unfold maxLen; omega) (by omega) (by simp) ?_; intro v9 w9 hown9 hgrow9 hat9; simp only [Nat.zero_add, List.nil_append] at hown9; obtain ⟨Ax, cx, rfl, hrd9, -, -, -⟩ := own_rdB hown9 (by omega); have hb9 : Below w7.heap.size w7 w9 := ((Below.refl _ _).alloc (Nat.le_refl _) _).grown hgrow9 (by simp) (fun j hj => by simp [Value.ownBlock] at hj; omega); have hk9 : Keeps Non w7 w9 := Keeps.of_below hb9; have hownL9 := hown7.keep hk9 (fun _ _ h => h); have hkA : Keeps Non w9 (w9.alloc (.cells #[.slice Ax nn cx] 22)) := (Keeps.refl _ _).alloc _; have hownLA := hownL9.keep hkA (fun _ _ h => h); have huA := own_kept (own_base hown9 hsz7) hkA (fun _ _ h => h); have hownA := hownLA.row; have hbelA : Below w.heap.size w (w9.alloc (.cells #[.slice Ax nn cx] 22)) := hbel7.trans ((hk9.trans hkA).none_below.mono hsz7); have hszA := hbelA.size))
            have huA' : (w9.alloc (.cells #[.slice Ax nn cx] 22)).ownsRow w.heap.size 5 1 (.slice Ax nn cx) x.length (x.map bv) := by rw [HXl.out]; exact huA
            have hL11 := hownLA.push huA' hgrow11 hown11
            have hbel11 := own_below hownA hbelA hgrow11 hszA
            have HL11 := Lib.hid hL11
            clear hL11 hown11 hgrow11 hor11 hownLA huA huA' hownA hownL9 hown9 hown8 hsrc8 hown7 hrx7 hrd9 hk8 hk9 hkA hgrow9 hat9 hb9 hbelA
            go_wp2
            go_roundw
            case rel => exact ⟨p + (9 + nn), outl ++ [x], _, by omega, by omega, by go_num, HL11.out, by simp; omega, hbel11, HE.out⟩
            case measure => simp [intOf]; omega
          · have HE : Hid (T.1 = outl) := by show _ = _; rw [HT1.out, scan_stop (by rw [HC3.out, if_neg hE]), List.append_nil]
            have hne : ((sm : Int) != (u : Int)) = true := by rw [bne_iff_ne]; omega
            have HO7 := Lib.hid hown7
            clear HC3 HT1 hE hown hown7
            go_wp2_with fail
            go_ret2
            refine ⟨u8, us, by rw [HT2.out]; rfl, ?_, Keeps.of_below hbel7⟩
            rw [HE.out]
            exact HO7.out
      · have HE : Hid (T.1 = outl) := by show _ = _; rw [HT1.out, scan_stop (by unfold Wal.next; rw [if_pos (by rw [hHl.out]; omega)]), List.append_nil]
        clear HT1 HT
        have HO := Lib.hid hown
        clear hown
        go_wp2_with fail
        go_ret2
        refine ⟨u8, us, by rw [HT2.out]; rfl, ?_, Keeps.of_below hbel⟩
        rw [HE.out]
        exact HO.out
  · have HT : Hid (T = ((Wal.scan (Wal.slc D 0 sz) g0 sz 16).1, g0)) := by show _ = _; rw [hT2, if_neg hz, if_neg hlt]
    have hg00 : ¬ g0 = 0 := fun h => hz ⟨h, by omega⟩
    obtain ⟨gn, hgne⟩ : ∃ gn, gn = g0 := ⟨_, rfl⟩
    rw [← hgne] at HT hlt hle0 HG0 hg00
    have hgn : gn < 4294967296 := by omega
    have hg0' : ((gn : Int) == 0) = false := by simp; omega
    clear hT2 hz hgne
    go_enter Try.func83, Try.ntmps83
    go_wp2_with fail
    refine (rgeneration_any _ n c D 0 (by omega) w hr).mono ?_
    rintro e w1 ⟨rfl, hk1⟩
    rw [← HG0.out]
    go_wp2_with fail
    refine (rgeneration_any _ n c D sz (by omega) w1 (hr.keepN hk1)).mono ?_
    rintro e w2 ⟨rfl, hk2⟩
    rw [← HG1.out]
    have hb0 : Below w.heap.size w w2 := (hk1.trans hk2).none_below
    clear hk1 hk2
    go_wp2_with fail
    obtain ⟨H, hHe⟩ : ∃ H, H = Wal.slc D 0 sz := ⟨_, rfl⟩
    have hHl : Hid (H.length = sz) := by show _ = _; rw [hHe, Wal.slc_length (by omega)]
    have HHe := Lib.hid hHe
    rw [← hHe] at HT
    clear hHe
    go_loopw [8, 9] (fun v i wr => ∃ (p : Nat) (outl : List (List UInt8)) (us : List Value), 16 ≤ p ∧ p ≤ sz ∧ i = .int .i64 p ∧ OwnL wr w.heap.size v us outl ∧ outl.length ≤ p ∧ Below w.heap.size w wr ∧ T.1 = outl ++ (Wal.scan H gn sz p).1) (fun _ i _ => sz - (intOf i).toNat)
    case atStart => exact ⟨16, [], [], Nat.le_refl _, by omega, rfl, OwnL.nil _ _, Nat.zero_le _, hb0, by rw [HT.out]; rfl⟩
    case round =>
      obtain ⟨p, outl, us, hp, hps, rfl, hown, hol, hbel, hT⟩ := hrel
      have HT1 := Lib.hid hT
      have HT2 : Hid (T.2 = gn) := by show _ = _; rw [HT.out]
      have hsz0 := hbel.size
      clear hT
      by_cases h9 : p + 9 ≤ sz
      · obtain ⟨f, hf⟩ : ∃ f, f = Wal.slc D (p) 9 := ⟨_, rfl⟩
        have hfH : f = Wal.slc H p 9 := by rw [hf, HHe.out, Wal.slc_slc (by omega)]; simp
        have hfl : f.length = 9 := by rw [hf, Wal.slc_length (by omega)]
        obtain ⟨x8, hx8⟩ : ∃ x, f[8]? = some x := ⟨_, List.getElem?_eq_getElem (by omega)⟩
        have hD8 : D[p + 8]? = some x8 := by rw [← hx8, hf, Wal.slc_get (by omega)]
        have HC := Lib.hid (next_case (gen := gn) (show p + 9 ≤ H.length by rw [hHl.out]; exact h9) hfH hx8)
        rw [hHl.out] at HC
        have e4 : f.take 4 = Wal.slc D (p) 4 := by rw [hf]; simp [Wal.slc, List.take_take]
        have e44 : Wal.slc f 4 4 = Wal.slc D (p + 4) 4 := by rw [hf, Wal.slc_slc (by omega)]
        obtain ⟨nn, hnn⟩ : ∃ nn, nn = Crc.get (f.take 4) := ⟨_, rfl⟩
        have hxx : nn ≤ sz → p + 9 + nn ≤ sz → Wal.slc H (p + 9) nn = Wal.slc D (p + 9) nn := fun _ h2 => by rw [HHe.out, Wal.slc_slc (by omega)]; simp
        rw [← hnn, e44] at HC
        have Hnn : Hid (Crc.get (Wal.slc D (p) 4) = nn) := by show _ = _; rw [hnn, e4]
        have hn4 : nn < 4294967296 := by rw [hnn]; exact Crc.get_lt _ (by rw [List.length_take]; omega)
        obtain ⟨_, _, y8, q8, g8, e8⟩ := hr.get (k := p + 8) (by omega)
        cases q8
        rw [hD8] at g8
        cases g8
        have e8w : wr.cell? ⟨b, off + (p + 8), none⟩ = some (bv x8) := (hbel.cell (World.block_lt_of_cell? w _ e8)).trans e8
        have f8 : ∀ q, (wr.drewN q).cell? ⟨b, off + (p + 8), none⟩ = some (bv x8) := fun q => e8w
        have hrw := hr.below hbel
        clear hf hfH hx8 hD8 e4 e44 hnn e8 e8w hfl
        by_cases hbad : nn < 1 ∨ 65536 < nn ∨ sz < p + 9 + nn ∨ x8 ≠ 1
        · have HE : Hid (T.1 = outl) := by show _ = _; rw [HT1.out, scan_stop (by rw [HC.out, if_pos hbad]), List.append_nil]
          have hcases : nn < 1 ∨ (¬ nn < 1 ∧ 65536 < nn) ∨ (¬ nn < 1 ∧ ¬ 65536 < nn ∧ sz < p + 9 + nn) ∨ (¬ nn < 1 ∧ ¬ 65536 < nn ∧ ¬ sz < p + 9 + nn ∧ ((x8.toNat : Int) != 1) = true) := by
            by_cases q1 : nn < 1
            · exact .inl q1
            · by_cases q2 : 65536 < nn
              · exact .inr (.inl ⟨q1, q2⟩)
              · by_cases q3 : sz < p + 9 + nn
                · exact .inr (.inr (.inl ⟨q1, q2, q3⟩))
                · refine .inr (.inr (.inr ⟨q1, q2, q3, ?_⟩))
                  have q4 : x8 ≠ 1 := by
                    rcases hbad with h | h | h | h
                    · exact (q1 h).elim
                    · exact (q2 h).elim
                    · exact (q3 h).elim
                    · exact h
                  rw [bne_iff_ne]
                  intro hh
                  exact q4 (UInt8.toNat_inj.1 (by show x8.toNat = 1; omega))
          clear hbad HC HT1 HT
          rcases hcases with q1 | ⟨q1, q2⟩ | ⟨q1, q2, q3⟩ | ⟨q1, q2, q3, q4⟩
          all_goals
            go_wp2_with fail
            refine (rnumber_any _ n c D (p) (by omega) wr hrw).mono ?_
            rintro e w1 ⟨rfl, q, rfl⟩
            rw [Hnn.out]
            go_wp2_with fail
            go_ret2
            refine ⟨u8, us, by rw [HT2.out]; rfl, ?_, Keeps.of_below (hbel.trans (((Keeps.refl Non wr).drewN q).none_below.mono hsz0))⟩
            rw [HE.out]
            exact hown.keep ((Keeps.refl Non wr).drewN q) fun _ _ h => h
        · have q1 : ¬ nn < 1 := fun h => hbad (.inl h)
          have q2 : ¬ 65536 < nn := fun h => hbad (.inr (.inl h))
          have q3 : ¬ sz < p + 9 + nn := fun h => hbad (.inr (.inr (.inl h)))
          have q4 : x8 = 1 := Decidable.not_not.1 fun h => hbad (.inr (.inr (.inr h)))
          subst q4
          obtain ⟨x, hx⟩ : ∃ x, x = Wal.slc D (p + 9) nn := ⟨_, rfl⟩
          have HC2 : Hid (Wal.next H gn p = if Crc.four (Wal.sumOf gn p x) = Wal.slc D (p + 4) 4 then some x else none) := by
            show _ = _
            rw [HC.out, if_neg hbad, hxx (by omega) (by omega), hx]
          have hxl : x.length = nn := by rw [hx, Wal.slc_length (by omega)]
          have HX := Lib.hid hx
          have HXl := Lib.hid hxl
          obtain ⟨u, hu⟩ : ∃ u, u = Crc.get (Wal.slc D (p + 4) 4) := ⟨_, rfl⟩
          have hl4 : (Wal.slc D (p + 4) 4).length = 4 := Wal.slc_length (by omega)
          have hslt := Wal.sumOf_lt gn p x
          have HC3 : Hid (Wal.next H gn p = if Wal.sumOf gn p x = u then some x else none) := by
            show _ = _
            rw [HC2.out]
            by_cases hE : Wal.sumOf gn p x = u
            · rw [if_pos hE, if_pos]
              rw [hE, hu, Crc.four_get _ hl4]
            · rw [if_neg hE, if_neg]
              intro hh
              apply hE
              rw [hu, ← hh, Crc.get_four hslt]
          have HU := Lib.hid hu
          have hS : Hid (([Crc.four gn, Crc.four p, Crc.four nn, x] : List (List UInt8)).flatten = Crc.four gn ++ Crc.four p ++ Crc.four x.length ++ x) := by show _ = _; rw [hxl]; simp
          have HSum : Hid (Crc.sum (Crc.four gn ++ Crc.four p ++ Crc.four x.length ++ x) = Wal.sumOf gn p x) := rfl
          have HSl : Hid ((Crc.four gn ++ Crc.four p ++ Crc.four x.length ++ x).length ≤ 140737488355328) := by
            show _ ≤ _
            simp only [List.length_append, Crc.four_length, hxl]; omega
          have hrx : RdB wr (some ⟨b, off + (p + 9), none⟩) nn x := by rw [HX.out]; exact hrw.sub (by omega)
          clear hbad HC HC2 hx hxl hu hl4
          obtain ⟨sm, hsm⟩ : ∃ sm, sm = Wal.sumOf gn p x := ⟨_, rfl⟩
          rw [← hsm] at HC3 HSum hslt
          have HSm := Lib.hid hsm
          have hcne : ¬ c = p + 9 := by omega
          clear hsm
          go_wp2_with fail
          refine (rnumber_any _ n c D (p) (by omega) wr hrw).mono ?_
          rintro e w1 ⟨rfl, q, hq⟩
          have hk1 : Keeps Non wr w1 := by rw [← hq]; exact (Keeps.refl _ _).drewN q
          have f81 : w1.cell? ⟨b, off + (p + 8), none⟩ = some (bv 1) := by rw [← hq]; exact f8 q
          rw [Hnn.out]
          clear hq
          go_wp2_with fail
          refine (rfour_any gn hgn w1).mono ?_
          rintro e w2 ⟨rfl, h2, hk2⟩
          go_wp2_with fail
          refine (rfour_any p (by omega) w2).mono ?_
          rintro e w3 ⟨rfl, h3, hk3⟩
          go_wp2_with fail
          refine (rfour_any nn hn4 w3).mono ?_
          rintro e w4 ⟨rfl, h4, hk4⟩
          have r2 := ((rd_four h2).keepN hk3).keepN hk4
          have r3 := (rd_four h3).keepN hk4
          have r4 := rd_four h4
          have hk14 := (hk1.trans hk2).trans (hk3.trans hk4)
          have rx := hrx.keepN hk14
          clear h2 h3 h4 hk1 hk2 hk3 hk4
          go_wp2_with fail
          have hk5 : Keeps Non w4 (w4.alloc (.cells #[.slice (some ⟨w1.heap.size, 0, none⟩) 4 4, .slice (some ⟨w2.heap.size, 0, none⟩) 4 4, .slice (some ⟨w3.heap.size, 0, none⟩) 4 4, .slice (some ⟨b, off + (p + 9), none⟩) nn (c - (p + 9))] 22)) := (Keeps.refl _ _).alloc _
          have HL := Lib.hid (RdL.four (heap_new w4 (.cells #[.slice (some ⟨w1.heap.size, 0, none⟩) 4 4, .slice (some ⟨w2.heap.size, 0, none⟩) 4 4, .slice (some ⟨w3.heap.size, 0, none⟩) 4 4, .slice (some ⟨b, off + (p + 9), none⟩) nn (c - (p + 9))] 22)) (r2.keepN hk5) (r3.keepN hk5) (r4.keepN hk5) (rx.keepN hk5))
          have hk15 := hk14.trans hk5
          clear r2 r3 r4 rx hk5 hk14
          refine (join_any _ 4 4 _ _ HL.out (by rw [hS.out]; exact HSl.out)).mono ?_
          rintro e w6 ⟨A6, n6, c6, rfl, r6, hk6, -, hnc6, hcm6⟩
          rw [hS.out] at r6
          have hk16 := hk15.trans hk6
          clear HL hk6 hk15
          go_wp2_with fail
          refine (rsum3_any A6 n6 c6 _ w6 r6).mono ?_
          rintro e w' ⟨rfl, rfl⟩
          rw [HSum.out]
          have hrw6 := hrw.keepN hk16
          have hrx6 := hrx.keepN hk16
          clear r6
          go_wp2_with fail
          refine (rnumber_any _ n c D (p + 4) (by omega) w6 hrw6).mono ?_
          rintro e w7 ⟨rfl, qq, hqq⟩
          have hk7 : Keeps Non w6 w7 := by rw [← hqq]; exact (Keeps.refl _ _).drewN qq
          have hrx7 := hrx6.keepN hk7
          have hk17 := hk16.trans hk7
          rw [← HU.out]
          clear hqq hrw6 hrx6 hk16 hk7
          have hbel7 : Below w.heap.size w w7 := hbel.trans (hk17.none_below.mono hsz0)
          have hown7 := hown.keep hk17 fun _ _ h => h
          by_cases hE : sm = u
          · have HE : Hid (T.1 = (outl ++ [x]) ++ (Wal.scan H gn sz (p + (9 + nn))).1) := by
              have hsn := scan_next (by rw [HC3.out, if_pos hE] : Wal.next H gn p = some x) (f := sz) (by rw [hHl.out]; omega)
              show _ = _
              rw [HT1.out, hsn, HXl.out, Nat.add_assoc]; simp
            subst hE
            clear HC3 HT1 hown hbel hrx
            have hsz7 := hbel7.size
            have hown8 := own_empty w7 w7.heap.size 5 (Nat.le_refl _)
            have hk8 : Keeps Non w7 (w7.alloc (.cells #[] 5)) := (Keeps.refl _ _).alloc _
            have hsrc8 := src_bytes (P := Try.prog) Try.underlying22 (hrx7.keepN hk8) (c - (p + 9))
            obtain ⟨i0, hi0, hz0, hs0, hb00⟩ := info_sl'
            have hnn48 : nn ≤ 65536 := by omega
            go_wp2_with (at_builtin; first
              | (refine wpList_append_lies _ rfl _ _ _ rfl w.heap.size 22 i0 (.slice none 0 0) 1 24 Try.underlying28 hi0 hz0 hs0 hb00 rfl (by omega) u8 outl.length us rfl hownA ⟨w9.heap.size, 0, none⟩ 1 1 [.slice Ax nn cx] rfl rfl (World.news_of_block (heap_new _ _)) (fun z hz => by simp at hz; subst hz; rfl) (by omega) (by unfold maxLen; omega) (by omega) hszA (w9.heap.size + 1) (by simp) ?_; intro gg cap w11 hown11 hgrow11 hor11 hlt11)
              | (refine wpList_append_src _ rfl _ _ 22 22 rfl w7.heap.size 5 (.int .u8 0) 1 1 Try.underlying22 info_u8 rfl (by decide) (.slice (some ⟨w7.heap.size, 0, none⟩) 0 0) _ _ rfl hown8 _ _ _ rfl hsrc8 (by unfold maxLen; omega) (by omega) (by simp) ?_; intro v9 w9 hown9 hgrow9 hat9; simp only [Nat.zero_add, List.nil_append] at hown9; obtain ⟨Ax, cx, rfl, hrd9, -, -, -⟩ := own_rdB hown9 (by omega); have hb9 : Below w7.heap.size w7 w9 := ((Below.refl _ _).alloc (Nat.le_refl _) _).grown hgrow9 (by simp) (fun j hj => by simp [Value.ownBlock] at hj; omega); have hk9 : Keeps Non w7 w9 := Keeps.of_below hb9; have hownL9 := hown7.keep hk9 (fun _ _ h => h); have hkA : Keeps Non w9 (w9.alloc (.cells #[.slice Ax nn cx] 22)) := (Keeps.refl _ _).alloc _; have hownLA := hownL9.keep hkA (fun _ _ h => h); have huA := own_kept (own_base hown9 hsz7) hkA (fun _ _ h => h); have hownA := hownLA.row; have hbelA : Below w.heap.size w (w9.alloc (.cells #[.slice Ax nn cx] 22)) := hbel7.trans ((hk9.trans hkA).none_below.mono hsz7); have hszA := hbelA.size))
            have huA' : (w9.alloc (.cells #[.slice Ax nn cx] 22)).ownsRow w.heap.size 5 1 (.slice Ax nn cx) x.length (x.map bv) := by rw [HXl.out]; exact huA
            have hL11 := hownLA.push huA' hgrow11 hown11
            have hbel11 := own_below hownA hbelA hgrow11 hszA
            have HL11 := Lib.hid hL11
            clear hL11 hown11 hgrow11 hor11 hownLA huA huA' hownA hownL9 hown9 hown8 hsrc8 hown7 hrx7 hrd9 hk8 hk9 hkA hgrow9 hat9 hb9 hbelA
            go_wp2
            go_roundw
            case rel => exact ⟨p + (9 + nn), outl ++ [x], _, by omega, by omega, by go_num, HL11.out, by simp; omega, hbel11, HE.out⟩
            case measure => simp [intOf]; omega
          · have HE : Hid (T.1 = outl) := by show _ = _; rw [HT1.out, scan_stop (by rw [HC3.out, if_neg hE]), List.append_nil]
            have hne : ((sm : Int) != (u : Int)) = true := by rw [bne_iff_ne]; omega
            have HO7 := Lib.hid hown7
            clear HC3 HT1 hE hown hown7
            go_wp2_with fail
            go_ret2
            refine ⟨u8, us, by rw [HT2.out]; rfl, ?_, Keeps.of_below hbel7⟩
            rw [HE.out]
            exact HO7.out
      · have HE : Hid (T.1 = outl) := by show _ = _; rw [HT1.out, scan_stop (by unfold Wal.next; rw [if_pos (by rw [hHl.out]; omega)]), List.append_nil]
        clear HT1 HT
        have HO := Lib.hid hown
        clear hown
        go_wp2_with fail
        go_ret2
        refine ⟨u8, us, by rw [HT2.out]; rfl, ?_, Keeps.of_below hbel⟩
        rw [HE.out]
        exact HO.out
end Go.Proofs.Ytbmamhcjbhnkiaa
