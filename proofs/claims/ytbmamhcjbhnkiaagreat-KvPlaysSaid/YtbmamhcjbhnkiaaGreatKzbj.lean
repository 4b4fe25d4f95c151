/- The walk of the law KvPlays. -/
import Derived.Test.YtbmamhcjbhnkiaaGreatKll
import Derived.Test.YtbmamhcjbhnkiaaGreatKzbg
namespace Go.Proofs.YtbmamhcjbhnkiaaGreat
open Go.RowKit Go.Maps
open Kv (Bs Tab)

set_option maxHeartbeats 16000000 in
set_option maxRecDepth 100000 in
theorem kvPlays_walk (a0 : Int) (a1 : Option Addr) (len1 cap1 : Nat) (Y : List O9) (w : World) (w0 : (Lit.int .i64 a0).wf = true) (w1 : IsOps9 w a1 len1 cap1 Y) :
    Calls Tryz.prog 3 #[.int .i64 a0, .slice a1 len1 cap1] w fun e w' => e = .returned (.bool true) ∧ Below w.heap.size w w' := by
  have hw0 : -9223372036854775808 ≤ a0 ∧ a0 ≤ 9223372036854775807 := by simpa [Lit.wf, IntKind.min, IntKind.max, IntKind.bits, IntKind.signed] using w0
  have hle1 := w1.le
  have hcm1 := w1.cm
  clear w0
  by_cases hout : a0 < 1024 ∨ 4000 < a0
  · have hcases : a0 < 1024 ∨ (¬ a0 < 1024 ∧ 4000 < a0) := by omega
    clear hout
    rcases hcases with q1 | ⟨q1, q2⟩
    all_goals
      go_enter Tryz.func3, Tryz.ntmps3
      go_wp2_with fail
      refine (anchor9_any _).mono ?_
      rintro e w3 ⟨rfl, hk1⟩
      go_wp2_with fail
      go_ret
      exact ⟨rfl, hk1.none_below⟩
  · obtain ⟨sz, rfl⟩ := Int.eq_ofNat_of_zero_le (show 0 ≤ a0 by omega)
    have hn0 : ¬ (sz : Int) < 1024 := by omega
    have hn1 : ¬ 4000 < (sz : Int) := by omega
    obtain ⟨hz, hze⟩ : ∃ hz, hz = sz / 2 := ⟨_, rfl⟩
    have hq : (sz : Int) / 2 = (hz : Int) := by omega
    have hb1 : 2 * hz ≤ sz := by omega
    have hb2 : sz ≤ 2 * hz + 1 := by omega
    have hwz : IntKind.i64.wrap (hz : Int) = (hz : Int) := by rw [IntKind.wrap_i64]; omega
    have HZ := Lib.hid hze
    clear hout hze
    go_enter Tryz.func3, Tryz.ntmps3
    go_wp2_with fail
    refine (anchor9_any _).mono ?_
    rintro e w3 ⟨rfl, hk1⟩
    have Hm := Lib.hid (mild_any a1 len1 cap1 Y w3 (by omega) (w1.rd.keepN hk1))
    go_wp2_with fail
    refine Hm.out.mono ?_
    rintro e w4 ⟨ok, rfl, hmild, hk2⟩
    have hk4 := hk1.trans hk2
    clear Hm hk1 hk2
    cases ok with
    | false =>
      clear hmild
      go_wp2_with fail
      go_ret
      exact ⟨rfl, hk4.none_below⟩
    | true =>
      have HM := Lib.hid (hmild rfl).1
      have hY40 : len1 ≤ 40 := by rw [← w1.rd.len]; exact (hmild rfl).2
      clear hmild
      go_wp2_with fail
      refine (new_ex sz (by omega) (by omega) w4).mono ?_
      rintro e w5 ⟨p, g, rfl, hD, hp, hg, hk5⟩
      have hk05 := hk4.trans hk5
      have hs4 := hk4.size
      clear hk4
      go_wp2_with fail
      refine (kopen_fresh p g sz (by omega) (by omega) w5 hD).mono ?_
      rintro e w6 ⟨d, F, s, b, m, rfl, hL, ⟨hlit, hdl⟩, hS, hF, hs, hm, hk6⟩
      have hs5 := hk5.size
      have hP : P9 w w6 p g sz F s b m 0 d L0 [] [] none 0 none 0 := ⟨hS, hk05.into hk6 fun k h1 h2 => by show False; omega, fun k q => by
        rcases q with q | q | q | q
        · omega
        · omega
        · have := hF k q; omega
        · omega, hdl, RdR.nil _ _ _, RdR.nil _ _ _, fun q hq => by simp at hq, Nat.zero_le _⟩
      have hSt : St9 d L0 [] [] false 0 := .inl ⟨rfl, hL, Kv.Says.nil, Nat.le_refl _⟩
      clear hk05 hk5 hk6 hD hL hS hF hs hm hlit hdl
      go_wp2_with fail
      go_loopw [7, 9, 10, 11, 50] (fun vs vw vm vc i wr => ∃ (j : Nat) (F : Nat → Prop) (s b m age : Nat) (d : Dk) (L : Wal.Lg) (W M : Tab) (A9 : Option Addr) (n9 c9 : Nat) (A10 : Option Addr) (n10 c10 : Nat) (cut : Bool), j ≤ len1 ∧ vs = .pointer (some ⟨s, 0, none⟩) ∧ vw = .slice A9 n9 c9 ∧ vm = .slice A10 n10 c10 ∧ vc = .bool cut ∧ i = .int .i64 j ∧ P9 w wr p g sz F s b m age d L W M A9 n9 A10 n10 ∧ age ≤ j ∧ St9 d L W M cut j) (fun _ _ _ _ i _ => len1 - (intOf i).toNat)
      case atStart => exact ⟨0, F, s, b, m, 0, d, L0, [], [], none, 0, 0, none, 0, 0, false, Nat.zero_le _, rfl, rfl, rfl, rfl, rfl, hP, Nat.le_refl _, hSt⟩
      case round =>
        clear hP hSt
        obtain ⟨j, F, s, b, m, age, d, L, W, M, A9, n9, c9, A10, n10, c10, cut, hj, rfl, rfl, rfl, rfl, rfl, hP, hag, hS⟩ := hrel
        by_cases hlt : j < len1
        · obtain ⟨b0, off0, ⟨kk, tt, nn, oA, om, oc, oQ⟩, rfl, ho, q0, q1, q2, q3⟩ := (w1.rd.keepN hP.k).at_ hlt
          simp only [] at q0 q1 q2 q3
          have hst := w1.rd.el _ (List.mem_of_getElem? ho)
          have hM8 := HM.out _ (List.mem_of_getElem? ho)
          have hwf := w1.wf _ (List.mem_of_getElem? ho)
          simp only [] at hst hM8 hwf
          obtain ⟨-, wt, wn⟩ := hwf
          have hwt : -9223372036854775808 ≤ tt ∧ tt ≤ 9223372036854775807 := by simpa [Lit.wf, IntKind.min, IntKind.max, IntKind.bits, IntKind.signed] using wt
          have hwn : -9223372036854775808 ≤ nn ∧ nn ≤ 9223372036854775807 := by simpa [Lit.wf, IntKind.min, IntKind.max, IntKind.bits, IntKind.signed] using wn
          have hn9 := hP.rw_.len
          subst hn9
          obtain ⟨w5, hw5⟩ : ∃ w5, w5 = wr.alloc (.cells #[.int .i64 kk, .int .i64 tt, .int .i64 nn, .slice oA om oc] 35) := ⟨_, rfl⟩
          have hk5 : Keeps Non wr w5 := by rw [hw5]; exact (Keeps.refl _ _).alloc _
          obtain ⟨B, hB⟩ : ∃ B, B = wr.heap.size := ⟨_, rfl⟩
          have hb5 : w5.heap[B]? = some (.cells #[.int .i64 kk, .int .i64 tt, .int .i64 nn, .slice oA om oc] 35 (0, 0)) := by rw [hw5, hB]; exact heap_new _ _
          have u0 : w5.cell? ⟨B, 0, none⟩ = some (.int .i64 kk) := by simp [World.cell?, hb5]
          have u1 : w5.cell? ⟨B, 1, none⟩ = some (.int .i64 tt) := by simp [World.cell?, hb5]
          have u2 : w5.cell? ⟨B, 2, none⟩ = some (.int .i64 nn) := by simp [World.cell?, hb5]
          have u3 : w5.cell? ⟨B, 3, none⟩ = some (.slice oA om oc) := by simp [World.cell?, hb5]
          have hP5 := hP.keepN hk5
          have hst5 := hst.keepN hP5.k
          have hw5s : w.heap.size ≤ w5.heap.size := hP5.k.size
          have H5 := Lib.hid hw5
          have HB := Lib.hid hB
          clear hw5 hB hb5 hk5 hP wt wn ho hst
          have HBl : Hid (wr.heap.size = B) := HB.out.symm
          by_cases k1 : kk = 1
          · subst k1
            cases cut with
            | false =>
              have hBw : B < w5.heap.size := World.block_lt_of_cell? _ _ u0
              have Hb := Lib.hid (begin_any (Zs p g F s) s b m age W w5 hP5.sv.st hP5.sv.tab hP5.sv.lt)
              go_wp2_with fail
              rw [← H5.out, ← HB.out]
              go_wp2_with fail
              refine Hb.out.mono ?_
              rintro e w6 ⟨c, mc, rfl, hc6, h1, h2, hk6⟩
              have t0 := hk6.cell u0 id
              have t3 := hk6.cell u3 id
              have hw6 := hk6.size
              have hZl : ∀ k, Zs p g F s k → k < w5.heap.size := hP5.sv.lt
              have hr6 : RdR (fun k => Zs p g F s k ∨ Cb c mc (.slice none 0 0) k) w6 A9 W.length W := (hP5.rw_.grow (Z' := fun k => Zs p g F s k ∨ Cb c mc (.slice none 0 0) k) fun k q => by
                rcases q with q | q | q | q
                · exact .inl q
                · exact .inr (by omega)
                · exact .inr (by omega)
                · exact (noown _ q).elim).keepN hk6
              have hq6 : RdQ (Cb c mc (.slice none 0 0)) w6 oA om oQ := (hst5.rdQ (Z := Cb c mc (.slice none 0 0)) fun k hk q => by
                rcases q with q | q | q
                · omega
                · omega
                · exact noown _ q).keep hk6 fun _ q => q.elim
              have hWl : W.length ≤ 500 := by have := len_tsize W; have := hP5.ts; omega
              have Hch := Lib.hid (changed_any (Zs p g F s) (Zs p g F s) c s mc age (.slice none 0 0) [] W A9 W.length c9 oA om oc oQ w6 (fun k q => by have := hZl k q; omega) (fun k q => by have := hZl k q; omega) hc6 hr6 hq6 hM8 (by have := hM8.1; simp; omega) (by have := hM8.1; omega) hP5.ok)
              have hE6 := Ses.began hP5.sv hP5.sv.tab.lt hc6 h1 h2 hk6
              have HE6 := Lib.hid hE6
              have HP5 := Lib.hid hP5
              have HK6 := Lib.hid hk6
              clear Hb hc6 hr6 hq6 hk6 hP5 hE6 hst5 u0 u1 u2 u3
              go_wp2_with fail
              refine Hch.out.mono ?_
              rintro e w7 ⟨v7, An, nx, cn, rfl, hc7, hr7, hk7, hv7⟩
              rw [List.nil_append] at hc7
              have hCb : ∀ k, Cb c mc (.slice none 0 0) k → w5.heap.size ≤ k := fun k q => by
                rcases q with q | q | q
                · omega
                · omega
                · exact (noown _ q).elim
              have hcZ : ∀ k, k < w5.heap.size → ¬ Cb c mc (.slice none 0 0) k := fun k hk q => by have := hCb k q; omega
              have r0 := hk7.cell t0 (hcZ B hBw)
              have hv7' : ∀ k, v7.ownBlock = some k → w5.heap.size ≤ k := fun k q => by
                rcases hv7 with e | ⟨g', e, e2⟩
                · rw [e] at q; exact (noown _ q).elim
                · rw [e] at q; injection q with q; omega
              have hE7 := HE6.out.move hk7 hCb hc7 hv7'
              have hk57 : Keeps Non w5 w7 := HK6.out.into hk7 fun k q1 q2 => by have := hCb k q2; show False; omega
              have hw7 := hk7.size
              clear Hch HE6 HK6 hk7 t0 t3 hCb hcZ hv7
              obtain ⟨hL, hsay, hgen⟩ : Wal.Live d L ∧ Kv.Says L.recs W ∧ L.gen ≤ j + 1 := by
                rcases hS with ⟨-, h3, h4, h5⟩ | ⟨h3, -⟩
                · exact ⟨h3, h4, h5⟩
                · cases h3
              obtain ⟨l, hl⟩ : ∃ l, l = oQ.map cook := ⟨_, rfl⟩
              have hokl : ∀ q ∈ l, q.ok := fun q hq => (cook_ok hM8 q (by rw [← hl]; exact hq)).1
              have hle : (Kv.encAll l).length ≤ 1792 := by rw [hl]; exact cook_enc9 hM8
              rw [← hl] at hc7 hr7 hE7
              obtain ⟨T, hT⟩ : ∃ T, T = Kv.doAll W l := ⟨_, rfl⟩
              rw [← hT] at hc7 hr7 hE7
              have hts : Kv.tsize T ≤ 3792 := by rw [hT]; have := Kv.tsize_doAll l W; have := HP5.out.ts; omega
              have hTl : T.length ≤ 1000 := by have := len_tsize T; omega
              have hTok : Kv.Ok T := by rw [hT]; exact HP5.out.ok.doAll hokl
              have hszd : Wal.hs d = hz := by unfold Wal.hs; rw [HP5.out.len, ← HZ.out]
              have Hc := Lib.hid (commit_play hE7 (by omega) hL hsay hT hokl (by omega) (by omega) (by omega) (by omega))
              have hnx := hr7.len
              subst hnx
              have hlc := hE7.lc
              have hZl7 : ∀ k, Zs p g F s k → k < w7.heap.size := hE7.sv.lt
              have Hr7 := Lib.hid hr7
              have Hk57 := Lib.hid hk57
              have HTok := Lib.hid hTok
              clear hE7 hc7 hr7 hk57 hv7' hl hT hokl hle hL hsay
              go_wp2_with fail
              refine Hc.out.mono ?_
              rintro e w8 ⟨d8, hd8, hk8, hcase⟩
              have hk58 : Keeps (Zs p g F s) w5 w8 := (Hk57.out.mono (T := Zs p g F s) fun _ _ q => q.elim).into hk8 fun k q1 q2 => by
                rcases q2 with q | q
                · omega
                · exact q
              have hr8 : ∀ Z' : Nat → Prop, (∀ k, Z' k → Zs p g F s k ∨ w7.heap.size ≤ k) → RdR Z' w8 An T.length T := fun Z' hz' => Hr7.out.over (hk8.mono fun k _ q => by
                rcases q with q | q
                · exact .inr (.inl q)
                · exact .inl q) fun k q => by
                rcases hz' k q with r | r
                · exact .inl (.inl r)
                · exact .inr r
              have Hr8 := Lib.hid hr8
              have HC := Lib.hid hcase
              clear Hc Hr7 Hk57 hk8 hr8 hcase
              rcases HC.out with ⟨rfl, F', m', age', L', hL', hsay', hgen', hage', hS8, hF8⟩ | ⟨rfl, hdn, hS8, gen, R, hh, hH, hg8, hRR⟩ | ⟨rfl, rfl, hS8, hnofit⟩
              · clear HC
                have hz8 : ∀ k, Zs p g F' s k → Zs p g F s k ∨ w7.heap.size ≤ k := fun k q => by
                  rcases q with q | q | q | q
                  · exact .inl (.inl q)
                  · exact .inl (.inr (.inl q))
                  · rcases hF8 k q with r | r
                    · exact .inl (.inr (.inr (.inl r)))
                    · exact .inr r
                  · exact .inl (.inr (.inr (.inr q)))
                have hts8 : Kv.tsize T ≤ 2000 := says_small hL'.has hsay' (by rw [hd8, HP5.out.len]; omega)
                have hPX : P9 w w8 p g sz F' s b m' age' d8 L' T M An T.length A10 n10 := HP5.out.step hk58 hS8 (fun k q => (hz8 k q).imp id fun r => by omega) hd8 (Hr8.out _ hz8) HTok.out hts8
                have hS' : St9 d8 L' T M false (j + 1) := .inl ⟨rfl, hL', hsay', by omega⟩
                clear HP5 hk58 hS8 hF8 hz8 hL' hsay' Hr8 HTok hS
                go_wp2_with fail
                as_aux_lemma =>
                  have hWl : (T).length ≤ 1048576 := by have := len_tsize (T); have := hPX.ts; omega
                  have Hs := Lib.hid (sscan_any (Zs p g F' s) s b m' age' T [] hWl w8 hPX.sv.st hPX.sv.tab)
                  have HP := Lib.hid hPX
                  clear hPX
                  go_wp2_with fail
                  refine Hs.out.mono ?_
                  rintro e wa ⟨va, da, rfl, hda, hPa, ka⟩
                  rw [Kv.pre_nil] at hda
                  have HPa := Lib.hid (HP.out.keepN ka)
                  have hdl' : da.length ≤ 1048576 := by have := congrArg List.length hda; rw [keys_len] at this; omega
                  have Hl := Lib.hid (listed_any _ va da wa hdl' hPa)
                  rw [hda] at Hl
                  clear Hs ka HP hPa hda hdl'
                  go_wp2_with fail
                  refine Hl.out.mono ?_
                  rintro e wb ⟨vb, rfl, hOb, kb⟩
                  have hPb := HPa.out.keepN kb
                  obtain ⟨Ab, cb, rfl, hRb, -, -⟩ := OwnR.rdR (Z := Non) hOb hWl (fun _ _ q => q)
                  have Hsm := Lib.hid (same9_any _ _ Ab An _ _ cb cn _ _ wb hRb hPb.rw_)
                  rw [decide_eq_true rfl] at Hsm
                  have HPb := Lib.hid hPb
                  clear Hl kb HPa hOb hRb hPb
                  go_wp2_with fail
                  refine Hsm.out.mono ?_
                  rintro e wc ⟨rfl, q, rfl⟩
                  have hPc := HPb.out.keepN ((Keeps.refl Non wb).drewN q)
                  have Hn := Lib.hid (slen_any (Zs p g F' s) s b m' age' T _ hPc.sv.st hPc.sv.tab)
                  have HPc := Lib.hid hPc
                  clear Hsm HPb hPc
                  go_wp2_with fail
                  refine Hn.out.mono ?_
                  rintro e wd ⟨rfl, rfl⟩
                  clear Hn
                  go_wp2_with fail
                  go_roundw
                  case rel => exact ⟨j + 1, F', s, b, m', age', d8, L', T, M, An, _, cn, A10, n10, c10, false, by omega, rfl, rfl, rfl, rfl, by go_num, HPc.out, by omega, hS'⟩
                  case measure => simp [intOf]; omega
              · clear HC
                have hPX : P9 w w8 p g sz F s b m age d8 (L.die false) W T A9 W.length An T.length := (HP5.out.same hk58 hS8 (fun k q => .inl q) hd8).may (Hr8.out _ fun k q => .inl q)
                have hS' : St9 d8 (L.die false) W T true (j + 1) := .inr ⟨rfl, hdn, gen, R, hh, hH, by omega, hRR⟩
                have Hdn := Lib.hid hdn
                clear HP5 hk58 hS8 hH hRR Hr8 HTok hS hdn
                go_wp2_with fail
                refine (up_any p g d8 w8 hPX.sv.wl.disk).mono ?_
                rintro e w' ⟨rfl, rfl⟩
                rw [Hdn.out]
                go_wp2_with fail
                go_roundw
                case rel => exact ⟨j + 1, F, s, b, m, age, d8, L.die false, W, T, A9, _, c9, An, _, cn, true, by omega, rfl, rfl, rfl, rfl, by go_num, hPX, by omega, hS'⟩
                case measure => simp [intOf]; omega
              · clear HC
                have hPX : P9 w w8 p g sz F s b m age d8 L W M A9 W.length A10 n10 := HP5.out.same hk58 hS8 (fun k q => .inl q) rfl
                have Hrc := Lib.hid (rcost_any Non An T.length cn T w8 (by omega) (Hr8.out Non fun k q => q.elim))
                have hcost : ¬ ((Kv.rcost T : Int) ≤ (hz : Int) - 16) := by rw [hszd] at hnofit; omega
                obtain ⟨rc, hrc⟩ : ∃ rc, rc = Kv.rcost T := ⟨_, rfl⟩
                rw [← hrc] at Hrc hcost
                clear HP5 hk58 hS8 hnofit Hr8 HTok hrc
                go_wp2_with fail
                refine Hrc.out.mono ?_
                rintro e w9 ⟨rfl, q9, rfl⟩
                have hPY := hPX.keepN ((Keeps.refl Non w8).drewN q9)
                clear hPX Hrc
                go_wp2_with fail
                as_aux_lemma =>
                  have hWl : (W).length ≤ 1048576 := by have := len_tsize (W); have := hPY.ts; omega
                  have Hs := Lib.hid (sscan_any (Zs p g F s) s b m age W [] hWl _ hPY.sv.st hPY.sv.tab)
                  have HP := Lib.hid hPY
                  clear hPY
                  go_wp2_with fail
                  refine Hs.out.mono ?_
                  rintro e wa ⟨va, da, rfl, hda, hPa, ka⟩
                  rw [Kv.pre_nil] at hda
                  have HPa := Lib.hid (HP.out.keepN ka)
                  have hdl' : da.length ≤ 1048576 := by have := congrArg List.length hda; rw [keys_len] at this; omega
                  have Hl := Lib.hid (listed_any _ va da wa hdl' hPa)
                  rw [hda] at Hl
                  clear Hs ka HP hPa hda hdl'
                  go_wp2_with fail
                  refine Hl.out.mono ?_
                  rintro e wb ⟨vb, rfl, hOb, kb⟩
                  have hPb := HPa.out.keepN kb
                  obtain ⟨Ab, cb, rfl, hRb, -, -⟩ := OwnR.rdR (Z := Non) hOb hWl (fun _ _ q => q)
                  have Hsm := Lib.hid (same9_any _ _ Ab A9 _ _ cb c9 _ _ wb hRb hPb.rw_)
                  rw [decide_eq_true rfl] at Hsm
                  have HPb := Lib.hid hPb
                  clear Hl kb HPa hOb hRb hPb
                  go_wp2_with fail
                  refine Hsm.out.mono ?_
                  rintro e wc ⟨rfl, q, rfl⟩
                  have hPc := HPb.out.keepN ((Keeps.refl Non wb).drewN q)
                  have Hn := Lib.hid (slen_any (Zs p g F s) s b m age W _ hPc.sv.st hPc.sv.tab)
                  have HPc := Lib.hid hPc
                  clear Hsm HPb hPc
                  go_wp2_with fail
                  refine Hn.out.mono ?_
                  rintro e wd ⟨rfl, rfl⟩
                  clear Hn
                  go_wp2_with fail
                  go_roundw
                  case rel => exact ⟨j + 1, F, s, b, m, age, d8, L, W, M, A9, _, c9, A10, n10, c10, false, by omega, rfl, rfl, rfl, rfl, by go_num, HPc.out, by omega, hS.next⟩
                  case measure => simp [intOf]; omega
            | true =>
              have hBw : B < w5.heap.size := World.block_lt_of_cell? _ _ u0
              have Hb := Lib.hid (begin_any (Zs p g F s) s b m age W w5 hP5.sv.st hP5.sv.tab hP5.sv.lt)
              go_wp2_with fail
              rw [← H5.out, ← HB.out]
              go_wp2_with fail
              refine Hb.out.mono ?_
              rintro e w6 ⟨c, mc, rfl, hc6, h1, h2, hk6⟩
              have t0 := hk6.cell u0 id
              have t3 := hk6.cell u3 id
              have hw6 := hk6.size
              have hZl : ∀ k, Zs p g F s k → k < w5.heap.size := hP5.sv.lt
              have hr6 : RdR (fun k => Zs p g F s k ∨ Cb c mc (.slice none 0 0) k) w6 A9 W.length W := (hP5.rw_.grow (Z' := fun k => Zs p g F s k ∨ Cb c mc (.slice none 0 0) k) fun k q => by
                rcases q with q | q | q | q
                · exact .inl q
                · exact .inr (by omega)
                · exact .inr (by omega)
                · exact (noown _ q).elim).keepN hk6
              have hq6 : RdQ (Cb c mc (.slice none 0 0)) w6 oA om oQ := (hst5.rdQ (Z := Cb c mc (.slice none 0 0)) fun k hk q => by
                rcases q with q | q | q
                · omega
                · omega
                · exact noown _ q).keep hk6 fun _ q => q.elim
              have hWl : W.length ≤ 500 := by have := len_tsize W; have := hP5.ts; omega
              have Hch := Lib.hid (changed_any (Zs p g F s) (Zs p g F s) c s mc age (.slice none 0 0) [] W A9 W.length c9 oA om oc oQ w6 (fun k q => by have := hZl k q; omega) (fun k q => by have := hZl k q; omega) hc6 hr6 hq6 hM8 (by have := hM8.1; simp; omega) (by have := hM8.1; omega) hP5.ok)
              have hE6 := Ses.began hP5.sv hP5.sv.tab.lt hc6 h1 h2 hk6
              have HE6 := Lib.hid hE6
              have HP5 := Lib.hid hP5
              have HK6 := Lib.hid hk6
              clear Hb hc6 hr6 hq6 hk6 hP5 hE6 hst5 u0 u1 u2 u3
              go_wp2_with fail
              refine Hch.out.mono ?_
              rintro e w7 ⟨v7, An, nx, cn, rfl, hc7, hr7, hk7, hv7⟩
              rw [List.nil_append] at hc7
              have hCb : ∀ k, Cb c mc (.slice none 0 0) k → w5.heap.size ≤ k := fun k q => by
                rcases q with q | q | q
                · omega
                · omega
                · exact (noown _ q).elim
              have hcZ : ∀ k, k < w5.heap.size → ¬ Cb c mc (.slice none 0 0) k := fun k hk q => by have := hCb k q; omega
              have r0 := hk7.cell t0 (hcZ B hBw)
              have hv7' : ∀ k, v7.ownBlock = some k → w5.heap.size ≤ k := fun k q => by
                rcases hv7 with e | ⟨g', e, e2⟩
                · rw [e] at q; exact (noown _ q).elim
                · rw [e] at q; injection q with q; omega
              have hE7 := HE6.out.move hk7 hCb hc7 hv7'
              have hk57 : Keeps Non w5 w7 := HK6.out.into hk7 fun k q1 q2 => by have := hCb k q2; show False; omega
              have hw7 := hk7.size
              clear Hch HE6 HK6 hk7 t0 t3 hCb hcZ hv7
              have Hc := Lib.hid (cancel_any hE7.ch)
              have hlc := hE7.lc
              have HE7 := Lib.hid hE7
              have Hk57 := Lib.hid hk57
              clear hE7 hc7 hr7 hk57 hv7'
              go_wp2_with fail
              refine Hc.out.mono ?_
              rintro e w8 ⟨rfl, hc8, hk8⟩
              have hE8 := HE7.out.move hk8 (fun k q => by rw [q]; exact hlc) hc8 HE7.out.lv
              have hk58 : Keeps Non w5 w8 := Hk57.out.into hk8 fun k q1 q2 => by show False; omega
              have Hc2 := Lib.hid (commit_stale true b m age (.inl rfl) (by omega) (by omega) hE8.sv.st hE8.ch)
              have HE8 := Lib.hid hE8
              clear Hc HE7 Hk57 hc8 hk8 hE8
              go_wp2_with fail
              refine Hc2.out.mono ?_
              rintro e w9 ⟨rfl, hc9, hk9⟩
              have hE9 := HE8.out.move hk9 (fun k q => by rw [q]; exact hlc) hc9 HE8.out.lv
              have hk59 : Keeps Non w5 w9 := hk58.into hk9 fun k q1 q2 => by show False; omega
              have Hc3 := Lib.hid (put_over [120] none 0 0 [] hE9.ch (RdB.nil w9 none))
              clear Hc2 HE8 hk58 hk9 hc9 hE9
              go_wp2_with fail
              refine Hc3.out.mono ?_
              rintro e wX ⟨rfl, hkX⟩
              have hPX := HP5.out.keepN (hk59.trans hkX)
              clear Hc3 HP5 hk59 hkX
              go_wp2_with fail
              go_roundw
              case rel => exact ⟨j + 1, F, s, b, m, age, d, L, W, M, A9, _, c9, A10, n10, c10, true, by omega, rfl, rfl, rfl, rfl, by go_num, hPX, by omega, hS.next⟩
              case measure => simp [intOf]; omega
          by_cases k2 : kk = 2
          · subst k2
            cases cut with
            | false =>
              have hBw : B < w5.heap.size := World.block_lt_of_cell? _ _ u0
              have Hb := Lib.hid (begin_any (Zs p g F s) s b m age W w5 hP5.sv.st hP5.sv.tab hP5.sv.lt)
              go_wp2_with fail
              rw [← H5.out, ← HB.out]
              go_wp2_with fail
              refine Hb.out.mono ?_
              rintro e w6 ⟨c, mc, rfl, hc6, h1, h2, hk6⟩
              have t0 := hk6.cell u0 id
              have t3 := hk6.cell u3 id
              have hw6 := hk6.size
              have hZl : ∀ k, Zs p g F s k → k < w5.heap.size := hP5.sv.lt
              have hr6 : RdR (fun k => Zs p g F s k ∨ Cb c mc (.slice none 0 0) k) w6 A9 W.length W := (hP5.rw_.grow (Z' := fun k => Zs p g F s k ∨ Cb c mc (.slice none 0 0) k) fun k q => by
                rcases q with q | q | q | q
                · exact .inl q
                · exact .inr (by omega)
                · exact .inr (by omega)
                · exact (noown _ q).elim).keepN hk6
              have hq6 : RdQ (Cb c mc (.slice none 0 0)) w6 oA om oQ := (hst5.rdQ (Z := Cb c mc (.slice none 0 0)) fun k hk q => by
                rcases q with q | q | q
                · omega
                · omega
                · exact noown _ q).keep hk6 fun _ q => q.elim
              have hWl : W.length ≤ 500 := by have := len_tsize W; have := hP5.ts; omega
              have Hch := Lib.hid (changed_any (Zs p g F s) (Zs p g F s) c s mc age (.slice none 0 0) [] W A9 W.length c9 oA om oc oQ w6 (fun k q => by have := hZl k q; omega) (fun k q => by have := hZl k q; omega) hc6 hr6 hq6 hM8 (by have := hM8.1; simp; omega) (by have := hM8.1; omega) hP5.ok)
              have hE6 := Ses.began hP5.sv hP5.sv.tab.lt hc6 h1 h2 hk6
              have HE6 := Lib.hid hE6
              have HP5 := Lib.hid hP5
              have HK6 := Lib.hid hk6
              clear Hb hc6 hr6 hq6 hk6 hP5 hE6 hst5 u0 u1 u2 u3
              go_wp2_with fail
              refine Hch.out.mono ?_
              rintro e w7 ⟨v7, An, nx, cn, rfl, hc7, hr7, hk7, hv7⟩
              rw [List.nil_append] at hc7
              have hCb : ∀ k, Cb c mc (.slice none 0 0) k → w5.heap.size ≤ k := fun k q => by
                rcases q with q | q | q
                · omega
                · omega
                · exact (noown _ q).elim
              have hcZ : ∀ k, k < w5.heap.size → ¬ Cb c mc (.slice none 0 0) k := fun k hk q => by have := hCb k q; omega
              have r0 := hk7.cell t0 (hcZ B hBw)
              have hv7' : ∀ k, v7.ownBlock = some k → w5.heap.size ≤ k := fun k q => by
                rcases hv7 with e | ⟨g', e, e2⟩
                · rw [e] at q; exact (noown _ q).elim
                · rw [e] at q; injection q with q; omega
              have hE7 := HE6.out.move hk7 hCb hc7 hv7'
              have hk57 : Keeps Non w5 w7 := HK6.out.into hk7 fun k q1 q2 => by have := hCb k q2; show False; omega
              have hw7 := hk7.size
              clear Hch HE6 HK6 hk7 t0 t3 hCb hcZ hv7
              have Hc := Lib.hid (cancel_any hE7.ch)
              have hlc := hE7.lc
              have HE7 := Lib.hid hE7
              have Hk57 := Lib.hid hk57
              clear hE7 hc7 hr7 hk57 hv7'
              go_wp2_with fail
              refine Hc.out.mono ?_
              rintro e w8 ⟨rfl, hc8, hk8⟩
              have hE8 := HE7.out.move hk8 (fun k q => by rw [q]; exact hlc) hc8 HE7.out.lv
              have hk58 : Keeps Non w5 w8 := Hk57.out.into hk8 fun k q1 q2 => by show False; omega
              have Hc2 := Lib.hid (commit_stale true b m age (.inl rfl) (by omega) (by omega) hE8.sv.st hE8.ch)
              have HE8 := Lib.hid hE8
              clear Hc HE7 Hk57 hc8 hk8 hE8
              go_wp2_with fail
              refine Hc2.out.mono ?_
              rintro e w9 ⟨rfl, hc9, hk9⟩
              have hE9 := HE8.out.move hk9 (fun k q => by rw [q]; exact hlc) hc9 HE8.out.lv
              have hk59 : Keeps Non w5 w9 := hk58.into hk9 fun k q1 q2 => by show False; omega
              have Hc3 := Lib.hid (put_over [120] none 0 0 [] hE9.ch (RdB.nil w9 none))
              clear Hc2 HE8 hk58 hk9 hc9 hE9
              go_wp2_with fail
              refine Hc3.out.mono ?_
              rintro e wX ⟨rfl, hkX⟩
              have hPX := HP5.out.keepN (hk59.trans hkX)
              clear Hc3 HP5 hk59 hkX
              go_wp2_with fail
              as_aux_lemma =>
                have hWl : (W).length ≤ 1048576 := by have := len_tsize (W); have := hPX.ts; omega
                have Hs := Lib.hid (sscan_any (Zs p g F s) s b m age W [] hWl wX hPX.sv.st hPX.sv.tab)
                have HP := Lib.hid hPX
                clear hPX
                go_wp2_with fail
                refine Hs.out.mono ?_
                rintro e wa ⟨va, da, rfl, hda, hPa, ka⟩
                rw [Kv.pre_nil] at hda
                have HPa := Lib.hid (HP.out.keepN ka)
                have hdl' : da.length ≤ 1048576 := by have := congrArg List.length hda; rw [keys_len] at this; omega
                have Hl := Lib.hid (listed_any _ va da wa hdl' hPa)
                rw [hda] at Hl
                clear Hs ka HP hPa hda hdl'
                go_wp2_with fail
                refine Hl.out.mono ?_
                rintro e wb ⟨vb, rfl, hOb, kb⟩
                have hPb := HPa.out.keepN kb
                obtain ⟨Ab, cb, rfl, hRb, -, -⟩ := OwnR.rdR (Z := Non) hOb hWl (fun _ _ q => q)
                have Hsm := Lib.hid (same9_any _ _ Ab A9 _ _ cb c9 _ _ wb hRb hPb.rw_)
                rw [decide_eq_true rfl] at Hsm
                have HPb := Lib.hid hPb
                clear Hl kb HPa hOb hRb hPb
                go_wp2_with fail
                refine Hsm.out.mono ?_
                rintro e wc ⟨rfl, q, rfl⟩
                have hPc := HPb.out.keepN ((Keeps.refl Non wb).drewN q)
                have Hn := Lib.hid (slen_any (Zs p g F s) s b m age W _ hPc.sv.st hPc.sv.tab)
                have HPc := Lib.hid hPc
                clear Hsm HPb hPc
                go_wp2_with fail
                refine Hn.out.mono ?_
                rintro e wd ⟨rfl, rfl⟩
                clear Hn
                go_wp2_with fail
                go_roundw
                case rel => exact ⟨j + 1, F, s, b, m, age, d, L, W, M, A9, _, c9, A10, n10, c10, false, by omega, rfl, rfl, rfl, rfl, by go_num, HPc.out, by omega, hS.next⟩
                case measure => simp [intOf]; omega
            | true =>
              have hBw : B < w5.heap.size := World.block_lt_of_cell? _ _ u0
              have Hb := Lib.hid (begin_any (Zs p g F s) s b m age W w5 hP5.sv.st hP5.sv.tab hP5.sv.lt)
              go_wp2_with fail
              rw [← H5.out, ← HB.out]
              go_wp2_with fail
              refine Hb.out.mono ?_
              rintro e w6 ⟨c, mc, rfl, hc6, h1, h2, hk6⟩
              have t0 := hk6.cell u0 id
              have t3 := hk6.cell u3 id
              have hw6 := hk6.size
              have hZl : ∀ k, Zs p g F s k → k < w5.heap.size := hP5.sv.lt
              have hr6 : RdR (fun k => Zs p g F s k ∨ Cb c mc (.slice none 0 0) k) w6 A9 W.length W := (hP5.rw_.grow (Z' := fun k => Zs p g F s k ∨ Cb c mc (.slice none 0 0) k) fun k q => by
                rcases q with q | q | q | q
                · exact .inl q
                · exact .inr (by omega)
                · exact .inr (by omega)
                · exact (noown _ q).elim).keepN hk6
              have hq6 : RdQ (Cb c mc (.slice none 0 0)) w6 oA om oQ := (hst5.rdQ (Z := Cb c mc (.slice none 0 0)) fun k hk q => by
                rcases q with q | q | q
                · omega
                · omega
                · exact noown _ q).keep hk6 fun _ q => q.elim
              have hWl : W.length ≤ 500 := by have := len_tsize W; have := hP5.ts; omega
              have Hch := Lib.hid (changed_any (Zs p g F s) (Zs p g F s) c s mc age (.slice none 0 0) [] W A9 W.length c9 oA om oc oQ w6 (fun k q => by have := hZl k q; omega) (fun k q => by have := hZl k q; omega) hc6 hr6 hq6 hM8 (by have := hM8.1; simp; omega) (by have := hM8.1; omega) hP5.ok)
              have hE6 := Ses.began hP5.sv hP5.sv.tab.lt hc6 h1 h2 hk6
              have HE6 := Lib.hid hE6
              have HP5 := Lib.hid hP5
              have HK6 := Lib.hid hk6
              clear Hb hc6 hr6 hq6 hk6 hP5 hE6 hst5 u0 u1 u2 u3
              go_wp2_with fail
              refine Hch.out.mono ?_
              rintro e w7 ⟨v7, An, nx, cn, rfl, hc7, hr7, hk7, hv7⟩
              rw [List.nil_append] at hc7
              have hCb : ∀ k, Cb c mc (.slice none 0 0) k → w5.heap.size ≤ k := fun k q => by
                rcases q with q | q | q
                · omega
                · omega
                · exact (noown _ q).elim
              have hcZ : ∀ k, k < w5.heap.size → ¬ Cb c mc (.slice none 0 0) k := fun k hk q => by have := hCb k q; omega
              have r0 := hk7.cell t0 (hcZ B hBw)
              have hv7' : ∀ k, v7.ownBlock = some k → w5.heap.size ≤ k := fun k q => by
                rcases hv7 with e | ⟨g', e, e2⟩
                · rw [e] at q; exact (noown _ q).elim
                · rw [e] at q; injection q with q; omega
              have hE7 := HE6.out.move hk7 hCb hc7 hv7'
              have hk57 : Keeps Non w5 w7 := HK6.out.into hk7 fun k q1 q2 => by have := hCb k q2; show False; omega
              have hw7 := hk7.size
              clear Hch HE6 HK6 hk7 t0 t3 hCb hcZ hv7
              have Hc := Lib.hid (cancel_any hE7.ch)
              have hlc := hE7.lc
              have HE7 := Lib.hid hE7
              have Hk57 := Lib.hid hk57
              clear hE7 hc7 hr7 hk57 hv7'
              go_wp2_with fail
              refine Hc.out.mono ?_
              rintro e w8 ⟨rfl, hc8, hk8⟩
              have hE8 := HE7.out.move hk8 (fun k q => by rw [q]; exact hlc) hc8 HE7.out.lv
              have hk58 : Keeps Non w5 w8 := Hk57.out.into hk8 fun k q1 q2 => by show False; omega
              have Hc2 := Lib.hid (commit_stale true b m age (.inl rfl) (by omega) (by omega) hE8.sv.st hE8.ch)
              have HE8 := Lib.hid hE8
              clear Hc HE7 Hk57 hc8 hk8 hE8
              go_wp2_with fail
              refine Hc2.out.mono ?_
              rintro e w9 ⟨rfl, hc9, hk9⟩
              have hE9 := HE8.out.move hk9 (fun k q => by rw [q]; exact hlc) hc9 HE8.out.lv
              have hk59 : Keeps Non w5 w9 := hk58.into hk9 fun k q1 q2 => by show False; omega
              have Hc3 := Lib.hid (put_over [120] none 0 0 [] hE9.ch (RdB.nil w9 none))
              clear Hc2 HE8 hk58 hk9 hc9 hE9
              go_wp2_with fail
              refine Hc3.out.mono ?_
              rintro e wX ⟨rfl, hkX⟩
              have hPX := HP5.out.keepN (hk59.trans hkX)
              clear Hc3 HP5 hk59 hkX
              go_wp2_with fail
              go_roundw
              case rel => exact ⟨j + 1, F, s, b, m, age, d, L, W, M, A9, _, c9, A10, n10, c10, true, by omega, rfl, rfl, rfl, rfl, by go_num, hPX, by omega, hS.next⟩
              case measure => simp [intOf]; omega
          by_cases k3 : kk = 3
          · subst k3
            go_wp2_with fail
            rw [← H5.out, ← HB.out]
            go_wp2_with fail
            refine (light_any p g d tt nn hwt.2 hwn.2 w5 hP5.sv.wl.disk).mono ?_
            rintro e w6 ⟨rfl, hD6, hk6⟩
            have hk6' : Keeps (fun k => k = p ∨ k = g) w5 w6 := hk6.mono fun _ _ h => .inl h
            have hPX : P9 w w6 p g sz F s b m age (d.light tt nn) L W M A9 W.length A10 n10 := hP5.same (hk6'.mono fun k _ h => by rcases h with h | h; exact .inl h; exact .inr (.inl h)) (hP5.sv.disk_ hk6' hD6) (fun k h => .inl h) (by rw [light_data])
            have hS6 := (hS.light hwt.2 hwn.2).next
            clear hP5 hS hD6 hk6 hk6' u0 u1 u2 u3 hst5
            cases cut with
            | false =>
              go_wp2_with fail
              as_aux_lemma =>
                have hWl : (W).length ≤ 1048576 := by have := len_tsize (W); have := hPX.ts; omega
                have Hs := Lib.hid (sscan_any (Zs p g F s) s b m age W [] hWl w6 hPX.sv.st hPX.sv.tab)
                have HP := Lib.hid hPX
                clear hPX
                go_wp2_with fail
                refine Hs.out.mono ?_
                rintro e wa ⟨va, da, rfl, hda, hPa, ka⟩
                rw [Kv.pre_nil] at hda
                have HPa := Lib.hid (HP.out.keepN ka)
                have hdl' : da.length ≤ 1048576 := by have := congrArg List.length hda; rw [keys_len] at this; omega
                have Hl := Lib.hid (listed_any _ va da wa hdl' hPa)
                rw [hda] at Hl
                clear Hs ka HP hPa hda hdl'
                go_wp2_with fail
                refine Hl.out.mono ?_
                rintro e wb ⟨vb, rfl, hOb, kb⟩
                have hPb := HPa.out.keepN kb
                obtain ⟨Ab, cb, rfl, hRb, -, -⟩ := OwnR.rdR (Z := Non) hOb hWl (fun _ _ q => q)
                have Hsm := Lib.hid (same9_any _ _ Ab A9 _ _ cb c9 _ _ wb hRb hPb.rw_)
                rw [decide_eq_true rfl] at Hsm
                have HPb := Lib.hid hPb
                clear Hl kb HPa hOb hRb hPb
                go_wp2_with fail
                refine Hsm.out.mono ?_
                rintro e wc ⟨rfl, q, rfl⟩
                have hPc := HPb.out.keepN ((Keeps.refl Non wb).drewN q)
                have Hn := Lib.hid (slen_any (Zs p g F s) s b m age W _ hPc.sv.st hPc.sv.tab)
                have HPc := Lib.hid hPc
                clear Hsm HPb hPc
                go_wp2_with fail
                refine Hn.out.mono ?_
                rintro e wd ⟨rfl, rfl⟩
                clear Hn
                go_wp2_with fail
                go_roundw
                case rel => exact ⟨j + 1, F, s, b, m, age, (d.light tt nn), L, W, M, A9, _, c9, A10, n10, c10, false, by omega, rfl, rfl, rfl, rfl, by go_num, HPc.out, by omega, hS6⟩
                case measure => simp [intOf]; omega
            | true =>
              go_wp2_with fail
              go_roundw
              case rel => exact ⟨j + 1, F, s, b, m, age, d.light tt nn, L, W, M, A9, _, c9, A10, n10, c10, true, by omega, rfl, rfl, rfl, rfl, by go_num, hPX, by omega, hS6⟩
              case measure => simp [intOf]; omega
          by_cases k4 : kk = 4
          · subst k4
            obtain ⟨gen, R, hh, T, hH, hgen, hsay, hTT⟩ := hS.has
            have HTT := Lib.hid hTT
            clear hS hTT
            go_wp2_with fail
            rw [← H5.out, ← HB.out]
            go_wp2_with fail
            refine (start_any p g d w5 hP5.sv.wl.disk).mono ?_
            rintro e w6 ⟨rfl, hD6, hk6⟩
            have hk6' : Keeps (fun k => k = p ∨ k = g) w5 w6 := hk6.mono fun _ _ h => .inl h
            have hP6 : P9 w w6 p g sz F s b m age d.start L W M A9 W.length A10 n10 := hP5.same (hk6'.mono fun k _ h => by rcases h with h | h; exact .inl h; exact .inr (.inl h)) (hP5.sv.disk_ hk6' hD6) (fun k h => .inl h) rfl
            have hH6 := Has.start hH
            have Ho := Lib.hid (kopen_has p g d.start gen R hh T hH6 rfl rfl hsay w6 hP6.sv.wl.disk)
            have HP6 := Lib.hid hP6
            clear hP5 hD6 hk6 hk6' hH u0 u1 u2 u3 hst5 hP6
            go_wp2_with fail
            refine Ho.out.mono ?_
            rintro e w7 ⟨d7, F7, s7, b7, m7, rfl, hL7, hdl7, hS7, hF7, hs7, hm7, hk7⟩
            have hdl7 : d7.data.length = d.start.data.length := hdl7
            have hts7 : Kv.tsize T ≤ 2000 := says_small hL7.has hsay (by rw [hdl7, HP6.out.len]; omega)
            have hTl : T.length ≤ 1048576 := by have := len_tsize T; omega
            have hsc := sscan_any (Zs p g F7 s7) s7 b7 m7 0 T [] hTl w7 hS7.st hS7.tab
            have Hsc := Lib.hid hsc
            have hZ7 : ∀ k, Zs p g F7 s7 k → Zs p g F s k ∨ w6.heap.size ≤ k := fun k q => by
              rcases q with q | q | q | q
              · exact .inl (.inl q)
              · exact .inl (.inr (.inl q))
              · exact .inr (hF7 k q)
              · exact .inr (by omega)
            have hk7' : Keeps (Zs p g F s) w6 w7 := hk7.mono fun k _ h => by rcases h with h | h; exact .inl h; exact .inr (.inl h)
            have HS7 := Lib.hid hS7
            have HL7 := Lib.hid hL7
            have HZ7 := Lib.hid hZ7
            clear Ho hH6 hS7 hF7 hk7 hsc hL7 hZ7
            go_wp2_with fail
            refine Hsc.out.mono ?_
            rintro e w8 ⟨v8, d8, rfl, hd8, hP8, k8⟩
            rw [Kv.pre_nil] at hd8
            have hdl8 : d8.length ≤ 1048576 := by have := congrArg List.length hd8; rw [keys_len] at this; omega
            have Hl := Lib.hid (listed_any _ v8 d8 w8 hdl8 hP8)
            rw [hd8] at Hl
            have HS8 := Lib.hid (HS7.out.keepN k8)
            have hk8 := hk7'.into k8 fun _ _ q => q.elim
            have hw7 := hk7'.size
            have hw8 := k8.size
            clear Hsc HS7 hP8 hd8 hdl8 k8 hk7'
            go_wp2_with fail
            refine Hl.out.mono ?_
            rintro e w9 ⟨v9, rfl, hO9, k9⟩
            obtain ⟨Ag, cg, rfl, hRg, -, -⟩ := OwnR.rdR (Z := Zs p g F7 s7) hO9 hTl (fun k q r => by have := HS8.out.lt k r; omega)
            have hPX : P9 w w9 p g sz F7 s7 b7 m7 0 d7 ⟨hh, gen, 16 + Wal.cost R, R, false⟩ T M Ag T.length A10 n10 := HP6.out.step (hk8.into k9 fun _ _ q => q.elim) (HS8.out.keepN k9) HZ7.out hdl7 hRg (Kv.Says.ok hsay) hts7
            have hRW := (HP6.out.rw_.keep (hk8.into k9 fun _ _ q => q.elim) fun _ q => q)
            have hRM := (HP6.out.rm.keep (hk8.into k9 fun _ _ q => q.elim) fun _ q => q)
            have hSX : St9 d7 ⟨hh, gen, 16 + Wal.cost R, R, false⟩ T M false (j + 1) := .inl ⟨rfl, HL7.out, hsay, by show gen ≤ _; omega⟩
            have Hsm := Lib.hid (same9_any _ _ Ag A9 _ _ cg c9 _ _ w9 hRg hRW)
            have Hsm2 := Lib.hid (fun q => same9_any _ _ Ag A10 _ _ cg c10 _ _ (w9.drewN q) (hRg.keepN ((Keeps.refl Non w9).drewN q)) (hRM.keepN ((Keeps.refl Non w9).drewN q)))
            have HPX := Lib.hid hPX
            clear Hl HS8 HP6 hO9 k9 hRg hk8 hRW hRM HL7 hsay HZ7 hPX
            by_cases hTW : T = W
            · have HD : Hid (decide (T = W) = true) := decide_eq_true hTW
              clear hTW HTT Hsm2
              go_wp2_with fail
              refine Hsm.out.mono ?_
              rintro e w10 ⟨rfl, q, rfl⟩
              rw [HD.out]
              have hPY := HPX.out.keepN ((Keeps.refl Non w9).drewN q)
              clear Hsm HPX
              go_wp2_with fail
              as_aux_lemma =>
                have hWl : (T).length ≤ 1048576 := by have := len_tsize (T); have := hPY.ts; omega
                have Hs := Lib.hid (sscan_any (Zs p g F7 s7) s7 b7 m7 0 T [] hWl _ hPY.sv.st hPY.sv.tab)
                have HP := Lib.hid hPY
                clear hPY
                go_wp2_with fail
                refine Hs.out.mono ?_
                rintro e wa ⟨va, da, rfl, hda, hPa, ka⟩
                rw [Kv.pre_nil] at hda
                have HPa := Lib.hid (HP.out.keepN ka)
                have hdl' : da.length ≤ 1048576 := by have := congrArg List.length hda; rw [keys_len] at this; omega
                have Hl := Lib.hid (listed_any _ va da wa hdl' hPa)
                rw [hda] at Hl
                clear Hs ka HP hPa hda hdl'
                go_wp2_with fail
                refine Hl.out.mono ?_
                rintro e wb ⟨vb, rfl, hOb, kb⟩
                have hPb := HPa.out.keepN kb
                obtain ⟨Ab, cb, rfl, hRb, -, -⟩ := OwnR.rdR (Z := Non) hOb hWl (fun _ _ q => q)
                have Hsm := Lib.hid (same9_any _ _ Ab Ag _ _ cb cg _ _ wb hRb hPb.rw_)
                rw [decide_eq_true rfl] at Hsm
                have HPb := Lib.hid hPb
                clear Hl kb HPa hOb hRb hPb
                go_wp2_with fail
                refine Hsm.out.mono ?_
                rintro e wc ⟨rfl, q, rfl⟩
                have hPc := HPb.out.keepN ((Keeps.refl Non wb).drewN q)
                have Hn := Lib.hid (slen_any (Zs p g F7 s7) s7 b7 m7 0 T _ hPc.sv.st hPc.sv.tab)
                have HPc := Lib.hid hPc
                clear Hsm HPb hPc
                go_wp2_with fail
                refine Hn.out.mono ?_
                rintro e wd ⟨rfl, rfl⟩
                clear Hn
                go_wp2_with fail
                go_roundw
                case rel => exact ⟨j + 1, F7, s7, b7, m7, 0, d7, ⟨hh, gen, 16 + Wal.cost R, R, false⟩, T, M, Ag, _, cg, A10, n10, c10, false, by omega, rfl, rfl, rfl, rfl, by go_num, HPc.out, by omega, hSX⟩
                case measure => simp [intOf]; omega
            · have hcm : cut = true ∧ T = M := by rcases HTT.out with h | h; exact absurd h hTW; exact h
              obtain ⟨rfl, hTM⟩ := hcm
              have HD : Hid (decide (T = W) = false) := decide_eq_false hTW
              have HD2 : Hid (decide (T = M) = true) := decide_eq_true hTM
              clear hTW HTT hTM
              go_wp2_with fail
              refine Hsm.out.mono ?_
              rintro e w10 ⟨rfl, q, rfl⟩
              rw [HD.out]
              go_wp2_with fail
              refine (Hsm2.out q).mono ?_
              rintro e w11 ⟨rfl, q', rfl⟩
              rw [HD2.out]
              have hPY := HPX.out.keepN ((Keeps.refl Non w9).drewN (q + q'))
              clear Hsm Hsm2 HPX
              go_wp2_with fail
              as_aux_lemma =>
                have hWl : (T).length ≤ 1048576 := by have := len_tsize (T); have := hPY.ts; omega
                have Hs := Lib.hid (sscan_any (Zs p g F7 s7) s7 b7 m7 0 T [] hWl _ hPY.sv.st hPY.sv.tab)
                have HP := Lib.hid hPY
                clear hPY
                go_wp2_with fail
                refine Hs.out.mono ?_
                rintro e wa ⟨va, da, rfl, hda, hPa, ka⟩
                rw [Kv.pre_nil] at hda
                have HPa := Lib.hid (HP.out.keepN ka)
                have hdl' : da.length ≤ 1048576 := by have := congrArg List.length hda; rw [keys_len] at this; omega
                have Hl := Lib.hid (listed_any _ va da wa hdl' hPa)
                rw [hda] at Hl
                clear Hs ka HP hPa hda hdl'
                go_wp2_with fail
                refine Hl.out.mono ?_
                rintro e wb ⟨vb, rfl, hOb, kb⟩
                have hPb := HPa.out.keepN kb
                obtain ⟨Ab, cb, rfl, hRb, -, -⟩ := OwnR.rdR (Z := Non) hOb hWl (fun _ _ q => q)
                have Hsm := Lib.hid (same9_any _ _ Ab Ag _ _ cb cg _ _ wb hRb hPb.rw_)
                rw [decide_eq_true rfl] at Hsm
                have HPb := Lib.hid hPb
                clear Hl kb HPa hOb hRb hPb
                go_wp2_with fail
                refine Hsm.out.mono ?_
                rintro e wc ⟨rfl, q, rfl⟩
                have hPc := HPb.out.keepN ((Keeps.refl Non wb).drewN q)
                have Hn := Lib.hid (slen_any (Zs p g F7 s7) s7 b7 m7 0 T _ hPc.sv.st hPc.sv.tab)
                have HPc := Lib.hid hPc
                clear Hsm HPb hPc
                go_wp2_with fail
                refine Hn.out.mono ?_
                rintro e wd ⟨rfl, rfl⟩
                clear Hn
                go_wp2_with fail
                go_roundw
                case rel => exact ⟨j + 1, F7, s7, b7, m7, 0, d7, ⟨hh, gen, 16 + Wal.cost R, R, false⟩, T, M, Ag, _, cg, A10, n10, c10, false, by omega, rfl, rfl, rfl, rfl, by go_num, HPc.out, by omega, hSX⟩
                case measure => simp [intOf]; omega
          have b1 : ((kk == 1) : Bool) = false := by rw [beq_eq_false_iff_ne]; exact k1
          have b2 : ((kk == 2) : Bool) = false := by rw [beq_eq_false_iff_ne]; exact k2
          have b3 : ((kk == 3) : Bool) = false := by rw [beq_eq_false_iff_ne]; exact k3
          have b4 : ((kk == 4) : Bool) = false := by rw [beq_eq_false_iff_ne]; exact k4
          clear k1 k2 k3 k4 hst5 u1 u2 u3
          cases cut with
          | false =>
            go_wp2_with fail
            rw [← H5.out, ← HB.out]
            go_wp2_with fail
            as_aux_lemma =>
              have hWl : (W).length ≤ 1048576 := by have := len_tsize (W); have := hP5.ts; omega
              have Hs := Lib.hid (sscan_any (Zs p g F s) s b m age W [] hWl w5 hP5.sv.st hP5.sv.tab)
              have HP := Lib.hid hP5
              clear hP5
              go_wp2_with fail
              refine Hs.out.mono ?_
              rintro e wa ⟨va, da, rfl, hda, hPa, ka⟩
              rw [Kv.pre_nil] at hda
              have HPa := Lib.hid (HP.out.keepN ka)
              have hdl' : da.length ≤ 1048576 := by have := congrArg List.length hda; rw [keys_len] at this; omega
              have Hl := Lib.hid (listed_any _ va da wa hdl' hPa)
              rw [hda] at Hl
              clear Hs ka HP hPa hda hdl'
              go_wp2_with fail
              refine Hl.out.mono ?_
              rintro e wb ⟨vb, rfl, hOb, kb⟩
              have hPb := HPa.out.keepN kb
              obtain ⟨Ab, cb, rfl, hRb, -, -⟩ := OwnR.rdR (Z := Non) hOb hWl (fun _ _ q => q)
              have Hsm := Lib.hid (same9_any _ _ Ab A9 _ _ cb c9 _ _ wb hRb hPb.rw_)
              rw [decide_eq_true rfl] at Hsm
              have HPb := Lib.hid hPb
              clear Hl kb HPa hOb hRb hPb
              go_wp2_with fail
              refine Hsm.out.mono ?_
              rintro e wc ⟨rfl, q, rfl⟩
              have hPc := HPb.out.keepN ((Keeps.refl Non wb).drewN q)
              have Hn := Lib.hid (slen_any (Zs p g F s) s b m age W _ hPc.sv.st hPc.sv.tab)
              have HPc := Lib.hid hPc
              clear Hsm HPb hPc
              go_wp2_with fail
              refine Hn.out.mono ?_
              rintro e wd ⟨rfl, rfl⟩
              clear Hn
              go_wp2_with fail
              go_roundw
              case rel => exact ⟨j + 1, F, s, b, m, age, d, L, W, M, A9, _, c9, A10, n10, c10, false, by omega, rfl, rfl, rfl, rfl, by go_num, HPc.out, by omega, hS.next⟩
              case measure => simp [intOf]; omega
          | true =>
            go_wp2_with fail
            rw [← H5.out]
            go_roundw
            case rel => exact ⟨j + 1, F, s, b, m, age, d, L, W, M, A9, _, c9, A10, n10, c10, true, by omega, rfl, rfl, rfl, rfl, by go_num, hP5, by omega, hS.next⟩
            case measure => simp [intOf]; omega
        · obtain rfl : j = len1 := by omega
          have hkb := hP.k.none_below
          clear hP hS
          go_wp2_with fail
          go_ret
          exact ⟨rfl, hkb⟩
end Go.Proofs.YtbmamhcjbhnkiaaGreat
