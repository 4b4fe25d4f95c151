/- The walk of the law WalTorn. -/
import Derived.Test.YtbmamhcjbhnkiaaKyi
namespace Go.Proofs.Ytbmamhcjbhnkiaa
open Go.RowKit

/-- A log with its disk, all of it newer than a world. -/
structure Mine (w0 w : World) (F : Nat → Prop) (b p g : Nat) (d : Dk) (L : Wal.Lg) : Prop where
  wl : Wl w F b p g d L
  live : Wal.Live d L
  k : Keeps Non w0 w
  pb : w0.heap.size ≤ p
  gb : w0.heap.size ≤ g
  fb : ∀ k, F k → w0.heap.size ≤ k
/-- What a call may turn that turns the log's blocks alone. -/
theorem Mine.into {w0 w w' : World} {F : Nat → Prop} {b p g : Nat} {d : Dk} {L : Wal.Lg} (h : Mine w0 w F b p g d L) (hk : Keeps (fun k => k = p ∨ k = g ∨ F k) w w') : Keeps Non w0 w' :=
  h.k.into hk fun k h1 h2 => by
    have := h.pb; have := h.gb
    show False
    rcases h2 with q | q | q
    · omega
    · omega
    · have := h.fb k q; omega
theorem Mine.old {w0 w : World} {F : Nat → Prop} {b p g : Nat} {d : Dk} {L : Wal.Lg} (h : Mine w0 w F b p g d L) {k : Nat} (hk : k < w0.heap.size) : ¬ (k = p ∨ k = g ∨ F k) := fun q => by
  have := h.pb; have := h.gb
  rcases q with q | q | q
  · omega
  · omega
  · have := h.fb k q; omega

set_option maxHeartbeats 8000000 in
set_option maxRecDepth 100000 in
theorem walTorn_walk (a0 : Option Addr) (len0 cap0 : Nat) (A0 : Nat → Option Addr) (L0 C0 : Nat → Nat) (Z0 : Nat → List Int) (a1 : Option Addr) (len1 cap1 : Nat) (z1 : List Int) (a2 a3 : Int) (w : World)
    (w0 : IsRows .u8 w a0 len0 cap0 A0 L0 C0 Z0) (w1 : IsRow .u8 w a1 len1 cap1 z1) (w2 : (Lit.int .i64 a2).wf = true) (w3 : (Lit.int .i64 a3).wf = true) :
    Calls Try.prog 14 #[.slice a0 len0 cap0, .slice a1 len1 cap1, .int .i64 a2, .int .i64 a3] w fun e w' => e = .returned (.bool true) ∧ Below w.heap.size w w' := by
  have hlen0 := w0.len_le
  have hcap0 := w0.cap_le
  have hlen1 := w1.len_le
  have hcap1 := w1.cap_le
  have hw2 : -9223372036854775808 ≤ a2 ∧ a2 ≤ 9223372036854775807 := by simpa [Lit.wf, IntKind.min, IntKind.max, IntKind.bits, IntKind.signed] using w2
  have hw3 : -9223372036854775808 ≤ a3 ∧ a3 ≤ 9223372036854775807 := by simpa [Lit.wf, IntKind.min, IntKind.max, IntKind.bits, IntKind.signed] using w3
  clear w2 w3
  by_cases hout : 6 < len0 ∨ len1 < 1 ∨ 300 < len1 ∨ a2 < 0 ∨ 3 < a2 ∨ a3 < 0
  · have hcases : 6 < len0 ∨ (¬ 6 < len0 ∧ len1 < 1) ∨ (¬ 6 < len0 ∧ ¬ len1 < 1 ∧ 300 < len1) ∨ (¬ 6 < len0 ∧ ¬ len1 < 1 ∧ ¬ 300 < len1 ∧ a2 < 0) ∨ (¬ 6 < len0 ∧ ¬ len1 < 1 ∧ ¬ 300 < len1 ∧ ¬ a2 < 0 ∧ 3 < a2) ∨
        (¬ 6 < len0 ∧ ¬ len1 < 1 ∧ ¬ 300 < len1 ∧ ¬ a2 < 0 ∧ ¬ 3 < a2 ∧ a3 < 0) := by omega
    clear hout
    rcases hcases with q1 | ⟨q1, q2⟩ | ⟨q1, q2, q3⟩ | ⟨q1, q2, q3, q4⟩ | ⟨q1, q2, q3, q4, q5⟩ | ⟨q1, q2, q3, q4, q5, q6⟩
    all_goals
      go_enter Try.func14, Try.ntmps14
      go_wp2_with fail
      refine (anchor8_any _).mono ?_
      rintro e w3 ⟨rfl, hk1⟩
      go_wp2_with fail
      go_ret
      exact ⟨rfl, hk1.none_below⟩
  · have q1 : ¬ 6 < len0 := by omega
    have q2 : ¬ len1 < 1 := by omega
    have q3 : ¬ 300 < len1 := by omega
    have q4 : ¬ a2 < 0 := by omega
    have q5 : ¬ 3 < a2 := by omega
    have q6 : ¬ a3 < 0 := by omega
    clear hout
    have hr1 := w1.rdB (by omega)
    generalize bytesOf z1 len1 = last at *
    clear w1
    have HL1 := Lib.hid hr1.len
    have hr1old := hr1.old (by omega)
    go_enter Try.func14, Try.ntmps14
    go_wp2_with fail
    refine (anchor8_any _).mono ?_
    rintro e w3 ⟨rfl, hk1⟩
    go_wp2_with fail
    refine (new_ex 8192 (by omega) (by omega) w3).mono ?_
    rintro e w4 ⟨p, g, rfl, hD, hp, hg, hk2⟩
    have hk4 := hk1.trans hk2
    have hs3 := hk1.size
    clear hk1 hk2
    go_wp2_with fail
    refine (open_fresh p g 8192 (by omega) (by omega) w4 hD).mono ?_
    rintro e w5 ⟨d5, F5, b, rfl, hL5, hlit5, hdl5, hW5, hF5, hk5⟩
    have hs4 := hk4.size
    have hM5 : Mine w w5 F5 b p g d5 ⟨0, 1, 16, [], false⟩ := ⟨hW5, hL5, hk4.into hk5 fun k h1 h2 => by show False; omega, by omega, by omega, fun k h => by have := hF5 k h; omega⟩
    clear hk4 hk5 hD hL5 hW5 hF5
    go_wp2_with fail
    go_loopw [62] (fun i wr => ∃ (k : Nat) (F : Nat → Prop) (d : Dk) (L : Wal.Lg), k ≤ len0 ∧ i = .int .i64 k ∧ Mine w wr F b p g d L ∧ L.recs = rowsOf L0 Z0 k ∧ L.fin ≤ 16 + 309 * k ∧ d.lit = false ∧ d.data.length = 8192 ∧ (∀ r, r < k → 1 ≤ L0 r ∧ L0 r ≤ 300)) (fun i _ => len0 - (intOf i).toNat)
    case atStart => exact ⟨0, F5, d5, _, Nat.zero_le _, rfl, hM5, rfl, Nat.le_refl _, hlit5, hdl5, fun r h => by omega⟩
    case round =>
      obtain ⟨k, F, d, L, hk, rfl, hM, hrec, hfin, hlit, hdl, hall⟩ := hrel
      have hz : Wal.hs d = 4096 := by unfold Wal.hs; rw [hdl]
      clear hM5
      by_cases hlt : k < len0
      · obtain ⟨bb, off, rfl, hrow⟩ := w0.place (by omega)
        obtain ⟨hck, hrk⟩ := hrow k hlt
        have hck' := hM.k.cell hck id
        have hnk := hrk.len_le
        by_cases hbad : L0 k < 1 ∨ 300 < L0 k
        · have hcases : L0 k < 1 ∨ (¬ L0 k < 1 ∧ 300 < L0 k) := by omega
          have hkb := hM.k.none_below
          clear hbad hck hrk hrow hrec hfin hall hM
          rcases hcases with t1 | ⟨t1, t2⟩
          all_goals
            go_wp2_with fail
            go_ret
            exact ⟨rfl, hkb⟩
        · have t1 : ¬ L0 k < 1 := by omega
          have t2 : ¬ 300 < L0 k := by omega
          have hrd := hrk.rdB (by omega)
          have hrdw := hrd.below hM.k.none_below
          have hold := hrd.old (by omega)
          have HR : Hid (rowsOf L0 Z0 (k + 1) = L.recs ++ [bytesOf (Z0 k) (L0 k)]) := by show _ = _; rw [rowsOf_succ, hrec]
          have hxl := hrd.len
          obtain ⟨x, hx⟩ : ∃ x, x = bytesOf (Z0 k) (L0 k) := ⟨_, rfl⟩
          rw [← hx] at hrdw HR hxl
          have HXL := Lib.hid hxl
          have hfin2 := hM.live.le
          clear hbad hck hrk hrow hrd hrec hx hxl
          go_wp2_with fail
          refine (append_step F b p g d L (A0 k) (L0 k) (C0 k) x hM.live (by omega) (by omega) (by rw [hz]; omega) wr hM.wl hrdw (fun a ha => hM.old (hold a ha))).mono ?_
          rintro e w6 ⟨d6, -, hdl6, hk6, h6⟩
          rcases h6 with ⟨rfl, hL6, hlit6, F6, hW6, hF6⟩ | ⟨hbad, _⟩
          rotate_left
          · rw [hlit] at hbad; cases hbad
          have hM6 : Mine w w6 F6 b p g d6 (L.added x) := ⟨hW6, hL6, hM.into hk6, hM.pb, hM.gb, fun k h => by rcases hF6 k h with h | h; exact hM.fb k h; have := hM.k.size; omega⟩
          have hlit6' := hlit6 hlit
          have HM6 := Lib.hid hM6
          have HA : Hid (∀ r, r < k + 1 → 1 ≤ L0 r ∧ L0 r ≤ 300) := fun r hr => by
            rcases Nat.lt_or_ge r k with h | h
            · exact hall r h
            · obtain rfl : r = k := by omega
              omega
          have Hfin : Hid ((L.added x).fin ≤ 16 + 309 * (k + 1)) := by show L.fin + (9 + x.length) ≤ _; rw [HXL.out]; omega
          clear hM6 hM hW6 hL6 hF6 hk6 hall hfin hrdw
          go_wp2_with fail
          go_roundw
          case rel => exact ⟨k + 1, F6, d6, L.added x, by omega, by go_num, HM6.out, HR.out.symm, Hfin.out, hlit6', by rw [hdl6, hdl], HA.out⟩
          case measure => simp [intOf]; omega
      · obtain rfl : k = len0 := by omega
        have hkk : k ≤ 6 := by omega
        have hfin3 : L.fin ≤ 1870 := by omega
        obtain ⟨R, hR⟩ : ∃ R, R = rowsOf L0 Z0 k := ⟨_, rfl⟩
        rw [← hR] at hrec
        have HR := Lib.hid hR
        have Hall := Lib.hid hall
        have HRl : Hid (R.length = k) := by show _ = _; rw [hR, rowsOf_length]
        clear hR hfin hall hkk
        go_wp2_with fail
        refine (light_any p g d a2 a3 hw2.2 hw3.2 wr hM.wl.disk).mono ?_
        rintro e w6 ⟨rfl, hD6, hk6⟩
        have hk6' : Keeps (fun k => k = p ∨ k = g) wr w6 := hk6.mono fun _ _ h => .inl h
        have hM6 : Mine w w6 F b p g (d.light a2 a3) L := ⟨hM.wl.disk_ hk6' hD6, Live.light hM.live (by omega) (by omega) hw2.2 hw3.2, hM.into (hk6'.mono fun k _ h => by rcases h with h | h; exact .inl h; exact .inr (.inl h)), hM.pb, hM.gb, hM.fb⟩
        have hz6 : Wal.hs (d.light a2 a3) = 4096 := by unfold Wal.hs; rw [light_data, hdl]
        clear hM hD6 hk6 hk6' hlit
        go_wp2_with fail
        refine (append_step F b p g _ L a1 len1 cap1 last hM6.live (by omega) (by omega) (by rw [hz6]; omega) w6 hM6.wl (hr1.below hM6.k.none_below) (fun a ha => hM6.old (hr1old a ha))).mono ?_
        rintro e w7 ⟨d7, -, hdl7, hk7, h7⟩
        have hk07 := hM6.into hk7
        have hU : ∃ (z : Int) (N : List (List UInt8)) (gen h : Nat), e = .returned (.int .i64 z) ∧ (z = 0 ∧ N = R ++ [last] ∨ z = 20 ∧ (N = R ∨ N = R ++ [last])) ∧ Wal.Has d7.start gen N h ∧ DiskAt w7 p g d7 := by
          rcases h7 with ⟨rfl, hL7, -, F7, hW7, -⟩ | ⟨-, rfl, -, hW7, hH⟩
          · have := Has.start hL7.has
            refine ⟨0, _, _, _, rfl, .inl ⟨rfl, ?_⟩, this, hW7.disk⟩
            show L.recs ++ [last] = _
            rw [hrec]
          · rcases hH with hH | hH
            · exact ⟨20, _, _, _, rfl, .inr ⟨rfl, .inl hrec⟩, Has.start hH, hW7.disk⟩
            · refine ⟨20, _, _, _, rfl, .inr ⟨rfl, .inr ?_⟩, Has.start hH, hW7.disk⟩
              show L.recs ++ [last] = _
              rw [hrec]
        obtain ⟨z, N, gen, h, rfl, hzN, hHas, hD7⟩ := hU
        have HZ := Lib.hid hzN
        have hpb := hM6.pb
        have hgb := hM6.gb
        clear h7 hzN hM6 hk7 hz6 hrec hfin3
        go_wp2_with fail
        refine (start_any p g d7 w7 hD7).mono ?_
        rintro e w8 ⟨rfl, hD8, hk8⟩
        have hk08 : Keeps Non w w8 := hk07.into hk8 fun k h1 h2 => by have h2 : k = p := h2; show False; omega
        clear hD7 hk8 hk07
        go_wp2_with fail
        refine (open_step p g d7.start gen N h hHas rfl w8 hD8).mono ?_
        rintro e w9 ⟨d9, hH9, -, hk9, h9⟩
        rcases h9 with ⟨Fm, bm, rfl, hLm, hlit9, hWm, hFm⟩ | ⟨hbad, _⟩
        rotate_left
        · exact absurd hbad (by show ¬ (false = true); simp)
        have hlit9' : d9.lit = false := hlit9 rfl
        have hk09 : Keeps Non w w9 := hk08.into hk9 fun k h1 h2 => by show False; omega
        have hs8 := hk08.size
        have hNfit := hLm.ex.fit
        have HNfit : Hid (∀ x ∈ N, x.length ≤ 140737488355328) := fun x hx => by have := (hNfit x hx).2; omega
        have hNl : N.length ≤ 1048576 := by
          obtain ⟨v, vs, hl⟩ := hWm.log
          exact hl.many
        clear hk9 hlit9 hHas hH9 hD8 hNfit hk08
        go_wp2_with fail
        refine (open_step p g d9 gen N h hLm.has hLm.up w9 hWm.disk).mono ?_
        rintro e w10 ⟨d10, -, -, hk10, h10⟩
        rcases h10 with ⟨Fn, bn, rfl, hLn, -, hWn, hFn⟩ | ⟨hbad, _⟩
        rotate_left
        · rw [hlit9'] at hbad; cases hbad
        have hWm10 := hWm.disk_ hk10 hWn.disk
        have hk010 : Keeps Non w w10 := hk09.into hk10 fun k h1 h2 => by show False; omega
        clear hk10 hk09 hWm hLn hLm hlit9'
        go_wp2_with fail
        refine (records_any Fm bm p g d10 _ w10 hWm10).mono ?_
        rintro e w11 ⟨v11, vs11, rfl, hown11, hk11⟩
        have hWn11 := hWn.keepN hk11
        have hWm11 := hWm10.keepN hk11
        have hk011 := hk010.trans hk11
        clear hk11 hWm10 hWn hk010
        obtain ⟨A11, c11, rfl, hrd11, _, _⟩ := hown11.rdL (by show N.length ≤ _; omega) HNfit.out
        go_wp2_with fail
        refine (records_any Fn bn p g d10 _ w11 hWn11).mono ?_
        rintro e w12 ⟨v12, vs12, rfl, hown12, hk12⟩
        obtain ⟨A12, c12, rfl, hrd12, _, _⟩ := hown12.rdL (by show N.length ≤ _; omega) HNfit.out
        have hWm12 := hWm11.keepN hk12
        have hk012 := hk011.trans hk12
        have hrd11' := hrd11.below hk12.none_below
        clear hrd11 hown11 hown12 hWm11 hWn11 hk12 hk011
        go_wp2_with fail
        refine (same8_any A11 A12 N.length N.length c11 c12 N N w12 hrd11' hrd12).mono ?_
        rintro e w13 ⟨rfl, qq, hqq⟩
        have hk13 : Keeps Non w12 w13 := by rw [← hqq]; exact (Keeps.refl _ _).drewN qq
        have hWm13 := hWm12.keepN hk13
        have hk013 := hk012.trans hk13
        clear hrd11' hrd12 hWm12 hk012 hqq hk13
        have hown14 := own_empty_at w13 22
        have hk14 : Keeps Non w (w13.alloc (.cells #[] 22)) := hk013.alloc _
        have hsrc14 := src_rows (P := Try.prog) Try.underlying28 (w0.below hk14.none_below) cap0
        go_wp2_with (at_builtin; first
          | (refine wpList_append_src _ rfl _ _ 28 28 rfl w13.heap.size 22 (.slice none 0 0) 1 24 Try.underlying28 info_sl rfl (by decide) v15 _ _ rfl hown16 _ _ _ rfl hsrc16 (by unfold maxLen; omega) (by omega) hsz16 ?_; intro v17 w17 hown17 hgrow17 hat17)
          | (refine wpList_append_src _ rfl _ _ 28 28 rfl w13.heap.size 22 (.slice none 0 0) 1 24 Try.underlying28 info_sl rfl (by decide) (.slice (some ⟨w13.heap.size, 0, none⟩) 0 0) _ _ rfl hown14 _ _ _ rfl hsrc14 (by unfold maxLen; omega) (by omega) (by simp) ?_; intro v15 w15 hown15 hgrow15 hat15; have hb15 : Below w13.heap.size w13 w15 := ((Below.refl _ _).alloc (Nat.le_refl _) _).grown hgrow15 (by simp) (fun j hj => by simp [Value.ownBlock] at hj; omega); have hk15 : Keeps Non w13 w15 := Keeps.of_below hb15; have hown16 : (w15.alloc (.cells #[.slice a1 len1 cap1] 22)).ownsRow w13.heap.size 22 1 v15 (0 + k) ([] ++ slicesOf A0 L0 C0 k) := own_kept hown15 ((Keeps.refl Non _).alloc _) (fun _ _ h => h); have hsrc16 : Src Try.prog 1 28 (.slice (some ⟨w15.heap.size, 0, none⟩) 1 1) 1 [.slice a1 len1 cap1] (w15.alloc (.cells #[.slice a1 len1 cap1] 22)) := Src.ofSlice _ Try.underlying28 ⟨w15.heap.size, 0, none⟩ 1 1 [.slice a1 len1 cap1] rfl (World.news_of_block (heap_new _ _)) (fun u hu => by simp at hu; subst hu; rfl); have hsz16 : w13.heap.size ≤ (w15.alloc (.cells #[.slice a1 len1 cap1] 22)).heap.size := (by have := hk15.size; simp; omega)))
        simp only [Nat.zero_add, List.nil_append] at hown17
        have hb17 := own_below hown16 (hb15.alloc (by have := hk15.size; omega) (.cells #[.slice a1 len1 cap1] 22)) hgrow17 hsz16
        have hk17 : Keeps Non w13 w17 := Keeps.of_below hb17
        have hk017 := hk013.trans hk17
        have hWm17 := hWm13.keepN hk17
        have hR17 : RdL w a0 k R := by rw [HR.out]; exact w0.rdL k (Nat.le_refl _) (by omega) (fun r hr => by have := Hall.out r hr; omega)
        have hel : ∀ (j : Nat) (l : List UInt8), (R ++ [last])[j]? = some l → ∃ A m c, (slicesOf A0 L0 C0 k ++ [.slice a1 len1 cap1])[j]? = some (.slice A m c) ∧ RdB w17 A m l := by
          intro j l hl
          by_cases hj : j < k
          · rw [List.getElem?_append_left (by rw [HRl.out]; exact hj), HR.out] at hl
            obtain ⟨bb, off, rfl, hrow⟩ := w0.place (by omega)
            obtain ⟨-, hrk⟩ := hrow j hj
            have hlj := Hall.out j hj
            refine ⟨A0 j, L0 j, C0 j, by rw [List.getElem?_append_left (by rw [slicesOf_length]; exact hj), slicesOf_get hj], ?_⟩
            have : l = bytesOf (Z0 j) (L0 j) := by simpa [rowsOf, List.getElem?_map, List.getElem?_range hj] using hl.symm
            subst this
            exact (hrk.rdB (by omega)).below hk017.none_below
          · have hj' : j = k := by
              have := (List.getElem?_eq_some_iff.1 hl).1
              rw [List.length_append, HRl.out] at this
              simp at this; omega
            subst hj'
            rw [List.getElem?_append_right (by rw [HRl.out]; exact Nat.le_refl _), HRl.out] at hl
            simp at hl
            subst hl
            exact ⟨a1, len1, cap1, by rw [List.getElem?_append_right (by rw [slicesOf_length]; exact Nat.le_refl _), slicesOf_length]; simp, hr1.below hk017.none_below⟩
        obtain ⟨A17, c17, rfl, hrd17, -, -⟩ := own_rdL hown17 (ls := R ++ [last]) (by rw [List.length_append, HRl.out]; rfl) (by omega) hel
        have HRl2 := Lib.hid hrd17
        clear hown14 hk14 hsrc14 hown15 hgrow15 hat15 hb15 hk15 hown16 hsrc16 hsz16 hown17 hgrow17 hat17 hb17 hk17 hel hWm13 hk013 hrd17
        refine (records_any Fm bm p g d10 _ w17 hWm17).mono ?_
        rintro e w18 ⟨v18, vs18, rfl, hown18, hk18⟩
        obtain ⟨A18, c18, rfl, hrd18, _, _⟩ := hown18.rdL (by show N.length ≤ _; omega) HNfit.out
        have hk018 := hk017.trans hk18
        have hrdA := HRl2.out.below hk18.none_below
        have hrdR := hR17.below hk018.none_below
        clear hown18 hk18 hk017 hWm17 HRl2 hR17
        have hrd18' : RdL w18 A18 N.length N := hrd18
        clear hrd18
        have hS1 := same8_any A18 A17 N.length (k + 1) c18 c17 N (R ++ [last]) w18 hrd18' hrdA
        have HS1 := Lib.hid hS1
        clear hS1 hrdA
        rcases HZ.out with ⟨hz0, hN⟩ | ⟨hz20, hN⟩
        · subst hz0
          have HN : Hid (decide (N = R ++ [last]) = true) := by show _ = _; simpa using hN
          clear hN HZ
          go_wp2_with fail
          refine HS1.out.mono ?_
          rintro e w19 ⟨rfl, qq, rfl⟩
          rw [HN.out]
          go_wp2_with fail
          go_ret
          exact ⟨rfl, (hk018.drewN qq).none_below⟩
        · subst hz20
          by_cases hNe : N = R ++ [last]
          · have HN : Hid (decide (N = R ++ [last]) = true) := by show _ = _; simpa using hNe
            clear hN HZ hNe
            go_wp2_with fail
            refine HS1.out.mono ?_
            rintro e w19 ⟨rfl, qq, rfl⟩
            rw [HN.out]
            go_wp2_with fail
            go_ret
            exact ⟨rfl, (hk018.drewN qq).none_below⟩
          · have hNR : N = R := by rcases hN with h | h; exact h; exact absurd h hNe
            have HN : Hid (decide (N = R ++ [last]) = false) := by show _ = _; simpa using hNe
            have HN2 : Hid (decide (N = R) = true) := by show _ = _; simpa using hNR
            have hS2 := fun qq => same8_any A18 a0 N.length k c18 cap0 N R (w18.drewN qq) (hrd18'.below ((Keeps.refl Non w18).drewN qq).none_below) (hrdR.below ((Keeps.refl Non w18).drewN qq).none_below)
            have HS2 := Lib.hid hS2
            clear hN HZ hNe hNR hS2 hrdR hrd18'
            go_wp2_with fail
            refine HS1.out.mono ?_
            rintro e w19 ⟨rfl, qq, rfl⟩
            rw [HN.out]
            go_wp2_with fail
            refine (HS2.out qq).mono ?_
            rintro e w20 ⟨rfl, q2, rfl⟩
            rw [HN2.out]
            go_wp2_with fail
            go_ret
            exact ⟨rfl, (hk018.drewN (qq + q2)).none_below⟩
end Go.Proofs.Ytbmamhcjbhnkiaa
