/- The walk of the law KvBetween. -/
import Derived.Test.YtbmamhcjbhnkiaaGreatKzbh
namespace Go.Proofs.YtbmamhcjbhnkiaaGreat
open Go.RowKit Go.Maps
open Kv (Bs Tab)

set_option maxHeartbeats 8000000 in
set_option maxRecDepth 100000 in
theorem kvBetween_walk (a0 : Option Addr) (len0 cap0 : Nat) (S : List Bs) (a1 a2 : ByteArray) (a3 : Int) (w : World) (w0 : IsStrs w a0 len0 cap0 S) (w1 : a1.size ≤ maxLen) (w2 : a2.size ≤ maxLen) (w3 : (Lit.int .i64 a3).wf = true) :
    Calls Tryz.prog 4 #[.slice a0 len0 cap0, .string a1, .string a2, .int .i64 a3] w fun e w' => e = .returned (.bool true) ∧ Below w.heap.size w w' := by
  have hmost : -9223372036854775808 ≤ a3 ∧ a3 ≤ 9223372036854775807 := by simpa [Lit.wf, IntKind.min, IntKind.max, IntKind.bits, IntKind.signed] using w3
  obtain ⟨fr, hfr, hfl⟩ := str_of a1
  obtain ⟨to, hto, htl⟩ := str_of a2
  rw [hfr, hto]
  clear hfr hto hfl htl w1 w2 w3
  have hlen0 := w0.hlen
  have hle0 := w0.le
  have hcm0 := w0.cm
  have HS := Lib.hid hlen0
  clear hlen0
  by_cases hout : 30 < len0
  · go_enter Tryz.func4, Tryz.ntmps4
    go_wp2_with fail
    refine (anchor9_any _).mono ?_
    rintro e w3 ⟨rfl, hk1⟩
    go_wp2_with fail
    go_ret
    exact ⟨rfl, hk1.none_below⟩
  · have hout' : len0 ≤ 30 := by omega
    go_enter Tryz.func4, Tryz.ntmps4
    go_wp2_with fail
    refine (anchor9_any _).mono ?_
    rintro e w2 ⟨rfl, hk02⟩
    have Hf := Lib.hid (filled_any a0 len0 cap0 S w2 (w0.keepN hk02) hout')
    have HK02 := Lib.hid hk02
    clear hk02
    go_wp2_with fail
    refine Hf.out.mono ?_
    rintro e w3 (⟨rfl, hbad, hk3⟩ | ⟨Z, s, b, m, age, v, T, rfl, hst, htab, hown, hTl, hok, hk3⟩)
    · have hk03 := HK02.out.trans hk3
      have HBad := Lib.hid hbad
      clear Hf HK02 hk3 hbad
      go_wp2
      go_loopw [39] (fun i wr => ∃ j : Nat, j ≤ len0 ∧ i = .int .i64 j ∧ wr = w3 ∧ Hid (∀ k ∈ S.take j, ¬ (k.length < 1 ∨ 20 < k.length))) (fun i _ => len0 - (intOf i).toNat)
      case atStart => exact ⟨0, Nat.zero_le _, rfl, rfl, fun k hk => by simp at hk⟩
      case round =>
        obtain ⟨j, hj, rfl, rfl, HA⟩ := hrel
        by_cases hlt : j < len0
        · obtain ⟨kb, ko, k, rfl, hk, q0⟩ := (w0.keepN hk03).at_ hlt
          have HN : Hid (¬ (k.length < 1 ∨ 20 < k.length) → ∀ q ∈ S.take (j + 1), ¬ (q.length < 1 ∨ 20 < q.length)) := fun hn q hq => by
            obtain ⟨hj', e⟩ := List.getElem?_eq_some_iff.1 hk
            rw [List.take_succ_eq_append_getElem hj', e] at hq
            rcases List.mem_append.1 hq with r | r
            · exact HA.out q r
            · simp at r; subst r; exact hn
          clear hk
          by_cases h1 : k.length < 1
          · go_wp2_with fail
            go_ret
            exact ⟨rfl, hk03.none_below⟩
          · by_cases h2 : 20 < k.length
            · go_wp2_with fail
              go_ret
              exact ⟨rfl, hk03.none_below⟩
            · have HN2 := Lib.hid (HN.out (by omega))
              go_wp2_with fail
              go_roundw
              case rel => exact ⟨j + 1, by omega, by go_num, trivial, HN2⟩
              case measure => simp [intOf]; omega
        · obtain rfl : j = len0 := by omega
          exfalso
          obtain ⟨k, hk, hb⟩ := HBad.out
          exact HA.out k (by rw [List.take_of_length_le (by rw [HS.out]; exact Nat.le_refl _)]; exact hk) hb
    · have hk03 := HK02.out.trans hk3
      obtain ⟨Av, cv, rfl, hRv, -, -⟩ := OwnR.rdR (Z := Non) hown (by omega) (fun _ _ q => q)
      have hrise := htab.rise
      obtain ⟨N, hN⟩ : ∃ N, N = a3.toNat := ⟨_, rfl⟩
      have HNN := Lib.hid hN
      obtain ⟨n, hn⟩ : ∃ n, n = T.length := ⟨_, rfl⟩
      have HTn := Lib.hid hn
      rw [← hn] at hRv hTl ⊢
      have HOk := Lib.hid hok
      have hNlt : ∀ q : Nat, q < N ↔ (q : Int) < a3 := fun q => by rw [hN]; omega
      have HNlt := Lib.hid hNlt
      clear Hf HK02 hk3 hown hn hok hN hNlt
      go_wp2
      go_loopw [14, 15, 16, 17, 54] (fun vw vn vl vz i wr => ∃ (j : Nat) (x y : Int) (t : Nat), j ≤ n ∧ i = .int .i64 j ∧ vn = .int .i64 x ∧ vl = .int .i64 y ∧ vz = .int .i64 t ∧ t ≤ j * 4224 ∧ Hid (t = bsum (T.take j)) ∧ Hid (NextI T fr j x) ∧ Hid (LastI T fr j y) ∧ OwnR wr w3.heap.size vw (Wanted fr to N T j) ∧ Below w3.heap.size w3 wr) (fun _ _ _ _ i _ => n - (intOf i).toNat)
      case atStart => exact ⟨0, -1, -1, 0, Nat.zero_le _, rfl, rfl, rfl, rfl, Nat.zero_le _, rfl, NextI.zero _ _, LastI.zero _ _, by simpa [Wanted, btw] using OwnR.nil w3 w3.heap.size, Below.refl _ _⟩
      case round =>
        obtain ⟨j, x, y, t, hj, rfl, rfl, rfl, rfl, htb, HT, HX, HY, hO, hbel⟩ := hrel
        by_cases hlt : j < n
        · obtain ⟨b0, off0, ⟨yk, yv⟩, rfl, hy, q0, q1⟩ := (hRv.below hbel).at_ hlt
          simp only [] at q0 q1
          obtain ⟨o1, o2, o3⟩ := HOk.out _ (List.mem_of_getElem? hy)
          simp only [] at o1 o2 o3
          have HT2 : Hid (t + (yk.length + yv.length) = bsum (T.take (j + 1))) := by show _ = _; rw [bsum_take hy, ← HT.out]
          have ht2 : t + (yk.length + yv.length) ≤ (j + 1) * 4224 := by omega
          have htc : t + (yk.length + yv.length) ≤ 1000000 := by omega
          have hWl : (Wanted fr to N T j).length ≤ j := by unfold Wanted btw; have := List.length_filter_le (inr fr to) (T.take j); have := List.length_take_le j T; rw [List.length_take]; omega
          have eg := run_geq (P := Tryz.prog) 9 yk fr
          obtain ⟨lt1, hlt1⟩ : ∃ lt1, lt1 = decide (yk < fr) := ⟨_, rfl⟩
          have e1 : Op.bytesLess yk fr = lt1 := by rw [hlt1, Kv.less_eq]
          obtain ⟨lt2, hlt2⟩ : ∃ lt2, lt2 = decide (yk < to) := ⟨_, rfl⟩
          have e2 : Op.bytesLess yk to = lt2 := by rw [hlt2, Kv.less_eq]
          have HXo := Lib.hid (fun h => HX.out.old (a := fr) hy h)
          have HXn := Lib.hid (fun h1 h2 => HX.out.new (a := fr) hy h1 h2)
          have HYo := Lib.hid (fun h => HY.out.old (a := fr) hy h)
          have HYn := Lib.hid (fun h => HY.out.new (a := fr) hy h)
          have HWs := Lib.hid (fun h => wanted_skip (a := fr) (z := to) (n := N) hy h)
          have HWn := Lib.hid (fun h h' => wanted_snoc (a := fr) (z := to) (n := N) hy h h')
          have hinr : inr fr to (yk, yv) = (!lt1 && lt2) := by rw [hlt1, hlt2]; rfl
          have HIn := Lib.hid hinr
          have H1 := Lib.hid hlt1
          obtain ⟨O, hO0⟩ : ∃ O, O = Wanted fr to N T j := ⟨_, rfl⟩
          rw [← hO0] at hO hWl HWs HWn
          have hlO := HNlt.out O.length
          clear hy hlt1 hlt2 hinr hO0 HX HY HT
          unfold OwnR at hO
          obtain ⟨A7, q7, rfl⟩ := own_slice hO
          have hlt7 : ∀ k, (Value.slice A7 O.length q7).ownBlock = some k → k < wr.heap.size := fun k q => own_lt hO q
          have kA : Keeps Non wr (wr.alloc (.cells #[sv yk, sv yv] 54)) := (Keeps.refl _ _).alloc _
          have hbA : (wr.alloc (.cells #[sv yk, sv yv] 54)).heap[wr.heap.size]? = some (.cells #[sv yk, sv yv] 54 (0, 0)) := heap_new _ _
          have c0 : (wr.alloc (.cells #[sv yk, sv yv] 54)).cell? ⟨wr.heap.size, 0, none⟩ = some (sv yk) := by simp only [World.cell?, hbA, Option.isSome_none, Bool.false_eq_true, if_false]; rfl
          have c1 : (wr.alloc (.cells #[sv yk, sv yv] 54)).cell? ⟨wr.heap.size, 1, none⟩ = some (sv yv) := by simp only [World.cell?, hbA, Option.isSome_none, Bool.false_eq_true, if_false]; rfl
          have hO5 := own_kept hO kA (fun _ _ q => q)
          have hbel5 : Below w3.heap.size w3 (wr.alloc (.cells #[sv yk, sv yv] 54)) := hbel.alloc hbel.size _
          clear hO hbel kA hbA
          cases lt1 with
          | true =>
            have HOw : Hid (OwnR (wr.alloc (.cells #[sv yk, sv yv] 54)) w3.heap.size (.slice A7 O.length q7) O) := hO5
            have hyf : yk < fr := of_decide_eq_true H1.out.symm
            have HY2 := Lib.hid (HYn.out hyf)
            have HX2 := Lib.hid (HXo.out (.inr hyf))
            have HW2 := Lib.hid (HWs.out (.inl HIn.out))
            clear hO5 hyf HXo HXn HYo HYn HWs HWn
            go_wp2_with fail
            go_roundw
            case rel => exact ⟨j + 1, x, (j : Int), t + (yk.length + yv.length), by omega, by go_num, rfl, rfl, by go_num, ht2, HT2, HX2, HY2, by rw [HW2.out]; exact HOw.out, hbel5⟩
            case measure => simp [intOf]; omega
          | false =>
            have hyf : ¬ yk < fr := of_decide_eq_false H1.out.symm
            have HY2 := Lib.hid (HYo.out hyf)
            have HXn2 : Hid (x < 0 → NextI T fr (j + 1) (j : Int)) := fun h => HXn.out h hyf
            clear HYo HYn HXn
            by_cases hin : lt2 = true ∧ (O.length : Int) < a3
            · obtain ⟨rfl, hin2⟩ := hin
              have HW2 := Lib.hid (HWn.out HIn.out (hlO.2 hin2))
              have kA1 : Keeps Non (wr.alloc (.cells #[sv yk, sv yv] 54)) ((wr.alloc (.cells #[sv yk, sv yv] 54)).alloc (.cells #[sv yk, sv yv] 54)) := (Keeps.refl _ _).alloc _
              have oA1 := own_kept hO5 kA1 (fun _ _ q => q)
              have bA1 : Below w3.heap.size w3 ((wr.alloc (.cells #[sv yk, sv yv] 54)).alloc (.cells #[sv yk, sv yv] 54)) := hbel5.alloc hbel5.size _
              have zA1 := bA1.size
              have sA1 := src_ref (wr.alloc (.cells #[sv yk, sv yv] 54)) yk yv
              rw [show (wr.alloc (.cells #[sv yk, sv yv] 54)).heap.size = wr.heap.size + 1 by simp] at sA1
              have d0 := kA1.cell c0 id
              have d1 := kA1.cell c1 id
              clear kA1 hO5 HWs HWn
              go_wp2_with (at_builtin; refine hold_it ?_)
              refine let_go ?_
              refine wpList_append_src _ rfl _ _ 32 32 rfl w3.heap.size 54 (.agg #[.string ⟨#[]⟩, .string ⟨#[]⟩]) 2 32 Tryz.underlying32 info_ref rfl (by decide) (.slice A7 O.length q7) _ _ rfl oA1 _ _ _ rfl sA1 (by unfold maxLen; omega) (by omega) zA1 ?_
              intro v1 w1 o1 g1 _
              have b1 := own_below oA1 bA1 g1 zA1
              have kg := Keeps.of_grown g1
              have hnb : ¬ some wr.heap.size = (Value.slice A7 O.length q7).ownBlock := fun e => by have := hlt7 _ e.symm; omega
              have f0 := kg.cell d0 hnb
              have f1 := kg.cell d1 hnb
              clear oA1 bA1 zA1 sA1 g1 kg c0 c1 d0 d1
              have HOw : Hid (OwnR w1 w3.heap.size v1 (O ++ [(yk, yv)])) := by
                show World.ownsRow _ _ _ _ _ _ _
                simpa [encR] using o1
              clear o1
              by_cases hx : x < 0
              · have HX2 := Lib.hid (HXn2.out hx)
                go_wp2_with fail
                go_roundw
                case rel => exact ⟨j + 1, (j : Int), y, t + (yk.length + yv.length), by omega, by go_num, rfl, rfl, by go_num, ht2, HT2, HX2, HY2, by rw [HW2.out]; exact HOw.out, b1⟩
                case measure => simp [intOf]; omega
              · have HX2 := Lib.hid (HXo.out (.inl (by omega)))
                go_wp2_with fail
                go_roundw
                case rel => exact ⟨j + 1, x, y, t + (yk.length + yv.length), by omega, by go_num, rfl, rfl, by go_num, ht2, HT2, HX2, HY2, by rw [HW2.out]; exact HOw.out, b1⟩
                case measure => simp [intOf]; omega
            · have hno : lt2 = false ∨ (lt2 = true ∧ ¬ (O.length : Int) < a3) := by
                cases lt2
                · exact .inl rfl
                · exact .inr ⟨rfl, fun h => hin ⟨rfl, h⟩⟩
              have HW2 : Hid (Wanted fr to N T (j + 1) = O) := HWs.out (by
                rcases hno with h | ⟨_, h⟩
                · exact .inl (by rw [HIn.out, h]; rfl)
                · exact .inr (fun q => h (hlO.1 q)))
              have HOw : Hid (OwnR (wr.alloc (.cells #[sv yk, sv yv] 54)) w3.heap.size (.slice A7 O.length q7) O) := hO5
              clear hin HWs HWn hO5
              by_cases hx : x < 0
              · have HX2 := Lib.hid (HXn2.out hx)
                rcases hno with rfl | ⟨rfl, hn2⟩
                all_goals
                  go_wp2_with fail
                  go_roundw
                  case rel => exact ⟨j + 1, (j : Int), y, t + (yk.length + yv.length), by omega, by go_num, rfl, rfl, by go_num, ht2, HT2, HX2, HY2, by rw [HW2.out]; exact HOw.out, hbel5⟩
                  case measure => simp [intOf]; omega
              · have HX2 := Lib.hid (HXo.out (.inl (by omega)))
                rcases hno with rfl | ⟨rfl, hn2⟩
                all_goals
                  go_wp2_with fail
                  go_roundw
                  case rel => exact ⟨j + 1, x, y, t + (yk.length + yv.length), by omega, by go_num, rfl, rfl, by go_num, ht2, HT2, HX2, HY2, by rw [HW2.out]; exact HOw.out, hbel5⟩
                  case measure => simp [intOf]; omega
        · obtain rfl : j = n := by omega
          have hTt : T.take j = T := List.take_of_length_le (by rw [HTn.out]; exact Nat.le_refl _)
          have HT2 : Hid (t = bsum T) := by have := HT.out; rw [hTt] at this; exact this
          have hWf : Wanted fr to N T j = (btw fr to T).take N := by unfold Wanted; rw [hTt]
          have hXf : NextI T fr T.length x := by rw [← HTn.out]; exact HX.out
          have hYf : LastI T fr T.length y := by rw [← HTn.out]; exact HY.out
          rw [hWf] at hO
          obtain ⟨Wn, hWn⟩ : ∃ Wn, Wn = (btw fr to T).take N := ⟨_, rfl⟩
          have HWn := Lib.hid hWn
          have hbl : (btw fr to T).length ≤ T.length := List.length_filter_le _ _
          have hjl := HTn.out
          have HbL : Hid (Wn.length ≤ 30) := by show _ ≤ _; rw [hWn, List.length_take]; omega
          rw [← hWn] at hO
          obtain ⟨A14, c14, rfl, hR14, -, -⟩ := OwnR.rdR (Z := Non) hO (by have := HbL.out; omega) (fun _ _ q => q)
          have kr : Keeps Non w3 wr := Keeps.of_below hbel
          have hstr := hst.keep kr id
          have htabr := htab.keepN kr
          have hRr := hRv.keepN kr
          have hkr := hk03.trans kr
          have He := Lib.hid (sedge_any Z s b m age T fr false wr hstr htabr)
          have HXf := Lib.hid hXf
          have HYf := Lib.hid hYf
          have HJl := Lib.hid hjl
          clear hXf hYf HX HY HT hTt hWf hO hbl hWn kr hbel hRv hst htab hk03 hjl
          go_wp2_with fail
          refine He.out.mono ?_
          rintro e w4 ⟨b1, f1, rfl, hE1, k4⟩
          have hst4 := hstr.keep k4 id
          have htab4 := htabr.keepN k4
          have hR4 := hRr.keepN k4
          have hk4 := hkr.trans k4
          have hR14' := hR14.keepN k4
          have He2 := Lib.hid (sedge_any Z s b m age T fr true w4 hst4 htab4)
          have HE1 := Lib.hid (edge_up hrise hE1 HXf.out)
          clear He hstr htabr hRr hkr k4 hE1 hR14
          go_wp2_with fail
          refine He2.out.mono ?_
          rintro e w5 ⟨b2, f2, rfl, hE2, k5⟩
          have hst5 := hst4.keep k5 id
          have htab5 := htab4.keepN k5
          have hR5 := hR4.keepN k5
          have hk5 := hk4.trans k5
          have HR14 := Lib.hid (hR14'.keepN k5)
          have HE2 := Lib.hid (edge_down hrise hE2 HYf.out)
          have hTl2 : T.length ≤ 1048576 := by rw [← HJl.out]; omega
          have Hb := Lib.hid (sbetween_any Z s b m age T fr to a3 hmost hTl2 w5 hst5 htab5)
          rw [← HNN.out] at Hb
          have hcell : Hid (∀ (i : Nat) (q : Bs × Bs), i < T.length → T[i]? = some q → ∃ bx ox, Av = some ⟨bx, ox, none⟩ ∧ w5.cell? ⟨bx, ox + i * 2, none⟩ = some (sv q.1)) := fun i q hi hq => by
            obtain ⟨bx, ox, e, -, -, hc⟩ := hR5.cells (by rw [HJl.out]; omega)
            exact ⟨bx, ox, e, (hc i q hq).1⟩
          have HST := Lib.hid hst5
          have HTAB := Lib.hid htab5
          clear He2 hst4 htab4 hR4 hk4 k5 hE2 hR14' hR5 hst5 htab5 HXf HYf
          rw [HJl.out] at hTl hlt ⊢
          rcases HE1.out with ⟨rfl, rfl, rfl⟩ | ⟨i1, p1, rfl, rfl, hi1, hp1, rfl⟩
          · rcases HE2.out with ⟨rfl, rfl, rfl⟩ | ⟨i2, p2, rfl, rfl, hi2, hp2, rfl⟩
            · clear HE1 HE2 hcell
              go_wp2_with fail
              refine Hb.out.mono ?_
              rintro e w6 ⟨v6, d6, rfl, hd6, hP6, k6⟩
              rw [← HWn.out] at hd6
              have hdl : d6.length ≤ 1048576 := by have := congrArg List.length hd6; rw [keys_len] at this; have := HbL.out; omega
              have Hl := Lib.hid (listed_any _ v6 d6 w6 hdl hP6)
              rw [hd6] at Hl
              have HST6 := Lib.hid (HST.out.keep k6 id)
              have HTAB6 := Lib.hid (HTAB.out.keepN k6)
              have HR6 := Lib.hid (HR14.out.keepN k6)
              have hk6 := hk5.trans k6
              clear Hb hP6 hd6 hdl k6 HST HTAB HR14 hk5
              go_wp2_with fail
              refine Hl.out.mono ?_
              rintro e w7 ⟨v7, rfl, hO7, k7⟩
              obtain ⟨A7, c7, rfl, hR7, -, -⟩ := OwnR.rdR (Z := Non) hO7 (by have := HbL.out; omega) (fun _ _ q => q)
              have Hsm := Lib.hid (same9_any _ _ A7 A14 _ _ c7 c14 _ _ w7 hR7 (HR6.out.keepN k7))
              rw [decide_eq_true rfl] at Hsm
              have HST7 := Lib.hid (HST6.out.keep k7 id)
              have HTAB7 := Lib.hid (HTAB6.out.keepN k7)
              have hk7 := hk6.trans k7
              clear Hl hO7 hR7 k7 HST6 HTAB6 HR6 hk6
              go_wp2_with fail
              refine Hsm.out.mono ?_
              rintro e wx ⟨rfl, q, rfl⟩
              have kq : Keeps Non w7 (w7.drewN q) := (Keeps.refl _ _).drewN q
              have hkx := hk7.trans kq
              have Hz := Lib.hid (ssize_any Z s b m age T hTl2 HOk.out (w7.drewN q) (HST7.out.keep kq id) (HTAB7.out.keepN kq))
              rw [← HT2.out] at Hz
              clear Hsm HST7 HTAB7 hk7 kq
              go_wp2_with fail
              refine Hz.out.mono ?_
              rintro e wy ⟨rfl, ky⟩
              have hky := hkx.trans ky
              clear Hz hkx ky
              go_wp2_with fail
              go_ret
              exact ⟨rfl, hky.none_below⟩
            · obtain ⟨bx, ox, rfl, g2⟩ := hcell.out i2 p2 hi2 hp2
              clear HE1 HE2 hcell hp2
              go_wp2_with fail
              refine Hb.out.mono ?_
              rintro e w6 ⟨v6, d6, rfl, hd6, hP6, k6⟩
              rw [← HWn.out] at hd6
              have hdl : d6.length ≤ 1048576 := by have := congrArg List.length hd6; rw [keys_len] at this; have := HbL.out; omega
              have Hl := Lib.hid (listed_any _ v6 d6 w6 hdl hP6)
              rw [hd6] at Hl
              have HST6 := Lib.hid (HST.out.keep k6 id)
              have HTAB6 := Lib.hid (HTAB.out.keepN k6)
              have HR6 := Lib.hid (HR14.out.keepN k6)
              have hk6 := hk5.trans k6
              clear Hb hP6 hd6 hdl k6 HST HTAB HR14 hk5
              go_wp2_with fail
              refine Hl.out.mono ?_
              rintro e w7 ⟨v7, rfl, hO7, k7⟩
              obtain ⟨A7, c7, rfl, hR7, -, -⟩ := OwnR.rdR (Z := Non) hO7 (by have := HbL.out; omega) (fun _ _ q => q)
              have Hsm := Lib.hid (same9_any _ _ A7 A14 _ _ c7 c14 _ _ w7 hR7 (HR6.out.keepN k7))
              rw [decide_eq_true rfl] at Hsm
              have HST7 := Lib.hid (HST6.out.keep k7 id)
              have HTAB7 := Lib.hid (HTAB6.out.keepN k7)
              have hk7 := hk6.trans k7
              clear Hl hO7 hR7 k7 HST6 HTAB6 HR6 hk6
              go_wp2_with fail
              refine Hsm.out.mono ?_
              rintro e wx ⟨rfl, q, rfl⟩
              have kq : Keeps Non w7 (w7.drewN q) := (Keeps.refl _ _).drewN q
              have hkx := hk7.trans kq
              have Hz := Lib.hid (ssize_any Z s b m age T hTl2 HOk.out (w7.drewN q) (HST7.out.keep kq id) (HTAB7.out.keepN kq))
              rw [← HT2.out] at Hz
              clear Hsm HST7 HTAB7 hk7 kq
              go_wp2_with fail
              refine Hz.out.mono ?_
              rintro e wy ⟨rfl, ky⟩
              have hky := hkx.trans ky
              clear Hz hkx ky
              go_wp2_with fail
              go_ret
              exact ⟨rfl, hky.none_below⟩
          · obtain ⟨bx, ox, rfl, g1⟩ := hcell.out i1 p1 hi1 hp1
            rcases HE2.out with ⟨rfl, rfl, rfl⟩ | ⟨i2, p2, rfl, rfl, hi2, hp2, rfl⟩
            · clear HE1 HE2 hcell
              clear hp1
              go_wp2_with fail
              refine Hb.out.mono ?_
              rintro e w6 ⟨v6, d6, rfl, hd6, hP6, k6⟩
              rw [← HWn.out] at hd6
              have hdl : d6.length ≤ 1048576 := by have := congrArg List.length hd6; rw [keys_len] at this; have := HbL.out; omega
              have Hl := Lib.hid (listed_any _ v6 d6 w6 hdl hP6)
              rw [hd6] at Hl
              have HST6 := Lib.hid (HST.out.keep k6 id)
              have HTAB6 := Lib.hid (HTAB.out.keepN k6)
              have HR6 := Lib.hid (HR14.out.keepN k6)
              have hk6 := hk5.trans k6
              clear Hb hP6 hd6 hdl k6 HST HTAB HR14 hk5
              go_wp2_with fail
              refine Hl.out.mono ?_
              rintro e w7 ⟨v7, rfl, hO7, k7⟩
              obtain ⟨A7, c7, rfl, hR7, -, -⟩ := OwnR.rdR (Z := Non) hO7 (by have := HbL.out; omega) (fun _ _ q => q)
              have Hsm := Lib.hid (same9_any _ _ A7 A14 _ _ c7 c14 _ _ w7 hR7 (HR6.out.keepN k7))
              rw [decide_eq_true rfl] at Hsm
              have HST7 := Lib.hid (HST6.out.keep k7 id)
              have HTAB7 := Lib.hid (HTAB6.out.keepN k7)
              have hk7 := hk6.trans k7
              clear Hl hO7 hR7 k7 HST6 HTAB6 HR6 hk6
              go_wp2_with fail
              refine Hsm.out.mono ?_
              rintro e wx ⟨rfl, q, rfl⟩
              have kq : Keeps Non w7 (w7.drewN q) := (Keeps.refl _ _).drewN q
              have hkx := hk7.trans kq
              have Hz := Lib.hid (ssize_any Z s b m age T hTl2 HOk.out (w7.drewN q) (HST7.out.keep kq id) (HTAB7.out.keepN kq))
              rw [← HT2.out] at Hz
              clear Hsm HST7 HTAB7 hk7 kq
              go_wp2_with fail
              refine Hz.out.mono ?_
              rintro e wy ⟨rfl, ky⟩
              have hky := hkx.trans ky
              clear Hz hkx ky
              go_wp2_with fail
              go_ret
              exact ⟨rfl, hky.none_below⟩
            · obtain ⟨by_, oy, ey, g2⟩ := hcell.out i2 p2 hi2 hp2
              cases ey
              clear HE1 HE2 hcell hp2
              clear hp1
              go_wp2_with fail
              refine Hb.out.mono ?_
              rintro e w6 ⟨v6, d6, rfl, hd6, hP6, k6⟩
              rw [← HWn.out] at hd6
              have hdl : d6.length ≤ 1048576 := by have := congrArg List.length hd6; rw [keys_len] at this; have := HbL.out; omega
              have Hl := Lib.hid (listed_any _ v6 d6 w6 hdl hP6)
              rw [hd6] at Hl
              have HST6 := Lib.hid (HST.out.keep k6 id)
              have HTAB6 := Lib.hid (HTAB.out.keepN k6)
              have HR6 := Lib.hid (HR14.out.keepN k6)
              have hk6 := hk5.trans k6
              clear Hb hP6 hd6 hdl k6 HST HTAB HR14 hk5
              go_wp2_with fail
              refine Hl.out.mono ?_
              rintro e w7 ⟨v7, rfl, hO7, k7⟩
              obtain ⟨A7, c7, rfl, hR7, -, -⟩ := OwnR.rdR (Z := Non) hO7 (by have := HbL.out; omega) (fun _ _ q => q)
              have Hsm := Lib.hid (same9_any _ _ A7 A14 _ _ c7 c14 _ _ w7 hR7 (HR6.out.keepN k7))
              rw [decide_eq_true rfl] at Hsm
              have HST7 := Lib.hid (HST6.out.keep k7 id)
              have HTAB7 := Lib.hid (HTAB6.out.keepN k7)
              have hk7 := hk6.trans k7
              clear Hl hO7 hR7 k7 HST6 HTAB6 HR6 hk6
              go_wp2_with fail
              refine Hsm.out.mono ?_
              rintro e wx ⟨rfl, q, rfl⟩
              have kq : Keeps Non w7 (w7.drewN q) := (Keeps.refl _ _).drewN q
              have hkx := hk7.trans kq
              have Hz := Lib.hid (ssize_any Z s b m age T hTl2 HOk.out (w7.drewN q) (HST7.out.keep kq id) (HTAB7.out.keepN kq))
              rw [← HT2.out] at Hz
              clear Hsm HST7 HTAB7 hk7 kq
              go_wp2_with fail
              refine Hz.out.mono ?_
              rintro e wy ⟨rfl, ky⟩
              have hky := hkx.trans ky
              clear Hz hkx ky
              go_wp2_with fail
              go_ret
              exact ⟨rfl, hky.none_below⟩
end Go.Proofs.YtbmamhcjbhnkiaaGreat
