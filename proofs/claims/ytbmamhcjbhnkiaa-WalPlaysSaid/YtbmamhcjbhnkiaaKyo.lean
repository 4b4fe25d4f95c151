/- The walk of the law WalOpens. -/
import Derived.Test.YtbmamhcjbhnkiaaKyn
namespace Go.Proofs.Ytbmamhcjbhnkiaa
open Go.RowKit

/-- An Append whose first write is cut leaves the records as they were. -/
theorem app_cut {d : Dk} {L : Wal.Lg} (h : Wal.Live d L) {b : List UInt8} (hroom : L.fin + (9 + b.length) ≤ Wal.hs d) (hl : d.lit = true) (hf : ¬ 1 ≤ d.fw) :
    (Wal.app d L b).2 = false ∧ Wal.Has (Wal.app d L b).1 L.gen L.recs L.half ∧ (Wal.app d L b).1.data.length = d.data.length := by
  have hr0 := Wal.recOf_length L.gen L.fin b 0
  have hz : 2 * Wal.hs d ≤ d.data.length := by unfold Wal.hs; omega
  have h01 : L.half = 0 ∨ L.half = 1 := by have := h.h1; omega
  have hno : (Wal.wr d L.half L.fin (Wal.recOf L.gen L.fin b 0)).2 = false := by
    have e := Dk.err_burnt (x := ((L.half * Wal.hs d + L.fin : Nat) : Int)) (l := Wal.recOf L.gen L.fin b 0) h.up hl hf (by omega) (by rw [hr0]; rcases h01 with q | q <;> rw [q] <;> omega)
    show decide (_ = _) = false
    rw [e]; rfl
  have w1 := Wal.wr_wrote (b := Wal.recOf L.gen L.fin b 0) (a := L.fin) h.wf h.up h.h1 (by omega)
  obtain ⟨k, hk, hp, _⟩ := w1.ex
  unfold Wal.app
  rw [Wal.andThen_no hno]
  refine ⟨hno, ⟨w1.wf, by rw [w1.hs]; exact h.big, h.h1, ?_, by rw [w1.other]; exact h.other⟩, w1.len⟩
  rw [hp]
  have := h.ex.part (b := b) (by omega) k
  rw [← h.fin] at this
  exact this

set_option maxHeartbeats 8000000 in
set_option maxRecDepth 100000 in
theorem walOpens_walk (a0 : Option Addr) (len0 cap0 : Nat) (A0 : Nat → Option Addr) (L0 C0 : Nat → Nat) (Z0 : Nat → List Int) (a1 : Option Addr) (len1 cap1 : Nat) (z1 : List Int) (a2 : Option Addr) (len2 cap2 : Nat) (z2 : List Int) (w : World)
    (w0 : IsRows .u8 w a0 len0 cap0 A0 L0 C0 Z0) (w1 : IsRow .u8 w a1 len1 cap1 z1) (w2 : IsRow .i64 w a2 len2 cap2 z2) :
    Calls Try.prog 15 #[.slice a0 len0 cap0, .slice a1 len1 cap1, .slice a2 len2 cap2] w fun e w' => e = .returned (.bool true) ∧ Below w.heap.size w w' := by
  have hlen0 := w0.len_le
  have hcap0 := w0.cap_le
  have hlen1 := w1.len_le
  have hcap1 := w1.cap_le
  have hlen2 := w2.len_le
  have hcap2 := w2.cap_le
  by_cases hout : 5 < len0 ∨ 200 < len1 ∨ 12 < len2
  · have hcases : 5 < len0 ∨ (¬ 5 < len0 ∧ 200 < len1) ∨ (¬ 5 < len0 ∧ ¬ 200 < len1 ∧ 12 < len2) := by omega
    clear hout
    rcases hcases with q1 | ⟨q1, q2⟩ | ⟨q1, q2, q3⟩
    all_goals
      go_enter Try.func15, Try.ntmps15
      go_wp2_with fail
      refine (anchor8_any _).mono ?_
      rintro e w3 ⟨rfl, hk1⟩
      go_wp2_with fail
      go_ret
      exact ⟨rfl, hk1.none_below⟩
  · have q1 : ¬ 5 < len0 := by omega
    have q2 : ¬ 200 < len1 := by omega
    have q3 : ¬ 12 < len2 := by omega
    clear hout
    have hr1 := w1.rdB (by omega)
    generalize bytesOf z1 len1 = rest at *
    clear w1
    have HL1 := Lib.hid hr1.len
    go_enter Try.func15, Try.ntmps15
    go_wp2_with fail
    refine (anchor8_any _).mono ?_
    rintro e w3 ⟨rfl, hk1⟩
    go_wp2_with fail
    refine (new_ex 4096 (by omega) (by omega) w3).mono ?_
    rintro e w4 ⟨p, g, rfl, hD, hp, hg, hk2⟩
    have hk4 := hk1.trans hk2
    have hs3 := hk1.size
    clear hk1 hk2
    go_wp2_with fail
    refine (open_fresh p g 4096 (by omega) (by omega) w4 hD).mono ?_
    rintro e w5 ⟨d5, F5, b, rfl, hL5, hlit5, hdl5, hW5, hF5, hk5⟩
    have hs4 := hk4.size
    have hM5 : Mine w w5 F5 b p g d5 ⟨0, 1, 16, [], false⟩ := ⟨hW5, hL5, hk4.into hk5 fun k h1 h2 => by show False; omega, by omega, by omega, fun k h => by have := hF5 k h; omega⟩
    clear hk4 hk5 hD hL5 hW5 hF5
    go_wp2_with fail
    go_loopw [51] (fun i wr => ∃ (k : Nat) (F : Nat → Prop) (d : Dk) (L : Wal.Lg), k ≤ len0 ∧ i = .int .i64 k ∧ Mine w wr F b p g d L ∧ L.recs = rowsOf L0 Z0 k ∧ L.fin ≤ 16 + 209 * k ∧ d.lit = false ∧ d.data.length = 4096 ∧ (∀ r, r < k → 1 ≤ L0 r ∧ L0 r ≤ 200)) (fun i _ => len0 - (intOf i).toNat)
    case atStart => exact ⟨0, F5, d5, _, Nat.zero_le _, rfl, hM5, rfl, Nat.le_refl _, hlit5, hdl5, fun r h => by omega⟩
    case round =>
      obtain ⟨k, F, d, L, hk, rfl, hM, hrec, hfin, hlit, hdl, hall⟩ := hrel
      have hz : Wal.hs d = 2048 := by unfold Wal.hs; rw [hdl]
      clear hM5
      by_cases hlt : k < len0
      · obtain ⟨bb, off, rfl, hrow⟩ := w0.place (by omega)
        obtain ⟨hck, hrk⟩ := hrow k hlt
        have hck' := hM.k.cell hck id
        have hnk := hrk.len_le
        by_cases hbad : L0 k < 1 ∨ 200 < L0 k
        · have hcases : L0 k < 1 ∨ (¬ L0 k < 1 ∧ 200 < L0 k) := by omega
          have hkb := hM.k.none_below
          clear hbad hck hrk hrow hrec hfin hall hM
          rcases hcases with t1 | ⟨t1, t2⟩
          all_goals
            go_wp2_with fail
            go_ret
            exact ⟨rfl, hkb⟩
        · have t1 : ¬ L0 k < 1 := by omega
          have t2 : ¬ 200 < L0 k := by omega
          have hrd := hrk.rdB (by omega)
          have hrdw := hrd.below hM.k.none_below
          have hold := hrd.old (by omega)
          have HR : Hid (rowsOf L0 Z0 (k + 1) = L.recs ++ [bytesOf (Z0 k) (L0 k)]) := by show _ = _; rw [rowsOf_succ, hrec]
          have hxl := hrd.len
          obtain ⟨x, hx⟩ : ∃ x, x = bytesOf (Z0 k) (L0 k) := ⟨_, rfl⟩
          rw [← hx] at hrdw HR hxl
          have HXL := Lib.hid hxl
          have hfin2 := hM.live.le
          clear hbad hck hrk hrow hrd hrec hx hxl
          go_wp2_with fail
          refine (append_step F b p g d L (A0 k) (L0 k) (C0 k) x hM.live (by omega) (by omega) (by rw [hz]; omega) wr hM.wl hrdw (fun a ha => hM.old (hold a ha))).mono ?_
          rintro e w6 ⟨d6, -, hdl6, hk6, h6⟩
          rcases h6 with ⟨rfl, hL6, hlit6, F6, hW6, hF6⟩ | ⟨hbad, _⟩
          rotate_left
          · rw [hlit] at hbad; cases hbad
          have hM6 : Mine w w6 F6 b p g d6 (L.added x) := ⟨hW6, hL6, hM.into hk6, hM.pb, hM.gb, fun k h => by rcases hF6 k h with h | h; exact hM.fb k h; have := hM.k.size; omega⟩
          have hlit6' := hlit6 hlit
          have HM6 := Lib.hid hM6
          have HA : Hid (∀ r, r < k + 1 → 1 ≤ L0 r ∧ L0 r ≤ 200) := fun r hr => by
            rcases Nat.lt_or_ge r k with h | h
            · exact hall r h
            · obtain rfl : r = k := by omega
              omega
          have Hfin : Hid ((L.added x).fin ≤ 16 + 209 * (k + 1)) := by show L.fin + (9 + x.length) ≤ _; rw [HXL.out]; omega
          clear hM6 hM hW6 hL6 hF6 hk6 hall hfin hrdw
          go_wp2_with fail
          go_roundw
          case rel => exact ⟨k + 1, F6, d6, L.added x, by omega, by go_num, HM6.out, HR.out.symm, Hfin.out, hlit6', by rw [hdl6, hdl], HA.out⟩
          case measure => simp [intOf]; omega
      · obtain rfl : k = len0 := by omega
        have hfin2 := hM.live.le
        have hkk : k ≤ 5 := by omega
        have hfin3 : L.fin ≤ 1061 := by omega
        have hgl := hM.live.has.gen_le
        have hmany : L.recs.length * 10 ≤ L.fin := by have := cost_ge L.recs hM.live.ex.fit; have := hM.live.fin; omega
        obtain ⟨R, hR⟩ : ∃ R, R = L.recs := ⟨_, rfl⟩
        have HR : Hid (R = rowsOf L0 Z0 k) := by show _ = _; rw [hR, hrec]
        have HRl : Hid (R.length = k) := by show _ = _; rw [hR, hrec, rowsOf_length]
        have HRf : Hid (∀ t ∈ R, t.length ≤ 140737488355328) := fun t ht => by rw [hR] at ht; have := (hM.live.ex.fit t ht).2; omega
        have HallR : Hid (RdL w a0 k R) := by rw [HR.out]; exact w0.rdL k (Nat.le_refl _) (by omega) (fun r hr => by have := hall r hr; omega)
        have HR2 := Lib.hid hR
        clear hfin hkk hrec hall hR
        go_wp2_with fail
        refine (light_any p g d 0 (len1 : Int) (by omega) (by omega) wr hM.wl.disk).mono ?_
        rintro e w6 ⟨rfl, hD6, hk6⟩
        have hk6' : Keeps (fun k => k = p ∨ k = g) wr w6 := hk6.mono fun _ _ h => .inl h
        have hM6 : Mine w w6 F b p g (d.light 0 (len1 : Int)) L := ⟨hM.wl.disk_ hk6' hD6, Live.light hM.live (by omega) (by omega) (by omega) (by omega), hM.into (hk6'.mono fun k _ h => by rcases h with h | h; exact .inl h; exact .inr (.inl h)), hM.pb, hM.gb, hM.fb⟩
        have hz6 : Wal.hs (d.light 0 (len1 : Int)) = 2048 := by unfold Wal.hs; rw [light_data, hdl]
        have hdl6 : (d.light 0 (len1 : Int)).data.length = 4096 := by rw [light_data, hdl]
        have hlit6 : (d.light 0 (len1 : Int)).lit = true := by rw [Dk.light_ok (by omega) (by omega)]
        have hfw6 : ¬ 1 ≤ (d.light 0 (len1 : Int)).fw := by rw [Dk.light_ok (by omega) (by omega)]; show ¬ (1 : Int) ≤ 0; omega
        obtain ⟨d6, hd6⟩ : ∃ d6, d6 = d.light 0 (len1 : Int) := ⟨_, rfl⟩
        rw [← hd6] at hM6 hz6 hdl6 hlit6 hfw6
        clear hM hD6 hk6 hk6' hlit hd6
        have hown8 := own_empty_at w6 5
        have hk8 : Keeps Non w (w6.alloc (.cells #[] 5)) := hM6.k.alloc _
        have hsrc8 := src_bytes (P := Try.prog) Try.underlying22 (hr1.below hk8.none_below) cap1
        go_wp2_with (at_builtin; first
          | (refine wpList_append_src _ rfl _ _ 22 22 rfl w6.heap.size 5 (.int .u8 0) 1 1 Try.underlying22 info_u8 rfl (by decide) v9 _ _ rfl hown10 _ _ _ rfl hsrc10 (by unfold maxLen; omega) (by omega) hsz10 ?_; intro v11 w11 hown11 hgrow11 hat11)
          | (refine wpList_append_src _ rfl _ _ 22 22 rfl w6.heap.size 5 (.int .u8 0) 1 1 Try.underlying22 info_u8 rfl (by decide) (.slice (some ⟨w6.heap.size, 0, none⟩) 0 0) _ _ rfl hown8 _ _ _ rfl hsrc8 (by unfold maxLen; omega) (by omega) (by simp) ?_; intro v9 w9 hown9 hgrow9 hat9; have hb9 : Below w6.heap.size w6 w9 := ((Below.refl _ _).alloc (Nat.le_refl _) _).grown hgrow9 (by simp) (fun j hj => by simp [Value.ownBlock] at hj; omega); have hk9 : Keeps Non w6 w9 := Keeps.of_below hb9; have hkA : Keeps Non w9 (w9.alloc (.cells #[.int .u8 1] 5)) := (Keeps.refl _ _).alloc _; have hown10 : (w9.alloc (.cells #[.int .u8 1] 5)).ownsRow w6.heap.size 5 1 v9 (0 + len1) ([] ++ rest.map bv) := own_kept hown9 hkA (fun _ _ h => h); have hrB : RdB (w9.alloc (.cells #[.int .u8 1] 5)) (some ⟨w9.heap.size, 0, none⟩) 1 [1] := RdB.of_whole (heap_new _ _) rfl rfl (by decide); have hsrc10 := src_bytes (P := Try.prog) Try.underlying22 hrB 1; have hsz10 : w6.heap.size ≤ (w9.alloc (.cells #[.int .u8 1] 5)).heap.size := (by have := hk9.size; simp; omega)))
        have hown12 : w11.ownsRow w6.heap.size 5 1 v11 (len1 + 1) ((rest ++ [1]).map bv) := by simpa using hown11
        have hb11 := own_below hown10 (hb9.alloc (by have := hk9.size; omega) (.cells #[.int .u8 1] 5)) hgrow11 hsz10
        have hk11 : Keeps Non w6 w11 := Keeps.of_below hb11
        obtain ⟨Ax, cx, rfl, hrdx, hbx, hncx, hcx⟩ := own_rdB hown12 (by omega)
        have hxo : ∀ a, Ax = some a → w6.heap.size ≤ a.block := fun a ha => own_ge hown12 _ (hbx a ha)
        have hW11 := hM6.wl.keepN hk11
        have hold6 := hM6.wl.old
        have hpg6 := hM6.wl.disk.lt
        have hk011 := hM6.k.trans hk11
        have hcut := app_cut hM6.live (b := rest ++ [1]) (by rw [hz6, List.length_append, HL1.out]; show L.fin + (9 + (len1 + 1)) ≤ 2048; omega) hlit6 (by omega)
        have hdead := hM6.live.alive
        have hup6 := hM6.live.up
        have hh1 := hM6.live.h1
        have hpb := hM6.pb
        have hgb := hM6.gb
        have hfb := hM6.fb
        clear hown8 hk8 hsrc8 hown9 hgrow9 hat9 hb9 hk9 hkA hown10 hrB hsrc10 hsz10 hown11 hgrow11 hat11 hb11 hk11 hown12 hbx
        have Hap := Lib.hid (append_do F b p g d6 L hh1 (by omega) Ax (len1 + 1) cx (rest ++ [1]) (by rw [hz6]; omega) hmany (by omega) (by omega) w11 hW11 hdead hup6 hrdx (fun a ha h => by
          have := hxo a ha
          rcases h with h | h | h
          · omega
          · omega
          · have := hold6 _ h; omega))
        have Hcut := Lib.hid hcut
        clear hM6 hcut hrdx hW11
        go_wp2_with fail
        refine Hap.out.mono ?_
        rintro e w12 ⟨h12, hk12⟩
        rcases h12 with ⟨hbad, _⟩ | ⟨-, rfl, hW12⟩
        · rw [Hcut.out.1] at hbad; cases hbad
        obtain ⟨-, hH12, hdl12⟩ := Hcut.out
        have hD12 := hW12.disk
        have hk012 : Keeps Non w w12 := hk011.into hk12 fun k h1 h2 => by
          show False
          rcases h2 with h | h | h
          · omega
          · omega
          · have := hfb k h; omega
        rw [← HR2.out] at hH12
        obtain ⟨d12, hd12⟩ : ∃ d12, d12 = (Wal.app d6 L (rest ++ [1])).1 := ⟨_, rfl⟩
        rw [← hd12] at hH12 hdl12 hD12
        have hdl12' : d12.data.length = 4096 := by rw [hdl12, hdl6]
        obtain ⟨gen, hgen⟩ : ∃ gen, gen = L.gen := ⟨_, rfl⟩
        obtain ⟨h, hh⟩ : ∃ h, h = L.half := ⟨_, rfl⟩
        rw [← hgen, ← hh] at hH12
        clear Hap Hcut hW12 hk12 hk011 hd12 hgen hh hdl12
        go_wp2_with fail
        refine (stored_any p g d12 (by omega) w12 hD12).mono ?_
        rw [Wal.refRead_has hH12]
        rintro e w13 ⟨v13, vs13, rfl, hown13, hk13⟩
        have hpg12 := hD12.lt
        have hD13 := hD12.keep hk13 id id
        have hk013 := hk012.trans hk13
        obtain ⟨A13, c13, rfl, -, hcc13, -⟩ := hown13.rdL (by show R.length ≤ _; rw [HRl.out]; omega) HRf.out
        have hRl : (R, gen).1.length = k := HRl.out
        rw [hRl] at hcc13 hown13 ⊢
        have hapart : ∀ k, w12.heap.size ≤ k → ¬ (k = p ∨ k = g) := fun k hk h => by omega
        have hkl : ∀ wz : World, Keeps (fun k => k = p ∨ k = g) w13 wz → RdL wz A13 k R ∧ Keeps Non w wz := fun wz hk => by
          obtain ⟨A, c, e, hr, _, _⟩ := (hown13.keep hk hapart).rdL (by show R.length ≤ _; rw [HRl.out]; omega) HRf.out
          have e2 : (R, gen).1.length = k := HRl.out
          rw [e2] at e hr
          cases e
          exact ⟨hr, hk013.into hk fun k h1 h2 => by show False; rcases h2 with h | h <;> omega⟩
        have Hkl := Lib.hid hkl
        clear hkl hown13 hk13 hk012 hD12 hapart
        go_wp2_with fail
        go_loopw [86] (fun i wr => ∃ (j : Nat) (d : Dk), j ≤ len2 ∧ i = .int .i64 j ∧ Wal.Has d gen R h ∧ DiskAt wr p g d ∧ d.data.length = 4096 ∧ Keeps (fun k => k = p ∨ k = g) w13 wr) (fun i _ => len2 - (intOf i).toNat)
        case atStart => exact ⟨0, d12, Nat.zero_le _, rfl, hH12, hD13, hdl12', Keeps.refl _ _⟩
        case round =>
          rename World => ws
          obtain ⟨j, dj, hj, rfl, hHj, hDj, hdlj, hkj⟩ := hrel
          clear hH12 hD13 hdl12'
          by_cases hlt2 : j < len2
          · obtain ⟨bb, off, rfl, hzl, hcell, hwf⟩ := w2.place (by omega)
            have ez := hcell j (by omega)
            obtain ⟨n, hn⟩ : ∃ n, n = z2.getD j 0 := ⟨_, rfl⟩
            rw [← hn] at ez
            have hnw : -9223372036854775808 ≤ n ∧ n ≤ 9223372036854775807 := by
              have hmem : n ∈ z2 := by rw [hn, List.getD_eq_getElem?_getD, List.getElem?_eq_getElem (show j < z2.length by omega)]; exact List.getElem_mem _
              have := hwf n hmem
              simpa [Lit.wf, IntKind.min, IntKind.max, IntKind.bits, IntKind.signed] using this
            have hkw := (Hkl.out ws hkj).2
            have ezw := hkw.cell ez id
            clear ez hcell hwf hn hkw
            by_cases hneg : n < 0
            · have hkb := (Hkl.out ws hkj).2.none_below
              go_wp2_with fail
              go_ret
              exact ⟨rfl, hkb⟩
            · go_wp2_with fail
              refine (start_any p g dj ws hDj).mono ?_
              rintro e wA ⟨rfl, hDA, hkA⟩
              have hkA' : Keeps (fun k => k = p ∨ k = g) w13 wA := hkj.trans (hkA.mono fun _ _ h => .inl h)
              have hHA := Has.start hHj
              have hdlA : dj.start.data.length = 4096 := hdlj
              clear hDj hkA hHj hkj
              go_wp2_with fail
              refine (light_any p g dj.start 0 n (by omega) hnw.2 wA hDA).mono ?_
              rintro e wB ⟨rfl, hDB, hkB⟩
              have hkB' := hkA'.trans (hkB.mono (T := fun k => k = p ∨ k = g) fun _ _ h => .inl h)
              have hHB := Has.light hHA (a := 0) (c := n) (by omega) hnw.2
              have hupB : (dj.start.light 0 n).down = false := by rw [Dk.light_ok (by omega) (by omega)]; rfl
              have hdlB : (dj.start.light 0 n).data.length = 4096 := by rw [light_data]; exact hdlA
              clear hDA hkB hHA hkA'
              go_wp2_with fail
              refine (open_step p g _ gen R h hHB hupB wB hDB).mono ?_
              rintro e wC ⟨dC, hHC, hdlC, hkC, hC⟩
              have hkC' := hkB'.trans hkC
              have hdlC' : dC.data.length = 4096 := by rw [hdlC, hdlB]
              clear hDB hHB hkB' hkC hupB hdlB hdlC
              rcases hC with ⟨F2, b2, rfl, -, -, hW2, -⟩ | ⟨-, rfl, -, hD2⟩
              · have hD2 := hW2.disk
                clear hW2
                go_wp2_with fail
                refine (stored_any p g dC (by omega) wC hD2).mono ?_
                rw [Wal.refRead_has hHC]
                rintro e wD ⟨v4, vs4, rfl, hown4, hk4⟩
                obtain ⟨A4, c4, rfl, hrd4, _, _⟩ := hown4.rdL (by show R.length ≤ _; rw [HRl.out]; omega) HRf.out
                rw [hRl] at hrd4 ⊢
                have hD4 := hD2.keep hk4 id id
                have hkD := hkC'.trans (hk4.mono (T := fun k => k = p ∨ k = g) fun _ _ h => h.elim)
                obtain ⟨hrw, -⟩ := Hkl.out wD hkD
                have hrd4' : RdL wD A4 k R := hrd4
                clear hown4 hk4 hD2 hkC' hrd4
                go_wp2_with fail
                refine (same8_any A4 A13 k k c4 c13 R R wD hrd4' hrw).mono ?_
                rintro e wE ⟨rfl, qq, hqq⟩
                have hkE : Keeps Non wD wE := by rw [← hqq]; exact (Keeps.refl _ _).drewN qq
                have hDE := hD4.keep hkE id id
                have hkE' := hkD.trans (hkE.mono (T := fun k => k = p ∨ k = g) fun _ _ h => h.elim)
                clear hqq hkE hD4 hkD hrd4' hrw
                go_wp2_with fail
                go_roundw
                case rel => exact ⟨j + 1, dC, by omega, by go_num, hHC, hDE, hdlC', hkE'⟩
                case measure => simp [intOf]; omega
              · go_wp2_with fail
                refine (stored_any p g dC (by omega) wC hD2).mono ?_
                rw [Wal.refRead_has hHC]
                rintro e wD ⟨v4, vs4, rfl, hown4, hk4⟩
                obtain ⟨A4, c4, rfl, hrd4, _, _⟩ := hown4.rdL (by show R.length ≤ _; rw [HRl.out]; omega) HRf.out
                rw [hRl] at hrd4 ⊢
                have hD4 := hD2.keep hk4 id id
                have hkD := hkC'.trans (hk4.mono (T := fun k => k = p ∨ k = g) fun _ _ h => h.elim)
                obtain ⟨hrw, -⟩ := Hkl.out wD hkD
                have hrd4' : RdL wD A4 k R := hrd4
                clear hown4 hk4 hD2 hkC' hrd4
                go_wp2_with fail
                refine (same8_any A4 A13 k k c4 c13 R R wD hrd4' hrw).mono ?_
                rintro e wE ⟨rfl, qq, hqq⟩
                have hkE : Keeps Non wD wE := by rw [← hqq]; exact (Keeps.refl _ _).drewN qq
                have hDE := hD4.keep hkE id id
                have hkE' := hkD.trans (hkE.mono (T := fun k => k = p ∨ k = g) fun _ _ h => h.elim)
                clear hqq hkE hD4 hkD hrd4' hrw
                go_wp2_with fail
                go_roundw
                case rel => exact ⟨j + 1, dC, by omega, by go_num, hHC, hDE, hdlC', hkE'⟩
                case measure => simp [intOf]; omega
          · obtain rfl : j = len2 := by omega
            go_wp2_with fail
            refine (start_any p g dj ws hDj).mono ?_
            rintro e wA ⟨rfl, hDA, hkA⟩
            have hkA' : Keeps (fun k => k = p ∨ k = g) w13 wA := hkj.trans (hkA.mono fun _ _ h => .inl h)
            have hHA := Has.start hHj
            clear hDj hkA hHj hkj
            go_wp2_with fail
            refine (open_step p g dj.start gen R h hHA rfl wA hDA).mono ?_
            rintro e wC ⟨dC, hHC, hdlC, hkC, hC⟩
            have hkC' := hkA'.trans hkC
            clear hDA hHA hkA' hkC
            rcases hC with ⟨F2, b2, rfl, -, -, hW2, -⟩ | ⟨hbad, _⟩
            rotate_left
            · exact absurd hbad (by show ¬ (false = true); simp)
            go_wp2_with fail
            refine (records_any F2 b2 p g dC _ wC hW2).mono ?_
            rintro e wD ⟨v4, vs4, rfl, hown4, hk4⟩
            obtain ⟨A4, c4, rfl, hrd4, _, _⟩ := hown4.rdL (by show R.length ≤ _; rw [HRl.out]; omega) HRf.out
            have hRl4 : (⟨h, gen, 16 + Wal.cost R, R, false⟩ : Wal.Lg).recs.length = k := HRl.out
            rw [hRl4] at hrd4 ⊢
            have hkD := hkC'.trans (hk4.mono (T := fun k => k = p ∨ k = g) fun _ _ h => h.elim)
            obtain ⟨hrw, hkwD⟩ := Hkl.out wD hkD
            have hrd4' : RdL wD A4 k R := hrd4
            clear hown4 hk4 hW2 hkC' hrd4
            go_wp2_with fail
            refine (same8_any A4 A13 k k c4 c13 R R wD hrd4' hrw).mono ?_
            rintro e wE ⟨rfl, qq, hqq⟩
            have hkE : Keeps Non wD wE := by rw [← hqq]; exact (Keeps.refl _ _).drewN qq
            have hrwE := hrw.below hkE.none_below
            have hkwE := hkwD.trans hkE
            have hra := HallR.out.below hkwE.none_below
            clear hqq hkE hrd4' hrw hkwD
            go_wp2_with fail
            refine (same8_any A13 a0 k k c13 cap0 R R wE hrwE hra).mono ?_
            rintro e wF ⟨rfl, q2, hq2⟩
            have hkF : Keeps Non wE wF := by rw [← hq2]; exact (Keeps.refl _ _).drewN q2
            have hkwF := hkwE.trans hkF
            go_wp2_with fail
            go_ret
            exact ⟨rfl, hkwF.none_below⟩
end Go.Proofs.Ytbmamhcjbhnkiaa
