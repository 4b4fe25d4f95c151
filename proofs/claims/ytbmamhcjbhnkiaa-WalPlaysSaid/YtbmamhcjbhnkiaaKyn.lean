/- The walk of the law WalForged. -/
import Derived.Test.YtbmamhcjbhnkiaaKyj
import Derived.Test.YtbmamhcjbhnkiaaKym
namespace Go.Proofs.Ytbmamhcjbhnkiaa
open Go.RowKit

/-- What a log is told in rows of its own, laid open. -/
theorem OwnL.open_ {w : World} {base : Nat} {v : Value} {vs : List Value} {ls : List (List UInt8)} (h : OwnL w base v vs ls) (h0 : 0 < ls.length) (hle : ls.length ≤ 140737488355328) (hb : ∀ x ∈ ls, x.length ≤ 140737488355328) :
    ∃ g c, v = .slice (some ⟨g, 0, none⟩) ls.length c ∧ ls.length ≤ c ∧ c ≤ 9223372036854775807 ∧ base ≤ g ∧ RdL w (some ⟨g, 0, none⟩) ls.length ls ∧ ∀ (j : Nat) (x : List UInt8), ls[j]? = some x → ∃ A m, w.cell? ⟨g, j, none⟩ = some (.slice A x.length m) ∧ RdB w A x.length x := by
  obtain ⟨A, c, rfl, hr, hc1, hc2⟩ := h.rdL hle hb
  obtain ⟨g, cap, rest, e, hg, hrow, _, _⟩ := own_rowV h.row h0
  cases e
  refine ⟨g, c, rfl, hc1, hc2, hg, hr, fun j x hx => ?_⟩
  obtain ⟨u, h1, h2⟩ := h.el j x hx
  obtain ⟨A, m, rfl, hrd, _⟩ := own_rdB h2 (hb x (List.mem_of_getElem? hx))
  exact ⟨A, m, row_at hrow h1, hrd⟩

set_option maxHeartbeats 8000000 in
set_option maxRecDepth 100000 in
theorem walForged_walk (a0 : Option Addr) (len0 cap0 : Nat) (z0 : List Int) (a1 a2 : Int) (a3 : Option Addr) (len3 cap3 : Nat) (z3 : List Int) (w : World)
    (w0 : IsRow .u8 w a0 len0 cap0 z0) (w1 : (Lit.int .i64 a1).wf = true) (w2 : (Lit.int .i64 a2).wf = true) (w3 : IsRow .u8 w a3 len3 cap3 z3) :
    Calls Try.prog 16 #[.slice a0 len0 cap0, .int .i64 a1, .int .i64 a2, .slice a3 len3 cap3] w fun e w' => e = .returned (.bool true) ∧ Below w.heap.size w w' := by
  have hlen0 := w0.len_le
  have hcap0 := w0.cap_le
  have hlen3 := w3.len_le
  have hcap3 := w3.cap_le
  have hw1 : -9223372036854775808 ≤ a1 ∧ a1 ≤ 9223372036854775807 := by simpa [Lit.wf, IntKind.min, IntKind.max, IntKind.bits, IntKind.signed] using w1
  have hw2 : -9223372036854775808 ≤ a2 ∧ a2 ≤ 9223372036854775807 := by simpa [Lit.wf, IntKind.min, IntKind.max, IntKind.bits, IntKind.signed] using w2
  clear w1 w2
  by_cases hout : len0 < 1 ∨ 600 < len0 ∨ len3 < 1 ∨ 600 < len3 ∨ a1 < 0 ∨ 2 < a1 ∨ a2 < 0
  · have hcases : len0 < 1 ∨ (¬ len0 < 1 ∧ 600 < len0) ∨ (¬ len0 < 1 ∧ ¬ 600 < len0 ∧ len3 < 1) ∨ (¬ len0 < 1 ∧ ¬ 600 < len0 ∧ ¬ len3 < 1 ∧ 600 < len3) ∨ (¬ len0 < 1 ∧ ¬ 600 < len0 ∧ ¬ len3 < 1 ∧ ¬ 600 < len3 ∧ a1 < 0) ∨
        (¬ len0 < 1 ∧ ¬ 600 < len0 ∧ ¬ len3 < 1 ∧ ¬ 600 < len3 ∧ ¬ a1 < 0 ∧ 2 < a1) ∨ (¬ len0 < 1 ∧ ¬ 600 < len0 ∧ ¬ len3 < 1 ∧ ¬ 600 < len3 ∧ ¬ a1 < 0 ∧ ¬ 2 < a1 ∧ a2 < 0) := by omega
    clear hout
    rcases hcases with q1 | ⟨q1, q2⟩ | ⟨q1, q2, q3⟩ | ⟨q1, q2, q3, q4⟩ | ⟨q1, q2, q3, q4, q5⟩ | ⟨q1, q2, q3, q4, q5, q6⟩ | ⟨q1, q2, q3, q4, q5, q6, q7⟩
    all_goals
      go_enter Try.func16, Try.ntmps16
      go_wp2_with fail
      refine (anchor8_any _).mono ?_
      rintro e w3 ⟨rfl, hk1⟩
      go_wp2_with fail
      go_ret
      exact ⟨rfl, hk1.none_below⟩
  · have q1 : ¬ len0 < 1 := by omega
    have q2 : ¬ 600 < len0 := by omega
    have q3 : ¬ len3 < 1 := by omega
    have q4 : ¬ 600 < len3 := by omega
    have q5 : ¬ a1 < 0 := by omega
    have q6 : ¬ 2 < a1 := by omega
    have q7 : ¬ a2 < 0 := by omega
    clear hout
    have hr0 := w0.rdB (by omega)
    have hr3 := w3.rdB (by omega)
    generalize bytesOf z0 len0 = x at *
    generalize bytesOf z3 len3 = y at *
    clear w0 w3
    have HL0 := Lib.hid hr0.len
    have HL3 := Lib.hid hr3.len
    have hr0old := hr0.old (by omega)
    have hr3old := hr3.old (by omega)
    go_enter Try.func16, Try.ntmps16
    go_wp2_with fail
    refine (anchor8_any _).mono ?_
    rintro e w3 ⟨rfl, hk1⟩
    go_wp2_with fail
    refine (new_ex 4096 (by omega) (by omega) w3).mono ?_
    rintro e w4 ⟨p, g, rfl, hD, hp, hg, hk2⟩
    have hk4 := hk1.trans hk2
    have hs3 := hk1.size
    clear hk1 hk2
    go_wp2_with fail
    refine (open_fresh p g 4096 (by omega) (by omega) w4 hD).mono ?_
    rintro e w5 ⟨d, F, b, rfl, hL5, hlit5, hdl, hW5, hF5, hk5⟩
    have hs4 := hk4.size
    have hM5 : Mine w w5 F b p g d ⟨0, 1, 16, [], false⟩ := ⟨hW5, hL5, hk4.into hk5 fun k h1 h2 => by show False; omega, by omega, by omega, fun k h => by have := hF5 k h; omega⟩
    clear hk4 hk5 hD hL5 hW5 hF5
    go_wp2_with fail
    refine (light_any p g d a1 a2 hw1.2 hw2.2 w5 hM5.wl.disk).mono ?_
    rintro e w6 ⟨rfl, hD6, hk6⟩
    have hk6' : Keeps (fun k => k = p ∨ k = g) w5 w6 := hk6.mono fun _ _ h => .inl h
    have hM6 : Mine w w6 F b p g (d.light a1 a2) ⟨0, 1, 16, [], false⟩ := ⟨hM5.wl.disk_ hk6' hD6, Live.light hM5.live (by omega) (by omega) hw1.2 hw2.2, hM5.into (hk6'.mono fun k _ h => by rcases h with h | h; exact .inl h; exact .inr (.inl h)), hM5.pb, hM5.gb, hM5.fb⟩
    have hz6 : Wal.hs (d.light a1 a2) = 2048 := by unfold Wal.hs; rw [light_data, hdl]
    have hdl6 : (d.light a1 a2).data.length = 4096 := by rw [light_data, hdl]
    clear hM5 hD6 hk6 hk6'
    go_wp2_with fail
    refine (append_step F b p g _ _ a0 len0 cap0 x hM6.live (by omega) (by omega) (by rw [hz6]; show 16 + (9 + len0) ≤ 2048; omega) w6 hM6.wl (hr0.below hM6.k.none_below) (fun a ha => hM6.old (hr0old a ha))).mono ?_
    rintro e w7 ⟨d7, -, hdl7, hk7, h7⟩
    have hk07 := hM6.into hk7
    have hU : ∃ (z : Int) (N : List (List UInt8)) (gen h : Nat), e = .returned (.int .i64 z) ∧ (N = [x] ∨ z = 20 ∧ N = []) ∧ Wal.Has d7.start gen N h ∧ DiskAt w7 p g d7 := by
      rcases h7 with ⟨rfl, hL7, -, F7, hW7, -⟩ | ⟨-, rfl, -, hW7, hH⟩
      · have := Has.start hL7.has
        exact ⟨0, _, _, _, rfl, .inl rfl, this, hW7.disk⟩
      · rcases hH with hH | hH
        · exact ⟨20, _, _, _, rfl, .inr ⟨rfl, rfl⟩, Has.start hH, hW7.disk⟩
        · exact ⟨20, _, _, _, rfl, .inl rfl, Has.start hH, hW7.disk⟩
    obtain ⟨z, N, gen, h, rfl, hzN, hHas, hD7⟩ := hU
    have HZ := Lib.hid hzN
    have hpb := hM6.pb
    have hgb := hM6.gb
    have hNl1 : N.length ≤ 1 := by rcases hzN with rfl | ⟨_, rfl⟩ <;> simp
    have hNc : Wal.cost N ≤ 609 := by
      have := HL0.out
      rcases hzN with rfl | ⟨_, rfl⟩
      · simp only [Wal.cost]; omega
      · simp [Wal.cost]
    clear h7 hzN hM6 hk7 hz6
    go_wp2_with fail
    refine (start_any p g d7 w7 hD7).mono ?_
    rintro e w8 ⟨rfl, hD8, hk8⟩
    have hk08 : Keeps Non w w8 := hk07.into hk8 fun k h1 h2 => by have h2 : k = p := h2; show False; omega
    clear hD7 hk8 hk07
    go_wp2_with fail
    refine (open_step p g d7.start gen N h hHas rfl w8 hD8).mono ?_
    rintro e w9 ⟨d9, -, hdl9, hk9, h9⟩
    rcases h9 with ⟨Fm, bm, rfl, hLm, hlit9, hWm, hFm⟩ | ⟨hbad, _⟩
    rotate_left
    · exact absurd hbad (by show ¬ (false = true); simp)
    have hlit9' : d9.lit = false := hlit9 rfl
    have hs8 := hk08.size
    have hM9 : Mine w w9 Fm bm p g d9 ⟨h, gen, 16 + Wal.cost N, N, false⟩ := ⟨hWm, hLm, hk08.into hk9 fun k h1 h2 => by show False; omega, hpb, hgb, fun k h => by have := hFm k h; omega⟩
    have hdl9' : d9.data.length = 4096 := by rw [hdl9]; show d7.data.length = _; rw [hdl7, hdl6]
    have hz9 : Wal.hs d9 = 2048 := by unfold Wal.hs; rw [hdl9']
    clear hk9 hlit9 hHas hD8 hk08 hLm hWm hFm
    go_wp2_with fail
    refine (append_step Fm bm p g d9 _ a3 len3 cap3 y hM9.live (by omega) (by omega) (by rw [hz9]; show 16 + Wal.cost N + (9 + len3) ≤ 2048; omega) w9 hM9.wl (hr3.below hM9.k.none_below) (fun a ha => hM9.old (hr3old a ha))).mono ?_
    rintro e w10 ⟨d10, -, hdl10, hk10, h10⟩
    rcases h10 with ⟨rfl, hL10, -, F10, hW10, hF10⟩ | ⟨hbad, _⟩
    rotate_left
    · rw [hlit9'] at hbad; cases hbad
    have hk010 := hM9.into hk10
    obtain ⟨M, hM⟩ : ∃ M, M = N ++ [y] := ⟨_, rfl⟩
    have hrecs : ((⟨h, gen, 16 + Wal.cost N, N, false⟩ : Wal.Lg).added y).recs = M := by rw [hM]; rfl
    have hfit := hL10.ex.fit
    rw [hrecs] at hfit
    have HMfit : Hid (∀ t ∈ M, t.length ≤ 140737488355328) := fun t ht => by have := (hfit t ht).2; omega
    have hread : Wal.refRead d10.data = (M, ((⟨h, gen, 16 + Wal.cost N, N, false⟩ : Wal.Lg).added y).gen) := by rw [← hrecs]; exact Wal.refRead_has hL10.has
    have hMl : M.length = N.length + 1 := by rw [hM]; simp
    have hD10 := hW10.disk
    have hdl10' : d10.data.length = 4096 := by rw [hdl10, hdl9']
    have HM := Lib.hid hM
    have HRd := Lib.hid hread
    clear hM9 hk10 hL10 hF10 hfit hread hM hdl10 hdl9 hdl9' hdl7 hdl6 hz9 hlit9'
    go_wp2_with fail
    refine (records_any F10 bm p g d10 _ w10 hW10).mono ?_
    rw [hrecs]
    rintro e w11 ⟨v11, vs11, rfl, hown11, hk11⟩
    obtain ⟨gr, cr, rfl, hcr1, hcr2, -, hrd11, hel11⟩ := hown11.open_ (by omega) (by omega) HMfit.out
    have hD11 := hD10.keep hk11 id id
    have hk011 := hk010.trans hk11
    clear hown11 hW10 hD10 hk11 hk010 hrecs
    go_wp2_with fail
    refine (stored_any p g d10 (by omega) w11 hD11).mono ?_
    rw [HRd.out]
    rintro e w12 ⟨v12, vs12, rfl, hown12, hk12⟩
    obtain ⟨gs, cs, rfl, hcs1, hcs2, -, hrd12, -⟩ := hown12.open_ (by show 0 < M.length; omega) (by show M.length ≤ _; omega) HMfit.out
    have hrd11' := hrd11.below hk12.none_below
    have hk012 := hk011.trans hk12
    have hel12 : ∀ (j : Nat) (t : List UInt8), M[j]? = some t → ∃ A m, w12.cell? ⟨gr, j, none⟩ = some (.slice A t.length m) ∧ RdB w12 A t.length t := fun j t ht => by
      obtain ⟨A, m, h1, h2⟩ := hel11 j t ht
      exact ⟨A, m, hk12.cell h1 id, h2.keepN hk12⟩
    clear hown12 hrd11 hel11 hk12 hk011 hD11
    have hrd12' : RdL w12 (some ⟨gs, 0, none⟩) M.length M := hrd12
    clear hrd12
    rcases HZ.out with hN | ⟨hz20, hN⟩
    · have hM2 : M = [x, y] := by rw [HM.out, hN]; rfl
      clear hMl
      subst hM2
      subst hN
      obtain ⟨Ax, mx, ex, rx⟩ := hel12 0 x rfl
      obtain ⟨Ay, my, ey, ry⟩ := hel12 1 y rfl
      have hk12d : ∀ wS : World, Keeps Non w12.drew wS → Keeps Non w12 wS := fun wS hk => ((Keeps.refl _ _).drew).trans hk
      have hS : ∀ wS : World, Keeps Non w12.drew wS → wS.cell? ⟨gr, 1, none⟩ = some (.slice Ay y.length my) ∧
          (∀ q, (wS.drewN q).cell? ⟨gr, 0, none⟩ = some (.slice Ax x.length mx)) ∧
          (∀ q, (convert 22 9 (.slice Ax x.length mx)).run Try.prog (wS.drewN q) = .ok (.string ⟨x.toArray⟩) (wS.drewN q)) ∧
          (∀ q, (convert 22 9 (.slice a0 len0 cap0)).run Try.prog (wS.drewN q) = .ok (.string ⟨x.toArray⟩) (wS.drewN q)) ∧
          (convert 22 9 (.slice Ay y.length my)).run Try.prog wS = .ok (.string ⟨y.toArray⟩) wS ∧
          (convert 22 9 (.slice a3 len3 cap3)).run Try.prog wS = .ok (.string ⟨y.toArray⟩) wS := fun wS hk => by
        have hk' := hk12d wS hk
        have hkw := hk012.trans hk'
        exact ⟨hk'.cell ey id, fun q => (hk'.drewN q).cell ex id, fun q => run_str _ _ _ _ _ (rx.keepN (hk'.drewN q)), fun q => run_str _ _ _ _ _ (hr0.below (hkw.drewN q).none_below), run_str _ _ _ _ _ (ry.keepN hk'), run_str _ _ _ _ _ (hr3.below hkw.none_below)⟩
      have hk12w : ∀ wS : World, Keeps Non w12.drew wS → Keeps Non w wS := fun wS hk => hk012.trans (hk12d wS hk)
      have hrdl := hrd11'.below ((Keeps.refl Non w12).drew).none_below
      have hrdr := hrd12'.below ((Keeps.refl Non w12).drew).none_below
      have Hsame := Lib.hid (same8_any (some ⟨gr, 0, none⟩) (some ⟨gs, 0, none⟩) 2 2 cr cs [x, y] [x, y] w12.drew hrdl hrdr)
      have HS := Lib.hid hS
      have HK := Lib.hid hk12w
      obtain ⟨d1a, d1b, d1c, d1d, d1e, d1f⟩ := hS w12.drew (Keeps.refl _ _)
      have d1 := And.intro d1a (And.intro d1e d1f)
      clear d1b d1c d1d
      clear hrdl hrdr hrd11' hrd12' hel12 HMfit ex rx ry ey hk12d hk12w hS HRd HM
      go_wp2_with fail
      have wr1 : IntKind.i64.wrap 1 = 1 := by decide
      have wr0 : IntKind.i64.wrap 0 = 0 := by decide
      refine wp_region_held_drew (S := (fun w' => w'.cell? ⟨gr, 1, none⟩ = some (.slice Ay y.length my) ∧ (convert 22 9 (.slice Ay y.length my)).run Try.prog w' = .ok (.string ⟨y.toArray⟩) w' ∧ (convert 22 9 (.slice a3 len3 cap3)).run Try.prog w' = .ok (.string ⟨y.toArray⟩) w')) (by kernel_rfl) d1 (fun hHeld => ?_)
      refine take_l (i := 0) (v := .slice (some ⟨gr, 0, none⟩) 2 cr) rfl (by kernel_rfl) (by kernel_rfl) (by kernel_rfl) (fun _ _ _ h => h) (Or.inl ⟨by rfl, ?hy⟩) (by assumption) ?_
      case hy => (intro w hSw; (try dsimp only at hSw); go_simp)
      try simp only [Act.put, List.setIfInBounds_toArray, List.set_cons_zero, List.set_cons_succ]
      refine take_l (i := 1) (v := .slice (some ⟨gs, 0, none⟩) 2 cs) rfl (by kernel_rfl) (by kernel_rfl) (by kernel_rfl) (fun _ _ _ h => h) (Or.inl ⟨by rfl, ?hy⟩) (by assumption) ?_
      case hy => (intro w hSw; (try dsimp only at hSw); go_simp)
      try simp only [Act.put, List.setIfInBounds_toArray, List.set_cons_zero, List.set_cons_succ]
      refine wpAnyH_ready (rs := [2]) (by kernel_rfl) (by simp) ?_
      refine cons_l rfl (fun K hK => ?_) AllReadyH.nil
      go_simp
      refine Hsame.out.mono ?_
      rintro e wS ⟨rfl, qq, hqq⟩
      have hkS : Keeps Non w12.drew wS := by rw [← hqq]; exact (Keeps.refl _ _).drewN qq
      obtain ⟨s1, s2, s3, s4, s5, s6⟩ := HS.out wS hkS
      have hkw := HK.out wS hkS
      clear hqq hkS
      go_wp2_with fail
      refine hK.out _ _ ⟨s1, s5, s6⟩ (fun hHeld => ?_)
      clear hK K
      try simp only [Act.put, List.setIfInBounds_toArray, List.set_cons_zero, List.set_cons_succ]
      refine take_l (i := 3) (v := .bool false) rfl (by kernel_rfl) (by kernel_rfl) (by kernel_rfl) (fun _ _ _ h => h) (Or.inl ⟨by rfl, ?hy⟩) (by assumption) ?_
      case hy => (intro w hSw; (try dsimp only at hSw); go_simp)
      try simp only [Act.put, List.setIfInBounds_toArray, List.set_cons_zero, List.set_cons_succ]
      refine take_l (i := 4) (v := .bool false) rfl (by kernel_rfl) (by kernel_rfl) (by kernel_rfl) (fun _ _ _ h => h) (Or.inl ⟨by rfl, ?hy⟩) (by assumption) ?_
      case hy => (intro w hSw; (try dsimp only at hSw); go_simp)
      try simp only [Act.put, List.setIfInBounds_toArray, List.set_cons_zero, List.set_cons_succ]
      refine take_l (i := 5) (v := .slice (some ⟨gr, 0, none⟩) 2 cr) rfl (by kernel_rfl) (by kernel_rfl) (by kernel_rfl) (fun _ _ _ h => h) (Or.inl ⟨by rfl, ?hy⟩) (by assumption) ?_
      case hy => (intro w hSw; (try dsimp only at hSw); go_simp)
      try simp only [Act.put, List.setIfInBounds_toArray, List.set_cons_zero, List.set_cons_succ]
      refine take_l (i := 6) (v := .int .i64 2) rfl (by kernel_rfl) (by kernel_rfl) (by kernel_rfl) (fun _ _ _ h => h) (Or.inl ⟨by rfl, ?hy⟩) (by assumption) ?_
      case hy => (intro w hSw; (try dsimp only at hSw); go_simp)
      try simp only [Act.put, List.setIfInBounds_toArray, List.set_cons_zero, List.set_cons_succ]
      refine take_l (i := 7) (v := .bool false) rfl (by kernel_rfl) (by kernel_rfl) (by kernel_rfl) (fun _ _ _ h => h) (Or.inl ⟨by rfl, ?hy⟩) (by assumption) ?_
      case hy => (intro w hSw; (try dsimp only at hSw); go_simp)
      try simp only [Act.put, List.setIfInBounds_toArray, List.set_cons_zero, List.set_cons_succ]
      refine take_l (i := 8) (v := .bool false) rfl (by kernel_rfl) (by kernel_rfl) (by kernel_rfl) (fun _ _ _ h => h) (Or.inl ⟨by rfl, ?hy⟩) (by assumption) ?_
      case hy => (intro w hSw; (try dsimp only at hSw); go_simp)
      try simp only [Act.put, List.setIfInBounds_toArray, List.set_cons_zero, List.set_cons_succ]
      refine take_l (i := 9) (v := .bool false) rfl (by kernel_rfl) (by kernel_rfl) (by kernel_rfl) (fun _ _ _ h => h) (Or.inl ⟨by rfl, ?hy⟩) (by assumption) ?_
      case hy => (intro w hSw; (try dsimp only at hSw); go_simp)
      try simp only [Act.put, List.setIfInBounds_toArray, List.set_cons_zero, List.set_cons_succ]
      refine take_l (i := 10) (v := .slice (some ⟨gr, 0, none⟩) 2 cr) rfl (by kernel_rfl) (by kernel_rfl) (by kernel_rfl) (fun _ _ _ h => h) (Or.inl ⟨by rfl, ?hy⟩) (by assumption) ?_
      case hy => (intro w hSw; (try dsimp only at hSw); go_simp)
      try simp only [Act.put, List.setIfInBounds_toArray, List.set_cons_zero, List.set_cons_succ]
      refine take_l (i := 11) (v := .slice (some ⟨gr, 0, none⟩) 2 cr) rfl (by kernel_rfl) (by kernel_rfl) (by kernel_rfl) (fun _ _ _ h => h) (Or.inl ⟨by rfl, ?hy⟩) (by assumption) ?_
      case hy => (intro w hSw; (try dsimp only at hSw); go_simp)
      try simp only [Act.put, List.setIfInBounds_toArray, List.set_cons_zero, List.set_cons_succ]
      refine take_l (i := 12) (v := .int .i64 2) rfl (by kernel_rfl) (by kernel_rfl) (by kernel_rfl) (fun _ _ _ h => h) (Or.inl ⟨by rfl, ?hy⟩) (by assumption) ?_
      case hy => (intro w hSw; (try dsimp only at hSw); go_simp)
      try simp only [Act.put, List.setIfInBounds_toArray, List.set_cons_zero, List.set_cons_succ]
      refine take_l (i := 13) (v := .int .i64 1) rfl (by kernel_rfl) (by kernel_rfl) (by kernel_rfl) (fun _ _ _ h => h) (Or.inl ⟨by rfl, ?hy⟩) (by assumption) ?_
      case hy => (intro w hSw; (try dsimp only at hSw); go_simp)
      try simp only [Act.put, List.setIfInBounds_toArray, List.set_cons_zero, List.set_cons_succ]
      refine take_l (i := 14) (v := .pointer (some ⟨gr, 1, none⟩)) rfl (by kernel_rfl) (by kernel_rfl) (by kernel_rfl) (fun _ _ _ h => h) (Or.inl ⟨by rfl, ?hy⟩) (by assumption) ?_
      case hy => (intro w hSw; (try dsimp only at hSw); go_simp)
      try simp only [Act.put, List.setIfInBounds_toArray, List.set_cons_zero, List.set_cons_succ]
      refine take_l (i := 15) (v := .slice Ay y.length my) rfl (by kernel_rfl) (by kernel_rfl) (by kernel_rfl) (fun _ _ _ h => h) (Or.inl ⟨by rfl, ?hy⟩) (by assumption) ?_
      case hy => (intro w hSw; (try dsimp only at hSw); go_simp)
      try simp only [Act.put, List.setIfInBounds_toArray, List.set_cons_zero, List.set_cons_succ]
      refine take_l (i := 16) (v := .string ⟨y.toArray⟩) rfl (by kernel_rfl) (by kernel_rfl) (by kernel_rfl) (fun _ _ _ h => h) (Or.inl ⟨by rfl, ?hy⟩) (by assumption) ?_
      case hy => (intro w hSw; (try dsimp only at hSw); go_simp)
      try simp only [Act.put, List.setIfInBounds_toArray, List.set_cons_zero, List.set_cons_succ]
      refine take_l (i := 17) (v := .slice a3 len3 cap3) rfl (by kernel_rfl) (by kernel_rfl) (by kernel_rfl) (fun _ _ _ h => h) (Or.inl ⟨by rfl, ?hy⟩) (by assumption) ?_
      case hy => (intro w hSw; (try dsimp only at hSw); go_simp)
      try simp only [Act.put, List.setIfInBounds_toArray, List.set_cons_zero, List.set_cons_succ]
      refine take_l (i := 18) (v := .string ⟨y.toArray⟩) rfl (by kernel_rfl) (by kernel_rfl) (by kernel_rfl) (fun _ _ _ h => h) (Or.inl ⟨by rfl, ?hy⟩) (by assumption) ?_
      case hy => (intro w hSw; (try dsimp only at hSw); go_simp)
      try simp only [Act.put, List.setIfInBounds_toArray, List.set_cons_zero, List.set_cons_succ]
      refine take_l (i := 19) (v := .bool false) rfl (by kernel_rfl) (by kernel_rfl) (by kernel_rfl) (fun _ _ _ h => h) (Or.inl ⟨by rfl, ?hy⟩) (by assumption) ?_
      case hy => (intro w hSw; (try dsimp only at hSw); go_simp)
      try simp only [Act.put, List.setIfInBounds_toArray, List.set_cons_zero, List.set_cons_succ]
      refine take_l (i := 20) (v := .bool false) rfl (by kernel_rfl) (by kernel_rfl) (by kernel_rfl) (fun _ _ _ h => h) (Or.inl ⟨by rfl, ?hy⟩) (by assumption) ?_
      case hy => (intro w hSw; (try dsimp only at hSw); go_simp)
      try simp only [Act.put, List.setIfInBounds_toArray, List.set_cons_zero, List.set_cons_succ]
      refine wpAnyH_done (by kernel_rfl) ?_ _
      all_goals
        go_wp2_with fail
        go_quiet (fail)
        go_wp2_with fail
        go_ret
        exact ⟨rfl, (hkw.drewN _).none_below⟩
    · have hM1 : M = [y] := by rw [HM.out, hN]; rfl
      clear hMl
      subst hM1
      subst hz20
      subst hN
      obtain ⟨Ay, my, ey, ry⟩ := hel12 0 y rfl
      have hk12d : ∀ wS : World, Keeps Non w12.drew wS → Keeps Non w12 wS := fun wS hk => ((Keeps.refl _ _).drew).trans hk
      have hS : ∀ wS : World, Keeps Non w12.drew wS → wS.cell? ⟨gr, 0, none⟩ = some (.slice Ay y.length my) ∧
          (convert 22 9 (.slice Ay y.length my)).run Try.prog wS = .ok (.string ⟨y.toArray⟩) wS ∧
          (convert 22 9 (.slice a3 len3 cap3)).run Try.prog wS = .ok (.string ⟨y.toArray⟩) wS := fun wS hk => by
        have hk' := hk12d wS hk
        have hkw := hk012.trans hk'
        exact ⟨hk'.cell ey id, run_str _ _ _ _ _ (ry.keepN hk'), run_str _ _ _ _ _ (hr3.below hkw.none_below)⟩
      have hk12w : ∀ wS : World, Keeps Non w12.drew wS → Keeps Non w wS := fun wS hk => hk012.trans (hk12d wS hk)
      have hrdl := hrd11'.below ((Keeps.refl Non w12).drew).none_below
      have hrdr := hrd12'.below ((Keeps.refl Non w12).drew).none_below
      have Hsame := Lib.hid (same8_any (some ⟨gr, 0, none⟩) (some ⟨gs, 0, none⟩) 1 1 cr cs [y] [y] w12.drew hrdl hrdr)
      have HS := Lib.hid hS
      have HK := Lib.hid hk12w
      have d1 := hS w12.drew (Keeps.refl _ _)
      clear hrdl hrdr hrd11' hrd12' hel12 HMfit ry ey hk12d hk12w hS HRd HM
      go_wp2_with fail
      have wr1 : IntKind.i64.wrap 1 = 1 := by decide
      have wr0 : IntKind.i64.wrap 0 = 0 := by decide
      refine wp_region_held_drew (S := (fun w' => w'.cell? ⟨gr, 0, none⟩ = some (.slice Ay y.length my) ∧ (convert 22 9 (.slice Ay y.length my)).run Try.prog w' = .ok (.string ⟨y.toArray⟩) w' ∧ (convert 22 9 (.slice a3 len3 cap3)).run Try.prog w' = .ok (.string ⟨y.toArray⟩) w')) (by kernel_rfl) d1 (fun hHeld => ?_)
      refine take_l (i := 0) (v := .slice (some ⟨gr, 0, none⟩) 1 cr) rfl (by kernel_rfl) (by kernel_rfl) (by kernel_rfl) (fun _ _ _ h => h) (Or.inl ⟨by rfl, ?hy⟩) (by assumption) ?_
      case hy => (intro w hSw; (try dsimp only at hSw); go_simp)
      try simp only [Act.put, List.setIfInBounds_toArray, List.set_cons_zero, List.set_cons_succ]
      refine take_l (i := 1) (v := .slice (some ⟨gs, 0, none⟩) 1 cs) rfl (by kernel_rfl) (by kernel_rfl) (by kernel_rfl) (fun _ _ _ h => h) (Or.inl ⟨by rfl, ?hy⟩) (by assumption) ?_
      case hy => (intro w hSw; (try dsimp only at hSw); go_simp)
      try simp only [Act.put, List.setIfInBounds_toArray, List.set_cons_zero, List.set_cons_succ]
      refine wpAnyH_ready (rs := [2]) (by kernel_rfl) (by simp) ?_
      refine cons_l rfl (fun K hK => ?_) AllReadyH.nil
      go_simp
      refine Hsame.out.mono ?_
      rintro e wS ⟨rfl, qq, hqq⟩
      have hkS : Keeps Non w12.drew wS := by rw [← hqq]; exact (Keeps.refl _ _).drewN qq
      obtain ⟨s1, s5, s6⟩ := HS.out wS hkS
      have hkw := HK.out wS hkS
      clear hqq hkS
      go_wp2_with fail
      refine hK.out _ _ ⟨s1, s5, s6⟩ (fun hHeld => ?_)
      clear hK K
      try simp only [Act.put, List.setIfInBounds_toArray, List.set_cons_zero, List.set_cons_succ]
      refine take_l (i := 3) (v := .bool false) rfl (by kernel_rfl) (by kernel_rfl) (by kernel_rfl) (fun _ _ _ h => h) (Or.inl ⟨by rfl, ?hy⟩) (by assumption) ?_
      case hy => (intro w hSw; (try dsimp only at hSw); go_simp)
      try simp only [Act.put, List.setIfInBounds_toArray, List.set_cons_zero, List.set_cons_succ]
      refine take_l (i := 4) (v := .bool false) rfl (by kernel_rfl) (by kernel_rfl) (by kernel_rfl) (fun _ _ _ h => h) (Or.inl ⟨by rfl, ?hy⟩) (by assumption) ?_
      case hy => (intro w hSw; (try dsimp only at hSw); go_simp)
      try simp only [Act.put, List.setIfInBounds_toArray, List.set_cons_zero, List.set_cons_succ]
      refine take_l (i := 5) (v := .slice (some ⟨gr, 0, none⟩) 1 cr) rfl (by kernel_rfl) (by kernel_rfl) (by kernel_rfl) (fun _ _ _ h => h) (Or.inl ⟨by rfl, ?hy⟩) (by assumption) ?_
      case hy => (intro w hSw; (try dsimp only at hSw); go_simp)
      try simp only [Act.put, List.setIfInBounds_toArray, List.set_cons_zero, List.set_cons_succ]
      refine take_l (i := 6) (v := .int .i64 1) rfl (by kernel_rfl) (by kernel_rfl) (by kernel_rfl) (fun _ _ _ h => h) (Or.inl ⟨by rfl, ?hy⟩) (by assumption) ?_
      case hy => (intro w hSw; (try dsimp only at hSw); go_simp)
      try simp only [Act.put, List.setIfInBounds_toArray, List.set_cons_zero, List.set_cons_succ]
      refine take_l (i := 7) (v := .bool false) rfl (by kernel_rfl) (by kernel_rfl) (by kernel_rfl) (fun _ _ _ h => h) (Or.inl ⟨by rfl, ?hy⟩) (by assumption) ?_
      case hy => (intro w hSw; (try dsimp only at hSw); go_simp)
      try simp only [Act.put, List.setIfInBounds_toArray, List.set_cons_zero, List.set_cons_succ]
      refine take_l (i := 8) (v := .bool false) rfl (by kernel_rfl) (by kernel_rfl) (by kernel_rfl) (fun _ _ _ h => h) (Or.inl ⟨by rfl, ?hy⟩) (by assumption) ?_
      case hy => (intro w hSw; (try dsimp only at hSw); go_simp)
      try simp only [Act.put, List.setIfInBounds_toArray, List.set_cons_zero, List.set_cons_succ]
      refine take_l (i := 9) (v := .bool false) rfl (by kernel_rfl) (by kernel_rfl) (by kernel_rfl) (fun _ _ _ h => h) (Or.inl ⟨by rfl, ?hy⟩) (by assumption) ?_
      case hy => (intro w hSw; (try dsimp only at hSw); go_simp)
      try simp only [Act.put, List.setIfInBounds_toArray, List.set_cons_zero, List.set_cons_succ]
      refine take_l (i := 10) (v := .slice (some ⟨gr, 0, none⟩) 1 cr) rfl (by kernel_rfl) (by kernel_rfl) (by kernel_rfl) (fun _ _ _ h => h) (Or.inl ⟨by rfl, ?hy⟩) (by assumption) ?_
      case hy => (intro w hSw; (try dsimp only at hSw); go_simp)
      try simp only [Act.put, List.setIfInBounds_toArray, List.set_cons_zero, List.set_cons_succ]
      refine take_l (i := 11) (v := .slice (some ⟨gr, 0, none⟩) 1 cr) rfl (by kernel_rfl) (by kernel_rfl) (by kernel_rfl) (fun _ _ _ h => h) (Or.inl ⟨by rfl, ?hy⟩) (by assumption) ?_
      case hy => (intro w hSw; (try dsimp only at hSw); go_simp)
      try simp only [Act.put, List.setIfInBounds_toArray, List.set_cons_zero, List.set_cons_succ]
      refine take_l (i := 12) (v := .int .i64 1) rfl (by kernel_rfl) (by kernel_rfl) (by kernel_rfl) (fun _ _ _ h => h) (Or.inl ⟨by rfl, ?hy⟩) (by assumption) ?_
      case hy => (intro w hSw; (try dsimp only at hSw); go_simp)
      try simp only [Act.put, List.setIfInBounds_toArray, List.set_cons_zero, List.set_cons_succ]
      refine take_l (i := 13) (v := .int .i64 0) rfl (by kernel_rfl) (by kernel_rfl) (by kernel_rfl) (fun _ _ _ h => h) (Or.inl ⟨by rfl, ?hy⟩) (by assumption) ?_
      case hy => (intro w hSw; (try dsimp only at hSw); go_simp)
      try simp only [Act.put, List.setIfInBounds_toArray, List.set_cons_zero, List.set_cons_succ]
      refine take_l (i := 14) (v := .pointer (some ⟨gr, 0, none⟩)) rfl (by kernel_rfl) (by kernel_rfl) (by kernel_rfl) (fun _ _ _ h => h) (Or.inl ⟨by rfl, ?hy⟩) (by assumption) ?_
      case hy => (intro w hSw; (try dsimp only at hSw); go_simp)
      try simp only [Act.put, List.setIfInBounds_toArray, List.set_cons_zero, List.set_cons_succ]
      refine take_l (i := 15) (v := .slice Ay y.length my) rfl (by kernel_rfl) (by kernel_rfl) (by kernel_rfl) (fun _ _ _ h => h) (Or.inl ⟨by rfl, ?hy⟩) (by assumption) ?_
      case hy => (intro w hSw; (try dsimp only at hSw); go_simp)
      try simp only [Act.put, List.setIfInBounds_toArray, List.set_cons_zero, List.set_cons_succ]
      refine take_l (i := 16) (v := .string ⟨y.toArray⟩) rfl (by kernel_rfl) (by kernel_rfl) (by kernel_rfl) (fun _ _ _ h => h) (Or.inl ⟨by rfl, ?hy⟩) (by assumption) ?_
      case hy => (intro w hSw; (try dsimp only at hSw); go_simp)
      try simp only [Act.put, List.setIfInBounds_toArray, List.set_cons_zero, List.set_cons_succ]
      refine take_l (i := 17) (v := .slice a3 len3 cap3) rfl (by kernel_rfl) (by kernel_rfl) (by kernel_rfl) (fun _ _ _ h => h) (Or.inl ⟨by rfl, ?hy⟩) (by assumption) ?_
      case hy => (intro w hSw; (try dsimp only at hSw); go_simp)
      try simp only [Act.put, List.setIfInBounds_toArray, List.set_cons_zero, List.set_cons_succ]
      refine take_l (i := 18) (v := .string ⟨y.toArray⟩) rfl (by kernel_rfl) (by kernel_rfl) (by kernel_rfl) (fun _ _ _ h => h) (Or.inl ⟨by rfl, ?hy⟩) (by assumption) ?_
      case hy => (intro w hSw; (try dsimp only at hSw); go_simp)
      try simp only [Act.put, List.setIfInBounds_toArray, List.set_cons_zero, List.set_cons_succ]
      refine take_l (i := 19) (v := .bool false) rfl (by kernel_rfl) (by kernel_rfl) (by kernel_rfl) (fun _ _ _ h => h) (Or.inl ⟨by rfl, ?hy⟩) (by assumption) ?_
      case hy => (intro w hSw; (try dsimp only at hSw); go_simp)
      try simp only [Act.put, List.setIfInBounds_toArray, List.set_cons_zero, List.set_cons_succ]
      refine take_l (i := 20) (v := .bool false) rfl (by kernel_rfl) (by kernel_rfl) (by kernel_rfl) (fun _ _ _ h => h) (Or.inl ⟨by rfl, ?hy⟩) (by assumption) ?_
      case hy => (intro w hSw; (try dsimp only at hSw); go_simp)
      try simp only [Act.put, List.setIfInBounds_toArray, List.set_cons_zero, List.set_cons_succ]
      refine wpAnyH_done (by kernel_rfl) ?_ _
      all_goals
        go_wp2_with fail
        go_quiet (fail)
        go_wp2_with fail
        go_ret
        exact ⟨rfl, (hkw.drewN _).none_below⟩
end Go.Proofs.Ytbmamhcjbhnkiaa
