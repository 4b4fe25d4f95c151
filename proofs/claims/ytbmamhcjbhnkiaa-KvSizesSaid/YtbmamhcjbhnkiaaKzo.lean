/- Layer 9: the walk of Commit where the log has no room. -/
import Derived.Test.YtbmamhcjbhnkiaaKzm
namespace Go.Proofs.Ytbmamhcjbhnkiaa
open Go.RowKit Go.Maps
open Kv (Bs Tab)

theorem whole_err {T : Tab} {n : Nat} (h : Kv.tsize T ≤ 65536) : fitErr (Kv.whole T) n = if n < 16 + Kv.rcost T then 21 else 0 := by
  have hf : ∀ b ∈ Kv.whole T, 1 ≤ b.length ∧ b.length ≤ 65536 := Kv.whole_fit h
  have hc : Wal.cost (Kv.whole T) = Kv.rcost T := Kv.whole_cost T
  unfold fitErr
  rw [if_pos hf, hc]

section
variable {F : Nat → Prop} {w : World} {s b p g m age c mc : Nat} {d : Dk} {L : Wal.Lg} {v : Value} {l : List Kv.St} {T0 T : Tab}
set_option maxHeartbeats 8000000 in
set_option maxRecDepth 100000 in
theorem commit_anew (hsv : Sv w F s b p g m age d L T0) (ha : age ≤ 1048576) (hL : Wal.Live d L) (hsay : Kv.Says L.recs T0) (h : Chg (Zs p g F s) w c s mc v l T age false) (hTT : T = Kv.doAll T0 l) (hl : ∀ p ∈ l, p.ok) (hne : l ≠ [])
    (hb : (Kv.encAll l).length ≤ 65536) (hno : Wal.hs d < L.fin + (9 + (Kv.encAll l).length)) (hsz : Kv.tsize T ≤ 65536) (hTl : T.length ≤ 1048576) (hg : L.gen + 1 ≤ 2147483647) (hfit : ¬ Wal.hs d < 16 + Kv.rcost T) :
    Calls Try.prog 59 #[.pointer (some ⟨c, 0, none⟩)] w (RetCommit w F s b p g m age c mc d L T0 T) := by
  obtain ⟨R, hR⟩ := h.own
  obtain ⟨A, cap, hv⟩ := own_slice hR.row
  subst hv
  have hmany := encAll_many l
  have hl0 : ¬ l.length = 0 := fun e => hne (List.eq_nil_of_length_eq_zero e)
  have hlb : l.length ≤ 1048576 := by omega
  obtain ⟨c0, c1, c2, c3, c4⟩ := five h.st
  obtain ⟨s0, s1, s2⟩ := trio hsv.st.st
  obtain ⟨x1, x2, x3⟩ := hsv.st.ne h
  have f4 : ∀ n, (w.drewN n).frozen? ⟨c, 4, none⟩ = false := fun n => free (show (w.drewN n).heap[c]? = _ from h.st) 4
  have HS := Lib.hid (fun n => (h.keepN ((Keeps.refl _ w).drewN n)).set 4 (.bool true) (over' := true) rfl)
  have c2' : ∀ n, ((w.drewN n).setCell ⟨c, 4, none⟩ (.bool true)).cell? ⟨c, 2, none⟩ = some (.slice A l.length cap) := fun n => (five ((HS.out n).1.st)).c2
  have hk : ∀ n, Keeps Non w (w.drewN n) := fun n => (Keeps.refl _ _).drewN n
  have HR := Lib.hid (fun n => crecord_any hl (by omega) (HS.out n).1)
  obtain ⟨bs, hbs⟩ : ∃ bs, bs = Kv.encAll l := ⟨_, rfl⟩
  rw [← hbs] at hb HR hno hmany
  have HBs := Lib.hid hbs
  have hn1 : 1 ≤ bs.length := by omega
  have hc0 := (Array.getElem?_eq_some_iff.1 h.st).1
  have hcZ := h.cy
  have hnu := h.no_u8
  have hcst := h.st
  clear hR hbs hne
  go_enter Try.func59, Try.ntmps59
  go_wp2_with fail
  go_quiet (fail)
  have hk1 : Keeps (fun k => k = c) w ((w.drewN nq).setCell ⟨c, 4, none⟩ (.bool true)) := ((hk nq).mono fun _ _ q => q.elim).trans (HS.out nq).2
  have hC1 := (HS.out nq).1
  have hR1 := HR.out nq
  have c21 := c2' nq
  have f41 := f4 nq
  have c4n : (w.drewN nq).cell? ⟨c, 4, none⟩ = some (.bool false) := c4
  clear HR HS c2' f4
  go_wp2_with fail
  refine hR1.mono ?_
  rintro e w2 ⟨u, rfl, hu, hk2⟩
  obtain ⟨Au, cu, rfl, hru, hbu, hnu2, hcu⟩ := own_rdB hu (by omega)
  have hb3 : ¬ (65536 : Int) < (bs.length : Int) := by omega
  have hC2 := hC1.keepN hk2
  have hK2 : Keeps (fun k => k = c) w w2 := hk1.trans (hk2.mono fun _ _ q => q.elim)
  have hsv2 : Sv w2 F s b p g m age d L T0 := hsv.keep hK2 (fun k q r => hcZ (q ▸ r)) (fun q => by
    obtain ⟨es, clock, hm⟩ := hsv.tab.map
    rw [q, hcst] at hm
    cases hm) (hsv.tab.struct hcst hnu hK2)
  obtain ⟨s0', s1', s2'⟩ := trio hsv2.st.st
  have hz2 := hK2.size
  have hz1 := hk1.size
  have hlt := hsv.lt
  have hA : ∀ a, Au = some a → ¬ (a.block = p ∨ a.block = g ∨ F a.block) := fun a ha q => by
    have h1 := own_ge hu _ (hbu a ha)
    have h2 : Zs p g F s a.block := by rcases q with q | q | q; exact .inl q; exact .inr (.inl q); exact .inr (.inr (.inl q))
    have := hlt _ h2
    omega
  have HA := Lib.hid (append_space F b p g d L Au bs.length cu hn1 hb hL.le hno w2 hsv2.wl hL.alive hL.up)
  clear hR1 hu hru hbu hk2 hA hC1 hk1 c21 f41 c4n hk
  go_wp2_with fail
  refine HA.out.mono ?_
  rintro e w3 ⟨rfl, hW3, hk3⟩
  have hbF : F b := hsv2.wl.hb
  have hk3' : Keeps (Zs p g F s) w2 w3 := hk3.mono fun k _ q => .inr (.inr (.inl (q ▸ hbF)))
  have hC3 := hC2.keep hk3' (fun _ q => q)
  have hst3 : StA w3 s b m age := hsv2.st.keep hk3 (fun q => hsv.sF (q ▸ hbF))
  have hK3 : Keeps (fun k => k = c ∨ Zs p g F s k) w w3 := (hK2.mono fun k _ q => .inl q).trans (hk3'.mono fun k _ q => .inr q)
  have hsv3 : Sv w3 F s b p g m age d L T0 := ⟨hW3, hst3, hsv2.tab.keep hk3' hsv2.mZ (fun _ q => q), hsv.sp, hsv.sg, hsv.sF, hsv.mZ⟩
  have hokT : Kv.Ok T := by rw [hTT]; exact Kv.Ok.doAll hsay.ok hl
  have hriT : Kv.Rise T := by rw [hTT]; exact Kv.Rise.doAll hsay.rise
  have hd3 : Keeps Non w3 w3.drew := (Keeps.refl _ _).drew
  have HW := Lib.hid (whole_any _ mc T hTl hokT hsz w3.drew (hC3.tab.keepN hd3))
  obtain ⟨s0'', s1'', s2''⟩ := trio hst3.st
  obtain ⟨d0, d1, d2, d3, d4⟩ := five hC3.st
  have hpgF : ∀ k, (k = p ∨ k = g ∨ F k) → k < w3.heap.size := fun k q => hsv3.lt k (by rcases q with q | q | q; exact .inl q; exact .inr (.inl q); exact .inr (.inr (.inl q)))
  have hWF := Lib.hid (fit_len (Kv.whole_fit hsz))
  have hWn : (Kv.whole T).length ≤ 1 := by unfold Kv.whole; split <;> simp
  obtain ⟨ws, hws⟩ : ∃ ws, ws = Kv.whole T := ⟨_, rfl⟩
  rw [← hws] at HW hWF hWn
  have HWs := Lib.hid hws
  clear HA hws c0 c1 c2 c3 c4 s0 s1 s2 s0' s1' s2'
  go_wp2_with fail
  go_region_held3 (fun w' => w'.cell? ⟨s, 0, none⟩ = some (.pointer (some ⟨b, 0, none⟩)) ∧ w'.cell? ⟨c, 1, none⟩ = some (.map (some mc))) (first | exact ⟨s0'', d1⟩ | exact ⟨by simpa using s0'', by simpa using d1⟩ | exact ⟨y0, y1⟩ | exact ⟨z0, z1⟩) (first
    | (go_at_call 95; refine HW.out.mono ?_; rintro e w4 ⟨vw, vsw, rfl, hO4, hk4⟩; obtain ⟨Aw, cw, rfl, hr4, -, -⟩ := hO4.rdLZ (Z := fun k => k = p ∨ k = g ∨ F k) (by omega) hWF.out (fun k hk q => by have := hpgF k q; have : w3.drew.heap.size = w3.heap.size := rfl; omega); have k34 : Keeps Non w3 w4 := hd3.trans hk4; have y0 := k34.cell s0'' id; have y1 := k34.cell d1 id; have hW4 := hW3.keepN k34)
    | (go_at_call 51; refine (anew_step F b p g d L Aw ws.length cw ws hL (by rw [HWs.out]; exact Kv.whole_fit hsz) (by rw [HWs.out]; have := Kv.whole_cost T; unfold Kv.rcost at hfit; omega) hg w4 hW4 hr4).mono ?_; rintro e w5 ⟨d', hwf, hlen, hk5, hcase⟩; have hz : ∃ z : Int, e = .returned (.int .i64 z) := (by rcases hcase with ⟨h, _⟩ | ⟨_, h, _⟩; exact ⟨0, h⟩; exact ⟨20, h⟩); obtain ⟨z, rfl⟩ := hz; have k35 : Keeps (fun k => k = p ∨ k = g ∨ F k) w3 w5 := (k34.mono fun _ _ q => q.elim).trans hk5; have z0 := k35.cell s0'' (fun q => by rcases q with q | q | q; exact hsv.sp q; exact hsv.sg q; exact hsv.sF q); have z1 := k35.cell d1 (fun q => hC3.cy (by rcases q with q | q | q; exact .inl q; exact .inr (.inl q); exact .inr (.inr (.inl q))))))
  have k35' : Keeps (Zs p g F s) w3 w5 := k35.mono fun k _ q => by rcases q with q | q | q; exact .inl q; exact .inr (.inl q); exact .inr (.inr (.inl q))
  have hC5 := hC3.keep k35' (fun _ q => q)
  have hst5 : StA w5 s b m age := hst3.keep k35 (fun q => by rcases q with q | q | q; exact hsv.sp q; exact hsv.sg q; exact hsv.sF q)
  have hK5 : Keeps (fun k => k = c ∨ Zs p g F s k) w w5 := hK3.trans (k35'.mono fun k _ q => .inr q)
  have hz3 := hK3.size
  have hz34 := k34.size
  have hH1 := Lib.hid hcase
  clear hcase HW hO4 hr4 hW4 hk4 y0 y1 hd3
  rcases hH1.out with ⟨he, hL', hlit, F', hW', hF'⟩ | ⟨hlit, he, hdn, hW', hHas⟩
  · cases he
    clear hH1
    have hmcZ : ¬ Zs p g F' s mc := fun q => by
      rcases q with q | q | q | q
      · exact hC3.my (.inl q)
      · exact hC3.my (.inr (.inl q))
      · rcases hF' _ q with r | r
        · exact hC3.my (.inr (.inr (.inl r)))
        · have := hC3.tab.lt; omega
      · exact hC3.my (.inr (.inr (.inr q)))
    have hsF : ¬ F' s := fun q => by
      rcases hF' _ q with r | r
      · exact hsv.sF r
      · have := hst3.lt; omega
    have htab5 : TabW (Zs p g F' s) w5 mc T := by
      have h0 := hC3.tab.grow (Z' := fun k => Zs p g F s k ∨ Zs p g F' s k) fun k q => by
        rcases q with q | q | q | q | q
        · exact .inl (.inl q)
        · exact .inl (.inl (.inl q))
        · exact .inl (.inl (.inr (.inl q)))
        · rcases hF' _ q with r | r
          · exact .inl (.inl (.inr (.inr (.inl r))))
          · exact .inr (by omega)
        · exact .inl (.inl (.inr (.inr (.inr q))))
      exact (h0.keep k35' hC3.my (fun k q => .inl q)).grow fun k q => .inl (.inr q)
    obtain ⟨e0, e1, e2, e3, e4⟩ := five hC5.st
    obtain ⟨t0, t1, t2⟩ := trio hst5.st
    have f1 := free hst5.st 1
    have hst5c : (w5.setCell ⟨s, 1, none⟩ (.map (some mc))).heap[s]? = _ := setCell_row w5 s 1 _ _ _ hst5.st (.map (some mc))
    have f2 := free hst5c 2
    have s2c := (trio hst5c).c2
    have HT := Lib.hid (Sv.took hW' hst5 hsv.sp hsv.sg hsF htab5 hmcZ)
    have hfin := Lib.hid (show ∀ w6, Keeps (fun k => k = s) w5 w6 → Sv w6 F' s b p g mc (age + 1) d' ⟨1 - L.half, L.gen + 1, 16 + Wal.cost ws, ws, false⟩ T → RetCommit w F s b p g m age c mc d L T0 T (.returned (.int .i64 0)) w6 from
      fun w6 k6 h6 => ⟨d', hwf, hlen, hK5.trans (k6.mono fun k _ q => .inr (.inr (.inr (.inr q)))), .inl ⟨rfl, F', _, hL', by show Kv.Says ws T; rw [HWs.out]; exact Kv.whole_says hriT hokT, Nat.le_refl _, hlit, h6, fun k q => by
        rcases hF' k q with r | r
        · exact .inl r
        · exact .inr (by omega)⟩⟩)
    clear htab5 hmcZ hW' hC5 hC3 hC2 hsv2 hsv3 hst3 hst5 hst5c hk3 hk3' hK3 hK2 hK5 h hTT hsay hL hL' hF' hsv hwf k34 k35 k35' hW3 d0 d1 d2 d3 d4 s0'' s1'' s2''
    go_wp2_with fail
    go_ret
    exact hfin.out _ HT.out.2 HT.out.1
  · cases he
    have hfin := Lib.hid (show RetCommit w F s b p g m age c mc d L T0 T (.returned (.int .i64 20)) w5 from
      ⟨d', hwf, hlen, hK5, .inr (.inl ⟨hlit, rfl, hdn, ⟨hW', hst5, hsv3.tab.keep k35' hsv3.mZ (fun _ q => q), hsv.sp, hsv.sg, hsv.sF, hsv.mZ⟩, by
        rcases hHas with q | q
        · exact ⟨_, _, _, q, by omega, .inl hsay⟩
        · exact ⟨_, _, _, q, Nat.le_refl _, .inr (by show Kv.Says ws T; rw [HWs.out]; exact Kv.whole_says hriT hokT)⟩⟩)⟩)
    clear hH1 hHas hC5 hC3 hC2 hsv2 hsv3 hst3 hst5 hk3 hk3' hK3 hK2 hK5 h hTT hsay hL hsv hwf hW' k34 k35 k35' hW3 d0 d1 d2 d3 d4 s0'' s1'' s2''
    go_wp2_with fail
    go_ret
    exact hfin.out

set_option maxHeartbeats 8000000 in
set_option maxRecDepth 100000 in
theorem commit_full (hsv : Sv w F s b p g m age d L T0) (ha : age ≤ 1048576) (hL : Wal.Live d L) (hsay : Kv.Says L.recs T0) (h : Chg (Zs p g F s) w c s mc v l T age false) (hTT : T = Kv.doAll T0 l) (hl : ∀ p ∈ l, p.ok) (hne : l ≠ [])
    (hb : (Kv.encAll l).length ≤ 65536) (hno : Wal.hs d < L.fin + (9 + (Kv.encAll l).length)) (hsz : Kv.tsize T ≤ 65536) (hTl : T.length ≤ 1048576) (hg : L.gen + 1 ≤ 2147483647) (hfit : Wal.hs d < 16 + Kv.rcost T) :
    Calls Try.prog 59 #[.pointer (some ⟨c, 0, none⟩)] w (RetCommit w F s b p g m age c mc d L T0 T) := by
  obtain ⟨R, hR⟩ := h.own
  obtain ⟨A, cap, hv⟩ := own_slice hR.row
  subst hv
  have hmany := encAll_many l
  have hl0 : ¬ l.length = 0 := fun e => hne (List.eq_nil_of_length_eq_zero e)
  have hlb : l.length ≤ 1048576 := by omega
  obtain ⟨c0, c1, c2, c3, c4⟩ := five h.st
  obtain ⟨s0, s1, s2⟩ := trio hsv.st.st
  obtain ⟨x1, x2, x3⟩ := hsv.st.ne h
  have f4 : ∀ n, (w.drewN n).frozen? ⟨c, 4, none⟩ = false := fun n => free (show (w.drewN n).heap[c]? = _ from h.st) 4
  have HS := Lib.hid (fun n => (h.keepN ((Keeps.refl _ w).drewN n)).set 4 (.bool true) (over' := true) rfl)
  have c2' : ∀ n, ((w.drewN n).setCell ⟨c, 4, none⟩ (.bool true)).cell? ⟨c, 2, none⟩ = some (.slice A l.length cap) := fun n => (five ((HS.out n).1.st)).c2
  have hk : ∀ n, Keeps Non w (w.drewN n) := fun n => (Keeps.refl _ _).drewN n
  have HR := Lib.hid (fun n => crecord_any hl (by omega) (HS.out n).1)
  obtain ⟨bs, hbs⟩ : ∃ bs, bs = Kv.encAll l := ⟨_, rfl⟩
  rw [← hbs] at hb HR hno hmany
  have HBs := Lib.hid hbs
  have hn1 : 1 ≤ bs.length := by omega
  have hc0 := (Array.getElem?_eq_some_iff.1 h.st).1
  have hcZ := h.cy
  have hnu := h.no_u8
  have hcst := h.st
  clear hR hbs hne
  go_enter Try.func59, Try.ntmps59
  go_wp2_with fail
  go_quiet (fail)
  have hk1 : Keeps (fun k => k = c) w ((w.drewN nq).setCell ⟨c, 4, none⟩ (.bool true)) := ((hk nq).mono fun _ _ q => q.elim).trans (HS.out nq).2
  have hC1 := (HS.out nq).1
  have hR1 := HR.out nq
  have c21 := c2' nq
  have f41 := f4 nq
  have c4n : (w.drewN nq).cell? ⟨c, 4, none⟩ = some (.bool false) := c4
  clear HR HS c2' f4
  go_wp2_with fail
  refine hR1.mono ?_
  rintro e w2 ⟨u, rfl, hu, hk2⟩
  obtain ⟨Au, cu, rfl, hru, hbu, hnu2, hcu⟩ := own_rdB hu (by omega)
  have hb3 : ¬ (65536 : Int) < (bs.length : Int) := by omega
  have hC2 := hC1.keepN hk2
  have hK2 : Keeps (fun k => k = c) w w2 := hk1.trans (hk2.mono fun _ _ q => q.elim)
  have hsv2 : Sv w2 F s b p g m age d L T0 := hsv.keep hK2 (fun k q r => hcZ (q ▸ r)) (fun q => by
    obtain ⟨es, clock, hm⟩ := hsv.tab.map
    rw [q, hcst] at hm
    cases hm) (hsv.tab.struct hcst hnu hK2)
  obtain ⟨s0', s1', s2'⟩ := trio hsv2.st.st
  have hz2 := hK2.size
  have hz1 := hk1.size
  have hlt := hsv.lt
  have hA : ∀ a, Au = some a → ¬ (a.block = p ∨ a.block = g ∨ F a.block) := fun a ha q => by
    have h1 := own_ge hu _ (hbu a ha)
    have h2 : Zs p g F s a.block := by rcases q with q | q | q; exact .inl q; exact .inr (.inl q); exact .inr (.inr (.inl q))
    have := hlt _ h2
    omega
  have HA := Lib.hid (append_space F b p g d L Au bs.length cu hn1 hb hL.le hno w2 hsv2.wl hL.alive hL.up)
  clear hR1 hu hru hbu hk2 hA hC1 hk1 c21 f41 c4n hk
  go_wp2_with fail
  refine HA.out.mono ?_
  rintro e w3 ⟨rfl, hW3, hk3⟩
  have hbF : F b := hsv2.wl.hb
  have hk3' : Keeps (Zs p g F s) w2 w3 := hk3.mono fun k _ q => .inr (.inr (.inl (q ▸ hbF)))
  have hC3 := hC2.keep hk3' (fun _ q => q)
  have hst3 : StA w3 s b m age := hsv2.st.keep hk3 (fun q => hsv.sF (q ▸ hbF))
  have hK3 : Keeps (fun k => k = c ∨ Zs p g F s k) w w3 := (hK2.mono fun k _ q => .inl q).trans (hk3'.mono fun k _ q => .inr q)
  have hsv3 : Sv w3 F s b p g m age d L T0 := ⟨hW3, hst3, hsv2.tab.keep hk3' hsv2.mZ (fun _ q => q), hsv.sp, hsv.sg, hsv.sF, hsv.mZ⟩
  have hokT : Kv.Ok T := by rw [hTT]; exact Kv.Ok.doAll hsay.ok hl
  have hriT : Kv.Rise T := by rw [hTT]; exact Kv.Rise.doAll hsay.rise
  have hd3 : Keeps Non w3 w3.drew := (Keeps.refl _ _).drew
  have HW := Lib.hid (whole_any _ mc T hTl hokT hsz w3.drew (hC3.tab.keepN hd3))
  obtain ⟨s0'', s1'', s2''⟩ := trio hst3.st
  obtain ⟨d0, d1, d2, d3, d4⟩ := five hC3.st
  have hpgF : ∀ k, (k = p ∨ k = g ∨ F k) → k < w3.heap.size := fun k q => hsv3.lt k (by rcases q with q | q | q; exact .inl q; exact .inr (.inl q); exact .inr (.inr (.inl q)))
  have hWF := Lib.hid (fit_len (Kv.whole_fit hsz))
  have hWn : (Kv.whole T).length ≤ 1 := by unfold Kv.whole; split <;> simp
  obtain ⟨ws, hws⟩ : ∃ ws, ws = Kv.whole T := ⟨_, rfl⟩
  rw [← hws] at HW hWF hWn
  have HWs := Lib.hid hws
  clear HA hws c0 c1 c2 c3 c4 s0 s1 s2 s0' s1' s2'
  go_wp2_with fail
  go_region_held3 (fun w' => w'.cell? ⟨s, 0, none⟩ = some (.pointer (some ⟨b, 0, none⟩)) ∧ w'.cell? ⟨c, 1, none⟩ = some (.map (some mc))) (first | exact ⟨s0'', d1⟩ | exact ⟨by simpa using s0'', by simpa using d1⟩ | exact ⟨y0, y1⟩ | exact ⟨z0, z1⟩) (first
    | (go_at_call 95; refine HW.out.mono ?_; rintro e w4 ⟨vw, vsw, rfl, hO4, hk4⟩; obtain ⟨Aw, cw, rfl, hr4, -, -⟩ := hO4.rdLZ (Z := fun k => k = p ∨ k = g ∨ F k) (by omega) hWF.out (fun k hk q => by have := hpgF k q; have : w3.drew.heap.size = w3.heap.size := rfl; omega); have k34 : Keeps Non w3 w4 := hd3.trans hk4; have y0 := k34.cell s0'' id; have y1 := k34.cell d1 id; have hW4 := hW3.keepN k34)
    | (go_at_call 51; refine (anew_no F b p g d L Aw ws.length cw ws hL.big (by rw [HWs.out, whole_err hsz, if_pos hfit]; decide) w4 hW4 hL.alive hL.up hr4).mono ?_; rw [show fitErr ws (Wal.hs d) = 21 by rw [HWs.out, whole_err hsz, if_pos hfit]]; rintro e w5 ⟨rfl, hW5, hk5⟩; have k35 : Keeps (fun k => k = b) w3 w5 := (k34.mono fun _ _ q => q.elim).trans hk5; have z0 := k35.cell s0'' (fun q => hsv.sF ((show s = b from q) ▸ hbF)); have z1 := k35.cell d1 (fun q => hC3.cy (.inr (.inr (.inl ((show c = b from q) ▸ hbF)))))))
  have k35' : Keeps (Zs p g F s) w3 w5 := k35.mono fun k _ q => .inr (.inr (.inl (q ▸ hbF)))
  have hst5 : StA w5 s b m age := hst3.keep k35 (fun q => hsv.sF (q ▸ hbF))
  have hK5 : Keeps (fun k => k = c ∨ Zs p g F s k) w w5 := hK3.trans (k35'.mono fun k _ q => .inr q)
  have hfin := Lib.hid (show RetCommit w F s b p g m age c mc d L T0 T (.returned (.int .i64 21)) w5 from
    ⟨d, hL.wf, rfl, hK5, .inr (.inr ⟨rfl, rfl, ⟨hW5, hst5, hsv3.tab.keep k35' hsv3.mZ (fun _ q => q), hsv.sp, hsv.sg, hsv.sF, hsv.mZ⟩, hfit⟩)⟩)
  clear HW hO4 hr4 hW4 hk4 y0 y1 hd3 hC3 hC2 hsv2 hsv3 hst3 hst5 hk3 hk3' hK3 hK2 hK5 h hTT hsay hL hsv k34 k35 k35' hW3 hW5 hk5 d0 d1 d2 d3 d4 s0'' s1'' s2''
  go_wp2_with fail
  go_ret
  exact hfin.out
end

end Go.Proofs.Ytbmamhcjbhnkiaa

/- Layer 9: the walk of Open. -/
namespace Go.Proofs.Ytbmamhcjbhnkiaa
open Go.RowKit Go.Maps
open Kv (Bs Tab)

theorem fold_len : ∀ (ss : List (List Kv.St)) (T : Tab), (ss.foldl Kv.doAll T).length ≤ T.length + Wal.cost (ss.map Kv.encAll)
  | [], T => by simp
  | l :: ss, T => by
    have h1 := fold_len ss (Kv.doAll T l)
    have h2 := length_doAll l T
    have h3 := encAll_many l
    simp only [List.foldl_cons, List.map_cons, Wal.cost]
    omega
theorem OwnL.cell_ {w : World} {base : Nat} {v : Value} {vs : List Value} {ls : List (List UInt8)} (h : OwnL w base v vs ls) (hb : ∀ x ∈ ls, x.length ≤ 140737488355328) {j : Nat} {x : List UInt8} (hx : ls[j]? = some x) :
    ∃ g c A n cc, v = .slice (some ⟨g, 0, none⟩) ls.length c ∧ w.cell? ⟨g, j, none⟩ = some (.slice A n cc) ∧ RdB w A n x ∧ n ≤ cc ∧ cc ≤ 9223372036854775807 := by
  have hj : j < ls.length := (List.getElem?_eq_some_iff.1 hx).1
  rcases h.row.2 with ⟨rfl, h0⟩ | ⟨g, cap, cur, rfl, hg0, hg, hnc, hcm, hcs, htake⟩
  · omega
  · obtain ⟨u, h1, h2⟩ := h.el j x hx
    obtain ⟨A, c, rfl, hrd, _, h4, h5⟩ := own_rdB h2 (hb x (List.mem_of_getElem? hx))
    refine ⟨g, cap, A, _, c, rfl, ?_, hrd, h4, h5⟩
    simp only [World.cell?, hg, Option.isSome_none, Bool.false_eq_true, if_false]
    have := congrArg (fun x => x[j]?) htake
    simp only [Nat.mul_one, List.getElem?_take, if_pos hj, h1, Array.getElem?_toList] at this
    exact this

/-- The log's opening, as the store's asks it. -/
def WOpen (w : World) (p g : Nat) (L : Wal.Lg) (Q : Dk → Prop) (e : Ending) (w' : World) : Prop := ∃ d' F b, e = .returned (.tuple #[.pointer (some ⟨b, 0, none⟩), .int .i64 0]) ∧ Wal.Live d' L ∧ Q d' ∧ Wl w' F b p g d' L ∧ (∀ k, F k → w.heap.size ≤ k) ∧ Keeps (fun k => k = p ∨ k = g) w w'
/-- What Open answers. -/
def RetKOpen (w : World) (p g : Nat) (L : Wal.Lg) (Q : Dk → Prop) (T : Tab) (e : Ending) (w' : World) : Prop := ∃ d' F s b m, e = .returned (.tuple #[.pointer (some ⟨s, 0, none⟩), .int .i64 0]) ∧ Wal.Live d' L ∧ Q d' ∧ Sv w' F s b p g m 0 d' L T ∧ (∀ k, F k → w.heap.size ≤ k) ∧ w.heap.size ≤ s ∧ w.heap.size ≤ m ∧ Keeps (fun k => k = p ∨ k = g) w w'

set_option maxHeartbeats 8000000 in
set_option maxRecDepth 100000 in
theorem kopen_any (p g : Nat) (L : Wal.Lg) (Q : Dk → Prop) (T : Tab) (w : World) (hsay : Kv.Says L.recs T) (hop : Calls Try.prog 46 #[.pointer (some ⟨p, 0, none⟩)] w (WOpen w p g L Q)) :
    Calls Try.prog 56 #[.pointer (some ⟨p, 0, none⟩)] w (RetKOpen w p g L Q T) := by
  have hmm := @run_makeMap Try.prog
  go_enter Try.func56, Try.ntmps56
  go_wp2_with fail
  refine hop.mono ?_
  rintro e w1 ⟨d', F, b, rfl, hL, hQ, hW, hF, hk1⟩
  have hz1 := hk1.size
  have hpg := hW.disk.lt
  have kA : Keeps Non w1 ((w1.alloc (.map #[] 0)).alloc (.cells #[.pointer (some ⟨b, 0, none⟩), .map (some w1.heap.size), .int .i64 0] 136)) := ((Keeps.refl _ _).alloc _).alloc _
  obtain ⟨m, hm⟩ : ∃ m, m = w1.heap.size := ⟨_, rfl⟩
  obtain ⟨s, hs⟩ : ∃ s, s = w1.heap.size + 1 := ⟨_, rfl⟩
  have hT0 : TabW (Zs p g F s) ((w1.alloc (.map #[] 0)).alloc (.cells #[.pointer (some ⟨b, 0, none⟩), .map (some w1.heap.size), .int .i64 0] 136)) w1.heap.size [] := (TabAt.made _ _ _ w1).keepN ((Keeps.refl _ _).alloc _)
  have hst0 : StA ((w1.alloc (.map #[] 0)).alloc (.cells #[.pointer (some ⟨b, 0, none⟩), .map (some w1.heap.size), .int .i64 0] 136)) s b w1.heap.size 0 := ⟨by
    have := heap_new (w1.alloc (.map #[] 0)) (.cells #[.pointer (some ⟨b, 0, none⟩), .map (some w1.heap.size), .int .i64 0] 136)
    rw [show (w1.alloc (.map #[] 0)).heap.size = s by rw [hs]; simp] at this
    exact this⟩
  obtain ⟨w2, hw2⟩ : ∃ w2, w2 = (w1.alloc (.map #[] 0)).alloc (.cells #[.pointer (some ⟨b, 0, none⟩), .map (some w1.heap.size), .int .i64 0] 136) := ⟨_, rfl⟩
  have hz2 : w2.heap.size = w1.heap.size + 2 := by rw [hw2]; simp
  have H2 := Lib.hid hw2
  have HM := Lib.hid hm
  have HSs := Lib.hid hs
  rw [← hw2] at hT0 hst0 kA
  rw [← hm] at hT0 hst0
  have hW2 := hW.keepN kA
  have hR := Lib.hid (records_any F b p g d' L w2 hW2)
  have hFz : ∀ k, Zs p g F s k → k < w2.heap.size := fun k q => by
    rcases q with q | q | q | q
    · omega
    · omega
    · have := hW.old k q; omega
    · omega
  have hmZ : ¬ Zs p g F s m := fun q => by
    rcases q with q | q | q | q
    · omega
    · omega
    · have := hW.old m q; omega
    · omega
  have hsZ : s ≠ p ∧ s ≠ g ∧ ¬ F s := ⟨by omega, by omega, fun q => by have := hW.old s q; omega⟩
  clear hw2 hm hs hop
  go_wp2_with fail
  have e2 : w1.heap.size + 1 = s := HSs.out.symm
  rw [← H2.out]
  rw [e2]
  rw [← HM.out]
  refine hR.out.mono ?_
  rintro e w3 ⟨v3, vs3, rfl, hO, hk3⟩
  obtain ⟨R, hRR⟩ : ∃ R, R = L.recs := ⟨_, rfl⟩
  rw [← hRR] at hO hsay
  obtain ⟨A3, c3, rfl⟩ := own_slice hO.row
  obtain ⟨n, hn⟩ : ∃ n, n = R.length := ⟨_, rfl⟩
  rw [← hn]
  have HN := Lib.hid hn
  have HRR := Lib.hid hRR
  have hT3 := hT0.keepN hk3
  have hst3 := hst0.keep hk3 id
  have hW3 := hW2.keepN hk3
  have hK3 : Keeps (fun k => k = p ∨ k = g) w w3 := hk1.trans ((kA.trans hk3).mono fun _ _ q => q.elim)
  have hz3 := hk3.size
  have hfit : ∀ t ∈ R, Wal.Fit t := by rw [hRR]; exact hL.ex.fit
  have hcost : Wal.cost R ≤ 1048576 := by
    have h1 := hL.le
    have h2 := hL.fin
    have h3 := Wal.hs_le hL.wf
    rw [← hRR] at h2
    omega
  obtain ⟨ss, hss, hok, hfold⟩ := hsay
  have hlen : ss.length = R.length := by rw [hss]; simp
  have hn2 : n ≤ 1048576 := by have := cost_ge R hfit; omega
  clear hT0 hst0 hW2 hk1 kA hk3 hn hRR hR hW hmm
  go_wp2
  go_loopw [26] (fun i wr => ∃ j : Nat, j ≤ n ∧ i = .int .i64 j ∧ TabW (Zs p g F s) wr m ((ss.take j).foldl Kv.doAll []) ∧ Keeps (fun k => k = m) w3 wr) (fun i _ => n - (intOf i).toNat)
  case atStart => exact ⟨0, Nat.zero_le _, rfl, hT3, Keeps.refl _ _⟩
  case round =>
    obtain ⟨j, hj, rfl, hT, hk⟩ := hrel
    have hstr := hst3.keep hk (fun q => hmZ (.inr (.inr (.inr q.symm))))
    obtain ⟨s0, s1, s2⟩ := trio hstr.st
    by_cases hlt : j < n
    · have hlR : j < R.length := by rw [← HN.out]; exact hlt
      have hls : j < ss.length := by rw [hlen]; exact hlR
      have hj1 : R[j]? = some (Kv.encAll ss[j]) := by rw [hss, List.getElem?_map, List.getElem?_eq_getElem hls]; rfl
      have hokj := hok ss[j] (List.getElem_mem hls)
      have H2f : Hid ((ss.take (j + 1)).foldl Kv.doAll [] = Kv.doAll ((ss.take j).foldl Kv.doAll []) ss[j]) := by show _ = _; rw [List.take_succ_eq_append_getElem hls, List.foldl_append]; rfl
      have hOr := hO.keep hk (fun k q e => by have := (Array.getElem?_eq_some_iff.1 hst3.st).1; have := HM.out; omega)
      obtain ⟨g', c', Aj, nj, cj, ev, q0, hrd, hnc, hcm⟩ := hOr.cell_ (fit_len hfit) hj1
      injection ev with ev1 ev2 ev3
      subst ev1
      subst ev3
      clear ev2
      have hfj := hfit _ (List.mem_of_getElem? hj1)
      obtain ⟨l, hl⟩ : ∃ l, l = ss[j] := ⟨_, rfl⟩
      rw [← hl] at hj1 hokj H2f hrd hfj
      have hnl := hrd.len
      have hll := encAll_many l
      have hl6 := hfj.2
      have hfl := fold_len (ss.take j) []
      simp only [List.length_nil, Nat.zero_add] at hfl
      have hct : Wal.cost ((ss.take j).map Kv.encAll) ≤ Wal.cost R := by
        rw [hss, List.map_take]
        exact cost_take_le _ j
      obtain ⟨Tj, hTj⟩ : ∃ Tj, Tj = (ss.take j).foldl Kv.doAll [] := ⟨_, rfl⟩
      rw [← hTj] at hT H2f hfl
      have HST := Lib.hid (steps_any l hokj Aj nj cj (by have := hfj.2; omega) hnc hcm wr hrd)
      clear hl hTj hO hOr hrd hj1
      go_wp2_with fail
      refine HST.out.mono ?_
      rintro e w4 ⟨v4, S4, rfl, hS4, hk4⟩
      have hzr := hk.size
      obtain ⟨A4, c4, rfl, hrdS, -, -⟩ := hS4.rdS (by omega) (Z := Zs p g F s) (fun k hk' _ q => by have := hFz k q; omega)
      have hstr4 := hstr.keep hk4 id
      obtain ⟨y0, y1, y2⟩ := trio hstr4.st
      have HAL := Lib.hid (all_any l hokj (Zs p g F s) m Tj (by omega) A4 l.length c4 w4 (hT.keepN hk4) hrdS)
      clear HST hS4 hrdS hT
      go_wp2_with fail
      refine HAL.out.mono ?_
      rintro e w5 ⟨rfl, hT5, hk5⟩
      have hk35 : Keeps (fun k => k = m) w3 w5 := (hk.trans (hk4.mono fun _ _ q => q.elim)).trans hk5
      clear HAL hk hk4 hk5 hstr hstr4
      go_wp2_with fail
      go_roundw
      case rel => exact ⟨j + 1, by omega, by go_num, by rw [H2f.out]; exact hT5, hk35⟩
      case measure => simp [intOf]; omega
    · obtain rfl : j = n := by omega
      have e3 : ss.take j = ss := List.take_of_length_le (by rw [hlen, ← HN.out]; exact Nat.le_refl _)
      rw [e3, hfold] at hT
      have hKr : Keeps (fun k => k = p ∨ k = g) w wr := hK3.into hk (fun k hk' e => by have := HM.out; omega)
      have hsv : Sv wr F s b p g m 0 d' L T := ⟨hW3.keep hk (fun k q e => hmZ (by rcases q with q | q | q; exact .inr (.inr (.inl (e ▸ q))); exact .inl (e ▸ q); exact .inr (.inl (e ▸ q)))), hstr, hT, hsZ.1, hsZ.2.1, hsZ.2.2, hmZ⟩
      have hfin := Lib.hid (show RetKOpen w p g L Q T (.returned (.tuple #[.pointer (some ⟨s, 0, none⟩), .int .i64 0])) wr from
        ⟨d', F, s, b, m, rfl, hL, hQ, hsv, hF, by have := HSs.out; omega, by have := HM.out; omega, hKr⟩)
      clear hT hKr hsv hO hK3 hW3 hst3 hT3 hstr
      go_wp2_with fail
      go_ret2
      exact hfin.out
end Go.Proofs.Ytbmamhcjbhnkiaa
