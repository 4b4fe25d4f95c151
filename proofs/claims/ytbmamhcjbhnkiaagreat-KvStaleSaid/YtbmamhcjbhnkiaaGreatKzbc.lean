/- Layer 9 (the great seat): the walk of the law KvStale. -/
import Derived.Test.YtbmamhcjbhnkiaaGreatKzbb
namespace Go.Proofs.YtbmamhcjbhnkiaaGreat
open Go.RowKit Go.Maps
open Kv (Bs Tab)

theorem TabW.empty {Z Z' : Nat → Prop} {w : World} {m : Nat} (h : TabW Z w m []) : TabW Z' w m [] := by
  obtain ⟨es, h1, h2⟩ := h.ex
  refine ⟨⟨es, h1, ?_⟩, h.rise⟩
  cases es with
  | nil => trivial
  | cons e r => exact h2.elim
theorem two_ops {w : World} {b : Nat} {e : TypeId} {fr : Nat × Nat} {a0 a1 : Option Addr} {n0 c0 n1 c1 : Nat} {Qa Qb : List Kv.St}
    (hb : w.heap[b]? = some (.cells #[.int .i64 0, .int .i64 0, .int .i64 0, .slice a0 n0 c0, .int .i64 0, .int .i64 0, .int .i64 0, .slice a1 n1 c1] e fr)) (h0 : IsSteps w a0 n0 c0 Qa) (h1 : IsSteps w a1 n1 c1 Qb) :
    RdO w (some ⟨b, 0, none⟩) 2 [⟨0, 0, 0, a0, n0, c0, Qa⟩, ⟨0, 0, 0, a1, n1, c1, Qb⟩] :=
  ⟨rfl, fun _ => ⟨b, 0, rfl, (Array.getElem?_eq_some_iff.1 hb).1, fun j o ho => by
    match j, ho with
    | 0, ho => simp at ho; subst ho; simp [World.cell?, hb]
    | 1, ho => simp at ho; subst ho; simp [World.cell?, hb]
    | _ + 2, ho => simp at ho⟩, fun o ho => by
    simp at ho
    rcases ho with rfl | rfl
    · exact h0
    · exact h1⟩
theorem cook_enc {Q : List Kv.St} (h : Mild Q) : (Kv.encAll (Q.map cook)).length ≤ 1792 := by
  have h1 := encAll_le 20 200 (Q.map cook) fun p hp => (cook_ok h p hp).2
  have h2 := h.1
  rw [List.length_map] at h1
  omega

set_option maxHeartbeats 16000000 in
set_option maxRecDepth 100000 in
theorem kvStale_walk (a0 : Option Addr) (len0 cap0 : Nat) (Qa : List Kv.St) (a1 : Option Addr) (len1 cap1 : Nat) (Qb : List Kv.St) (w : World) (w0 : IsSteps w a0 len0 cap0 Qa) (w1 : IsSteps w a1 len1 cap1 Qb) :
    Calls Tryz.prog 5 #[.slice a0 len0 cap0, .slice a1 len1 cap1] w fun e w' => e = .returned (.bool true) ∧ Below w.heap.size w w' := by
  have hle0 := w0.le
  have hcm0 := w0.cm
  have hle1 := w1.le
  have hcm1 := w1.cm
  have HL0 := Lib.hid w0.hlen
  have HL1 := Lib.hid w1.hlen
  go_enter Tryz.func5, Tryz.ntmps5
  go_wp2_with fail
  refine (anchor9_any _).mono ?_
  rintro e w2 ⟨rfl, hk02⟩
  have kM : Keeps Non w2 (w2.alloc (.cells #[.int .i64 0, .int .i64 0, .int .i64 0, .slice a0 len0 cap0, .int .i64 0, .int .i64 0, .int .i64 0, .slice a1 len1 cap1] 35)) := (Keeps.refl _ _).alloc _
  have hM := two_ops (heap_new w2 (.cells #[.int .i64 0, .int .i64 0, .int .i64 0, .slice a0 len0 cap0, .int .i64 0, .int .i64 0, .int .i64 0, .slice a1 len1 cap1] 35)) ((w0.keepN hk02).keepN kM) ((w1.keepN hk02).keepN kM)
  have Hm := Lib.hid (mild_any _ 2 2 _ _ (by omega) hM)
  have hk0M := hk02.trans kM
  clear kM hM hk02
  go_wp2_with fail
  refine Hm.out.mono ?_
  rintro e w3 ⟨bm, rfl, hbm, hk3⟩
  have hk03 := hk0M.trans hk3
  have Hbm := Lib.hid hbm
  clear Hm hk3 hk0M hbm
  cases bm with
  | false =>
    go_wp2_with fail
    go_ret
    exact ⟨rfl, hk03.none_below⟩
  | true =>
    obtain ⟨hall, -⟩ := Hbm.out rfl
    have HMa : Hid (Mild Qa) := hall _ (List.mem_cons_self ..)
    have HMb : Hid (Mild Qb) := hall ⟨0, 0, 0, a1, len1, cap1, Qb⟩ (by simp)
    clear hall Hbm
    go_wp2_with fail
    refine (new_ex 16384 (by omega) (by omega) w3).mono ?_
    rintro e w4 ⟨p, g, rfl, hD4, hp, hg, hk4⟩
    go_wp2_with fail
    refine (kopen_fresh p g 16384 (by omega) (by omega) w4 hD4).mono ?_
    rintro e w5 ⟨d, F, s, b, m, rfl, hL, ⟨hlit, hdl⟩, hS, hF, hs, hm, hk5⟩
    have hs3 := hk03.size
    have hs4 := hk4.size
    have hk05 : Keeps Non w w5 := (hk03.trans hk4).into hk5 fun k h1 h2 => by show False; omega
    have hz : Wal.hs d = 8192 := by unfold Wal.hs; rw [hdl]
    have HZ : Hid (∀ k, Zs p g F s k → w.heap.size ≤ k) := fun k q => by
      rcases q with q | q | q | q
      · omega
      · omega
      · have := hF k q; omega
      · omega
    have hml := hS.tab.lt
    clear hk03 hk4 hk5 hD4
    have Hb := Lib.hid (begin_any (Zs p g F s) s b m 0 [] w5 hS.st hS.tab hS.lt)
    go_wp2_with fail
    refine Hb.out.mono ?_
    rintro e w6 ⟨c, mc, rfl, hc6, h1, h2, hk6⟩
    have hS6 := hS.keepN hk6
    have hk06 := hk05.trans hk6
    have hcl := (Array.getElem?_eq_some_iff.1 hc6.st).1
    have hmcl := hc6.tab.lt
    have Hb2 := Lib.hid (begin_any (fun k => Zs p g F s k ∨ k = c ∨ k = mc) s b m 0 [] w6 hS6.st hS6.tab.empty (fun k q => by
      rcases q with q | q | q
      · have := hS.lt k q; have := hk6.size; omega
      · omega
      · omega))
    have hw5 := hk05.size
    have HS := Lib.hid hS6
    have Hc6 := Lib.hid hc6
    have HZl : Hid (∀ k, Zs p g F s k → k < w5.heap.size) := hS.lt
    clear Hb hS hS6 hc6 hk6 hk05 hs hm hF
    go_wp2_with fail
    refine Hb2.out.mono ?_
    rintro e w7 ⟨x, mx, rfl, hx7, h3, h4, hk7⟩
    have HS7 := Lib.hid (HS.out.keepN hk7)
    have hc7 := (Hc6.out.grow (Y' := fun k => Zs p g F s k ∨ k = x ∨ k = mx) fun k q => by
      rcases q with q | q | q
      · exact .inl q
      · exact .inr (by omega)
      · exact .inr (by omega)).keepN hk7
    have hk07 := hk06.trans hk7
    have hxl := (Array.getElem?_eq_some_iff.1 hx7.st).1
    have hmxl := hx7.tab.lt
    have hw7 := hk7.size
    have hw6 := hk06.size
    have HCw : Hid (∀ (y my : Nat), w.heap.size ≤ y → w.heap.size ≤ my → ∀ k, k < w.heap.size → ¬ Cb y my (.slice none 0 0) k) := fun y my e1 e2 k hk q => by
      rcases q with q | q | q
      · omega
      · omega
      · exact noown _ q
    have hq7 : RdQ (Cb c mc (.slice none 0 0)) w7 a0 len0 Qa := (w0.rdQ (HCw.out c mc (by omega) (by omega))).keep hk07 (fun _ q => q.elim)
    have Hch := Lib.hid (changed_any (fun k => Zs p g F s k ∨ k = x ∨ k = mx) (fun k => Zs p g F s k ∨ k = x ∨ k = mx) c s mc 0 (.slice none 0 0) [] [] none 0 0 a0 len0 cap0 Qa w7 (fun k q => by
      rcases q with q | q | q
      · have := HZl.out k q; omega
      · omega
      · omega) (fun k q => by
      rcases q with q | q | q
      · have := HZl.out k q; omega
      · omega
      · omega) hc7 (RdR.nil _ _ _) hq7 HMa.out (by have := HMa.out.1; simp; omega) (by have := HMa.out.1; simp; omega) (fun p hp => by simp at hp))
    have Hx7 := Lib.hid hx7
    clear Hb2 HS Hc6 hc7 hq7 hx7 hk06 hk7
    go_wp2_with fail
    refine Hch.out.mono ?_
    rintro e w8 ⟨v8, A8, n8, c8, rfl, hc8, hr8, hk8, hv8⟩
    have HCin : ∀ (y my k : Nat), Cb y my (.slice none 0 0) k → k = y ∨ k = my := fun y my k q => by
      rcases q with q | q | q
      · exact .inl q
      · exact .inr q
      · exact (noown _ q).elim
    have Hv8 : Hid (∀ k, v8.ownBlock = some k → w5.heap.size ≤ k) := fun k q => by
      rcases hv8 with e | ⟨g', e, e2⟩
      · rw [e] at q; exact (noown _ q).elim
      · rw [e] at q; injection q with q; omega
    have hx8 := Hx7.out.keep hk8 (fun k q => by rcases HCin _ _ _ q with q | q; exact .inr (.inl q); exact .inr (.inr q))
    have HS8 := Lib.hid (HS7.out.keep hk8 (fun k q z => by have := HZl.out k z; rcases HCin _ _ _ q with q | q <;> omega) (fun q => by rcases HCin _ _ _ q with q | q <;> omega)
      (TabW.empty ((HS7.out.tab.empty (Z' := Cb c mc (.slice none 0 0))).keep hk8 (fun q => by rcases HCin _ _ _ q with q | q <;> omega) fun _ q => q)))
    have hk08 := hk07.into hk8 (HCw.out c mc (by omega) (by omega))
    have hw8 := hk8.size
    have hq8 : RdQ (Cb x mx (.slice none 0 0)) w8 a1 len1 Qb := (w1.rdQ (HCw.out x mx (by omega) (by omega))).keep hk08 (fun _ q => q.elim)
    have Hch := Lib.hid (changed_any (fun k => Zs p g F s k ∨ k = c ∨ k = mc) (fun k => Zs p g F s k ∨ k = c ∨ k = mc) x s mx 0 (.slice none 0 0) [] [] none 0 0 a1 len1 cap1 Qb w8 (fun k q => by
      rcases q with q | q | q
      · have := HZl.out k q; omega
      · omega
      · omega) (fun k q => by
      rcases q with q | q | q
      · have := HZl.out k q; omega
      · omega
      · omega) hx8 (RdR.nil _ _ _) hq8 HMb.out (by have := HMb.out.1; simp; omega) (by have := HMb.out.1; simp; omega) (fun p hp => by simp at hp))
    have Hc8 := Lib.hid hc8
    have Hr8 := Lib.hid hr8
    clear Hx7 hx8 hk8 hv8 HS7 hq8 hc8 hr8 hk07
    go_wp2_with fail
    refine Hch.out.mono ?_
    rintro e w9 ⟨v9, A9, n9, c9, rfl, hx9, hr9, hk9, hv9⟩
    rw [List.nil_append] at hx9
    have hc9 := Hc8.out.keep hk9 (fun k q => by rcases HCin _ _ _ q with q | q; exact .inr (.inl q); exact .inr (.inr q))
    rw [List.nil_append] at hc9
    have hS9 := HS8.out.keep hk9 (fun k q z => by have := HZl.out k z; rcases HCin _ _ _ q with q | q <;> omega) (fun q => by rcases HCin _ _ _ q with q | q <;> omega)
      (TabW.empty ((HS8.out.tab.empty (Z' := Cb x mx (.slice none 0 0))).keep hk9 (fun q => by rcases HCin _ _ _ q with q | q <;> omega) fun _ q => q))
    have hl9 := Hr8.out.keep hk9 (fun k q => by rcases HCin _ _ _ q with q | q; exact .inl (.inr (.inl q)); exact .inl (.inr (.inr q)))
    have hk09 := hk08.into hk9 (HCw.out x mx (by omega) (by omega))
    have hw9 := hk9.size
    have Hv9 : Hid (∀ k, v9.ownBlock = some k → w5.heap.size ≤ k) := fun k q => by
      rcases hv9 with e | ⟨g', e, e2⟩
      · rw [e] at q; exact (noown _ q).elim
      · rw [e] at q; injection q with q; omega
    obtain ⟨la, hla⟩ : ∃ la, la = Qa.map cook := ⟨_, rfl⟩
    obtain ⟨lb, hlb⟩ : ∃ lb, lb = Qb.map cook := ⟨_, rfl⟩
    have hoka : ∀ q ∈ la, q.ok := fun q hq => (cook_ok HMa.out q (by rw [← hla]; exact hq)).1
    have hokb : ∀ q ∈ lb, q.ok := fun q hq => (cook_ok HMb.out q (by rw [← hlb]; exact hq)).1
    have hea : (Kv.encAll la).length ≤ 1792 := by rw [hla]; exact cook_enc HMa.out
    have heb : (Kv.encAll lb).length ≤ 1792 := by rw [hlb]; exact cook_enc HMb.out
    have hna : la.length = len0 := by rw [hla, List.length_map]; exact HL0.out
    have hnb : lb.length = len1 := by rw [hlb, List.length_map]; exact HL1.out
    have hla8 : len0 ≤ 8 := by rw [← HL0.out]; exact HMa.out.1
    have hlb8 : len1 ≤ 8 := by rw [← HL1.out]; exact HMb.out.1
    rw [← hla] at hc9 hl9
    rw [← hlb] at hx9 hr9
    obtain ⟨Ta, hTa⟩ : ∃ Ta, Ta = Kv.doAll [] la := ⟨_, rfl⟩
    obtain ⟨Tb, hTb⟩ : ∃ Tb, Tb = Kv.doAll [] lb := ⟨_, rfl⟩
    rw [← hTa] at hc9 hl9
    rw [← hTb] at hx9 hr9
    have hta : Kv.tsize Ta ≤ 1792 := by rw [hTa]; have := Kv.tsize_doAll la []; rw [show Kv.tsize ([] : Tab) = 0 from rfl] at this; omega
    have htb : Kv.tsize Tb ≤ 1792 := by rw [hTb]; have := Kv.tsize_doAll lb []; rw [show Kv.tsize ([] : Tab) = 0 from rfl] at this; omega
    have hTal : Ta.length ≤ 8 := by rw [hTa]; have := length_doAll la []; rw [List.length_nil] at this; omega
    have hTbl : Tb.length ≤ 8 := by rw [hTb]; have := length_doAll lb []; rw [List.length_nil] at this; omega
    have hrca : Kv.rcost Ta ≤ 9 + 1792 := by unfold Kv.rcost; split <;> omega
    have hrcb : Kv.rcost Tb ≤ 9 + 1792 := by unfold Kv.rcost; split <;> omega
    have hSes : Ses w9 w5.heap.size F s b p g m 0 d L0 [] c mc v8 la Ta false := ⟨hS9, hS9.tab.empty, hc9.grow fun k q => .inl (.inl q), h1, h2, Hv8.out, hml, HZl.out⟩
    have Hc := Lib.hid (commit_fresh2 hSes (by decide) hL Kv.Says.nil hlit hTa hoka (by omega) (by decide) (by omega) (by omega) (by rw [hz]; omega))
    have Hx9 := Lib.hid hx9
    have Hl9 := Lib.hid hl9
    have Hr9 := Lib.hid hr9
    have HTb := Lib.hid hTb
    have HTa := Lib.hid hTa
    have Hokb := Lib.hid hokb
    clear Hch hSes hx9 hl9 hr9 hc9 hS9 HS8 Hc8 Hr8 hk9 hv9 hk08 hTb hTa hla hlb hoka hokb HCw
    go_wp2_with fail
    refine Hc.out.mono ?_
    rintro e w10 ⟨rfl, F', m', age', d', L', hS10, hL10, hsay10, hlit10, hF10, hE0, hE1, hk10⟩
    have hx10 := ((Hx9.out.grow (Y' := fun k => (Zs p g F s k ∨ k = c ∨ k = mc) ∨ Zs p g F' s k) fun k q => by
      rcases q with q | q | q | q | q
      · exact .inl q
      · exact .inl (.inl (.inl q))
      · exact .inl (.inl (.inr (.inl q)))
      · rcases hF10 k q with r | r
        · exact .inl (.inl (.inr (.inr (.inl r))))
        · exact .inr r
      · exact .inl (.inl (.inr (.inr (.inr q))))).keep hk10 (fun k q => by
      rcases q with q | q
      · exact .inl (.inr (.inl q))
      · exact .inl (.inl q)))
    have hl10 := Hl9.out.keep hk10 (fun k q => by
      rcases q with q | q
      · exact .inr (.inl q)
      · exact .inl (.inl q))
    have hr10 := Hr9.out.keep hk10 (fun k q => by
      rcases q with q | q
      · exact .inl (.inr (.inl q))
      · exact .inl (.inl q))
    have hk010 : Keeps Non w w10 := hk09.into hk10 fun k q1 q2 => by
      show False
      rcases q2 with q | q
      · omega
      · have := HZ.out k q; omega
    have hw10 := hk10.size
    have HF10 := Lib.hid hF10
    clear Hc Hx9 Hl9 Hr9 hk10 hk09 hF10
    cases la with
    | nil =>
      have hn0 : len0 = 0 := hna.symm
      obtain ⟨rfl, rfl, rfl, rfl, rfl⟩ := hE0 rfl
      have hTa0 : Ta = [] := HTa.out
      subst hTa0
      have hSes : Ses w10 w5.heap.size F' s b p g m' 0 d' L0 [] x mx v9 lb Tb false := ⟨hS10, hS10.tab.empty, hx10.grow fun k q => .inl (.inr q), by omega, by omega, Hv9.out, hml, HZl.out⟩
      have Hc := Lib.hid (commit_fresh2 hSes (by decide) hL Kv.Says.nil hlit HTb.out Hokb.out (by omega) (by decide) (by omega) (by omega) (by rw [hz]; omega))
      have Hr10 := Lib.hid hr10
      have Hk010 := Lib.hid hk010
      clear hSes hx10 hl10 hr10 hS10 hE0 hE1 hk010
      subst hn0
      go_wp2_with fail
      refine Hc.out.mono ?_
      rintro e w11 ⟨rfl, F'', m'', age'', d'', L'', hS11, -, -, -, -, -, -, hk11⟩
      have hr11 := Hr10.out.keep hk11 (fun k q => by
        rcases q with q | q
        · exact .inr (.inl q)
        · exact .inl (.inl q))
      have hk011 : Keeps Non w w11 := Hk010.out.into hk11 fun k q1 q2 => by
        show False
        rcases q2 with q | q
        · omega
        · have := HZ.out k q; omega
      have Hs := Lib.hid (sscan_any (Zs p g F'' s) s b m'' age'' Tb [] (by omega) w11 hS11.st hS11.tab)
      have hTl : Tb.length ≤ 8 := hTbl
      have hRz := hr11
      clear Hc Hr10 Hk010 hS11 hk11 hr11
      have hRn := hRz.len
      subst hRn
      go_wp2_with fail
      refine Hs.out.mono ?_
      rintro e wa ⟨va, da, rfl, hda, hPa, ka⟩
      rw [Kv.pre_nil] at hda
      have hka := hk011.trans ka
      have hRa := hRz.keepN ka
      have hdl' : da.length ≤ 1048576 := by have := congrArg List.length hda; rw [keys_len] at this; omega
      have Hl := Lib.hid (listed_any _ va da wa hdl' hPa)
      rw [hda] at Hl
      clear Hs ka hRz hk011 hPa hda hdl'
      go_wp2_with fail
      refine Hl.out.mono ?_
      rintro e wb ⟨vb, rfl, hOb, kb⟩
      have hkb := hka.trans kb
      have hRb := hRa.keepN kb
      obtain ⟨Ab, cb, rfl, hRb', -, -⟩ := OwnR.rdR (Z := Non) hOb (by omega) (fun _ _ q => q)
      have Hsm := Lib.hid (same9_any _ _ Ab A9 _ _ cb c9 _ _ wb hRb' hRb)
      rw [decide_eq_true rfl] at Hsm
      clear Hl kb hRa hka hOb hRb' hRb
      go_wp2_with fail
      refine Hsm.out.mono ?_
      rintro e wc ⟨rfl, q, rfl⟩
      have hkc := hkb.trans ((Keeps.refl Non wb).drewN q)
      go_wp2_with fail
      go_ret
      exact ⟨rfl, hkc.none_below⟩
    | cons y ys =>
      have hn0 : ¬ len0 = 0 := by rw [← hna]; simp
      have hage := (hE1 (by simp))
      subst hage
      have Hc := Lib.hid (commit_stale false b m' (0 + 1) (.inr (by omega)) (by omega) (by omega) hS10.st hx10)
      have hnu := hx10.no_u8
      have hxb := hx10.st
      have hsx := (hS10.st.ne hx10).1
      have HS10 := Lib.hid hS10
      have Hl10 := Lib.hid hl10
      have Hk010 := Lib.hid hk010
      have Hnu := Lib.hid hnu
      have Hxb := Lib.hid hxb
      clear hx10 hl10 hr10 hS10 hE0 hE1 hk010 hnu hxb
      go_wp2_with fail
      refine Hc.out.mono ?_
      rintro e w11 ⟨rfl, -, hk11⟩
      have hst11 := HS10.out.st.keep hk11 hsx
      have htab11 : TabW (Zs p g F' s) w11 m' Ta := TabAt.struct HS10.out.tab Hxb.out Hnu.out hk11
      have hl11 := Hl10.out.keep hk11 (fun k q => .inl (.inr (.inl q)))
      have hk011 : Keeps Non w w11 := Hk010.out.into hk11 fun k q1 q2 => by show False; omega
      have Hs := Lib.hid (sscan_any (Zs p g F' s) s b m' (0 + 1) Ta [] (by omega) w11 hst11 htab11)
      have hTl : Ta.length ≤ 8 := hTal
      have hRz := hl11
      clear Hc HS10 Hl10 Hk010 Hnu Hxb hst11 htab11 hk11 hl11
      have hRn := hRz.len
      subst hRn
      go_wp2_with fail
      refine Hs.out.mono ?_
      rintro e wa ⟨va, da, rfl, hda, hPa, ka⟩
      rw [Kv.pre_nil] at hda
      have hka := hk011.trans ka
      have hRa := hRz.keepN ka
      have hdl' : da.length ≤ 1048576 := by have := congrArg List.length hda; rw [keys_len] at this; omega
      have Hl := Lib.hid (listed_any _ va da wa hdl' hPa)
      rw [hda] at Hl
      clear Hs ka hRz hk011 hPa hda hdl'
      go_wp2_with fail
      refine Hl.out.mono ?_
      rintro e wb ⟨vb, rfl, hOb, kb⟩
      have hkb := hka.trans kb
      have hRb := hRa.keepN kb
      obtain ⟨Ab, cb, rfl, hRb', -, -⟩ := OwnR.rdR (Z := Non) hOb (by omega) (fun _ _ q => q)
      have Hsm := Lib.hid (same9_any _ _ Ab A8 _ _ cb c8 _ _ wb hRb' hRb)
      rw [decide_eq_true rfl] at Hsm
      clear Hl kb hRa hka hOb hRb' hRb
      go_wp2_with fail
      refine Hsm.out.mono ?_
      rintro e wc ⟨rfl, q, rfl⟩
      have hkc := hkb.trans ((Keeps.refl Non wb).drewN q)
      go_wp2_with fail
      go_ret
      exact ⟨rfl, hkc.none_below⟩
end Go.Proofs.YtbmamhcjbhnkiaaGreat
