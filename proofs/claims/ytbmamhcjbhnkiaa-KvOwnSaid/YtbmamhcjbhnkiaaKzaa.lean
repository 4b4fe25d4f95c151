/- Layer 9: the walk of the law KvOwn. -/
import Derived.Test.YtbmamhcjbhnkiaaKzv
namespace Go.Proofs.Ytbmamhcjbhnkiaa
open Go.RowKit Go.Maps
open Kv (Bs Tab)

theorem not_b (x : UInt8) : ∃ y : UInt8, Value.int .u8 (bits .xor .u8 IntKind.u8.max (x.toNat : Int)) = bv y := by
  refine ⟨UInt8.ofNat (bits .xor .u8 IntKind.u8.max (x.toNat : Int)).toNat, ?_⟩
  have h0 : 0 ≤ bits .xor .u8 IntKind.u8.max (x.toNat : Int) ∧ bits .xor .u8 IntKind.u8.max (x.toNat : Int) < 256 := by
    show 0 ≤ IntKind.u8.wrap _ ∧ IntKind.u8.wrap _ < 256
    generalize (_ : Int) = z
    show 0 ≤ _ ∧ _
    unfold IntKind.wrap
    simp [IntKind.min, IntKind.max, IntKind.bits, IntKind.signed]
    omega
  simp only [bv, UInt8.toNat_ofNat']
  congr 1
  omega

/-- Bytes of which one is turned. -/
theorem RdB.turn {w : World} {b off n : Nat} {l : Bs} (h : RdB w (some ⟨b, off, none⟩) n l) (hr : Raw w b) {j : Nat} (hj : j < n) (y : UInt8) :
    RdB (w.setCell ⟨b, off + j, none⟩ (bv y)) (some ⟨b, off, none⟩) n (l.set j y) ∧ Raw (w.setCell ⟨b, off + j, none⟩ (bv y)) b := by
  obtain ⟨cur, e, hb⟩ := hr
  have hb' := setCell_row w b (off + j) cur e (0, 0) hb (bv y)
  refine ⟨⟨by rw [List.length_set]; exact h.len, h.le, fun h0 => ⟨b, off, rfl, fun i u hu => ?_⟩⟩, _, _, hb'⟩
  obtain ⟨b1, o1, e1, hc⟩ := h.cells h0
  cases e1
  have hi : i < l.length := by have := (List.getElem?_eq_some_iff.1 hu).1; simpa using this
  have hci := hc i _ (List.getElem?_eq_getElem hi)
  simp only [World.cell?, hb, hb', Option.isSome_none, Bool.false_eq_true, if_false] at hci ⊢
  rw [Array.getElem?_setIfInBounds]
  by_cases hij : off + j = off + i
  · obtain rfl : j = i := by omega
    have hlt : off + j < cur.size := (Array.getElem?_eq_some_iff.1 hci).1
    rw [List.getElem?_set_self hi] at hu
    cases hu
    rw [if_pos rfl, if_pos hlt]
  · rw [if_neg hij, hci]
    rw [List.getElem?_set_ne (by omega), List.getElem?_eq_getElem hi] at hu
    rw [Option.some.inj hu]

set_option maxHeartbeats 4000000 in
theorem turn9_any (A : Option Addr) (n c : Nat) (l : Bs) (w : World) (hr : RdB w A n l) (hraw : 0 < n → ∀ a, A = some a → Raw w a.block) :
    Calls Try.prog 68 #[.slice A n c] w fun e w' => e = .returned (.tuple #[]) ∧ Keeps (fun k => 0 < n ∧ ∃ a, A = some a ∧ a.block = k) w w' := by
  rcases Nat.eq_zero_or_pos n with h0 | h0
  · subst h0
    go_enter Try.func68, Try.ntmps68
    go_wp2
    go_loopw [5] (fun i wr => i = .int .i64 0 ∧ wr = w) (fun _ _ => 0)
    case atStart => exact ⟨rfl, rfl⟩
    case round =>
      obtain ⟨rfl, rfl⟩ := hrel
      go_wp2_with fail
      go_end0
      exact ⟨rfl, Keeps.refl _ _⟩
  · obtain ⟨b, off, rfl, hc⟩ := hr.cells h0
    have hrb := hraw h0 _ rfl
    have hnle := hr.le
    clear hc hraw
    go_enter Try.func68, Try.ntmps68
    go_wp2
    go_loopw [5] (fun i wr => ∃ (j : Nat) (l' : Bs), j ≤ n ∧ i = .int .i64 j ∧ RdB wr (some ⟨b, off, none⟩) n l' ∧ Raw wr b ∧ Keeps (fun k => k = b) w wr) (fun i _ => n - (intOf i).toNat)
    case atStart => exact ⟨0, l, Nat.zero_le _, rfl, hr, hrb, Keeps.refl _ _⟩
    case round =>
      obtain ⟨j, l', hj, rfl, hr', hrb', hk⟩ := hrel
      by_cases hlt : j < n
      · obtain ⟨b1, o1, e1, hc⟩ := hr'.cells h0
        cases e1
        obtain ⟨x, hx⟩ : ∃ x, l'[j]? = some x := ⟨_, List.getElem?_eq_getElem (by rw [hr'.len]; exact hlt)⟩
        have q0 := hc j x hx
        obtain ⟨cur, e, hb⟩ := id hrb'
        have f0 := free hb (off + j)
        obtain ⟨y, hy⟩ := not_b x
        obtain ⟨h1, h2⟩ := hr'.turn hrb' hlt y
        have k1 : Keeps (fun k => k = b) wr (wr.setCell ⟨b, off + j, none⟩ (bv y)) := (Keeps.refl _ _).set1 _ _
        have HK := Lib.hid (hk.trans k1)
        have H1 := Lib.hid h1
        have H2 := Lib.hid h2
        clear hc hx hb h1 h2 hk k1 hr' hrb' hr hrb
        have HY : Hid (Value.int .u8 (bits BinOp.xor IntKind.u8 (if IntKind.u8.signed = true then -1 else IntKind.u8.max) (x.toNat : Int)) = bv y) := hy
        clear hy
        go_wp2_with fail
        rw [HY.out]
        exact ⟨⟨j + 1, _, by omega, by go_num, H1.out, H2.out, HK.out⟩, by simp [intOf]; omega⟩
      · obtain rfl : j = n := by omega
        have HK := Lib.hid hk
        clear hk hr' hrb'
        go_wp2_with fail
        go_end0
        exact ⟨rfl, HK.out.mono fun k _ q => ⟨h0, _, rfl, q.symm⟩⟩

set_option maxHeartbeats 8000000 in
set_option maxRecDepth 100000 in
theorem kvOwn_walk (a0 : Option Addr) (len0 cap0 : Nat) (z0 : List Int) (w : World) (w0 : IsRow .u8 w a0 len0 cap0 z0) :
    Calls Try.prog 21 #[.slice a0 len0 cap0] w fun e w' => e = .returned (.bool true) ∧ Below w.heap.size w w' := by
  have hlen0 := w0.len_le
  have hcap0 := w0.cap_le
  by_cases hout : 300 < len0
  · go_enter Try.func21, Try.ntmps21
    go_wp2_with fail
    refine (anchor9_any _).mono ?_
    rintro e w3 ⟨rfl, hk1⟩
    go_wp2_with fail
    go_ret
    exact ⟨rfl, hk1.none_below⟩
  · have hr0 := w0.rdB (by omega)
    generalize bytesOf z0 len0 = x at *
    clear w0
    have HX := Lib.hid hr0.len
    go_enter Try.func21, Try.ntmps21
    go_wp2_with fail
    refine (anchor9_any _).mono ?_
    rintro e w2 ⟨rfl, hk02⟩
    go_wp2_with fail
    refine (new_ex 4096 (by omega) (by omega) w2).mono ?_
    rintro e w3 ⟨p, g, rfl, hD3, hp, hg, hk3⟩
    go_wp2_with fail
    refine (kopen_fresh p g 4096 (by omega) (by omega) w3 hD3).mono ?_
    rintro e w4 ⟨d, F, s, b, m, rfl, hL, ⟨hlit, hdl⟩, hS, hF, hs, hm, hk4⟩
    have hs2 := hk02.size
    have hs3 := hk3.size
    have hk04 : Keeps Non w w4 := (hk02.trans hk3).into hk4 fun k h1 h2 => by show False; omega
    have hz : Wal.hs d = 2048 := by unfold Wal.hs; rw [hdl]
    have HZ : Hid (∀ k, Zs p g F s k → w.heap.size ≤ k) := fun k q => by
      rcases q with q | q | q | q
      · omega
      · omega
      · have := hF k q; omega
      · omega
    have hml := hS.tab.lt
    clear hk02 hk3 hk4 hD3
    have Hb := Lib.hid (begin_any (Zs p g F s) s b m 0 [] w4 hS.st hS.tab hS.lt)
    go_wp2_with fail
    refine Hb.out.mono ?_
    rintro e w5 ⟨c, mc, rfl, hc, h1, h2, hk5⟩
    have hE5 := Ses.began hS hml hc h1 h2 hk5
    have hk05 := hk04.trans hk5
    have HBw := Lib.hid hk04.size
    obtain ⟨B, hB⟩ : ∃ B, B = w4.heap.size := ⟨_, rfl⟩
    rw [← hB] at hE5 HBw
    clear Hb hS hml hc h1 h2 hk5 hk04 hB hs hm hF
    -- in
    have hown := own_empty w5 w5.heap.size 5 (Nat.le_refl _)
    have hsrc := src_bytes (P := Try.prog) Try.underlying22 ((hr0.keepN hk05).keepN ((Keeps.refl _ _).alloc (.cells #[] 5))) cap0
    have HE5 := Lib.hid hE5
    clear hE5
    go_wp2_with (at_builtin; refine hold_it ?_)
    refine let_go ?_
    refine wpList_append_src _ rfl _ _ 22 22 rfl w5.heap.size 5 (.int .u8 0) 1 1 Try.underlying22 info_u8 rfl (by decide) (.slice (some ⟨w5.heap.size, 0, none⟩) 0 0) _ _ rfl hown _ _ _ rfl hsrc (by unfold maxLen; omega) (by omega) (by simp) ?_
    intro v6 w6 hown6 hgrow6 hat6
    have hb6 : Below w5.heap.size w5 w6 := ((Below.refl _ _).alloc (Nat.le_refl _) _).grown hgrow6 (by simp) (fun j hj => by simp [Value.ownBlock] at hj; omega)
    have hk6 : Keeps Non w5 w6 := Keeps.of_below hb6
    simp only [Nat.zero_add, List.nil_append] at hown6
    have hoB := own_ge hown6
    obtain ⟨A6, c6, e6, hr6, hblk6, hn6, hm6⟩ := own_rdB hown6 (by omega)
    have hraw6 : 0 < len0 → ∀ a, A6 = some a → Raw w6 a.block := fun h0 a ha => own_raw hown6 h0 e6 ha
    have hlt6 : ∀ k, v6.ownBlock = some k → k < w6.heap.size := fun k q => own_lt hown6 q
    have hcY := ((HE5.out.ch.grow (Y' := fun k => Zs p g F s k ∨ v6.ownBlock = some k) fun k q => by
      rcases q with q | q
      · exact .inl q
      · exact .inr (hoB k q)).keepN hk6)
    have HE6 := Lib.hid (HE5.out.keepN hk6)
    have hk06 := hk05.trans hk6
    subst e6
    have Hp := Lib.hid (put_ok [107] x (by decide) (by decide) (by rw [HX.out]; omega) A6 len0 c6 (by decide) (by decide) hcY hr6 (fun k q => by
      rcases q with q | q
      · exact HE6.out.sv.lt k q
      · exact hlt6 k q))
    have HoB : Hid (∀ k, (Value.slice A6 len0 c6).ownBlock = some k → w.heap.size ≤ k ∧ B ≤ k) := fun k q => by
      have := hoB k q; have := HE5.out.size; have := hk05.size
      omega
    have Hblk := Lib.hid hblk6
    clear hown hsrc hown6 hgrow6 hat6 hb6 hk6 hoB hlt6 hcY HE5 hk05 hblk6
    go_wp2_with fail
    refine Hp.out.mono ?_
    rintro e w7 ⟨rfl, v7, hc7, hk7, hv7⟩
    have hCB : ∀ k, Cb c mc (Value.slice none 0 0) k → B ≤ k := fun k q => by
      rcases q with q | q | q
      · rw [q]; exact HE6.out.lc
      · rw [q]; exact HE6.out.lm
      · exact (noown k q).elim
    have hE7 := HE6.out.move hk7 hCB (hc7.grow fun k q => .inl (.inl q)) (fun k q => by
      rcases hv7 with e | ⟨g', e, e2⟩
      · rw [e] at q; exact (noown k q).elim
      · rw [e] at q
        injection q with q
        have := HE6.out.size
        omega)
    have hnC : ∀ a, A6 = some a → ¬ Cb c mc (Value.slice none 0 0) a.block := fun a ha q => by
      have hb := Hblk.out a ha
      rcases q with q | q | q
      · exact hc7.cy (.inr (by rw [← q]; exact hb))
      · exact hc7.my (.inr (by rw [← q]; exact hb))
      · exact noown _ q
    have hk07 : Keeps Non w w7 := hk06.into hk7 fun k q1 q2 => by have := HBw.out; have := hCB k q2; show False; omega
    have Ht := Lib.hid (turn9_any A6 len0 c6 x w7 (hr6.keep hk7 (fun _ a ha => hnC a ha)) (fun h0 a ha => (hraw6 h0 a ha).keep hk7 (hnC a ha)))
    have HE7 := Lib.hid hE7
    have Hc7 := Lib.hid hc7
    clear Hp hk7 hCB hE7 hnC hc7 hr6 hraw6 hk06 HE6
    go_wp2_with fail
    refine Ht.out.mono ?_
    rintro e w8 ⟨rfl, hk8⟩
    have hE8 := HE7.out.move hk8 (fun k ⟨_, a, ha, q⟩ => by have := HoB.out k (by rw [← q]; exact Hblk.out a ha); omega)
      ((Hc7.out.keep hk8 fun k ⟨_, a, ha, q⟩ => .inr (by rw [← q]; exact Hblk.out a ha)).grow fun k q => .inl (.inl q)) HE7.out.lv
    have hk08 : Keeps Non w w8 := hk07.into hk8 fun k q1 ⟨_, a, ha, q⟩ => by have := HoB.out k (by rw [← q]; exact Hblk.out a ha); show False; omega
    obtain ⟨T, hT⟩ : ∃ T : Tab, T = [([107], x)] := ⟨_, rfl⟩
    have HT := Lib.hid hT
    change Ses w8 B F s b p g m 0 d L0 [] c mc v7 [⟨false, [107], x⟩] [([107], x)] false at hE8
    rw [← hT] at hE8
    have hget : Kv.get T [107] = some x := by rw [hT]; simp [Kv.get]
    have HG := Lib.hid hget
    have Hg := Lib.hid (cget_any [107] (by decide) hE8.ch)
    unfold RetTGet at Hg
    rw [hget, Option.getD_some, Option.isSome_some] at Hg
    have HE8 := Lib.hid hE8
    clear Ht HE7 Hc7 hk07 hk8 hT hget hE8 HoB Hblk hv7
    -- x
    go_wp2_with fail
    refine Hg.out.mono ?_
    rintro e w9 ⟨v9, rfl, hown9, hk9⟩
    obtain ⟨A9, c9, rfl, hr9, hblk9, -, -⟩ := own_rdB hown9 (by rw [HX.out]; omega)
    have Ht := Lib.hid (turn9_any A9 x.length c9 x w9 hr9 (fun h0 a ha => own_raw hown9 h0 rfl ha))
    have Hge : Hid (∀ a, A9 = some a → w8.heap.size ≤ a.block) := fun a ha => own_ge hown9 _ (hblk9 a ha)
    have Hk9 := Lib.hid hk9
    clear Hg hown9 hr9 hblk9 hk9
    go_wp2_with fail
    refine Ht.out.mono ?_
    rintro e w10 ⟨rfl, hk10⟩
    have hk810 : Keeps Non w8 w10 := Hk9.out.into hk10 fun k q1 ⟨_, a, ha, q⟩ => by have := Hge.out a ha; show False; omega
    have hE10 := HE8.out.keepN hk810
    have hk010 := hk08.trans hk810
    clear Ht Hge Hk9 hk10 hk08 HE8 hk810
    -- commit
    have Hc := Lib.hid (commit_fresh hE10 (by decide) hL Kv.Says.nil hlit (show T = Kv.doAll [] [⟨false, [107], x⟩] by rw [HT.out]; rfl) (fun q hq => by
        simp at hq
        subst hq
        exact ⟨by show 1 ≤ 1; decide, by show 1 ≤ 128; decide, by show x.length ≤ 4096; rw [HX.out]; omega, fun q => by cases q⟩)
      (by simp only [Kv.encAll, List.map_cons, List.map_nil, List.flatten_cons, List.flatten_nil, List.append_nil, Kv.enc_length]; have := HX.out; simp; omega)
      (by rw [hz]; simp only [Kv.encAll, List.map_cons, List.map_nil, List.flatten_cons, List.flatten_nil, List.append_nil, Kv.enc_length]; have := HX.out; show 16 + _ ≤ 2048; simp; omega)
      (by rw [hz, HT.out]; have := HX.out; simp [Kv.rcost, Kv.tsize]; omega))
    have hlc := hE10.lc
    clear hE10
    go_wp2_with fail
    refine Hc.out.mono ?_
    rintro e w11 ⟨rfl, F6, m6, age6, d6, L6, hS11, -, -, -, -, -, -, k11⟩
    have hk11 : Keeps Non w w11 := hk010.into k11 fun k q1 q2 => by
      have := HBw.out
      show False
      rcases q2 with q | q
      · omega
      · have := HZ.out k q; omega
    clear Hc k11 hk010
    -- y
    have Hg := Lib.hid (sget_any (Zs p g F6 s) s b m6 age6 T [107] (by decide) w11 hS11.st hS11.tab)
    unfold RetTGet at Hg
    rw [HG.out, Option.getD_some, Option.isSome_some] at Hg
    have HS11 := Lib.hid hS11
    clear hS11
    go_wp2_with fail
    refine Hg.out.mono ?_
    rintro e w12 ⟨v12, rfl, hown9, hk9⟩
    obtain ⟨A9, c9, rfl, hr9, hblk9, -, -⟩ := own_rdB hown9 (by rw [HX.out]; omega)
    have Ht := Lib.hid (turn9_any A9 x.length c9 x w12 hr9 (fun h0 a ha => own_raw hown9 h0 rfl ha))
    have Hge : Hid (∀ a, A9 = some a → w11.heap.size ≤ a.block) := fun a ha => own_ge hown9 _ (hblk9 a ha)
    have Hk9 := Lib.hid hk9
    clear Hg hown9 hr9 hblk9 hk9
    go_wp2_with fail
    refine Ht.out.mono ?_
    rintro e w13 ⟨rfl, hk10⟩
    have hk1113 : Keeps Non w11 w13 := Hk9.out.into hk10 fun k q1 ⟨_, a, ha, q⟩ => by have := Hge.out a ha; show False; omega
    have hS13 := HS11.out.keepN hk1113
    have hk013 := hk11.trans hk1113
    clear Ht Hge Hk9 hk10 hk11 HS11 hk1113
    -- the scan
    have Hs := Lib.hid (sscan_any (Zs p g F6 s) s b m6 age6 T [] (by rw [HT.out]; show 1 ≤ _; decide) w13 hS13.st hS13.tab)
    have HS13 := Lib.hid hS13
    clear hS13
    go_wp2_with fail
    refine Hs.out.mono ?_
    rintro e w14 ⟨v14, dp, rfl, hdp, hP, hk14⟩
    rw [Kv.pre_nil, HT.out] at hdp
    have hd1 : dp.length = 1 := by have := congrArg List.length hdp; simpa [keys] using this
    obtain ⟨y, hy, hyp⟩ := keys_at hdp (j := 0) (p := ([107], x)) rfl
    obtain ⟨A, ca, gb, hvp, rfl, hob, hgb, -, q0, q1⟩ := hP.at_ hy
    rw [hd1] at hvp
    obtain ⟨r2, -, -, r5⟩ := hP.el y (List.mem_of_getElem? hy)
    obtain ⟨⟨yk, yv⟩, Ay, ny, cy⟩ := y
    simp only [Prod.mk.injEq] at hyp
    obtain ⟨rfl, rfl⟩ := hyp
    simp only [Nat.zero_mul, Nat.zero_add] at q0 q1 r2 r5
    subst hvp
    clear Hs hP hd1 hy hob hdp
    have HK14 := Lib.hid hk14
    go_wp2
    go_loopw [67] (fun i wr => ∃ j : Nat, j ≤ 1 ∧ i = .int .i64 j ∧ (j = 0 → w14 = wr) ∧ Keeps Non w13 wr) (fun i _ => 1 - (intOf i).toNat)
    case atStart => exact ⟨0, by omega, rfl, fun _ => rfl, HK14.out⟩
    case round =>
      obtain ⟨j, hj, rfl, hw, hkr⟩ := hrel
      by_cases hlt : j < 1
      · obtain rfl : j = 0 := by omega
        obtain rfl := hw rfl
        have kA : Keeps Non w14 (w14.alloc (.cells #[sv [107], .slice Ay ny cy] 114)) := (Keeps.refl _ _).alloc _
        have Ht := Lib.hid (turn9_any Ay ny cy yv (w14.alloc (.cells #[sv [107], .slice Ay ny cy] 114)) (r2.keepN kA) (fun h0 a ha => (r5 h0 a ha).2.2.keep kA id))
        have hge : ∀ a, 0 < ny → Ay = some a → w13.heap.size ≤ a.block := fun a h0 ha => (r5 h0 a ha).1
        have HkA := Lib.hid (HK14.out.trans kA)
        clear hkr kA hw hge
        have Hge : Hid (∀ a, 0 < ny → Ay = some a → w13.heap.size ≤ a.block) := fun a h0 ha => (r5 h0 a ha).1
        go_wp2_with fail
        refine Ht.out.mono ?_
        rintro e w15 ⟨rfl, hk15⟩
        have HkB := Lib.hid (HkA.out.into hk15 fun k q1 ⟨h0, a, ha, q⟩ => by have := Hge.out a h0 ha; show False; omega)
        clear HkA Ht hk15
        go_wp2_with fail
        go_roundw
        case rel => exact ⟨1, by omega, rfl, fun q => by omega, HkB.out⟩
        case measure => decide
      · obtain rfl : j = 1 := by omega
        have hSE := HS13.out.keepN hkr
        have hkE := hk013.trans hkr
        have Hg := Lib.hid (sget_any (Zs p g F6 s) s b m6 age6 T [107] (by decide) wr hSE.st hSE.tab)
        unfold RetTGet at Hg
        rw [HG.out, Option.getD_some, Option.isSome_some] at Hg
        clear hkr hk013 hSE hw
        go_wp2_with fail
        refine Hg.out.mono ?_
        rintro e wz ⟨vz, rfl, hownz, hkz⟩
        obtain ⟨Az, cz, rfl, hrz, -, -, -⟩ := own_rdB hownz (by rw [HX.out]; omega)
        have hkF := hkE.trans hkz
        have tz := run_str wz Az _ cz yv hrz
        have ta := run_str wz a0 len0 cap0 yv (hr0.keepN hkF)
        clear Hg hownz hkz hrz hkE
        go_wp2_with fail
        go_ret
        exact ⟨rfl, hkF.none_below⟩
end Go.Proofs.Ytbmamhcjbhnkiaa
