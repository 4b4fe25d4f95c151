/- Layer 9 (the great seat): the walk of filled. -/
import Derived.Test.YtbmamhcjbhnkiaaGreatKzbf
namespace Go.Proofs.YtbmamhcjbhnkiaaGreat
open Go.RowKit Go.Maps
open Kv (Bs Tab)

/-- The steps of it: each key gets its place. -/
def stepIx (i : Nat) (k : Bs) : Kv.St := ⟨false, k, [UInt8.ofNat i]⟩
def stepsIx (S : List Bs) : List Kv.St := S.mapIdx stepIx
theorem stepsIx_snoc {S : List Bs} {j : Nat} {k : Bs} (h : S[j]? = some k) : stepsIx (S.take (j + 1)) = stepsIx (S.take j) ++ [stepIx j k] := by
  obtain ⟨hj, e⟩ := List.getElem?_eq_some_iff.1 h
  rw [List.take_succ_eq_append_getElem hj, e, stepsIx, List.mapIdx_concat]
  simp [stepsIx, Nat.min_eq_left (Nat.le_of_lt hj)]
theorem stepsIx_len (S : List Bs) : (stepsIx S).length = S.length := by simp [stepsIx]
theorem stepsIx_ok {S : List Bs} (h : ∀ k ∈ S, 1 ≤ k.length ∧ k.length ≤ 20) : ∀ p ∈ stepsIx S, p.ok ∧ p.k.length ≤ 20 ∧ p.v.length ≤ 2 := fun p hp => by
  obtain ⟨i, hi, rfl⟩ := List.mem_mapIdx.1 hp
  obtain ⟨h1, h2⟩ := h _ (List.getElem_mem hi)
  exact ⟨⟨h1, by show S[i].length ≤ 128; omega, by show 1 ≤ 4096; decide, fun q => by cases q⟩, h2, by show 1 ≤ 2; decide⟩

/-- What the loop over the keys keeps. -/
structure Fil (w0 : World) (R0 B : Nat) (F : Nat → Prop) (s b p g m : Nat) (d : Dk) (c mc : Nat) (S : List Bs) (wr : World) (j : Nat) (v lv : Value) : Prop where
  ses : Ses wr B F s b p g m 0 d L0 [] c mc v (stepsIx (S.take j)) (Kv.doAll [] (stepsIx (S.take j))) false
  own : OwnR wr R0 lv (Kv.doAll [] (stepsIx (S.take j)))
  apart : ∀ k, lv.ownBlock = some k → ¬ Cb c mc v k
  fit : ∀ k ∈ S.take j, 1 ≤ k.length ∧ k.length ≤ 20
  keep : Keeps Non w0 wr
  size : R0 ≤ wr.heap.size

/-- What filled answers. -/
def RetFil (w : World) (S : List Bs) (e : Ending) (w' : World) : Prop :=
  (e = .returned (.tuple #[.pointer none, .slice none 0 0, .bool false]) ∧ (∃ k ∈ S, k.length < 1 ∨ 20 < k.length) ∧ Keeps Non w w') ∨
    ∃ (Z : Nat → Prop) (s b m age : Nat) (v : Value) (T : Tab), e = .returned (.tuple #[.pointer (some ⟨s, 0, none⟩), v, .bool true]) ∧ StA w' s b m age ∧ TabW Z w' m T ∧ OwnR w' w.heap.size v T ∧ T.length ≤ 30 ∧ Kv.Ok T ∧ Keeps Non w w'

set_option maxHeartbeats 8000000 in
set_option maxRecDepth 100000 in
theorem filled_any (a0 : Option Addr) (len0 cap0 : Nat) (S : List Bs) (w : World) (w0 : IsStrs w a0 len0 cap0 S) (hout' : len0 ≤ 30) :
    Calls Tryz.prog 23 #[.slice a0 len0 cap0] w (RetFil w S) := by
  have hlen0 := w0.hlen
  have hle0 := w0.le
  have hcm0 := w0.cm
  have HS := Lib.hid hlen0
  clear hlen0
  go_enter Tryz.func23, Tryz.ntmps23
  go_wp2_with fail
  refine (new_ex 8192 (by omega) (by omega) w).mono ?_
  rintro e w3 ⟨p, g, rfl, hD3, hp, hg, hk3⟩
  go_wp2_with fail
  refine (kopen_fresh p g 8192 (by omega) (by omega) w3 hD3).mono ?_
  rintro e w4 ⟨d, F, s, b, m, rfl, hL, ⟨hlit, hdl⟩, hS, hF, hs, hm, hk4⟩
  have hs3 := hk3.size
  have hk04 : Keeps Non w w4 := hk3.into hk4 fun k h1 h2 => by show False; omega
  have hz : Wal.hs d = 4096 := by unfold Wal.hs; rw [hdl]
  have HZ : Hid (∀ k, Zs p g F s k → w.heap.size ≤ k) := fun k q => by
    rcases q with q | q | q | q
    · omega
    · omega
    · have := hF k q; omega
    · omega
  have hml := hS.tab.lt
  clear hk3 hk4 hD3
  have Hb := Lib.hid (begin_any (Zs p g F s) s b m 0 [] w4 hS.st hS.tab hS.lt)
  go_wp2_with fail
  refine Hb.out.mono ?_
  rintro e w5 ⟨c, mc, rfl, hc, h1, h2, hk5⟩
  have hE5 := Ses.began hS hml hc h1 h2 hk5
  have hk05 := hk04.trans hk5
  have HBw := Lib.hid hk04.size
  obtain ⟨B, hB⟩ : ∃ B, B = w4.heap.size := ⟨_, rfl⟩
  rw [← hB] at hE5 HBw
  have hcl := (Array.getElem?_eq_some_iff.1 hE5.ch.st).1
  have hml5 := hE5.ch.tab.lt
  have hlv : ∀ k, some k = (Value.slice none 0 0).ownBlock → False := fun k q => noown k q.symm
  have H0 : Fil w w5.heap.size B F s b p g m d c mc S w5 0 (.slice none 0 0) (.slice none 0 0) :=
    ⟨by simpa [stepsIx, Kv.doAll] using hE5, by simpa [stepsIx, Kv.doAll] using OwnR.nil w5 w5.heap.size, fun k q => absurd q.symm (hlv k), fun k q => by simp at q, hk05, Nat.le_refl _⟩
  clear Hb hS hml hc h1 h2 hk5 hk04 hE5 hB hs hm hF hlv
  obtain ⟨R0, hR0⟩ : ∃ R0, R0 = w5.heap.size := ⟨_, rfl⟩
  have HR0 : Hid (w.heap.size ≤ R0) := by have := hk05.size; show _ ≤ _; omega
  rw [← hR0] at H0 hcl hml5
  clear hR0 hk05
  go_wp2
  go_loopw [10, 32] (fun lv i wr => ∃ (j : Nat) (v : Value), j ≤ len0 ∧ i = .int .i64 j ∧ Fil w R0 B F s b p g m d c mc S wr j v lv) (fun _ i _ => len0 - (intOf i).toNat)
  case atStart => exact ⟨0, _, Nat.zero_le _, rfl, H0⟩
  case round =>
    clear H0
    obtain ⟨j, v, hj, rfl, hI⟩ := hrel
    by_cases hlt : j < len0
    · obtain ⟨kb, ko, k, rfl, hk, q0⟩ := (w0.keepN hI.keep).at_ hlt
      by_cases hbad : k.length < 1 ∨ 20 < k.length
      · have hk0 := Lib.hid hI.keep
        have hmem : Hid (∃ k ∈ S, k.length < 1 ∨ 20 < k.length) := ⟨k, List.mem_of_getElem? hk, hbad⟩
        clear hI
        rcases hbad with h | h
        · go_wp2_with fail
          go_ret3
          exact .inl ⟨rfl, hmem.out, hk0.out⟩
        · have h' : ¬ k.length < 1 := by omega
          go_wp2_with fail
          go_ret3
          exact .inl ⟨rfl, hmem.out, hk0.out⟩
      · have h1 : ¬ k.length < 1 := by omega
        have h2 : ¬ 20 < k.length := by omega
        clear hbad
        have hst := Lib.hid (stepsIx_snoc hk)
        have hfit : Hid (1 ≤ k.length ∧ k.length ≤ 20) := ⟨by omega, by omega⟩
        have hTk := Lib.hid (show S.take (j + 1) = S.take j ++ [k] by
          obtain ⟨hj', e⟩ := List.getElem?_eq_some_iff.1 hk
          rw [List.take_succ_eq_append_getElem hj', e])
        obtain ⟨y, hy⟩ : ∃ y : UInt8, y = UInt8.ofNat j := ⟨_, rfl⟩
        have hjy : (y.toNat : Int) = (j : Int) := by
          rw [hy]
          simp only [UInt8.toNat_ofNat']
          omega
        have hstep : stepIx j k = ⟨false, k, [y]⟩ := by rw [hy]; rfl
        rw [hstep] at hst
        have hTl := length_doAll (stepsIx (S.take j)) []
        have hlen : (stepsIx (S.take j)).length ≤ j := by rw [stepsIx_len]; simp; omega
        rw [List.length_nil, Nat.zero_add] at hTl
        obtain ⟨ls, hls⟩ : ∃ ls, ls = stepsIx (S.take j) := ⟨_, rfl⟩
        have kA : Keeps Non wr (wr.alloc (.cells #[.int .u8 (y.toNat : Int)] 5)) := (Keeps.refl _ _).alloc _
        have rA : RdB (wr.alloc (.cells #[.int .u8 (y.toNat : Int)] 5)) (some ⟨wr.heap.size, 0, none⟩) 1 [y] := RdB.of_whole (heap_new _ _) rfl rfl (by decide)
        have HS6 := Lib.hid (hI.ses.keepN kA)
        rw [← hls] at HS6 hTl hlen hst
        have Hput := Lib.hid (put_ok k [y] (by omega) (by omega) (by show 1 ≤ 4096; decide) (some ⟨wr.heap.size, 0, none⟩) 1 1 (by omega) (by omega) HS6.out.ch rA HS6.out.sv.lt)
        have HI := Lib.hid hI
        have Hls := Lib.hid hls
        rw [hjy] at Hput HS6 kA
        have HJ := Lib.hid hjy
        clear hI hls hstep hy rA hk hjy
        go_wp2_with fail
        refine Hput.out.mono ?_
        intro e w7 ha
        obtain ⟨rfl, ⟨v7, hE7, hv7⟩, kP⟩ := Ses.added2 HS6.out ha
        have kC : Keeps (Cb c mc v) wr w7 := (kA.mono (T := Cb c mc v) fun _ _ q => q.elim).into kP fun _ _ q => q
        have kB : Keeps Non w7 (w7.alloc (.cells #[.int .u8 (j : Int)] 5)) := (Keeps.refl _ _).alloc _
        have rB : RdB (w7.alloc (.cells #[.int .u8 (j : Int)] 5)) (some ⟨w7.heap.size, 0, none⟩) 1 [y] := by rw [← HJ.out]; exact RdB.of_whole (heap_new _ _) rfl rfl (by decide)
        have t1 := run_str _ _ 1 1 _ rB
        have kD : Keeps (Cb c mc v) wr (w7.alloc (.cells #[.int .u8 (j : Int)] 5)) := kC.alloc _
        have hO7 := own_kept HI.out.own kD HI.out.apart
        rw [← Hls.out] at hO7
        obtain ⟨A7, c7, rfl, hR7, -, -⟩ := OwnR.rdR (Z := Non) hO7 (by omega) (fun _ _ q => q)
        have hrise : Kv.Rise (Kv.doAll [] ls) := Kv.Rise.doAll (by simp [Kv.Rise])
        have Hr := Lib.hid (rput_any Non A7 _ c7 _ k [y] (w7.alloc (.cells #[.int .u8 (j : Int)] 5)) hR7)
        rw [Kv.rput_eq k [y] hrise] at Hr
        have HE7 := Lib.hid (hE7.keepN kB)
        have hE7l : Hid (∀ q, v7.ownBlock = some q → q < w7.heap.size) := fun q e => hE7.ch.row_lt e
        clear Hput HS6 ha hO7 hR7 hrise hE7 kP kA kB rB
        go_wp2_with fail
        refine Hr.out.mono ?_
        rintro e w8 ⟨l8, rfl, hO8, k8⟩
        have hE8 := HE7.out.keepN k8
        have hsum : Kv.doAll [] (stepsIx (S.take (j + 1))) = Kv.put (Kv.doAll [] ls) k [y] := by rw [hst.out, Kv.doAll_snoc]; rfl
        have hlow : w7.heap.size ≥ R0 := Nat.le_trans HI.out.size kC.size
        have hsz8 : (w7.alloc (.cells #[.int .u8 (j : Int)] 5)).heap.size = w7.heap.size + 1 := by simp
        have HN : Hid (Fil w R0 B F s b p g m d c mc S w8 (j + 1) v7 l8) := by
          refine ⟨?_, ?_, ?_, ?_, ?_, ?_⟩
          · rw [hsum, hst.out]
            have := hE8
            exact this
          · rw [hsum]; exact own_base hO8 (by omega)
          · intro q hq hC
            have hge := own_ge hO8 q hq
            have hcs := kC.size
            rcases hC with e | e | e
            · omega
            · omega
            · have := hE7l.out q e; omega
          · intro q hq
            rw [hTk.out] at hq
            rcases List.mem_append.1 hq with hq | hq
            · exact HI.out.fit q hq
            · simp at hq; subst hq; exact hfit.out
          · exact (HI.out.keep.into kD fun q q1 q2 => by
              have h3 := HI.out.ses.lc; have h4 := HI.out.ses.lm; have h5 := HBw.out
              show False
              rcases q2 with e | e | e
              · omega
              · omega
              · have := HI.out.ses.lv q e; omega).trans k8
          · have := k8.size; omega
        clear hO8 k8 hE8 hsum hlow Hr HE7 kC kD HI
        go_wp2_with fail
        go_roundw
        case rel => exact ⟨j + 1, v7, by omega, by go_num, HN.out⟩
        case measure => simp [intOf]; omega
    · obtain rfl : j = len0 := by omega
      have hall : S.take j = S := List.take_of_length_le (by rw [HS.out]; exact Nat.le_refl _)
      obtain ⟨hE, hO, hAp, hFit, hk0, hsz⟩ := hI
      rw [hall] at hE hO hFit
      have hok := stepsIx_ok hFit
      have hlen : (stepsIx S).length = j := by rw [stepsIx_len, HS.out]
      obtain ⟨ls, hls⟩ : ∃ ls, ls = stepsIx S := ⟨_, rfl⟩
      rw [← hls] at hE hO hok hlen
      clear hls hFit hall hAp
      have hb := encAll_le 20 2 ls fun q hq => (hok q hq).2
      rw [hlen] at hb
      have hts := Kv.tsize_doAll ls []
      have hTl := length_doAll ls []
      rw [show Kv.tsize ([] : Tab) = 0 from rfl, Nat.zero_add] at hts
      rw [List.length_nil, Nat.zero_add, hlen] at hTl
      have hOk : Kv.Ok (Kv.doAll [] ls) := Kv.Ok.doAll (fun p hp => by simp at hp) fun q hq => (hok q hq).1
      obtain ⟨T, hT⟩ : ∃ T, T = Kv.doAll [] ls := ⟨_, rfl⟩
      rw [← hT] at hE hO hts hTl hOk
      have hrc : Kv.rcost T ≤ 9 + Kv.tsize T := by unfold Kv.rcost; split <;> omega
      have Hc := Lib.hid (commit_fresh hE (by decide) hL Kv.Says.nil hlit hT (fun q hq => (hok q hq).1) (by omega) (by rw [hz]; show 16 + (9 + _) ≤ _; omega) (by rw [hz]; omega))
      have hlc := hE.lc
      have hgB : Hid (∀ k, u10.ownBlock = some k → ¬ (k = c ∨ Zs p g F s k)) := fun k e q => by
        have hg0 := own_ge hO k e
        rcases q with q | q
        · omega
        · have := hE.hz _ q
          have := hE.lc
          omega
      have Hk0 := Lib.hid hk0
      have HO := Lib.hid hO
      clear hE hO hok hb hts hT hrc hk0
      go_wp2_with fail
      refine Hc.out.mono ?_
      rintro e w6 ⟨rfl, F6, m6, age6, d6, L6, hS6, -, -, -, -, -, -, k6⟩
      have hk6 : Keeps Non w w6 := Hk0.out.into k6 fun k q1 q2 => by
        have := HBw.out
        show False
        rcases q2 with q | q
        · omega
        · have := HZ.out k q; omega
      have hO6 : OwnR w6 R0 u10 T := own_kept HO.out k6 hgB.out
      clear Hc hgB HO Hk0 k6
      go_wp2_with fail
      go_ret3
      exact .inr ⟨_, s, b, m6, age6, u10, T, rfl, hS6.st, hS6.tab, own_base hO6 HR0.out, by omega, hOk, hk6⟩
end Go.Proofs.YtbmamhcjbhnkiaaGreat
