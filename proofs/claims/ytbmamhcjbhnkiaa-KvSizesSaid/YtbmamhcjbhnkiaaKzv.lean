/- Layer 9: a commit at a store that has had none; the walk of the law KvScans. -/
import Derived.Test.YtbmamhcjbhnkiaaKzy
import Derived.Test.YtbmamhcjbhnkiaaKzw
namespace Go.Proofs.Ytbmamhcjbhnkiaa
open Go.RowKit Go.Maps
open Kv (Bs Tab)

theorem encAll_le (x y : Nat) : ∀ (l : List Kv.St), (∀ p ∈ l, p.k.length ≤ x ∧ p.v.length ≤ y) → (Kv.encAll l).length ≤ (4 + x + y) * l.length
  | [], _ => by simp [Kv.encAll]
  | p :: l, h => by
    have h1 := encAll_le x y l fun q hq => h q (by simp [hq])
    have h2 := Kv.enc_le p
    obtain ⟨h3, h4⟩ := h p (by simp)
    rw [Kv.encAll_cons, List.length_append, List.length_cons, Nat.mul_succ]
    omega

/-- A commit that ends well. -/
def RetDone (w : World) (F : Nat → Prop) (s b p g m age c : Nat) (d : Dk) (L : Wal.Lg) (l : List Kv.St) (T : Tab) (e : Ending) (w' : World) : Prop :=
  e = .returned (.int .i64 0) ∧ ∃ F' m' age' d' L', Sv w' F' s b p g m' age' d' L' T ∧ Wal.Live d' L' ∧ Kv.Says L'.recs T ∧ d'.lit = false ∧ (∀ k, F' k → F k ∨ w.heap.size ≤ k) ∧ (l = [] → age' = age ∧ F' = F ∧ m' = m ∧ d' = d ∧ L' = L) ∧ (l ≠ [] → age' = age + 1) ∧ Keeps (fun k => k = c ∨ Zs p g F s k) w w'
section
variable {w : World} {B : Nat} {F : Nat → Prop} {s b p g m age : Nat} {d : Dk} {L : Wal.Lg} {T0 : Tab} {c mc : Nat} {v : Value} {l : List Kv.St} {T : Tab}
theorem commit_fresh (h : Ses w B F s b p g m age d L T0 c mc v l T false) (ha : age ≤ 1048576) (hL : Wal.Live d L) (hsay : Kv.Says L.recs T0) (hlit : d.lit = false) (hTT : T = Kv.doAll T0 l) (hl : ∀ p ∈ l, p.ok)
    (hb : (Kv.encAll l).length ≤ 65536) (hroom : L.fin + (9 + (Kv.encAll l).length) ≤ Wal.hs d) (hcap : 16 + Kv.rcost T ≤ Wal.hs d) :
    Calls Try.prog 59 #[.pointer (some ⟨c, 0, none⟩)] w (RetDone w F s b p g m age c d L l T) := by
  by_cases hne : l = []
  · refine (commit_none b m ha hne h.sv.st h.ch).mono ?_
    rintro e w' ⟨rfl, hc, hk⟩
    have h' := h.move hk (fun k q => by rw [q]; exact h.lc) hc h.lv
    subst hne
    have hT0 : T = T0 := hTT
    subst hT0
    exact ⟨rfl, F, m, age, d, L, h'.sv, hL, hsay, hlit, fun k q => .inl q, fun _ => ⟨rfl, rfl, rfl, rfl, rfl⟩, fun q => absurd rfl q, hk.mono fun k _ q => .inl q⟩
  · refine (commit_room h.sv ha hL hsay h.ch hTT hl hne hb hroom).mono ?_
    rintro e w' ⟨d', -, -, hk, hh⟩
    rcases hh with ⟨rfl, F', L', h1, h2, -, h4, h5, h6⟩ | ⟨hbad, _⟩ | ⟨-, -, -, hbad⟩
    · exact ⟨rfl, F', mc, age + 1, d', L', h5, h1, h2, h4 hlit, h6, fun q => absurd q hne, fun _ => rfl, hk⟩
    · rw [hlit] at hbad; cases hbad
    · omega
end

/-- A commit at a disk that is not lit, wherever the record comes to lie. -/
theorem commit_fresh2 {w : World} {B : Nat} {F : Nat → Prop} {s b p g m age : Nat} {d : Dk} {L : Wal.Lg} {T0 : Tab} {c mc : Nat} {v : Value} {l : List Kv.St} {T : Tab} (h : Ses w B F s b p g m age d L T0 c mc v l T false) (ha : age ≤ 1048576) (hL : Wal.Live d L) (hsay : Kv.Says L.recs T0) (hlit : d.lit = false) (hTT : T = Kv.doAll T0 l) (hl : ∀ p ∈ l, p.ok)
    (hb : (Kv.encAll l).length ≤ 65536) (hg : L.gen + 1 ≤ 2147483647) (hsz : Kv.tsize T ≤ 65536) (hTl : T.length ≤ 1048576) (hcap : 16 + Kv.rcost T ≤ Wal.hs d) :
    Calls Try.prog 59 #[.pointer (some ⟨c, 0, none⟩)] w (RetDone w F s b p g m age c d L l T) := by
  by_cases hroom : L.fin + (9 + (Kv.encAll l).length) ≤ Wal.hs d
  · exact commit_fresh h ha hL hsay hlit hTT hl hb hroom hcap
  · by_cases hne : l = []
    · refine (commit_none b m ha hne h.sv.st h.ch).mono ?_
      rintro e w' ⟨rfl, hc, hk⟩
      have h' := h.move hk (fun k q => by rw [q]; exact h.lc) hc h.lv
      subst hne
      have hT0 : T = T0 := hTT
      subst hT0
      exact ⟨rfl, F, m, age, d, L, h'.sv, hL, hsay, hlit, fun k q => .inl q, fun _ => ⟨rfl, rfl, rfl, rfl, rfl⟩, fun q => absurd rfl q, hk.mono fun k _ q => .inl q⟩
    refine (commit_anew h.sv ha hL hsay h.ch hTT hl hne hb (by omega) hsz hTl hg (by omega)).mono ?_
    rintro e w' ⟨d', -, -, hk, hh⟩
    rcases hh with ⟨rfl, F', L', h1, h2, -, h4, h5, h6⟩ | ⟨hbad, _⟩ | ⟨-, -, -, hbad⟩
    · exact ⟨rfl, F', mc, age + 1, d', L', h5, h1, h2, h4 hlit, h6, fun q => absurd q hne, fun _ => rfl, hk⟩
    · rw [hlit] at hbad; cases hbad
    · omega

/-- The steps of the law: each key gets its place, and its first byte. -/
def stepAt (i : Nat) (k : Bs) : Kv.St := ⟨false, k, [UInt8.ofNat i, k.headD 0]⟩
def stepsOf (S : List Bs) : List Kv.St := S.mapIdx stepAt
theorem stepsOf_snoc {S : List Bs} {j : Nat} {k : Bs} (h : S[j]? = some k) : stepsOf (S.take (j + 1)) = stepsOf (S.take j) ++ [stepAt j k] := by
  obtain ⟨hj, e⟩ := List.getElem?_eq_some_iff.1 h
  rw [List.take_succ_eq_append_getElem hj, e, stepsOf, List.mapIdx_concat]
  simp [stepsOf, Nat.min_eq_left (Nat.le_of_lt hj)]
theorem stepsOf_len (S : List Bs) : (stepsOf S).length = S.length := by simp [stepsOf]
theorem stepsOf_mem {S : List Bs} {p : Kv.St} (h : p ∈ stepsOf S) : ∃ i k, k ∈ S ∧ p = stepAt i k := by
  obtain ⟨i, hi, rfl⟩ := List.mem_mapIdx.1 h
  exact ⟨i, _, List.getElem_mem hi, rfl⟩
theorem stepsOf_ok {S : List Bs} (h : ∀ k ∈ S, 1 ≤ k.length ∧ k.length ≤ 20) : ∀ p ∈ stepsOf S, p.ok ∧ p.k.length ≤ 20 ∧ p.v.length ≤ 2 := fun p hp => by
  obtain ⟨i, k, hk, rfl⟩ := stepsOf_mem hp
  obtain ⟨h1, h2⟩ := h k hk
  exact ⟨⟨h1, by show k.length ≤ 128; omega, by show 2 ≤ 4096; decide, fun q => by cases q⟩, h2, Nat.le_refl 2⟩

/-- What the loop over the keys keeps. -/
structure Scn (w0 : World) (R0 B : Nat) (F : Nat → Prop) (s b p g m : Nat) (d : Dk) (c mc : Nat) (S : List Bs) (wr : World) (j : Nat) (v lv : Value) : Prop where
  ses : Ses wr B F s b p g m 0 d L0 [] c mc v (stepsOf (S.take j)) (Kv.doAll [] (stepsOf (S.take j))) false
  own : OwnR wr R0 lv (Kv.doAll [] (stepsOf (S.take j)))
  apart : ∀ k, lv.ownBlock = some k → ¬ Cb c mc v k
  fit : ∀ k ∈ S.take j, 1 ≤ k.length ∧ k.length ≤ 20
  keep : Keeps Non w0 wr
  size : R0 ≤ wr.heap.size

set_option maxHeartbeats 8000000 in
set_option maxRecDepth 100000 in
theorem kvScans_walk (a0 : Option Addr) (len0 cap0 : Nat) (S : List Bs) (a1 : ByteArray) (w : World) (w0 : IsStrs w a0 len0 cap0 S) (w1 : a1.size ≤ maxLen) :
    Calls Try.prog 20 #[.slice a0 len0 cap0, .string a1] w fun e w' => e = .returned (.bool true) ∧ Below w.heap.size w w' := by
  obtain ⟨pf, hpf, hpl⟩ := str_of a1
  rw [hpf]
  have hpm : pf.length ≤ maxLen := by omega
  clear hpf hpl w1
  have hlen0 := w0.hlen
  have hle0 := w0.le
  have hcm0 := w0.cm
  have HS := Lib.hid hlen0
  by_cases hout : 30 < len0
  · go_enter Try.func20, Try.ntmps20
    go_wp2_with fail
    refine (anchor9_any _).mono ?_
    rintro e w3 ⟨rfl, hk1⟩
    go_wp2_with fail
    go_ret
    exact ⟨rfl, hk1.none_below⟩
  · have hout' : len0 ≤ 30 := by omega
    clear hlen0
    go_enter Try.func20, Try.ntmps20
    go_wp2_with fail
    refine (anchor9_any _).mono ?_
    rintro e w2 ⟨rfl, hk02⟩
    go_wp2_with fail
    refine (new_ex 8192 (by omega) (by omega) w2).mono ?_
    rintro e w3 ⟨p, g, rfl, hD3, hp, hg, hk3⟩
    go_wp2_with fail
    refine (kopen_fresh p g 8192 (by omega) (by omega) w3 hD3).mono ?_
    rintro e w4 ⟨d, F, s, b, m, rfl, hL, ⟨hlit, hdl⟩, hS, hF, hs, hm, hk4⟩
    have hs2 := hk02.size
    have hs3 := hk3.size
    have hk04 : Keeps Non w w4 := (hk02.trans hk3).into hk4 fun k h1 h2 => by show False; omega
    have hz : Wal.hs d = 4096 := by unfold Wal.hs; rw [hdl]
    have HZ : Hid (∀ k, Zs p g F s k → w.heap.size ≤ k) := fun k q => by
      rcases q with q | q | q | q
      · omega
      · omega
      · have := hF k q; omega
      · omega
    have hml := hS.tab.lt
    clear hk02 hk3 hk4 hD3
    have Hb := Lib.hid (begin_any (Zs p g F s) s b m 0 [] w4 hS.st hS.tab hS.lt)
    go_wp2_with fail
    refine Hb.out.mono ?_
    rintro e w5 ⟨c, mc, rfl, hc, h1, h2, hk5⟩
    have hE5 := Ses.began hS hml hc h1 h2 hk5
    have hk05 := hk04.trans hk5
    have HBw := Lib.hid hk04.size
    obtain ⟨B, hB⟩ : ∃ B, B = w4.heap.size := ⟨_, rfl⟩
    rw [← hB] at hE5 HBw
    have hcl := (Array.getElem?_eq_some_iff.1 hE5.ch.st).1
    have hml5 := hE5.ch.tab.lt
    have hlv : ∀ k, some k = (Value.slice none 0 0).ownBlock → False := fun k q => noown k q.symm
    have H0 : Scn w w5.heap.size B F s b p g m d c mc S w5 0 (.slice none 0 0) (.slice none 0 0) :=
      ⟨by simpa [stepsOf, Kv.doAll] using hE5, by simpa [stepsOf, Kv.doAll] using OwnR.nil w5 w5.heap.size, fun k q => absurd q.symm (hlv k), fun k q => by simp at q, hk05, Nat.le_refl _⟩
    clear Hb hS hml hc h1 h2 hk5 hk04 hE5 hB hk05 hs hm hF hlv
    obtain ⟨R0, hR0⟩ : ∃ R0, R0 = w5.heap.size := ⟨_, rfl⟩
    rw [← hR0] at H0 hcl hml5
    clear hR0
    go_wp2
    go_loopw [10, 38] (fun lv i wr => ∃ (j : Nat) (v : Value), j ≤ len0 ∧ i = .int .i64 j ∧ Scn w R0 B F s b p g m d c mc S wr j v lv) (fun _ i _ => len0 - (intOf i).toNat)
    case atStart => exact ⟨0, _, Nat.zero_le _, rfl, H0⟩
    case round =>
      clear H0
      obtain ⟨j, v, hj, rfl, hI⟩ := hrel
      by_cases hlt : j < len0
      · obtain ⟨kb, ko, k, rfl, hk, q0⟩ := (w0.keepN hI.keep).at_ hlt
        by_cases hbad : k.length < 1 ∨ 20 < k.length
        · have hk0 := Lib.hid hI.keep
          clear hI
          rcases hbad with h | h
          · go_wp2_with fail
            go_ret
            exact ⟨rfl, hk0.out.none_below⟩
          · have h' : ¬ k.length < 1 := by omega
            go_wp2_with fail
            go_ret
            exact ⟨rfl, hk0.out.none_below⟩
        · have h1 : ¬ k.length < 1 := by omega
          have h2 : ¬ 20 < k.length := by omega
          clear hbad
          have hst := Lib.hid (stepsOf_snoc hk)
          have hfit : Hid (1 ≤ k.length ∧ k.length ≤ 20) := ⟨by omega, by omega⟩
          have hTk := Lib.hid (show S.take (j + 1) = S.take j ++ [k] by
            obtain ⟨hj', e⟩ := List.getElem?_eq_some_iff.1 hk
            rw [List.take_succ_eq_append_getElem hj', e])
          obtain ⟨y, hy⟩ : ∃ y : UInt8, y = UInt8.ofNat j := ⟨_, rfl⟩
          have hjy : (y.toNat : Int) = (j : Int) := by
            rw [hy]
            simp only [UInt8.toNat_ofNat']
            omega
          obtain ⟨x, hx⟩ : ∃ x : UInt8, x = k.headD 0 := ⟨_, rfl⟩
          have hk0 : ∀ h, (⟨k.toArray⟩ : ByteArray)[0]'h = x := fun h => by
            rw [hx]
            cases k with
            | nil => exact absurd (by decide) h1
            | cons x r => rfl
          have hstep : stepAt j k = ⟨false, k, [y, x]⟩ := by rw [hx, hy]; rfl
          rw [hstep] at hst
          have hTl := length_doAll (stepsOf (S.take j)) []
          have hlen : (stepsOf (S.take j)).length ≤ j := by rw [stepsOf_len]; simp; omega
          rw [List.length_nil, Nat.zero_add] at hTl
          obtain ⟨ls, hls⟩ : ∃ ls, ls = stepsOf (S.take j) := ⟨_, rfl⟩
          have kA : Keeps Non wr (wr.alloc (.cells #[.int .u8 (y.toNat : Int), .int .u8 (x.toNat : Int)] 5)) := (Keeps.refl _ _).alloc _
          have rA : RdB (wr.alloc (.cells #[.int .u8 (y.toNat : Int), .int .u8 (x.toNat : Int)] 5)) (some ⟨wr.heap.size, 0, none⟩) 2 [y, x] := RdB.of_whole (heap_new _ _) rfl rfl (by decide)
          have t1 := run_str _ _ 2 2 _ rA
          obtain ⟨A6, c6, w6, hcv, hrd6, hk6⟩ := conv_sb [y, x] (by show 2 ≤ _; decide) (wr.alloc (.cells #[.int .u8 (y.toNat : Int), .int .u8 (x.toNat : Int)] 5))
          have k06 := kA.trans hk6
          have HS6 := Lib.hid (hI.ses.keepN k06)
          rw [← hls] at HS6 hTl hlen hst
          have Hput := Lib.hid (put_ok k [y, x] (by omega) (by omega) (by show 2 ≤ 4096; decide) A6 2 c6 (by omega) (by omega) HS6.out.ch hrd6 HS6.out.sv.lt)
          have HI := Lib.hid hI
          have Hls := Lib.hid hls
          rw [hjy] at t1 hcv
          clear hI hls hstep hx hy hrd6 rA kA hk6 hk hjy
          go_wp2_with fail
          refine Hput.out.mono ?_
          intro e w7 ha
          obtain ⟨rfl, ⟨v7, hE7, hv7⟩, kP⟩ := Ses.added2 HS6.out ha
          have kC : Keeps (Cb c mc v) wr w7 := (k06.mono (T := Cb c mc v) fun _ _ q => q.elim).into kP fun _ _ q => q
          have hO7 := own_kept HI.out.own kC HI.out.apart
          rw [← Hls.out] at hO7
          obtain ⟨A7, c7, rfl, hR7, -, -⟩ := OwnR.rdR (Z := Non) hO7 (by omega) (fun _ _ q => q)
          have hrise : Kv.Rise (Kv.doAll [] ls) := Kv.Rise.doAll (by simp [Kv.Rise])
          have Hr := Lib.hid (rput_any Non A7 _ c7 _ k [y, x] w7 hR7)
          rw [Kv.rput_eq k [y, x] hrise] at Hr
          have HE7 := Lib.hid hE7
          clear Hput HS6 ha hO7 hR7 hrise hE7 kP k06 t1 hcv
          go_wp2_with fail
          refine Hr.out.mono ?_
          rintro e w8 ⟨l8, rfl, hO8, k8⟩
          have hE8 := HE7.out.keepN k8
          have hsum : Kv.doAll [] (stepsOf (S.take (j + 1))) = Kv.put (Kv.doAll [] ls) k [y, x] := by rw [hst.out, Kv.doAll_snoc]; rfl
          have hlow : w7.heap.size ≥ R0 := Nat.le_trans HI.out.size kC.size
          have HN : Hid (Scn w R0 B F s b p g m d c mc S w8 (j + 1) v7 l8) := by
            refine ⟨?_, ?_, ?_, ?_, ?_, ?_⟩
            · rw [hsum, hst.out]
              have := hE8
              exact this
            · rw [hsum]; exact own_base hO8 hlow
            · intro q hq hC
              have hge := own_ge hO8 q hq
              rcases hC with e | e | e
              · omega
              · omega
              · have := HE7.out.ch.row_lt e; omega
            · intro q hq
              rw [hTk.out] at hq
              rcases List.mem_append.1 hq with hq | hq
              · exact HI.out.fit q hq
              · simp at hq; subst hq; exact hfit.out
            · exact (HI.out.keep.into kC fun q q1 q2 => by
                have h3 := HI.out.ses.lc; have h4 := HI.out.ses.lm; have h5 := HBw.out
                show False
                rcases q2 with e | e | e
                · omega
                · omega
                · have := HI.out.ses.lv q e; omega).trans k8
            · have := k8.size; omega
          clear hO8 k8 hE8 hsum hlow Hr HE7 kC HI
          go_wp2_with fail
          go_roundw
          case rel => exact ⟨j + 1, v7, by omega, by go_num, HN.out⟩
          case measure => simp [intOf]; omega
      · obtain rfl : j = len0 := by omega
        have hall : S.take j = S := List.take_of_length_le (by rw [HS.out]; exact Nat.le_refl _)
        obtain ⟨hE, hO, hAp, hFit, hk0, hsz⟩ := hI
        rw [hall] at hE hO hFit
        have hok := stepsOf_ok hFit
        have hlen : (stepsOf S).length = j := by rw [stepsOf_len, HS.out]
        obtain ⟨ls, hls⟩ : ∃ ls, ls = stepsOf S := ⟨_, rfl⟩
        rw [← hls] at hE hO hok hlen
        clear hls hFit hall hAp
        have hb := encAll_le 20 2 ls fun q hq => (hok q hq).2
        rw [hlen] at hb
        have hts := Kv.tsize_doAll ls []
        have hTl := length_doAll ls []
        have hrise : Kv.Rise (Kv.doAll [] ls) := Kv.Rise.doAll (by simp [Kv.Rise])
        rw [show Kv.tsize ([] : Tab) = 0 from rfl, Nat.zero_add] at hts
        rw [List.length_nil, Nat.zero_add, hlen] at hTl
        have hOk : Kv.Ok (Kv.doAll [] ls) := Kv.Ok.doAll (fun p hp => by simp at hp) fun q hq => (hok q hq).1
        obtain ⟨T, hT⟩ : ∃ T, T = Kv.doAll [] ls := ⟨_, rfl⟩
        rw [← hT] at hE hO hts hTl hrise hOk
        have hrc : Kv.rcost T ≤ 9 + Kv.tsize T := by unfold Kv.rcost; split <;> omega
        obtain ⟨A7, c7, rfl, hR7, -, -⟩ := OwnR.rdR (Z := Non) hO (by omega) (fun _ _ q => q)
        have Hc := Lib.hid (commit_fresh hE (by decide) hL Kv.Says.nil hlit hT (fun q hq => (hok q hq).1) (by omega) (by rw [hz]; show 16 + (9 + _) ≤ _; omega) (by rw [hz]; omega))
        have hlc := hE.lc
        have hgB : Hid (∀ k, A7 = some k → 0 < T.length → ¬ (k.block = c ∨ Zs p g F s k.block)) := fun k e h0 q => by
          obtain ⟨b', off', e', -, -, -⟩ := hR7.cells h0
          have hg0 := own_ge hO k.block (by rw [e]; rfl)
          rcases q with q | q
          · omega
          · have := hE.hz _ q
            have := hE.lc
            omega
        have hlt0 := hE.sv.lt
        have Hk0 := Lib.hid hk0
        have HR7 := Lib.hid hR7
        clear hE hO hok hb hts hT hrc hk0 hR7
        go_wp2_with fail
        refine Hc.out.mono ?_
        rintro e w6 ⟨rfl, F6, m6, age6, d6, L6, hS6, -, -, -, -, -, -, k6⟩
        have hk6 : Keeps Non w w6 := Hk0.out.into k6 fun k q1 q2 => by
          have := HBw.out
          show False
          rcases q2 with q | q
          · omega
          · have := HZ.out k q; omega
        have hR6 : RdR Non w6 A7 T.length T := ⟨rfl, by omega, fun h0 => by
          obtain ⟨b', off', e', hz', hl', hc'⟩ := HR7.out.cells h0
          have hn := hgB.out _ e' h0
          exact ⟨b', off', e', id, Nat.lt_of_lt_of_le hl' k6.size, fun q r hq => ⟨k6.cell (hc' q r hq).1 hn, k6.cell (hc' q r hq).2 hn⟩⟩⟩
        clear Hc hgB HR7 Hk0 k6
        -- the scan
        have Hs := Lib.hid (sscan_any (Zs p g F6 s) s b m6 age6 T pf (by omega) w6 hS6.st hS6.tab)
        have HS6 := Lib.hid hS6
        clear hS6
        go_wp2_with fail
        refine Hs.out.mono ?_
        rintro e w7 ⟨v7, d7, rfl, hd7, hP7, k7⟩
        have HS7 := Lib.hid (HS6.out.keepN k7)
        have hk7 := hk6.trans k7
        have hR7 := hR6.keepN k7
        have hpl : (Kv.pre pf T).length ≤ T.length := List.length_filter_le _ _
        have hd7l : d7.length ≤ 1048576 := by have := congrArg List.length hd7; rw [keys_len] at this; omega
        have Hl := Lib.hid (listed_any _ v7 d7 w7 hd7l hP7)
        rw [hd7] at Hl
        clear Hs HS6 hk6 k7 hR6 hP7 hd7 hd7l
        go_wp2_with fail
        refine Hl.out.mono ?_
        rintro e w8 ⟨v8, rfl, hO8, k8⟩
        have HS8 := Lib.hid (HS7.out.keepN k8)
        have hk8 := hk7.trans k8
        have hR8 := hR7.keepN k8
        have Hr := Lib.hid (rscan_any Non A7 _ c7 T pf w8 hR8)
        clear Hl HS7 hk7 k8 hR7
        go_wp2_with fail
        refine Hr.out.mono ?_
        rintro e w9 ⟨v9, rfl, hO9, k9⟩
        have HS9 := Lib.hid (HS8.out.keepN k9)
        have hk9 := hk8.trans k9
        have hR9 := hR8.keepN k9
        have hO8' := own_kept hO8 k9 (fun _ _ q => q)
        obtain ⟨A8, c8, rfl, hR8', -, -⟩ := OwnR.rdR (Z := Non) hO8' (by omega) (fun _ _ q => q)
        obtain ⟨A9, c9, rfl, hR9', -, -⟩ := OwnR.rdR (Z := Non) hO9 (by omega) (fun _ _ q => q)
        have Hsm := Lib.hid (same9_any Non Non A8 A9 _ _ c8 c9 _ _ w9 hR8' hR9')
        rw [decide_eq_true rfl] at Hsm
        clear Hr HS8 hk8 k9 hR8 hO8 hO8' hO9 hR8' hR9'
        go_wp2_with fail
        refine Hsm.out.mono ?_
        rintro e wx ⟨rfl, q, rfl⟩
        have kq : Keeps Non w9 (w9.drewN q) := (Keeps.refl _ _).drewN q
        have hSx := HS9.out.keepN kq
        have hkx := hk9.trans kq
        have hRx := hR9.keepN kq
        obtain ⟨wx, hwx⟩ : ∃ wx, wx = w9.drewN q := ⟨_, rfl⟩
        rw [← hwx] at hSx hkx hRx ⊢
        have Hg := Lib.hid (sget_any (Zs p g F6 s) s b m6 age6 T pf hpm wx hSx.st hSx.tab)
        have HSx := Lib.hid hSx
        clear Hsm HS9 hk9 hR9 kq hwx hSx
        go_wp2_with fail
        refine Hg.out.mono ?_
        rintro e wy ⟨vy, rfl, hOy, ky⟩
        have HSy := Lib.hid (HSx.out.keepN ky)
        have hky := hkx.trans ky
        have hRy := hRx.keepN ky
        have Hr := Lib.hid (rget_any Non A7 _ c7 T pf wy hRy)
        unfold RetG at Hr
        have hgl : ((Kv.get T pf).getD []).length ≤ 4096 := by
          cases hgt : Kv.get T pf with
          | none => exact Nat.zero_le _
          | some z => exact (hOk _ ((Kv.get_some hrise).1 hgt)).2.2
        obtain ⟨gv, hgv⟩ : ∃ gv, gv = (Kv.get T pf).getD [] := ⟨_, rfl⟩
        obtain ⟨ok, hok⟩ : ∃ ok, ok = (Kv.get T pf).isSome := ⟨_, rfl⟩
        rw [← hgv] at Hr hOy hgl
        rw [← hok] at Hr ⊢
        clear Hg HSx hkx hRx ky hgv hok
        go_wp2_with fail
        refine Hr.out.mono ?_
        rintro e wz ⟨rfl, q, rfl⟩
        have kq : Keeps Non wy (wy.drewN q) := (Keeps.refl _ _).drewN q
        have hSz := HSy.out.keepN kq
        have hkz := hky.trans kq
        have hOz := own_kept hOy kq (fun _ _ q => q)
        obtain ⟨wz, hwz⟩ : ∃ wz, wz = wy.drewN q := ⟨_, rfl⟩
        rw [← hwz] at hSz hkz hOz ⊢
        obtain ⟨Az, cz, rfl, hrz, -, -, -⟩ := own_rdB hOz (by omega)
        have tz := run_str wz Az _ cz gv hrz
        have Hl := Lib.hid (slen_any (Zs p g F6 s) s b m6 age6 T wz hSz.st hSz.tab)
        clear Hr HSy hky hRy hOy hOz kq hwz hSz hrz
        cases ok with
        | true =>
          go_wp2_with fail
          refine Hl.out.mono ?_
          rintro e w' ⟨rfl, rfl⟩
          go_wp2_with fail
          go_ret
          exact ⟨rfl, hkz.none_below⟩
        | false =>
          go_wp2_with fail
          refine Hl.out.mono ?_
          rintro e w' ⟨rfl, rfl⟩
          go_wp2_with fail
          go_ret
          exact ⟨rfl, hkz.none_below⟩
end Go.Proofs.Ytbmamhcjbhnkiaa
