/- Layer 9 (the great seat): what a play holds from step to step; a commit in a play. -/
import Derived.Test.YtbmamhcjbhnkiaaGreatKzbd
namespace Go.Proofs.YtbmamhcjbhnkiaaGreat
open Go.RowKit Go.Maps
open Kv (Bs Tab)

theorem len_tsize : ∀ (T : Tab), 4 * T.length ≤ Kv.tsize T
  | [] => by simp
  | p :: r => by
    have := len_tsize r
    rw [Kv.tsize_cons, List.length_cons]
    omega
theorem cook_enc9 {Q : List Kv.St} (h : Mild Q) : (Kv.encAll (Q.map cook)).length ≤ 1792 := by
  have h1 := encAll_le 20 200 (Q.map cook) fun p hp => (cook_ok h p hp).2
  have h2 := h.1
  rw [List.length_map] at h1
  omega
theorem has_cost {d : Dk} {gen : Nat} {R : List (List UInt8)} {h : Nat} (H : Wal.Has d gen R h) : Wal.cost R ≤ Wal.hs d := by
  obtain ⟨T, hT, _⟩ := H.ex
  have h1 := hT.length
  have h2 := Wal.half_length (d := d) H.h1
  omega

/-- A slice of pairs stays while other blocks are turned. -/
theorem RdR.over {Z Z' : Nat → Prop} {w w' : World} {A : Option Addr} {n : Nat} {T : Tab} (h : RdR Z w A n T) (hk : Keeps Z w w') (hz : ∀ k, Z' k → Z k ∨ w.heap.size ≤ k) : RdR Z' w' A n T :=
  ⟨h.len, h.le, fun h0 => by
    obtain ⟨b, off, e, hb, hl, hc⟩ := h.cells h0
    refine ⟨b, off, e, fun q => (hz _ q).elim hb (fun r => by omega), Nat.lt_of_lt_of_le hl hk.size, fun j p hp => ?_⟩
    obtain ⟨h1, h2⟩ := hc j p hp
    exact ⟨hk.cell h1 hb, hk.cell h2 hb⟩⟩

/-- What a play holds: the store, its log and its disk; what is wanted, and what may be. -/
structure P9 (w wr : World) (p g sz : Nat) (F : Nat → Prop) (s b m age : Nat) (d : Dk) (L : Wal.Lg) (W M : Tab) (A9 : Option Addr) (n9 : Nat) (A10 : Option Addr) (n10 : Nat) : Prop where
  sv : Sv wr F s b p g m age d L W
  k : Keeps Non w wr
  low : ∀ k, Zs p g F s k → w.heap.size ≤ k
  len : d.data.length = sz
  rw_ : RdR (Zs p g F s) wr A9 n9 W
  rm : RdR (Zs p g F s) wr A10 n10 M
  ok : Kv.Ok W
  ts : Kv.tsize W ≤ 2000
/-- How log and disk stand to it, at the step of such a number. -/
def St9 (d : Dk) (L : Wal.Lg) (W M : Tab) (cut : Bool) (j : Nat) : Prop :=
  (cut = false ∧ Wal.Live d L ∧ Kv.Says L.recs W ∧ L.gen ≤ j + 1) ∨ (cut = true ∧ d.down = true ∧ ∃ gen R h, Wal.Has d gen R h ∧ gen ≤ j + 1 ∧ (Kv.Says R W ∨ Kv.Says R M))
theorem St9.next {d : Dk} {L : Wal.Lg} {W M : Tab} {cut : Bool} {j : Nat} (h : St9 d L W M cut j) : St9 d L W M cut (j + 1) := by
  rcases h with ⟨h1, h2, h3, h4⟩ | ⟨h1, h2, gen, R, hh, h3, h4, h5⟩
  · exact .inl ⟨h1, h2, h3, by omega⟩
  · exact .inr ⟨h1, h2, gen, R, hh, h3, by omega, h5⟩
theorem Live.light9 {d : Dk} {L : Wal.Lg} (h : Wal.Live d L) {a c : Int} (ha1 : a ≤ 9223372036854775807) (hc1 : c ≤ 9223372036854775807) : Wal.Live (d.light a c) L := by
  by_cases hh : a < 0 ∨ c < 0
  · have : d.light a c = d := if_pos hh
    rw [this]; exact h
  · exact Live.light h (by omega) (by omega) ha1 hc1
theorem St9.light {d : Dk} {L : Wal.Lg} {W M : Tab} {cut : Bool} {j : Nat} (h : St9 d L W M cut j) {a c : Int} (ha1 : a ≤ 9223372036854775807) (hc1 : c ≤ 9223372036854775807) : St9 (d.light a c) L W M cut j := by
  rcases h with ⟨h1, h2, h3, h4⟩ | ⟨h1, h2, gen, R, hh, h3, h4, h5⟩
  · exact .inl ⟨h1, Live.light9 h2 ha1 hc1, h3, h4⟩
  · exact .inr ⟨h1, by unfold Dk.light; split <;> exact h2, gen, R, hh, Has.light h3 ha1 hc1, h4, h5⟩

section
variable {w wr wr' : World} {p g sz : Nat} {F F' : Nat → Prop} {s s' b b' m m' age age' : Nat} {d d' : Dk} {L L' : Wal.Lg} {W M W' : Tab} {A9 A10 A9' : Option Addr} {n9 n10 n9' : Nat}
theorem P9.keepN (h : P9 w wr p g sz F s b m age d L W M A9 n9 A10 n10) (hk : Keeps Non wr wr') : P9 w wr' p g sz F s b m age d L W M A9 n9 A10 n10 :=
  ⟨h.sv.keepN hk, h.k.trans hk, h.low, h.len, h.rw_.keepN hk, h.rm.keepN hk, h.ok, h.ts⟩
/-- Store, log and disk have been turned; something may be wanted that wasn't. -/
theorem P9.step (h : P9 w wr p g sz F s b m age d L W M A9 n9 A10 n10) (hk : Keeps (Zs p g F s) wr wr') (hsv : Sv wr' F' s' b' p g m' age' d' L' W') (hF : ∀ k, Zs p g F' s' k → Zs p g F s k ∨ wr.heap.size ≤ k) (hl : d'.data.length = d.data.length)
    (hW : RdR (Zs p g F' s') wr' A9' n9' W') (hok : Kv.Ok W') (hts : Kv.tsize W' ≤ 2000) : P9 w wr' p g sz F' s' b' m' age' d' L' W' M A9' n9' A10 n10 := by
  have hs := h.k.size
  exact ⟨hsv, h.k.into hk fun k h1 h2 => by have := h.low k h2; show False; omega, fun k q => (hF k q).elim (h.low k) (fun r => by omega), by rw [hl, h.len], hW, h.rm.over hk hF, hok, hts⟩
/-- The same where nothing else is wanted. -/
theorem P9.same (h : P9 w wr p g sz F s b m age d L W M A9 n9 A10 n10) (hk : Keeps (Zs p g F s) wr wr') (hsv : Sv wr' F' s' b' p g m' age' d' L' W) (hF : ∀ k, Zs p g F' s' k → Zs p g F s k ∨ wr.heap.size ≤ k) (hl : d'.data.length = d.data.length) :
    P9 w wr' p g sz F' s' b' m' age' d' L' W M A9 n9 A10 n10 := h.step hk hsv hF hl (h.rw_.over hk hF) h.ok h.ts
theorem P9.may (h : P9 w wr p g sz F s b m age d L W M A9 n9 A10 n10) (hm : RdR (Zs p g F s) wr A9' n9' W') : P9 w wr p g sz F s b m age d L W W' A9 n9 A9' n9' := ⟨h.sv, h.k, h.low, h.len, h.rw_, hm, h.ok, h.ts⟩
end

/-- The disk alone has been turned. -/
theorem Sv.disk_ {F : Nat → Prop} {w w' : World} {s b p g m age : Nat} {d d' : Dk} {L : Wal.Lg} {T : Tab} (h : Sv w F s b p g m age d L T) (hk : Keeps (fun k => k = p ∨ k = g) w w') (hD : DiskAt w' p g d') : Sv w' F s b p g m age d' L T :=
  ⟨h.wl.disk_ hk hD, h.st.keep hk (fun q => q.elim h.sp h.sg), h.tab.keep hk (fun q => q.elim (fun r => h.mZ (.inl r)) fun r => h.mZ (.inr (.inl r))) (fun k q => q.elim .inl fun r => .inr (.inl r)), h.sp, h.sg, h.sF, h.mZ⟩

/-- What a commit of a play answers. -/
def RetPlay (w : World) (F : Nat → Prop) (s b p g m age c : Nat) (d : Dk) (L : Wal.Lg) (T0 T : Tab) (e : Ending) (w' : World) : Prop :=
  ∃ d' : Dk, d'.data.length = d.data.length ∧ Keeps (fun k => k = c ∨ Zs p g F s k) w w' ∧
    ((e = .returned (.int .i64 0) ∧ ∃ F' m' age' L', Wal.Live d' L' ∧ Kv.Says L'.recs T ∧ L'.gen ≤ L.gen + 1 ∧ age' ≤ age + 1 ∧ Sv w' F' s b p g m' age' d' L' T ∧ ∀ k, F' k → F k ∨ w.heap.size ≤ k) ∨
      (e = .returned (.int .i64 20) ∧ d'.down = true ∧ Sv w' F s b p g m age d' (L.die false) T0 ∧ ∃ gen R h, Wal.Has d' gen R h ∧ gen ≤ L.gen + 1 ∧ (Kv.Says R T0 ∨ Kv.Says R T)) ∨
      (e = .returned (.int .i64 21) ∧ d' = d ∧ Sv w' F s b p g m age d L T0 ∧ Wal.hs d < 16 + Kv.rcost T))

theorem commit_play {w : World} {B : Nat} {F : Nat → Prop} {s b p g m age : Nat} {d : Dk} {L : Wal.Lg} {T0 : Tab} {c mc : Nat} {v : Value} {l : List Kv.St} {T : Tab} (h : Ses w B F s b p g m age d L T0 c mc v l T false) (ha : age ≤ 1048576) (hL : Wal.Live d L) (hsay : Kv.Says L.recs T0) (hTT : T = Kv.doAll T0 l) (hl : ∀ p ∈ l, p.ok)
    (hb : (Kv.encAll l).length ≤ 65536) (hg : L.gen + 1 ≤ 2147483647) (hsz : Kv.tsize T ≤ 65536) (hTl : T.length ≤ 1048576) :
    Calls Tryz.prog 13 #[.pointer (some ⟨c, 0, none⟩)] w (RetPlay w F s b p g m age c d L T0 T) := by
  by_cases hne : l = []
  · refine (commit_none b m ha hne h.sv.st h.ch).mono ?_
    rintro e w' ⟨rfl, hc, hk⟩
    have h' := h.move hk (fun k q => by rw [q]; exact h.lc) hc h.lv
    subst hne
    have hT0 : T = T0 := hTT
    subst hT0
    exact ⟨d, rfl, hk.mono fun k _ q => .inl q, .inl ⟨rfl, F, m, age, L, hL, hsay, by omega, by omega, h'.sv, fun k q => .inl q⟩⟩
  · have hh : ∀ e w', RetCommit w F s b p g m age c mc d L T0 T e w' → RetPlay w F s b p g m age c d L T0 T e w' := by
      rintro e w' ⟨d', -, h2, h3, h4⟩
      refine ⟨d', h2, h3, ?_⟩
      rcases h4 with ⟨rfl, F', L', q1, q2, q3, -, q5, q6⟩ | ⟨-, q1, q2, q3, q4⟩ | q
      · exact .inl ⟨rfl, F', mc, age + 1, L', q1, q2, q3, Nat.le_refl _, q5, q6⟩
      · exact .inr (.inl ⟨q1, q2, q3, q4⟩)
      · exact .inr (.inr q)
    by_cases hroom : L.fin + (9 + (Kv.encAll l).length) ≤ Wal.hs d
    · exact (commit_room h.sv ha hL hsay h.ch hTT hl hne hb hroom).mono hh
    · by_cases hfit : Wal.hs d < 16 + Kv.rcost T
      · exact (commit_full h.sv ha hL hsay h.ch hTT hl hne hb (by omega) hsz hTl hg hfit).mono hh
      · exact (commit_anew h.sv ha hL hsay h.ch hTT hl hne hb (by omega) hsz hTl hg hfit).mono hh
/-- Some disk that has records is opened by the store. -/
theorem kopen_has (p g : Nat) (d : Dk) (gen : Nat) (R : List (List UInt8)) (h : Nat) (T : Tab) (H : Wal.Has d gen R h) (hup : d.down = false) (hlit : d.lit = false) (hsay : Kv.Says R T) (w : World) (hD : DiskAt w p g d) :
    Calls Tryz.prog 9 #[.pointer (some ⟨p, 0, none⟩)] w (RetKOpen w p g ⟨h, gen, 16 + Wal.cost R, R, false⟩ (fun d' => d'.data.length = d.data.length) T) :=
  kopen_any p g _ _ T w hsay ((open_step p g d gen R h H hup w hD).mono fun e w' hh => by
    obtain ⟨d', -, hl, hk, q⟩ := hh
    rcases q with ⟨F, b, he, hL, -, hW, hF⟩ | ⟨hbad, _⟩
    · exact ⟨d', F, b, he, hL, hl, hW, hF, hk⟩
    · rw [hlit] at hbad; cases hbad)
theorem St9.has {d : Dk} {L : Wal.Lg} {W M : Tab} {cut : Bool} {j : Nat} (h : St9 d L W M cut j) : ∃ gen R hh T, Wal.Has d gen R hh ∧ gen ≤ j + 1 ∧ Kv.Says R T ∧ (T = W ∨ (cut = true ∧ T = M)) := by
  rcases h with ⟨_, h2, h3, h4⟩ | ⟨h1, _, gen, R, hh, h3, h4, h5⟩
  · exact ⟨L.gen, L.recs, L.half, W, h2.has, h4, h3, .inl rfl⟩
  · rcases h5 with q | q
    · exact ⟨gen, R, hh, W, h3, h4, q, .inl rfl⟩
    · exact ⟨gen, R, hh, M, h3, h4, q, .inr ⟨h1, rfl⟩⟩
theorem says_small {d : Dk} {gen : Nat} {R : List (List UInt8)} {h : Nat} {T : Tab} (H : Wal.Has d gen R h) (hs : Kv.Says R T) (hl : d.data.length ≤ 4000) : Kv.tsize T ≤ 2000 := by
  have h1 := hs.tsize
  have h2 := has_cost H
  have h3 : Wal.hs d = d.data.length / 2 := rfl
  omega
end Go.Proofs.YtbmamhcjbhnkiaaGreat
