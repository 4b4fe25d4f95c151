/- Layer 9: a commit at a store that has had none; the walk of the law KvScans. -/
import Derived.Test.YtbmamhcjbhnkiaaGreatKzy
import Derived.Test.YtbmamhcjbhnkiaaGreatKzw
namespace Go.Proofs.YtbmamhcjbhnkiaaGreat
open Go.RowKit Go.Maps
open Kv (Bs Tab)

theorem encAll_le (x y : Nat) : ∀ (l : List Kv.St), (∀ p ∈ l, p.k.length ≤ x ∧ p.v.length ≤ y) → (Kv.encAll l).length ≤ (4 + x + y) * l.length
  | [], _ => by simp [Kv.encAll]
  | p :: l, h => by
    have h1 := encAll_le x y l fun q hq => h q (by simp [hq])
    have h2 := Kv.enc_le p
    obtain ⟨h3, h4⟩ := h p (by simp)
    rw [Kv.encAll_cons, List.length_append, List.length_cons, Nat.mul_succ]
    omega

/-- A commit that ends well. -/
def RetDone (w : World) (F : Nat → Prop) (s b p g m age c : Nat) (d : Dk) (L : Wal.Lg) (l : List Kv.St) (T : Tab) (e : Ending) (w' : World) : Prop :=
  e = .returned (.int .i64 0) ∧ ∃ F' m' age' d' L', Sv w' F' s b p g m' age' d' L' T ∧ Wal.Live d' L' ∧ Kv.Says L'.recs T ∧ d'.lit = false ∧ (∀ k, F' k → F k ∨ w.heap.size ≤ k) ∧ (l = [] → age' = age ∧ F' = F ∧ m' = m ∧ d' = d ∧ L' = L) ∧ (l ≠ [] → age' = age + 1) ∧ Keeps (fun k => k = c ∨ Zs p g F s k) w w'
section
variable {w : World} {B : Nat} {F : Nat → Prop} {s b p g m age : Nat} {d : Dk} {L : Wal.Lg} {T0 : Tab} {c mc : Nat} {v : Value} {l : List Kv.St} {T : Tab}
theorem commit_fresh (h : Ses w B F s b p g m age d L T0 c mc v l T false) (ha : age ≤ 1048576) (hL : Wal.Live d L) (hsay : Kv.Says L.recs T0) (hlit : d.lit = false) (hTT : T = Kv.doAll T0 l) (hl : ∀ p ∈ l, p.ok)
    (hb : (Kv.encAll l).length ≤ 65536) (hroom : L.fin + (9 + (Kv.encAll l).length) ≤ Wal.hs d) (hcap : 16 + Kv.rcost T ≤ Wal.hs d) :
    Calls Tryz.prog 13 #[.pointer (some ⟨c, 0, none⟩)] w (RetDone w F s b p g m age c d L l T) := by
  by_cases hne : l = []
  · refine (commit_none b m ha hne h.sv.st h.ch).mono ?_
    rintro e w' ⟨rfl, hc, hk⟩
    have h' := h.move hk (fun k q => by rw [q]; exact h.lc) hc h.lv
    subst hne
    have hT0 : T = T0 := hTT
    subst hT0
    exact ⟨rfl, F, m, age, d, L, h'.sv, hL, hsay, hlit, fun k q => .inl q, fun _ => ⟨rfl, rfl, rfl, rfl, rfl⟩, fun q => absurd rfl q, hk.mono fun k _ q => .inl q⟩
  · refine (commit_room h.sv ha hL hsay h.ch hTT hl hne hb hroom).mono ?_
    rintro e w' ⟨d', -, -, hk, hh⟩
    rcases hh with ⟨rfl, F', L', h1, h2, -, h4, h5, h6⟩ | ⟨hbad, _⟩ | ⟨-, -, -, hbad⟩
    · exact ⟨rfl, F', mc, age + 1, d', L', h5, h1, h2, h4 hlit, h6, fun q => absurd q hne, fun _ => rfl, hk⟩
    · rw [hlit] at hbad; cases hbad
    · omega
end

/-- A commit at a disk that is not lit, wherever the record comes to lie. -/
theorem commit_fresh2 {w : World} {B : Nat} {F : Nat → Prop} {s b p g m age : Nat} {d : Dk} {L : Wal.Lg} {T0 : Tab} {c mc : Nat} {v : Value} {l : List Kv.St} {T : Tab} (h : Ses w B F s b p g m age d L T0 c mc v l T false) (ha : age ≤ 1048576) (hL : Wal.Live d L) (hsay : Kv.Says L.recs T0) (hlit : d.lit = false) (hTT : T = Kv.doAll T0 l) (hl : ∀ p ∈ l, p.ok)
    (hb : (Kv.encAll l).length ≤ 65536) (hg : L.gen + 1 ≤ 2147483647) (hsz : Kv.tsize T ≤ 65536) (hTl : T.length ≤ 1048576) (hcap : 16 + Kv.rcost T ≤ Wal.hs d) :
    Calls Tryz.prog 13 #[.pointer (some ⟨c, 0, none⟩)] w (RetDone w F s b p g m age c d L l T) := by
  by_cases hroom : L.fin + (9 + (Kv.encAll l).length) ≤ Wal.hs d
  · exact commit_fresh h ha hL hsay hlit hTT hl hb hroom hcap
  · by_cases hne : l = []
    · refine (commit_none b m ha hne h.sv.st h.ch).mono ?_
      rintro e w' ⟨rfl, hc, hk⟩
      have h' := h.move hk (fun k q => by rw [q]; exact h.lc) hc h.lv
      subst hne
      have hT0 : T = T0 := hTT
      subst hT0
      exact ⟨rfl, F, m, age, d, L, h'.sv, hL, hsay, hlit, fun k q => .inl q, fun _ => ⟨rfl, rfl, rfl, rfl, rfl⟩, fun q => absurd rfl q, hk.mono fun k _ q => .inl q⟩
    refine (commit_anew h.sv ha hL hsay h.ch hTT hl hne hb (by omega) hsz hTl hg (by omega)).mono ?_
    rintro e w' ⟨d', -, -, hk, hh⟩
    rcases hh with ⟨rfl, F', L', h1, h2, -, h4, h5, h6⟩ | ⟨hbad, _⟩ | ⟨-, -, -, hbad⟩
    · exact ⟨rfl, F', mc, age + 1, d', L', h5, h1, h2, h4 hlit, h6, fun q => absurd q hne, fun _ => rfl, hk⟩
    · rw [hlit] at hbad; cases hbad
    · omega

/-- The steps of the law: each key gets its place, and its first byte. -/
def stepAt (i : Nat) (k : Bs) : Kv.St := ⟨false, k, [UInt8.ofNat i, k.headD 0]⟩
def stepsOf (S : List Bs) : List Kv.St := S.mapIdx stepAt
theorem stepsOf_snoc {S : List Bs} {j : Nat} {k : Bs} (h : S[j]? = some k) : stepsOf (S.take (j + 1)) = stepsOf (S.take j) ++ [stepAt j k] := by
  obtain ⟨hj, e⟩ := List.getElem?_eq_some_iff.1 h
  rw [List.take_succ_eq_append_getElem hj, e, stepsOf, List.mapIdx_concat]
  simp [stepsOf, Nat.min_eq_left (Nat.le_of_lt hj)]
theorem stepsOf_len (S : List Bs) : (stepsOf S).length = S.length := by simp [stepsOf]
theorem stepsOf_mem {S : List Bs} {p : Kv.St} (h : p ∈ stepsOf S) : ∃ i k, k ∈ S ∧ p = stepAt i k := by
  obtain ⟨i, hi, rfl⟩ := List.mem_mapIdx.1 h
  exact ⟨i, _, List.getElem_mem hi, rfl⟩
theorem stepsOf_ok {S : List Bs} (h : ∀ k ∈ S, 1 ≤ k.length ∧ k.length ≤ 20) : ∀ p ∈ stepsOf S, p.ok ∧ p.k.length ≤ 20 ∧ p.v.length ≤ 2 := fun p hp => by
  obtain ⟨i, k, hk, rfl⟩ := stepsOf_mem hp
  obtain ⟨h1, h2⟩ := h k hk
  exact ⟨⟨h1, by show k.length ≤ 128; omega, by show 2 ≤ 4096; decide, fun q => by cases q⟩, h2, Nat.le_refl 2⟩

/-- What the loop over the keys keeps. -/
structure Scn (w0 : World) (R0 B : Nat) (F : Nat → Prop) (s b p g m : Nat) (d : Dk) (c mc : Nat) (S : List Bs) (wr : World) (j : Nat) (v lv : Value) : Prop where
  ses : Ses wr B F s b p g m 0 d L0 [] c mc v (stepsOf (S.take j)) (Kv.doAll [] (stepsOf (S.take j))) false
  own : OwnR wr R0 lv (Kv.doAll [] (stepsOf (S.take j)))
  apart : ∀ k, lv.ownBlock = some k → ¬ Cb c mc v k
  fit : ∀ k ∈ S.take j, 1 ≤ k.length ∧ k.length ≤ 20
  keep : Keeps Non w0 wr
  size : R0 ≤ wr.heap.size

end Go.Proofs.YtbmamhcjbhnkiaaGreat
