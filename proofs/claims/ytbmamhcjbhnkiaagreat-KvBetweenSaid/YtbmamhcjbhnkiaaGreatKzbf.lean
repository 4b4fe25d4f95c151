/- Layer 9 (the great seat): the walk of a store's Between; the plain law of KvBetween. -/
import Derived.Test.YtbmamhcjbhnkiaaGreatKzbe
namespace Go.Proofs.YtbmamhcjbhnkiaaGreat
open Go.RowKit Go.Maps Go.Sort
open Kv (Bs Tab)

set_option maxHeartbeats 1000000 in
theorem closureB (x y : Pr) (W : World) : Calls Tryz.prog 46 #[.agg (encP x).toArray, .agg (encP y).toArray] W fun e w' => e = .returned (.int .i64 (cfP x y)) ∧ ∃ q os', w' = grow (W.drewN q) os' := by
  have hcon := fun W' => Any.strings_Compare Tryz.cmpStr ⟨x.1.1.toArray⟩ ⟨y.1.1.toArray⟩ W'
  change ∀ W', Calls Tryz.prog 47 _ _ _ at hcon
  have e1 : Lib.compareBytes (ByteArray.mk x.1.1.toArray).data.toList (ByteArray.mk y.1.1.toArray).data.toList = cfP x y := rfl
  rw [e1] at hcon
  have HC := Lib.hid hcon
  show Calls Tryz.prog 46 #[.agg #[sv x.1.1, .slice x.2.1 x.2.2.1 x.2.2.2], .agg #[sv y.1.1, .slice y.2.1 y.2.2.1 y.2.2.2]] W _
  clear e1 hcon
  go_enter Tryz.func46, Tryz.ntmps46
  go_wp2_with fail
  refine (HC.out _).mono ?_
  rintro e w' ⟨rfl, rfl⟩
  go_wp2_with fail
  go_ret
  exact ⟨rfl, 0, _, by rw [alloc_eq_grow, alloc_eq_grow, grow_grow]; rfl⟩

theorem sortB_any (w : World) (base : Nat) (v : Value) (d : List Pr) (h : OwnP w base v d) (hd : d.length < 4611686018427387904) (hnd : (keys d).Pairwise fun p q => p.1 ≠ q.1) :
    Calls Tryz.prog 45 #[v, .func (.func 46) #[] #[]] w fun e w' => e = .returned (.tuple #[]) ∧ ∃ d' : List Pr, d'.Perm d ∧ Kv.Rise (keys d') ∧ OwnP w' base v d' ∧ Keeps (fun k => some k = v.ownBlock) w w' := by
  obtain ⟨A, c, rfl, hc1, hc2, hrow⟩ := h.form
  rcases Nat.eq_zero_or_pos d.length with h0 | h0
  · have : d = [] := List.eq_nil_of_length_eq_zero h0
    subst this
    have hcon := AnyF.slices_SortFunc_none (P := Tryz.prog) (ρ := Tryz.sortPair_ren) { Tryz.sortPair with } A c (.func (.func 46) #[] #[]) w
    refine hcon.mono ?_
    rintro e w' ⟨rfl, rfl⟩
    exact ⟨rfl, [], List.Perm.refl _, by simp [keys, Kv.Rise], h, Keeps.refl _ _⟩
  · obtain ⟨g, cur, rfl, -, hg, hb, hs, ht⟩ := hrow h0
    have eg : ∀ args w, (callFunc 46 args).run Tryz.prog w = .ok (.enter 46 args) w := enters_of Tryz.func46 (by kernel_rfl) rfl
    have hcon := AnyQ.slices_SortFunc Tryz.sortPair 2 Tryz.isAgg65 Tryz.sizeOf65 encP (fun _ => rfl) (fun x v hv => by simp [encP] at hv; rcases hv with rfl | rfl <;> rfl) cfP swoP 46 #[] g 0 c d.toArray w eg (fun _ _ _ _ x y => closureB x y _) (holds_P hb ht) (Array.getElem?_eq_some_iff.1 hb).1 (by simpa using hd)
    refine hcon.mono ?_
    rintro e w' ⟨rfl, d', n, os, ⟨hsz, _, hperm⟩, hso, rfl⟩
    have hl : d'.size = d.length := by simpa using hsz
    have e1 : d'.extract 0 d.toArray.size = d' := by rw [← hsz]; exact Array.extract_size
    rw [e1, Array.extract_size] at hperm
    simp only [List.toList_toArray] at hperm
    have hk := keeps_sortedP (w := w) (g := g) (n := n) (os := os) d'
    have hel : ∀ x ∈ d'.toList, x ∈ d := fun x hx => hperm.mem_iff.1 hx
    refine ⟨rfl, d'.toList, hperm, ?_, ⟨?_, fun x hx => ?_⟩, hk.mono fun k _ e => by simp [Value.ownBlock, e]⟩
    · have hnd' : (keys d'.toList).Pairwise fun p q => p.1 ≠ q.1 := ((hperm.map (·.1)).pairwise_iff (fun {_ _} q => Ne.symm q)).2 hnd
      unfold Kv.Rise
      rw [List.pairwise_iff_getElem] at hnd' ⊢
      intro i j hi hj hij
      have hne := hnd' i j hi hj hij
      have hi' : i < d'.size := by simpa [keys] using hi
      have hj' : j < d'.size := by simpa [keys] using hj
      have := hso i j (Nat.zero_le _) hij (by simpa [hl] using hj')
      rw [ltP, getElem!_pos d' j hj', getElem!_pos d' i hi'] at this
      simp only [decide_eq_false_iff_not] at this
      simp only [keys, List.getElem_map, Array.getElem_toList] at hne ⊢
      exact Kv.lt_or this (fun q => hne q.symm)
    · have := heap_sortedP (n := n) (os := os) d' hb
      have hlen : d'.toList.length = d.length := by simpa using hl
      refine ⟨by rw [flat_len], .inr ⟨g, c, _, by rw [hlen], hg, this, by rw [hlen]; exact hc1, by unfold maxLen; exact hc2, by simp [putCells, hs], ?_⟩⟩
      exact take_putP cur d'.toList (by rw [hlen]; omega)
    · obtain ⟨h2, h3, h4, h5⟩ := h.el x (hel x hx)
      exact ⟨h2.keep hk (fun q a ha e => (h5 q a ha).2.1 (by simp [Value.ownBlock, e])), h3, h4, fun q a ha => ⟨(h5 q a ha).1, (h5 q a ha).2.1, (h5 q a ha).2.2.keep hk fun e => (h5 q a ha).2.1 (by simp [Value.ownBlock, e])⟩⟩

/-- Is a key between these? -/
def inr (a z : Bs) (p : Bs × Bs) : Bool := !decide (p.1 < a) && decide (p.1 < z)
def btw (a z : Bs) (T : Tab) : Tab := T.filter (inr a z)
theorem btw_snoc (a z : Bs) (D : Tab) (p : Bs × Bs) : btw a z (D ++ [p]) = btw a z D ++ (if inr a z p then [p] else []) := by
  unfold btw
  rw [List.filter_append]
  congr 1
  cases h : inr a z p <;> simp [h]
theorem flat_take (d : List Pr) (n : Nat) (hn : n ≤ d.length) : (d.take n).flatMap encP = (d.flatMap encP).take (n * 2) := by
  have h : d.flatMap encP = (d.take n).flatMap encP ++ (d.drop n).flatMap encP := by rw [← List.flatMap_append, List.take_append_drop]
  have hl : ((d.take n).flatMap encP).length = n * 2 := by rw [flat_len, List.length_take, Nat.min_eq_left hn]
  rw [h, ← hl, List.take_left]
theorem keys_take (d : List Pr) (n : Nat) : keys (d.take n) = (keys d).take n := by simp [keys, List.map_take]
theorem OwnP.take {w : World} {base c : Nat} {A : Option Addr} {d : List Pr} (h : OwnP w base (.slice A d.length c) d) (n : Nat) (hn : n ≤ d.length) : OwnP w base (.slice A n c) (d.take n) := by
  have hl : (d.take n).length = n := by rw [List.length_take, Nat.min_eq_left hn]
  refine ⟨⟨by rw [flat_len], ?_⟩, fun x hx => ?_⟩
  · rw [hl, flat_take d n hn]
    rcases h.row.2 with ⟨e, h0⟩ | ⟨g, cap, cur, e, hg0, hg, hnc, hcm, hcs, htake⟩
    · injection e with e1 e2 e3
      subst e1; subst e3
      have : n = 0 := by omega
      subst this
      exact .inl ⟨rfl, rfl⟩
    · injection e with e1 e2 e3
      subst e1; subst e3
      refine .inr ⟨g, _, cur, rfl, hg0, hg, by omega, hcm, hcs, ?_⟩
      rw [← htake, List.take_take, Nat.min_eq_left (by omega)]
  · obtain ⟨h2, h3, h4, h5⟩ := h.el x (List.mem_of_mem_take hx)
    exact ⟨h2, h3, h4, fun q a ha => ⟨(h5 q a ha).1, fun e => (h5 q a ha).2.1 (by rw [← e]; cases A <;> rfl), (h5 q a ha).2.2⟩⟩

/-- What Between answers. -/
def RetBtw (w : World) (T : Tab) (a z : Bs) (n : Nat) (e : Ending) (w' : World) : Prop := ∃ v d, e = .returned v ∧ keys d = (btw a z T).take n ∧ OwnP w' w.heap.size v d ∧ Keeps Non w w'

/-! ### what KvBetween's loop finds -/
/-- The place of the first key from one on, if there is one so far. -/
def NextI (T : Tab) (a : Bs) (j : Nat) (x : Int) : Prop := (x = -1 ∧ ∀ p ∈ T.take j, p.1 < a) ∨ ∃ (i : Nat) (p : Bs × Bs), x = i ∧ i < j ∧ T[i]? = some p ∧ ¬ p.1 < a ∧ ∀ q ∈ T.take i, q.1 < a
/-- The place of the last key ahead of it. -/
def LastI (T : Tab) (a : Bs) (j : Nat) (x : Int) : Prop := (x = -1 ∧ ∀ p ∈ T.take j, ¬ p.1 < a) ∨ ∃ (i : Nat) (p : Bs × Bs), x = i ∧ i < j ∧ T[i]? = some p ∧ p.1 < a ∧ ∀ (i' : Nat) (q : Bs × Bs), i < i' → i' < j → T[i']? = some q → ¬ q.1 < a
theorem take_mem_snoc {T : Tab} {j : Nat} {p q : Bs × Bs} (h : T[j]? = some p) (hq : q ∈ T.take (j + 1)) : q ∈ T.take j ∨ q = p := by
  obtain ⟨hj, e⟩ := List.getElem?_eq_some_iff.1 h
  rw [List.take_succ_eq_append_getElem hj, e] at hq
  rcases List.mem_append.1 hq with r | r
  · exact .inl r
  · exact .inr (by simpa using r)
theorem NextI.zero (T : Tab) (a : Bs) : NextI T a 0 (-1) := .inl ⟨rfl, fun p hp => by simp at hp⟩
theorem LastI.zero (T : Tab) (a : Bs) : LastI T a 0 (-1) := .inl ⟨rfl, fun p hp => by simp at hp⟩
theorem NextI.old {T : Tab} {a : Bs} {j : Nat} {x : Int} {p : Bs × Bs} (h : NextI T a j x) (hp : T[j]? = some p) (hx : 0 ≤ x ∨ p.1 < a) : NextI T a (j + 1) x := by
  rcases h with ⟨rfl, h1⟩ | ⟨i, q, rfl, h1, h2, h3, h4⟩
  · exact .inl ⟨rfl, fun q hq => by
      rcases take_mem_snoc hp hq with r | r
      · exact h1 q r
      · subst r; rcases hx with e | e
        · omega
        · exact e⟩
  · exact .inr ⟨i, q, rfl, by omega, h2, h3, h4⟩
theorem NextI.new {T : Tab} {a : Bs} {j : Nat} {x : Int} {p : Bs × Bs} (h : NextI T a j x) (hp : T[j]? = some p) (hx : x < 0) (hpa : ¬ p.1 < a) : NextI T a (j + 1) (j : Int) := by
  rcases h with ⟨rfl, h1⟩ | ⟨i, q, rfl, h1, h2, h3, h4⟩
  · exact .inr ⟨j, p, rfl, by omega, hp, hpa, h1⟩
  · omega
theorem LastI.old {T : Tab} {a : Bs} {j : Nat} {x : Int} {p : Bs × Bs} (h : LastI T a j x) (hp : T[j]? = some p) (hpa : ¬ p.1 < a) : LastI T a (j + 1) x := by
  rcases h with ⟨rfl, h1⟩ | ⟨i, q, rfl, h1, h2, h3, h4⟩
  · exact .inl ⟨rfl, fun q hq => by
      rcases take_mem_snoc hp hq with r | r
      · exact h1 q r
      · subst r; exact hpa⟩
  · refine .inr ⟨i, q, rfl, by omega, h2, h3, fun i' q' h5 h6 h7 => ?_⟩
    by_cases e : i' < j
    · exact h4 i' q' h5 e h7
    · obtain rfl : i' = j := by omega
      rw [hp] at h7
      rw [← Option.some.inj h7]
      exact hpa
theorem LastI.new {T : Tab} {a : Bs} {j : Nat} {x : Int} {p : Bs × Bs} (_h : LastI T a j x) (hp : T[j]? = some p) (hpa : p.1 < a) : LastI T a (j + 1) (j : Int) :=
  .inr ⟨j, p, rfl, by omega, hp, hpa, fun i' q h5 h6 _ => by omega⟩
theorem take_at {T : Tab} {i j : Nat} {q : Bs × Bs} (h : T[i]? = some q) (hij : i < j) : q ∈ T.take j := by
  rw [List.mem_iff_getElem?]
  exact ⟨i, by rw [List.getElem?_take_of_lt hij]; exact h⟩
theorem rise_lt {T : Tab} (h : Kv.Rise T) {i j : Nat} {p q : Bs × Bs} (hp : T[i]? = some p) (hq : T[j]? = some q) (hij : i < j) : p.1 < q.1 := by
  obtain ⟨h1, rfl⟩ := List.getElem?_eq_some_iff.1 hp
  obtain ⟨h2, rfl⟩ := List.getElem?_eq_some_iff.1 hq
  exact List.pairwise_iff_getElem.1 h i j h1 h2 hij
/-- What is told upwards: there is none, or it is that one. -/
theorem edge_up {T : Tab} {a best : Bs} {found : Bool} {x : Int} (hr : Kv.Rise T) (hE : EdgeOf T a false best found) (hN : NextI T a T.length x) :
    (found = false ∧ best = [] ∧ x = -1) ∨ ∃ (i : Nat) (p : Bs × Bs), found = true ∧ x = i ∧ i < T.length ∧ T[i]? = some p ∧ p.1 = best := by
  cases found with
  | false =>
    obtain ⟨h1, h2⟩ := hE.no rfl
    refine .inl ⟨rfl, h1, ?_⟩
    rcases hN with ⟨rfl, _⟩ | ⟨i, q, rfl, h3, h4, h5, _⟩
    · rfl
    · exact absurd (show Cand a false q.1 from decide_eq_false h5) (h2 q (List.mem_of_getElem? h4))
  | true =>
    obtain ⟨p, hp, rfl, hc⟩ := hE.mem rfl
    have hpa : ¬ p.1 < a := of_decide_eq_false hc
    have hb := hE.best rfl
    rcases hN with ⟨rfl, h1⟩ | ⟨i, q, rfl, h3, h4, h5, h6⟩
    · rw [List.take_length] at h1
      exact absurd (h1 p hp) hpa
    · have hq := hb q (List.mem_of_getElem? h4) (decide_eq_false h5)
      simp only [Bool.false_eq_true, if_false] at hq
      obtain ⟨i0, hi0⟩ := List.mem_iff_getElem?.1 hp
      have hii : i = i0 := by
        rcases Nat.lt_trichotomy i i0 with r | r | r
        · exact absurd (rise_lt hr h4 hi0 r) hq
        · exact r
        · exact absurd (h6 p (take_at hi0 r)) hpa
      subst hii
      rw [h4] at hi0
      exact .inr ⟨i, q, rfl, rfl, h3, h4, by rw [Option.some.inj hi0]⟩
/-- What is told downwards. -/
theorem edge_down {T : Tab} {a best : Bs} {found : Bool} {x : Int} (hr : Kv.Rise T) (hE : EdgeOf T a true best found) (hN : LastI T a T.length x) :
    (found = false ∧ best = [] ∧ x = -1) ∨ ∃ (i : Nat) (p : Bs × Bs), found = true ∧ x = i ∧ i < T.length ∧ T[i]? = some p ∧ p.1 = best := by
  cases found with
  | false =>
    obtain ⟨h1, h2⟩ := hE.no rfl
    refine .inl ⟨rfl, h1, ?_⟩
    rcases hN with ⟨rfl, _⟩ | ⟨i, q, rfl, h3, h4, h5, _⟩
    · rfl
    · exact absurd (show Cand a true q.1 from decide_eq_true h5) (h2 q (List.mem_of_getElem? h4))
  | true =>
    obtain ⟨p, hp, rfl, hc⟩ := hE.mem rfl
    have hpa : p.1 < a := of_decide_eq_true hc
    have hb := hE.best rfl
    rcases hN with ⟨rfl, h1⟩ | ⟨i, q, rfl, h3, h4, h5, h6⟩
    · rw [List.take_length] at h1
      exact absurd hpa (h1 p hp)
    · have hq := hb q (List.mem_of_getElem? h4) (decide_eq_true h5)
      simp only [if_true] at hq
      obtain ⟨i0, hi0⟩ := List.mem_iff_getElem?.1 hp
      have hl0 := (List.getElem?_eq_some_iff.1 hi0).1
      have hii : i = i0 := by
        rcases Nat.lt_trichotomy i i0 with r | r | r
        · exact absurd hpa (h6 i0 p r hl0 hi0)
        · exact r
        · exact absurd (rise_lt hr hi0 h4 r) hq
      subst hii
      rw [h4] at hi0
      exact .inr ⟨i, q, rfl, rfl, h3, h4, by rw [Option.some.inj hi0]⟩
/-- The first ones between. -/
def Wanted (a z : Bs) (n : Nat) (T : Tab) (j : Nat) : Tab := (btw a z (T.take j)).take n
theorem wanted_skip {a z : Bs} {n : Nat} {T : Tab} {j : Nat} {p : Bs × Bs} (hp : T[j]? = some p) (h : inr a z p = false ∨ ¬ (Wanted a z n T j).length < n) : Wanted a z n T (j + 1) = Wanted a z n T j := by
  obtain ⟨hj, e⟩ := List.getElem?_eq_some_iff.1 hp
  unfold Wanted at h ⊢
  rw [List.take_succ_eq_append_getElem hj, e, btw_snoc]
  rcases h with h | h
  · rw [h]; simp
  · rw [List.length_take] at h
    rw [List.take_append_of_le_length (by omega)]
theorem wanted_snoc {a z : Bs} {n : Nat} {T : Tab} {j : Nat} {p : Bs × Bs} (hp : T[j]? = some p) (h : inr a z p = true) (hl : (Wanted a z n T j).length < n) : Wanted a z n T (j + 1) = Wanted a z n T j ++ [p] := by
  obtain ⟨hj, e⟩ := List.getElem?_eq_some_iff.1 hp
  unfold Wanted at hl ⊢
  rw [List.length_take] at hl
  rw [List.take_succ_eq_append_getElem hj, e, btw_snoc, h]
  rw [List.take_of_length_le (l := btw a z (T.take j)) (by omega), List.take_of_length_le (by simp; omega)]
  rfl
theorem bsum_take {T : Tab} {j : Nat} {p : Bs × Bs} (hp : T[j]? = some p) : bsum (T.take (j + 1)) = bsum (T.take j) + (p.1.length + p.2.length) := by
  obtain ⟨hj, e⟩ := List.getElem?_eq_some_iff.1 hp
  rw [List.take_succ_eq_append_getElem hj, e, bsum_snoc]

set_option maxHeartbeats 8000000 in
set_option maxRecDepth 100000 in
theorem sbetween_any (Z : Nat → Prop) (s b m age : Nat) (T : Tab) (a z : Bs) (most : Int) (hmost : -9223372036854775808 ≤ most ∧ most ≤ 9223372036854775807) (hT : T.length ≤ 1048576) (w : World) (hs : StA w s b m age) (h : TabW Z w m T) :
    Calls Tryz.prog 25 #[.pointer (some ⟨s, 0, none⟩), sv a, sv z, .int .i64 most] w (RetBtw w T a z most.toNat) := by
  obtain ⟨c0, c1, c2⟩ := trio hs.st
  have hm := h.lt
  have hrise := h.rise
  have h0 : TabW (fun k => Z k ∨ w.heap.size ≤ k) w m T := h.grow fun k q => q
  clear h
  go_enter Tryz.func25, Tryz.ntmps25
  go_wp2_with (at_range; refine hold_it ?_)
  refine let_go ?_
  refine wp_tab_range _ rfl _ _ rfl 9 60 _ m T Tryz.underlying9 Tryz.underlying76 rfl h0 ?_
  intro w1 hR1 k1 z1
  go_wp2_with fail
  try go_frame
  obtain ⟨r, hr⟩ : ∃ r, r = w.heap.size := ⟨_, rfl⟩
  rw [← hr] at hR1 h0 hm z1 ⊢
  have HR := Lib.hid hr
  clear hr h0
  go_loopw [9] (fun v wr => ∃ (D : Tab) (cnt : Nat) (d : List Pr), TabR Tryz.prog 9 (fun k => Z k ∨ r ≤ k) wr m r T D cnt ∧ OwnP wr (r + 1) v d ∧ keys d = btw a z D ∧ d.length + cnt ≤ T.length ∧ Keeps Non w wr ∧ r + 1 ≤ wr.heap.size) (fun _ wr => wr.rangeLeft m r)
  case atStart => exact ⟨[], _, [], hR1, OwnP.nil _ _, rfl, by simp, k1, by omega⟩
  case round =>
    clear hR1 k1 z1
    obtain ⟨D, cnt, d, hR, hO, hd, hcnt, hk, hz⟩ := hrel
    have hleft := hR.left_eq
    go_wp2_with (at_next; refine hold_it ?_)
    refine let_go ?_
    refine wp_tab_next _ rfl _ rfl 9 _ m r T D cnt Tryz.underlying9 rfl hR ?_ ?_
    · intro h0 hperm
      have hrT : Kv.Rise (btw a z T) := List.Pairwise.filter _ hrise
      have hpp : (btw a z D).Perm (btw a z T) := hperm.filter _
      have hnd : (keys d).Pairwise fun p q => p.1 ≠ q.1 := by
        rw [hd]
        exact (hpp.pairwise_iff (fun {_ _} q => Ne.symm q)).2 (hrT.imp fun {a b} q => Kv.lt_ne q)
      have hx : Hid (∀ d' : List Pr, d'.Perm d → Kv.Rise (keys d') → keys d' = btw a z T) := fun d' h1 h2 => rise_perm h2 hrT (by
        have := h1.map (·.1)
        exact this.trans (by show (keys d).Perm _; rw [hd]; exact hpp))
      have hgo := Lib.hid (sortB_any wr (r + 1) u9 d hO (by omega) hnd)
      have hge : ∀ k, some k = u9.ownBlock → r + 1 ≤ k := fun k e => own_ge hO.row k e.symm
      obtain ⟨A9, c9, rfl, hc1, hc2, hblk⟩ := hO.form
      obtain ⟨n, hn⟩ : ∃ n, n = d.length := ⟨_, rfl⟩
      rw [← hn] at hgo hge hc1 hblk hcnt ⊢
      have HN := Lib.hid hn
      have hA9 : n = 0 ∨ ∃ g, A9 = some ⟨g, 0, none⟩ := by
        rcases Nat.eq_zero_or_pos n with e | e
        · exact .inl e
        · obtain ⟨g, cur, e1, _⟩ := hblk e; exact .inr ⟨g, e1⟩
      clear hR hd hperm hleft hrT hpp hnd hO hn hblk
      go_wp2_with fail
      refine hgo.out.mono ?_
      rintro e w2 ⟨rfl, d', h1, h2, h3, h4⟩
      have hk2 : Keeps Non w w2 := hk.into h4 (fun k hk' e => by have := hge k e; have := HR.out; show False; omega)
      have hx2 := Lib.hid (hx d' h1 h2)
      have hl' : d'.length = n := by rw [HN.out]; exact h1.length_eq
      have h3' := h3.lower (show w.heap.size ≤ r + 1 by have := HR.out; omega)
      rw [← hl'] at h3'
      have hfin : Hid (∀ q, q ≤ d'.length → q = min most.toNat d'.length → RetBtw w T a z most.toNat (.returned (.slice A9 q c9)) w2) := fun q hq hq2 => ⟨_, d'.take q, rfl, by
        rw [keys_take, hx2.out, hq2]
        rcases Nat.le_total most.toNat d'.length with r1 | r1
        · rw [Nat.min_eq_left r1]
        · rw [Nat.min_eq_right r1]
          have hl2 : d'.length = (btw a z T).length := by rw [← hx2.out, keys_len]
          rw [List.take_of_length_le (by omega), List.take_of_length_le (by omega)], h3'.take q hq, hk2⟩
      clear hx hgo h4 h1 h2 h3 hx2 hk2 h3'
      go_wp2_with fail
      go_ret
      exact hfin.out _ (by rw [hl']; omega) (by rw [hl']; omega)
    · intro key l A n c w2 cnt2 hmem hnew hkl hs hR2 hlt k2 z2 hen
      have hO2 := hO.keep k2 (fun k hk' e => by omega)
      have hk2 : Keeps Non w w2 := hk.into k2 (fun k hk' e => by have := HR.out; show False; omega)
      have hleft2 := hR2.left_eq
      have Hm : Hid (w2.rangeLeft m r < wr.rangeLeft m r) := by show _ < _; rw [hleft2, hleft]; exact hlt
      have Hd : Hid (btw a z (D ++ [(key, l)]) = btw a z D ++ (if inr a z (key, l) then [(key, l)] else [])) := btw_snoc a z D (key, l)
      have HD := Lib.hid hd
      have hown2 : ∀ g, u9.ownBlock = some g → g < w2.heap.size := fun g hg => by
        rcases hO2.row.2 with ⟨rfl, _⟩ | ⟨g', cap, cur, rfl, hb, hg', _⟩
        · simp [Value.ownBlock] at hg
        · have : g' = g := by simpa [Value.ownBlock] using hg
          subst this
          exact (Array.getElem?_eq_some_iff.1 hg').1
      have hz2 : r + 1 ≤ w2.heap.size := by omega
      have eg := run_geq (P := Tryz.prog) 9 key a
      obtain ⟨lt1, hlt1⟩ : ∃ lt1, lt1 = decide (key < a) := ⟨_, rfl⟩
      have e1 : Op.bytesLess key a = lt1 := by rw [hlt1, Kv.less_eq]
      obtain ⟨lt2, hlt2⟩ : ∃ lt2, lt2 = decide (key < z) := ⟨_, rfl⟩
      have e2 : Op.bytesLess key z = lt2 := by rw [hlt2, Kv.less_eq]
      unfold inr at Hd
      rw [← hlt1, ← hlt2] at Hd
      clear hR hO hd hk k2 hleft2 hleft z2 hz hlt1 hlt2
      cases lt1 with
      | true =>
        go_wp2_with fail
        go_roundw
        case rel => exact ⟨D ++ [(key, l)], cnt2, d, hR2, hO2, by rw [Hd.out, HD.out]; simp, by omega, hk2, hz2⟩
        case measure => exact Hm.out
      | false =>
        cases lt2 with
        | false =>
          go_wp2_with fail
          go_roundw
          case rel => exact ⟨D ++ [(key, l)], cnt2, d, hR2, hO2, by rw [Hd.out, HD.out]; simp, by omega, hk2, hz2⟩
          case measure => exact Hm.out
        | true =>
          go_wp2_with fail
          have hl3 : l.length ≤ 140737488355328 := by rw [hs.rd.len]; exact hs.rd.le
          refine (clone_own A n c l w2 hs.rd).mono ?_
          intro e w3 ho3
          obtain ⟨A3, n3, c3, rfl, r3, k3, g3, m3, x3, y3⟩ := ho3.toR hl3
          have hR3 := hR2.keepN k3
          have hO3 := hO2.keep k3 (fun _ _ q => q)
          have hk3 := hk2.trans k3
          have kA : Keeps Non w3 (w3.alloc (.cells #[sv key, .slice A3 n3 c3] 65)) := (Keeps.refl _ _).alloc _
          have hRA := hR3.keepN kA
          have hOA := hO3.keep kA (fun _ _ q => q)
          have hkA := hk3.trans kA
          have rA := r3.keepN kA
          have hrow := hOA.row
          have hsrc := Src.ofSlice (P := Tryz.prog) (w := w3.alloc (.cells #[sv key, .slice A3 n3 c3] 65)) (size := 2) Tryz.underlying45 ⟨w3.heap.size, 0, none⟩ 1 1 [sv key, .slice A3 n3 c3] rfl (World.news_of_block (heap_new _ _)) (fun u hu => by simp at hu; rcases hu with rfl | rfl <;> rfl)
          have zA : r + 1 ≤ (w3.alloc (.cells #[sv key, .slice A3 n3 c3] 65)).heap.size := by have := k3.size; simp; omega
          have hmeas : (w3.alloc (.cells #[sv key, .slice A3 n3 c3] 65)).rangeLeft m r = w2.rangeLeft m r := by rw [hRA.left_eq, hR2.left_eq]
          have hg3 : 0 < n3 → ∀ a, A3 = some a → r + 1 ≤ a.block ∧ u9.ownBlock ≠ some a.block ∧ Raw (w3.alloc (.cells #[sv key, .slice A3 n3 c3] 65)) a.block := fun h0 a ha => ⟨by have := g3 a ha; omega, fun e => by have := hown2 _ e; have := g3 a ha; omega, (y3 h0 a ha).keep kA id⟩
          clear hR2 hR3 hO2 hO3 hk2 hk3 hs r3 kA k3 hown2 g3 y3 hl3 ho3
          go_wp2_with (at_builtin; refine hold_it ?_)
          refine let_go ?_
          refine wpList_append_src _ rfl _ _ 45 45 rfl (r + 1) 65 (.agg #[.string ⟨#[]⟩, .slice none 0 0]) 2 40 Tryz.underlying45 info_pair rfl (by decide) u9 d.length _ rfl hrow _ _ _ rfl hsrc (by unfold maxLen; omega) (by omega) zA ?_
          intro v4 w4 hown4 hgrow4 hloc4
          have hO4 := hOA.push (x := ((key, l), (A3, n3, c3))) (v' := v4) rA m3 x3 hg3 hgrow4 hloc4 hown4
          have k4 := Keeps.of_grown hgrow4
          have hge : ∀ k, some k = u9.ownBlock → r + 1 ≤ k := fun k e => own_ge hrow k e.symm
          have hR4 := hRA.keep_row k4 (fun i e => ⟨by have := hge i e; omega, by have := hge i e; omega, .inr (by have := hge i e; omega)⟩)
          have hk4 := hkA.into k4 (fun k hk' e => by have := hge k e; have := HR.out; show False; omega)
          have Hm4 : Hid (w4.rangeLeft m r < wr.rangeLeft m r) := by show _ < _; rw [hR4.left_eq, ← hRA.left_eq, hmeas]; exact Hm.out
          have z4 : r + 1 ≤ w4.heap.size := Nat.le_trans zA hgrow4.size
          have HO4 := Lib.hid hO4
          clear hRA hOA hkA rA hrow hsrc zA hmeas hown4 hgrow4 hloc4 k4 hO4
          go_wp2_with fail
          go_roundw
          case rel => exact ⟨D ++ [(key, l)], cnt2, d ++ [((key, l), (A3, n3, c3))], hR4, HO4.out, by rw [keys_snoc, Hd.out, HD.out]; rfl, by simp; omega, hk4, z4⟩
          case measure => exact Hm4.out
end Go.Proofs.YtbmamhcjbhnkiaaGreat
