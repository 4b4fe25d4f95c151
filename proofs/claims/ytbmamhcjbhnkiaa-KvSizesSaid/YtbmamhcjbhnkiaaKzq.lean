/- Layer 9: the walk of Open. -/
import Derived.Test.YtbmamhcjbhnkiaaKzo
namespace Go.Proofs.Ytbmamhcjbhnkiaa
open Go.RowKit Go.Maps
open Kv (Bs Tab)

theorem fold_len : ∀ (ss : List (List Kv.St)) (T : Tab), (ss.foldl Kv.doAll T).length ≤ T.length + Wal.cost (ss.map Kv.encAll)
  | [], T => by simp
  | l :: ss, T => by
    have h1 := fold_len ss (Kv.doAll T l)
    have h2 := length_doAll l T
    have h3 := encAll_many l
    simp only [List.foldl_cons, List.map_cons, Wal.cost]
    omega
theorem OwnL.cell_ {w : World} {base : Nat} {v : Value} {vs : List Value} {ls : List (List UInt8)} (h : OwnL w base v vs ls) (hb : ∀ x ∈ ls, x.length ≤ 140737488355328) {j : Nat} {x : List UInt8} (hx : ls[j]? = some x) :
    ∃ g c A n cc, v = .slice (some ⟨g, 0, none⟩) ls.length c ∧ w.cell? ⟨g, j, none⟩ = some (.slice A n cc) ∧ RdB w A n x ∧ n ≤ cc ∧ cc ≤ 9223372036854775807 := by
  have hj : j < ls.length := (List.getElem?_eq_some_iff.1 hx).1
  rcases h.row.2 with ⟨rfl, h0⟩ | ⟨g, cap, cur, rfl, hg0, hg, hnc, hcm, hcs, htake⟩
  · omega
  · obtain ⟨u, h1, h2⟩ := h.el j x hx
    obtain ⟨A, c, rfl, hrd, _, h4, h5⟩ := own_rdB h2 (hb x (List.mem_of_getElem? hx))
    refine ⟨g, cap, A, _, c, rfl, ?_, hrd, h4, h5⟩
    simp only [World.cell?, hg, Option.isSome_none, Bool.false_eq_true, if_false]
    have := congrArg (fun x => x[j]?) htake
    simp only [Nat.mul_one, List.getElem?_take, if_pos hj, h1, Array.getElem?_toList] at this
    exact this

/-- The log's opening, as the store's asks it. -/
def WOpen (w : World) (p g : Nat) (L : Wal.Lg) (Q : Dk → Prop) (e : Ending) (w' : World) : Prop := ∃ d' F b, e = .returned (.tuple #[.pointer (some ⟨b, 0, none⟩), .int .i64 0]) ∧ Wal.Live d' L ∧ Q d' ∧ Wl w' F b p g d' L ∧ (∀ k, F k → w.heap.size ≤ k) ∧ Keeps (fun k => k = p ∨ k = g) w w'
/-- What Open answers. -/
def RetKOpen (w : World) (p g : Nat) (L : Wal.Lg) (Q : Dk → Prop) (T : Tab) (e : Ending) (w' : World) : Prop := ∃ d' F s b m, e = .returned (.tuple #[.pointer (some ⟨s, 0, none⟩), .int .i64 0]) ∧ Wal.Live d' L ∧ Q d' ∧ Sv w' F s b p g m 0 d' L T ∧ (∀ k, F k → w.heap.size ≤ k) ∧ w.heap.size ≤ s ∧ w.heap.size ≤ m ∧ Keeps (fun k => k = p ∨ k = g) w w'

set_option maxHeartbeats 8000000 in
set_option maxRecDepth 100000 in
theorem kopen_any (p g : Nat) (L : Wal.Lg) (Q : Dk → Prop) (T : Tab) (w : World) (hsay : Kv.Says L.recs T) (hop : Calls Try.prog 46 #[.pointer (some ⟨p, 0, none⟩)] w (WOpen w p g L Q)) :
    Calls Try.prog 56 #[.pointer (some ⟨p, 0, none⟩)] w (RetKOpen w p g L Q T) := by
  have hmm := @run_makeMap Try.prog
  go_enter Try.func56, Try.ntmps56
  go_wp2_with fail
  refine hop.mono ?_
  rintro e w1 ⟨d', F, b, rfl, hL, hQ, hW, hF, hk1⟩
  have hz1 := hk1.size
  have hpg := hW.disk.lt
  have kA : Keeps Non w1 ((w1.alloc (.map #[] 0)).alloc (.cells #[.pointer (some ⟨b, 0, none⟩), .map (some w1.heap.size), .int .i64 0] 136)) := ((Keeps.refl _ _).alloc _).alloc _
  obtain ⟨m, hm⟩ : ∃ m, m = w1.heap.size := ⟨_, rfl⟩
  obtain ⟨s, hs⟩ : ∃ s, s = w1.heap.size + 1 := ⟨_, rfl⟩
  have hT0 : TabW (Zs p g F s) ((w1.alloc (.map #[] 0)).alloc (.cells #[.pointer (some ⟨b, 0, none⟩), .map (some w1.heap.size), .int .i64 0] 136)) w1.heap.size [] := (TabAt.made _ _ _ w1).keepN ((Keeps.refl _ _).alloc _)
  have hst0 : StA ((w1.alloc (.map #[] 0)).alloc (.cells #[.pointer (some ⟨b, 0, none⟩), .map (some w1.heap.size), .int .i64 0] 136)) s b w1.heap.size 0 := ⟨by
    have := heap_new (w1.alloc (.map #[] 0)) (.cells #[.pointer (some ⟨b, 0, none⟩), .map (some w1.heap.size), .int .i64 0] 136)
    rw [show (w1.alloc (.map #[] 0)).heap.size = s by rw [hs]; simp] at this
    exact this⟩
  obtain ⟨w2, hw2⟩ : ∃ w2, w2 = (w1.alloc (.map #[] 0)).alloc (.cells #[.pointer (some ⟨b, 0, none⟩), .map (some w1.heap.size), .int .i64 0] 136) := ⟨_, rfl⟩
  have hz2 : w2.heap.size = w1.heap.size + 2 := by rw [hw2]; simp
  have H2 := Lib.hid hw2
  have HM := Lib.hid hm
  have HSs := Lib.hid hs
  rw [← hw2] at hT0 hst0 kA
  rw [← hm] at hT0 hst0
  have hW2 := hW.keepN kA
  have hR := Lib.hid (records_any F b p g d' L w2 hW2)
  have hFz : ∀ k, Zs p g F s k → k < w2.heap.size := fun k q => by
    rcases q with q | q | q | q
    · omega
    · omega
    · have := hW.old k q; omega
    · omega
  have hmZ : ¬ Zs p g F s m := fun q => by
    rcases q with q | q | q | q
    · omega
    · omega
    · have := hW.old m q; omega
    · omega
  have hsZ : s ≠ p ∧ s ≠ g ∧ ¬ F s := ⟨by omega, by omega, fun q => by have := hW.old s q; omega⟩
  clear hw2 hm hs hop
  go_wp2_with fail
  have e2 : w1.heap.size + 1 = s := HSs.out.symm
  rw [← H2.out]
  rw [e2]
  rw [← HM.out]
  refine hR.out.mono ?_
  rintro e w3 ⟨v3, vs3, rfl, hO, hk3⟩
  obtain ⟨R, hRR⟩ : ∃ R, R = L.recs := ⟨_, rfl⟩
  rw [← hRR] at hO hsay
  obtain ⟨A3, c3, rfl⟩ := own_slice hO.row
  obtain ⟨n, hn⟩ : ∃ n, n = R.length := ⟨_, rfl⟩
  rw [← hn]
  have HN := Lib.hid hn
  have HRR := Lib.hid hRR
  have hT3 := hT0.keepN hk3
  have hst3 := hst0.keep hk3 id
  have hW3 := hW2.keepN hk3
  have hK3 : Keeps (fun k => k = p ∨ k = g) w w3 := hk1.trans ((kA.trans hk3).mono fun _ _ q => q.elim)
  have hz3 := hk3.size
  have hfit : ∀ t ∈ R, Wal.Fit t := by rw [hRR]; exact hL.ex.fit
  have hcost : Wal.cost R ≤ 1048576 := by
    have h1 := hL.le
    have h2 := hL.fin
    have h3 := Wal.hs_le hL.wf
    rw [← hRR] at h2
    omega
  obtain ⟨ss, hss, hok, hfold⟩ := hsay
  have hlen : ss.length = R.length := by rw [hss]; simp
  have hn2 : n ≤ 1048576 := by have := cost_ge R hfit; omega
  clear hT0 hst0 hW2 hk1 kA hk3 hn hRR hR hW hmm
  go_wp2
  go_loopw [26] (fun i wr => ∃ j : Nat, j ≤ n ∧ i = .int .i64 j ∧ TabW (Zs p g F s) wr m ((ss.take j).foldl Kv.doAll []) ∧ Keeps (fun k => k = m) w3 wr) (fun i _ => n - (intOf i).toNat)
  case atStart => exact ⟨0, Nat.zero_le _, rfl, hT3, Keeps.refl _ _⟩
  case round =>
    obtain ⟨j, hj, rfl, hT, hk⟩ := hrel
    have hstr := hst3.keep hk (fun q => hmZ (.inr (.inr (.inr q.symm))))
    obtain ⟨s0, s1, s2⟩ := trio hstr.st
    by_cases hlt : j < n
    · have hlR : j < R.length := by rw [← HN.out]; exact hlt
      have hls : j < ss.length := by rw [hlen]; exact hlR
      have hj1 : R[j]? = some (Kv.encAll ss[j]) := by rw [hss, List.getElem?_map, List.getElem?_eq_getElem hls]; rfl
      have hokj := hok ss[j] (List.getElem_mem hls)
      have H2f : Hid ((ss.take (j + 1)).foldl Kv.doAll [] = Kv.doAll ((ss.take j).foldl Kv.doAll []) ss[j]) := by show _ = _; rw [List.take_succ_eq_append_getElem hls, List.foldl_append]; rfl
      have hOr := hO.keep hk (fun k q e => by have := (Array.getElem?_eq_some_iff.1 hst3.st).1; have := HM.out; omega)
      obtain ⟨g', c', Aj, nj, cj, ev, q0, hrd, hnc, hcm⟩ := hOr.cell_ (fit_len hfit) hj1
      injection ev with ev1 ev2 ev3
      subst ev1
      subst ev3
      clear ev2
      have hfj := hfit _ (List.mem_of_getElem? hj1)
      obtain ⟨l, hl⟩ : ∃ l, l = ss[j] := ⟨_, rfl⟩
      rw [← hl] at hj1 hokj H2f hrd hfj
      have hnl := hrd.len
      have hll := encAll_many l
      have hl6 := hfj.2
      have hfl := fold_len (ss.take j) []
      simp only [List.length_nil, Nat.zero_add] at hfl
      have hct : Wal.cost ((ss.take j).map Kv.encAll) ≤ Wal.cost R := by
        rw [hss, List.map_take]
        exact cost_take_le _ j
      obtain ⟨Tj, hTj⟩ : ∃ Tj, Tj = (ss.take j).foldl Kv.doAll [] := ⟨_, rfl⟩
      rw [← hTj] at hT H2f hfl
      have HST := Lib.hid (steps_any l hokj Aj nj cj (by have := hfj.2; omega) hnc hcm wr hrd)
      clear hl hTj hO hOr hrd hj1
      go_wp2_with fail
      refine HST.out.mono ?_
      rintro e w4 ⟨v4, S4, rfl, hS4, hk4⟩
      have hzr := hk.size
      obtain ⟨A4, c4, rfl, hrdS, -, -⟩ := hS4.rdS (by omega) (Z := Zs p g F s) (fun k hk' _ q => by have := hFz k q; omega)
      have hstr4 := hstr.keep hk4 id
      obtain ⟨y0, y1, y2⟩ := trio hstr4.st
      have HAL := Lib.hid (all_any l hokj (Zs p g F s) m Tj (by omega) A4 l.length c4 w4 (hT.keepN hk4) hrdS)
      clear HST hS4 hrdS hT
      go_wp2_with fail
      refine HAL.out.mono ?_
      rintro e w5 ⟨rfl, hT5, hk5⟩
      have hk35 : Keeps (fun k => k = m) w3 w5 := (hk.trans (hk4.mono fun _ _ q => q.elim)).trans hk5
      clear HAL hk hk4 hk5 hstr hstr4
      go_wp2_with fail
      go_roundw
      case rel => exact ⟨j + 1, by omega, by go_num, by rw [H2f.out]; exact hT5, hk35⟩
      case measure => simp [intOf]; omega
    · obtain rfl : j = n := by omega
      have e3 : ss.take j = ss := List.take_of_length_le (by rw [hlen, ← HN.out]; exact Nat.le_refl _)
      rw [e3, hfold] at hT
      have hKr : Keeps (fun k => k = p ∨ k = g) w wr := hK3.into hk (fun k hk' e => by have := HM.out; omega)
      have hsv : Sv wr F s b p g m 0 d' L T := ⟨hW3.keep hk (fun k q e => hmZ (by rcases q with q | q | q; exact .inr (.inr (.inl (e ▸ q))); exact .inl (e ▸ q); exact .inr (.inl (e ▸ q)))), hstr, hT, hsZ.1, hsZ.2.1, hsZ.2.2, hmZ⟩
      have hfin := Lib.hid (show RetKOpen w p g L Q T (.returned (.tuple #[.pointer (some ⟨s, 0, none⟩), .int .i64 0])) wr from
        ⟨d', F, s, b, m, rfl, hL, hQ, hsv, hF, by have := HSs.out; omega, by have := HM.out; omega, hKr⟩)
      clear hT hKr hsv hO hK3 hW3 hst3 hT3 hstr
      go_wp2_with fail
      go_ret2
      exact hfin.out
end Go.Proofs.Ytbmamhcjbhnkiaa
