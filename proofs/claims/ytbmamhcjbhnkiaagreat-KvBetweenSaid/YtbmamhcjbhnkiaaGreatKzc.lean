/- Layer 9: the walks of do, all and steps. -/
import Derived.Test.YtbmamhcjbhnkiaaGreatKzb
import Derived.Maps.OwnSet
namespace Go.Proofs.YtbmamhcjbhnkiaaGreat
open Go.RowKit Go.Maps
open Kv (Bs Tab)

/-- The table type's facts. -/
abbrev TabW (Z : Nat → Prop) (w : World) (m : Nat) (T : Tab) : Prop := TabAt Tryz.prog 9 Z w m T

/-- A slice of steps that is read; their values lie in no block of Z. -/
structure RdS (Z : Nat → Prop) (w : World) (A : Option Addr) (n : Nat) (l : List Kv.St) : Prop where
  len : l.length = n
  le : n ≤ 140737488355328
  cells : 0 < n → ∃ b off, A = some ⟨b, off, none⟩ ∧ ∀ (j : Nat) (p : Kv.St), l[j]? = some p → ∃ Aj nj cj, Trio w b (off + j * 3) (kd p) (sv p.k) (.slice Aj nj cj) ∧ SlZ Z w Aj nj cj p.v
theorem RdS.at_ {Z : Nat → Prop} {w : World} {A : Option Addr} {n : Nat} {l : List Kv.St} (h : RdS Z w A n l) {j : Nat} (hj : j < n) :
    ∃ b off Aj nj cj, A = some ⟨b, off, none⟩ ∧ Trio w b (off + j * 3) (kd (l[j]'(by rw [h.len]; exact hj))) (sv (l[j]'(by rw [h.len]; exact hj)).k) (.slice Aj nj cj) ∧ SlZ Z w Aj nj cj (l[j]'(by rw [h.len]; exact hj)).v := by
  obtain ⟨b, off, e, hc⟩ := h.cells (by omega)
  obtain ⟨Aj, nj, cj, h1, h2⟩ := hc j _ (List.getElem?_eq_getElem (by rw [h.len]; exact hj))
  exact ⟨b, off, Aj, nj, cj, e, h1, h2⟩
/-- .. while a map turns. -/
theorem RdS.turned {Z : Nat → Prop} {w w' : World} {m : Nat} {es : Array MapEntry} {clock : Nat} (hm : w.heap[m]? = some (.map es clock)) (hk : Keeps (fun k => k = m) w w') {A : Option Addr} {n : Nat} {l : List Kv.St} (h : RdS Z w A n l) : RdS Z w' A n l :=
  ⟨h.len, h.le, fun h0 => by
    obtain ⟨b, off, e, hc⟩ := h.cells h0
    refine ⟨b, off, e, fun j p hp => ?_⟩
    obtain ⟨Aj, nj, cj, h1, h2⟩ := hc j p hp
    refine ⟨Aj, nj, cj, h1.keep hk ?_, h2.rd.keep hk (fun q a ha => h2.rd.not_map hm q a ha), h2.nc, h2.cm, h2.out⟩
    rintro rfl
    have := h1.c0
    simp [World.cell?, hm] at this⟩
theorem RdS.keepN {Z : Nat → Prop} {w w' : World} {A : Option Addr} {n : Nat} {l : List Kv.St} (h : RdS Z w A n l) (hk : Keeps Non w w') : RdS Z w' A n l :=
  ⟨h.len, h.le, fun h0 => by
    obtain ⟨b, off, e, hc⟩ := h.cells h0
    refine ⟨b, off, e, fun j p hp => ?_⟩
    obtain ⟨Aj, nj, cj, h1, h2⟩ := hc j p hp
    exact ⟨Aj, nj, cj, h1.keep hk id, h2.keep hk fun _ q => q.elim⟩⟩

set_option maxHeartbeats 4000000 in
set_option maxRecDepth 100000 in
theorem do_any (p : Kv.St) (hp : p.ok) (Z : Nat → Prop) (m : Nat) (T : Tab) (hT : T.length < 9223372036854775807) (A : Option Addr) (n c : Nat) (w : World) (h : TabW Z w m T) (hs : SlZ Z w A n c p.v) :
    Calls Tryz.prog 53 #[.map (some m), .agg #[kd p, sv p.k, .slice A n c]] w fun e w' => e = .returned (.tuple #[]) ∧ TabW Z w' m (Kv.do1 T p) ∧ Keeps (fun k => k = m) w w' := by
  obtain ⟨d, k, v⟩ := p
  obtain ⟨h1, h2, h3, h4⟩ := hp
  simp only [] at h1 h2 h3 hs
  have hkl : k.length ≤ maxLen := by unfold maxLen; omega
  cases d with
  | false =>
    have h' := h.keepN ((Keeps.refl Non w).alloc (.cells #[.int .u8 1, sv k, .slice A n c] 97))
    have hs' := hs.keep ((Keeps.refl Non w).alloc (.cells #[.int .u8 1, sv k, .slice A n c] 97)) (fun _ q => q.elim)
    show Calls Tryz.prog 53 #[.map (some m), .agg #[.int .u8 1, sv k, .slice A n c]] w _
    go_enter Tryz.func53, Tryz.ntmps53
    go_wp2_with (at_mapUpdate; refine hold_it ?_)
    refine let_go ?_
    refine wp_tab_put _ rfl _ _ _ _ rfl 9 60 Z m T Tryz.underlying9 Tryz.underlying76 rfl h' hT k rfl hkl A n c v rfl hs' ?_
    intro w1 h1 k1
    go_wp2_with fail
    go_end0
    exact ⟨rfl, h1, ((Keeps.refl (fun k => k = m) w).alloc _).trans k1⟩
  | true =>
    have h' := h.keepN ((Keeps.refl Non w).alloc (.cells #[.int .u8 2, sv k, .slice A n c] 97))
    show Calls Tryz.prog 53 #[.map (some m), .agg #[.int .u8 2, sv k, .slice A n c]] w _
    go_enter Tryz.func53, Tryz.ntmps53
    go_wp2_with (at_delete; refine hold_it ?_)
    refine let_go ?_
    refine wp_tab_del _ rfl _ _ _ _ rfl 60 Z m T Tryz.underlying9 Tryz.underlying76 rfl h' k rfl hkl ?_
    intro w1 h1 k1
    go_wp2_with fail
    go_end0
    exact ⟨rfl, h1, ((Keeps.refl (fun k => k = m) w).alloc _).trans k1⟩

theorem length_do1 (T : Tab) (p : Kv.St) : (Kv.do1 T p).length ≤ T.length + 1 := by
  have h : ∀ k, (Kv.del T k).length ≤ T.length := fun k => List.length_filter_le _ _
  unfold Kv.do1
  split
  · have := h p.k; omega
  · rw [Kv.put, Kv.length_ins]; have := h p.k; omega
theorem length_doAll : ∀ (l : List Kv.St) (T : Tab), (Kv.doAll T l).length ≤ T.length + l.length
  | [], T => Nat.le_refl _
  | p :: l, T => by
    have h1 := length_doAll l (Kv.do1 T p)
    have h2 := length_do1 T p
    simp only [Kv.doAll, List.foldl_cons, List.length_cons] at h1 ⊢
    omega
theorem doAll_take {T : Tab} {l : List Kv.St} {j : Nat} (hj : j < l.length) : Kv.doAll T (l.take (j + 1)) = Kv.do1 (Kv.doAll T (l.take j)) l[j] := by
  rw [List.take_succ_eq_append_getElem hj, Kv.doAll_snoc]

set_option maxHeartbeats 4000000 in
set_option maxRecDepth 100000 in
theorem all_any (l : List Kv.St) (hl : ∀ p ∈ l, p.ok) (Z : Nat → Prop) (m : Nat) (T : Tab) (hT : T.length + l.length ≤ 140737488355328) (A : Option Addr) (n c : Nat) (w : World) (h : TabW Z w m T) (hs : RdS Z w A n l) :
    Calls Tryz.prog 32 #[.map (some m), .slice A n c] w fun e w' => e = .returned (.tuple #[]) ∧ TabW Z w' m (Kv.doAll T l) ∧ Keeps (fun k => k = m) w w' := by
  have hm := hs.le
  have HL := Lib.hid hs.len
  go_enter Tryz.func32, Tryz.ntmps32
  go_wp2
  go_loopw [8] (fun i wr => ∃ j : Nat, j ≤ n ∧ i = .int .i64 j ∧ TabW Z wr m (Kv.doAll T (l.take j)) ∧ RdS Z wr A n l ∧ Keeps (fun k => k = m) w wr) (fun i _ => n - (intOf i).toNat)
  case atStart => exact ⟨0, Nat.zero_le _, rfl, h, hs, Keeps.refl _ _⟩
  case round =>
    obtain ⟨j, hj, rfl, hT', hS, hk⟩ := hrel
    by_cases hlt : j < n
    · obtain ⟨b, off, Aj, nj, cj, rfl, h3, hz⟩ := hS.at_ hlt
      have hlen : j < l.length := by rw [HL.out]; exact hlt
      have hok := hl l[j] (List.getElem_mem hlen)
      have H2 := Lib.hid (doAll_take (T := T) hlen)
      have hTl : (Kv.doAll T (l.take j)).length ≤ 140737488355328 := by have := length_doAll (l.take j) T; rw [List.length_take] at this; omega
      obtain ⟨c0, c1, c2⟩ := h3
      obtain ⟨p, hp⟩ : ∃ p, p = l[j] := ⟨_, rfl⟩
      rw [← hp] at c0 c1 hz hok H2
      obtain ⟨es, clock, hmap⟩ := hT'.map
      have kA : Keeps Non wr (wr.alloc (.cells #[kd p, sv p.k, .slice Aj nj cj] 97)) := (Keeps.refl _ _).alloc _
      have hz' := hz.keep kA (fun _ q => q.elim)
      have hS' := hS.keepN kA
      have hmap' := heap_old hmap (.cells #[kd p, sv p.k, .slice Aj nj cj] 97)
      have hD := Lib.hid (do_any p hok Z m _ (by omega) Aj nj cj _ (hT'.keepN kA) hz')
      clear hp hs hS h hT'
      go_wp2_with fail
      refine hD.out.mono ?_
      rintro e w1 ⟨rfl, hT1, k1⟩
      have hS1 := hS'.turned hmap' k1
      have hk1 := hk.trans (((Keeps.refl _ wr).alloc _).trans k1)
      clear hD hS' hmap' hmap hz hz' hk kA k1
      go_wp2_with fail
      go_roundw
      case rel => exact ⟨j + 1, by omega, by go_num, by rw [H2.out]; exact hT1, hS1, hk1⟩
      case measure => simp [intOf]; omega
    · obtain rfl : j = n := by omega
      rw [List.take_of_length_le (by rw [HL.out]; exact Nat.le_refl _)] at hT'
      go_wp2_with fail
      go_end0
      exact ⟨rfl, hT', hk⟩
end Go.Proofs.YtbmamhcjbhnkiaaGreat
