/- Layer 9: the walks of a table's scan and get. -/
import Derived.Test.YtbmamhcjbhnkiaaKze
namespace Go.Proofs.Ytbmamhcjbhnkiaa
open Go.RowKit Go.Maps
open Kv (Bs Tab)

theorem ext_take (s : Bs) (n : Nat) : ((ByteArray.mk s.toArray).extract 0 n).toList = s.take n := by
  rw [ByteArray.toList_eq, ByteArray.data_extract]
  simp
theorem take_prefix (s p : Bs) : (s.take p.length == p) = p.isPrefixOf s := by
  rw [Bool.eq_iff_iff, beq_iff_eq, List.isPrefixOf_iff_prefix]
  constructor
  · intro h; rw [← h]; exact List.take_prefix _ _
  · intro h; exact (List.prefix_iff_eq_take.1 h).symm
theorem not_prefix {s p : Bs} (h : ¬ p.length ≤ s.length) : p.isPrefixOf s = false := by
  rw [Bool.eq_false_iff]
  intro q
  exact h (List.isPrefixOf_iff_prefix.1 q).length_le

theorem hp_lite (s p : Bs) (w : World) : Calls Try.prog 123 #[sv s, sv p] w fun e w' => e = .returned (.bool (p.isPrefixOf s)) ∧ w = w' := by
  by_cases h : p.length ≤ s.length
  · go_enter Try.func123, Try.ntmps123
    go_wp2_with fail
    go_ret
    exact ⟨ret_bool (by rw [ext_take, take_prefix]), rfl⟩
  · have h' : ¬ (p.length : Int) ≤ (s.length : Int) := by omega
    have h2 := Lib.hid (not_prefix h)
    go_enter Try.func123, Try.ntmps123
    go_wp2_with fail
    go_ret
    exact ⟨ret_bool h2.out.symm, rfl⟩
theorem hp_any (s p : Bs) (w : World) : Calls Try.prog 115 #[sv s, sv p] w fun e w' => e = .returned (.bool (p.isPrefixOf s)) ∧ w = w' := by
  go_enter Try.func115, Try.ntmps115
  go_wp2_with fail
  refine (hp_lite s p w).mono ?_
  rintro e w' ⟨rfl, rfl⟩
  go_wp2_with fail
  go_ret
  exact ⟨rfl, rfl⟩

theorem zero_sl (w : World) : (zeroValue 22).run Try.prog w = .ok (.slice none 0 0) w := Try.zeroValue22 w

/-- What get answers. -/
def RetTGet (w : World) (T : Tab) (key : Bs) (e : Ending) (w' : World) : Prop := ∃ v, e = .returned (.tuple #[v, .bool (Kv.get T key).isSome]) ∧ w'.ownsRow w.heap.size 5 1 v ((Kv.get T key).getD []).length (((Kv.get T key).getD []).map bv) ∧ Keeps Non w w'

set_option maxHeartbeats 4000000 in
theorem tget_any (Z : Nat → Prop) (m : Nat) (T : Tab) (key : Bs) (hkl : key.length ≤ maxLen) (w : World) (h : TabW Z w m T) :
    Calls Try.prog 97 #[.map (some m), sv key] w (RetTGet w T key) := by
  go_enter Try.func97, Try.ntmps97
  go_wp2_with (at_lookup; refine hold_it ?_)
  refine let_go ?_
  refine wp_tab_look _ rfl _ _ _ rfl 9 22 Z m T Try.underlying9 Try.underlying134 (zero_sl _) rfl h key rfl hkl ?_
  intro A n c hs
  obtain ⟨ok, hok⟩ : ∃ ok, ok = (Kv.get T key).isSome := ⟨_, rfl⟩
  obtain ⟨l, hl⟩ : ∃ l, l = (Kv.get T key).getD [] := ⟨_, rfl⟩
  unfold Told at hs
  rw [← hok]
  rw [← hl] at hs
  have H1 := Lib.hid hok
  have H2 := Lib.hid hl
  clear hok hl h
  go_wp2_with fail
  refine (clone_own A n c l w hs.rd).mono ?_
  rintro e w1 ⟨v, rfl, hv, hk⟩
  go_wp2_with fail
  go_ret2
  refine ⟨v, ?_, ?_, hk⟩
  · rw [← H1.out]; rfl
  · rw [← H2.out]; exact hv

theorem info_pair : (Try.prog.info? 114).map (fun i => (i.zero, i.size, i.bytes)) = some (some (.agg #[.string ⟨#[]⟩, .slice none 0 0]), 2, 40) := by kernel_rfl

/-- What scan answers. -/
def RetTScan (w : World) (T : Tab) (s : Bs) (e : Ending) (w' : World) : Prop := ∃ v d, e = .returned v ∧ keys d = Kv.pre s T ∧ OwnP w' w.heap.size v d ∧ Keeps Non w w'

theorem keys_snoc (d : List Pr) (x : Pr) : keys (d ++ [x]) = keys d ++ [x.1] := by simp [keys]
theorem pre_snoc (s : Bs) (D : Tab) (p : Bs × Bs) : Kv.pre s (D ++ [p]) = Kv.pre s D ++ (if s.isPrefixOf p.1 then [p] else []) := by
  unfold Kv.pre
  rw [List.filter_append]
  congr 1
  cases h : s.isPrefixOf p.1 <;> simp [h]
theorem rise_perm {S T : Tab} (hS : Kv.Rise S) (hT : Kv.Rise T) (h : S.Perm T) : S = T := Kv.rise_ext hS hT fun p => h.mem_iff

set_option maxHeartbeats 8000000 in
set_option maxRecDepth 100000 in
theorem tscan_any (Z : Nat → Prop) (m : Nat) (T : Tab) (s : Bs) (hT : T.length ≤ 1048576) (w : World) (h : TabW Z w m T) :
    Calls Try.prog 96 #[.map (some m), sv s] w (RetTScan w T s) := by
  have hm := h.lt
  have hrise := h.rise
  have h0 : TabW (fun k => Z k ∨ w.heap.size ≤ k) w m T := h.grow fun k q => q
  clear h
  go_enter Try.func96, Try.ntmps96
  go_wp2_with (at_range; refine hold_it ?_)
  refine let_go ?_
  refine wp_tab_range _ rfl _ _ rfl 9 22 _ m T Try.underlying9 Try.underlying134 rfl h0 ?_
  intro w1 hR1 k1 z1
  go_wp2_with fail
  try go_frame
  obtain ⟨r, hr⟩ : ∃ r, r = w.heap.size := ⟨_, rfl⟩
  rw [← hr] at hR1 h0 hm z1 ⊢
  have HR := Lib.hid hr
  clear hr h0
  go_loopw [5] (fun v wr => ∃ (D : Tab) (cnt : Nat) (d : List Pr), TabR Try.prog 9 (fun k => Z k ∨ r ≤ k) wr m r T D cnt ∧ OwnP wr (r + 1) v d ∧ keys d = Kv.pre s D ∧ d.length + cnt ≤ T.length ∧ Keeps Non w wr ∧ r + 1 ≤ wr.heap.size) (fun _ wr => wr.rangeLeft m r)
  case atStart => exact ⟨[], _, [], hR1, OwnP.nil _ _, rfl, by simp, k1, by omega⟩
  case round =>
    clear hR1 k1 z1
    obtain ⟨D, cnt, d, hR, hO, hd, hcnt, hk, hz⟩ := hrel
    have hleft := hR.left_eq
    go_wp2_with (at_next; refine hold_it ?_)
    refine let_go ?_
    refine wp_tab_next _ rfl _ rfl 9 _ m r T D cnt Try.underlying9 rfl hR ?_ ?_
    · intro h0 hperm
      have hrT : Kv.Rise (Kv.pre s T) := List.Pairwise.filter _ hrise
      have hpp : (Kv.pre s D).Perm (Kv.pre s T) := hperm.filter _
      have hnd : (keys d).Pairwise fun p q => p.1 ≠ q.1 := by
        rw [hd]
        exact (hpp.pairwise_iff (fun {_ _} q => Ne.symm q)).2 (hrT.imp fun {a b} q => Kv.lt_ne q)
      have hx : Hid (∀ d' : List Pr, d'.Perm d → Kv.Rise (keys d') → keys d' = Kv.pre s T) := fun d' h1 h2 => rise_perm h2 hrT (by
        have := h1.map (·.1)
        exact this.trans (by show (keys d).Perm _; rw [hd]; exact hpp))
      have hgo := Lib.hid (sort_any wr (r + 1) u5 d hO (by omega) hnd)
      have hge : ∀ k, some k = u5.ownBlock → r + 1 ≤ k := fun k e => own_ge hO.row k e.symm
      clear hR hd hperm hcnt hleft hrT hpp hnd hO
      go_wp2_with fail
      refine hgo.out.mono ?_
      rintro e w2 ⟨rfl, d', h1, h2, h3, h4⟩
      have hk2 : Keeps Non w w2 := hk.into h4 (fun k hk' e => by have := hge k e; have := HR.out; show False; omega)
      have hx2 := Lib.hid (hx d' h1 h2)
      have h3' := h3.lower (show w.heap.size ≤ r + 1 by have := HR.out; omega)
      clear hx hgo h4 h1 h2 h3
      go_wp2_with fail
      go_ret
      exact ⟨u5, d', rfl, hx2.out, h3', hk2⟩
    · intro key l A n c w2 cnt2 hmem hnew hkl hs hR2 hlt k2 z2 hen
      have hO2 := hO.keep k2 (fun k hk' e => by omega)
      have hk2 : Keeps Non w w2 := hk.into k2 (fun k hk' e => by have := HR.out; show False; omega)
      have hleft2 := hR2.left_eq
      have Hm : Hid (w2.rangeLeft m r < wr.rangeLeft m r) := by show _ < _; rw [hleft2, hleft]; exact hlt
      have Hd : Hid (Kv.pre s (D ++ [(key, l)]) = Kv.pre s D ++ (if s.isPrefixOf key then [(key, l)] else [])) := pre_snoc s D (key, l)
      have HD := Lib.hid hd
      have hown2 : ∀ g, u5.ownBlock = some g → g < w2.heap.size := fun g hg => by
        rcases hO2.row.2 with ⟨rfl, _⟩ | ⟨g', cap, cur, rfl, hb, hg', _⟩
        · simp [Value.ownBlock] at hg
        · have : g' = g := by simpa [Value.ownBlock] using hg
          subst this
          exact (Array.getElem?_eq_some_iff.1 hg').1
      have hz2 : r + 1 ≤ w2.heap.size := by omega
      clear hR hO hd hk k2 hleft2 hleft z2 hz
      go_wp2_with fail
      refine (hp_any key s w2).mono ?_
      rintro e w' ⟨rfl, rfl⟩
      obtain ⟨ok, hok⟩ : ∃ ok, ok = s.isPrefixOf key := ⟨_, rfl⟩
      rw [← hok] at Hd ⊢
      clear hok
      cases ok with
      | false =>
        go_wp2_with fail
        go_roundw
        case rel => exact ⟨D ++ [(key, l)], cnt2, d, hR2, hO2, by rw [Hd.out, HD.out]; simp, by omega, hk2, hz2⟩
        case measure => exact Hm.out
      | true =>
        go_wp2_with fail
        have hl3 : l.length ≤ 140737488355328 := by rw [hs.rd.len]; exact hs.rd.le
        refine (clone_own A n c l w2 hs.rd).mono ?_
        intro e w3 ho3
        obtain ⟨A3, n3, c3, rfl, r3, k3, g3, m3, x3, y3⟩ := ho3.toR hl3
        have hR3 := hR2.keepN k3
        have hO3 := hO2.keep k3 (fun _ _ q => q)
        have hk3 := hk2.trans k3
        have kA : Keeps Non w3 (w3.alloc (.cells #[sv key, .slice A3 n3 c3] 114)) := (Keeps.refl _ _).alloc _
        have hRA := hR3.keepN kA
        have hOA := hO3.keep kA (fun _ _ q => q)
        have hkA := hk3.trans kA
        have rA := r3.keepN kA
        have hrow := hOA.row
        have hsrc := Src.ofSlice (P := Try.prog) (w := w3.alloc (.cells #[sv key, .slice A3 n3 c3] 114)) (size := 2) Try.underlying105 ⟨w3.heap.size, 0, none⟩ 1 1 [sv key, .slice A3 n3 c3] rfl (World.news_of_block (heap_new _ _)) (fun u hu => by simp at hu; rcases hu with rfl | rfl <;> rfl)
        have zA : r + 1 ≤ (w3.alloc (.cells #[sv key, .slice A3 n3 c3] 114)).heap.size := by have := k3.size; simp; omega
        have hmeas : (w3.alloc (.cells #[sv key, .slice A3 n3 c3] 114)).rangeLeft m r = w2.rangeLeft m r := by rw [hRA.left_eq, hR2.left_eq]
        have hg3 : 0 < n3 → ∀ a, A3 = some a → r + 1 ≤ a.block ∧ u5.ownBlock ≠ some a.block ∧ Raw (w3.alloc (.cells #[sv key, .slice A3 n3 c3] 114)) a.block := fun h0 a ha => ⟨by have := g3 a ha; omega, fun e => by have := hown2 _ e; have := g3 a ha; omega, (y3 h0 a ha).keep kA id⟩
        clear hR2 hR3 hO2 hO3 hk2 hk3 hs r3 kA k3 hown2 g3 y3 hl3 ho3
        go_wp2_with (at_builtin; refine hold_it ?_)
        refine let_go ?_
        refine wpList_append_src _ rfl _ _ 105 105 rfl (r + 1) 114 (.agg #[.string ⟨#[]⟩, .slice none 0 0]) 2 40 Try.underlying105 info_pair rfl (by decide) u5 d.length _ rfl hrow _ _ _ rfl hsrc (by unfold maxLen; omega) (by omega) zA ?_
        intro v4 w4 hown4 hgrow4 hloc4
        have hO4 := hOA.push (x := ((key, l), (A3, n3, c3))) (v' := v4) rA m3 x3 hg3 hgrow4 hloc4 hown4
        have k4 := Keeps.of_grown hgrow4
        have hge : ∀ k, some k = u5.ownBlock → r + 1 ≤ k := fun k e => own_ge hrow k e.symm
        have hR4 := hRA.keep_row k4 (fun i e => ⟨by have := hge i e; omega, by have := hge i e; omega, .inr (by have := hge i e; omega)⟩)
        have hk4 := hkA.into k4 (fun k hk' e => by have := hge k e; have := HR.out; show False; omega)
        have Hm4 : Hid (w4.rangeLeft m r < wr.rangeLeft m r) := by show _ < _; rw [hR4.left_eq, ← hRA.left_eq, hmeas]; exact Hm.out
        have z4 : r + 1 ≤ w4.heap.size := Nat.le_trans zA hgrow4.size
        have HO4 := Lib.hid hO4
        clear hRA hOA hkA rA hrow hsrc zA hmeas hown4 hgrow4 hloc4 k4 hO4
        go_wp2_with fail
        go_roundw
        case rel => exact ⟨D ++ [(key, l)], cnt2, d ++ [((key, l), (A3, n3, c3))], hR4, HO4.out, by rw [keys_snoc, Hd.out, HD.out]; rfl, by simp; omega, hk4, z4⟩
        case measure => exact Hm4.out
end Go.Proofs.Ytbmamhcjbhnkiaa
