/- Layer 9 (the great seat): the walks of a store's Size and Edge. -/
import Derived.Test.YtbmamhcjbhnkiaaGreatKzbb
namespace Go.Proofs.YtbmamhcjbhnkiaaGreat
open Go.RowKit Go.Maps
open Kv (Bs Tab)

/-- How many bytes keys and values have. -/
def bsum (T : Tab) : Nat := (T.map fun p => p.1.length + p.2.length).sum
theorem bsum_snoc (D : Tab) (p : Bs × Bs) : bsum (D ++ [p]) = bsum D + (p.1.length + p.2.length) := by simp [bsum]
theorem bsum_perm {D T : Tab} (h : D.Perm T) : bsum D = bsum T := (h.map _).sum_nat

set_option maxHeartbeats 4000000 in
set_option maxRecDepth 100000 in
theorem ssize_any (Z : Nat → Prop) (s b m age : Nat) (T : Tab) (hT : T.length ≤ 1048576) (hok : Kv.Ok T) (w : World) (hs : StA w s b m age) (h : TabW Z w m T) :
    Calls Tryz.prog 26 #[.pointer (some ⟨s, 0, none⟩)] w fun e w' => e = .returned (.int .i64 (bsum T : Int)) ∧ Keeps Non w w' := by
  obtain ⟨c0, c1, c2⟩ := trio hs.st
  have hm := h.lt
  have h0 : TabW (fun k => Z k ∨ w.heap.size ≤ k) w m T := h.grow fun k q => q
  clear h
  go_enter Tryz.func26, Tryz.ntmps26
  go_wp2_with (at_range; refine hold_it ?_)
  refine let_go ?_
  refine wp_tab_range _ rfl _ _ rfl 9 60 _ m T Tryz.underlying9 Tryz.underlying76 rfl h0 ?_
  intro w1 hR1 k1 z1
  go_wp2_with fail
  try go_frame
  obtain ⟨r, hr⟩ : ∃ r, r = w.heap.size := ⟨_, rfl⟩
  rw [← hr] at hR1 h0 hm z1 ⊢
  have HR := Lib.hid hr
  clear hr h0
  go_loopw [3] (fun v wr => ∃ (D : Tab) (cnt y : Nat), TabR Tryz.prog 9 (fun k => Z k ∨ r ≤ k) wr m r T D cnt ∧ v = .int .i64 y ∧ Hid (y = bsum D) ∧ y ≤ D.length * 4224 ∧ D.length + cnt ≤ T.length ∧ Keeps Non w wr ∧ r + 1 ≤ wr.heap.size) (fun _ wr => wr.rangeLeft m r)
  case atStart => exact ⟨[], _, 0, hR1, rfl, rfl, by omega, by simp, k1, by omega⟩
  case round =>
    clear hR1 k1 z1
    obtain ⟨D, cnt, y, hR, rfl, Hy, hyb, hcnt, hk, hz⟩ := hrel
    have hleft := hR.left_eq
    go_wp2_with (at_next; refine hold_it ?_)
    refine let_go ?_
    refine wp_tab_next _ rfl _ rfl 9 _ m r T D cnt Tryz.underlying9 rfl hR ?_ ?_
    · intro h0 hperm
      have HP := Lib.hid (Hy.out.trans (bsum_perm hperm))
      clear hR hperm hcnt hleft hyb
      go_wp2_with fail
      go_ret
      exact ⟨by rw [HP.out]; rfl, hk⟩
    · intro key l A n c w2 cnt2 hmem hnew hkl hs2 hR2 hlt k2 z2 hen
      have hk2 : Keeps Non w w2 := hk.into k2 (fun k hk' e => by have := HR.out; show False; omega)
      have hleft2 := hR2.left_eq
      have Hm : Hid (w2.rangeLeft m r < wr.rangeLeft m r) := by show _ < _; rw [hleft2, hleft]; exact hlt
      have hob := hok _ hmem
      simp only [] at hob
      have hll := hs2.rd.len
      have hy2 : y + (key.length + n) ≤ (D.length + 1) * 4224 := by omega
      have hyc : y + (key.length + n) ≤ 4429189248 := by omega
      have HD : Hid (y + (key.length + n) = bsum (D ++ [(key, l)])) := by show _ = _; rw [bsum_snoc, ← Hy.out, hll]
      have hz2 : r + 1 ≤ w2.heap.size := by omega
      clear hR hk k2 hleft2 hleft z2 hz hmem hnew hs2 hob hll
      go_wp2_with fail
      go_roundw
      case rel => exact ⟨D ++ [(key, l)], cnt2, y + (key.length + n), hR2, by go_num, HD, by rw [List.length_append]; exact hy2, by rw [List.length_append]; show D.length + 1 + cnt2 ≤ _; omega, hk2, hz2⟩
      case measure => exact Hm.out

/-- A key that Edge looks at. -/
def Cand (from_ : Bs) (back : Bool) (k : Bs) : Prop := decide (k < from_) = back
/-- What Edge finds among so many keys. -/
structure EdgeOf (D : Tab) (from_ : Bs) (back : Bool) (best : Bs) (found : Bool) : Prop where
  no : found = false → best = [] ∧ ∀ p ∈ D, ¬ Cand from_ back p.1
  mem : found = true → ∃ p ∈ D, p.1 = best ∧ Cand from_ back best
  best : found = true → ∀ p ∈ D, Cand from_ back p.1 → if back then ¬ best < p.1 else ¬ p.1 < best
theorem EdgeOf.perm {D T : Tab} {from_ : Bs} {back : Bool} {best : Bs} {found : Bool} (h : EdgeOf D from_ back best found) (hp : D.Perm T) : EdgeOf T from_ back best found :=
  ⟨fun q => ⟨(h.no q).1, fun p hm => (h.no q).2 p (hp.mem_iff.2 hm)⟩, fun q => by
    obtain ⟨p, h1, h2⟩ := h.mem q
    exact ⟨p, hp.mem_iff.1 h1, h2⟩, fun q p hm => h.best q p (hp.mem_iff.2 hm)⟩
theorem EdgeOf.skip {D : Tab} {from_ : Bs} {back : Bool} {best : Bs} {found : Bool} (h : EdgeOf D from_ back best found) {x : Bs × Bs} (hx : ¬ Cand from_ back x.1) : EdgeOf (D ++ [x]) from_ back best found :=
  ⟨fun q => ⟨(h.no q).1, fun p hm => by
    rcases List.mem_append.1 hm with r | r
    · exact (h.no q).2 p r
    · simp at r; subst r; exact hx⟩, fun q => by
    obtain ⟨p, h1, h2⟩ := h.mem q
    exact ⟨p, List.mem_append_left _ h1, h2⟩, fun q p hm hc => by
    rcases List.mem_append.1 hm with r | r
    · exact h.best q p r hc
    · simp at r; subst r; exact absurd hc hx⟩
theorem EdgeOf.stay {D : Tab} {from_ : Bs} {back : Bool} {best : Bs} (h : EdgeOf D from_ back best true) {x : Bs × Bs} (hb : if back then ¬ best < x.1 else ¬ x.1 < best) : EdgeOf (D ++ [x]) from_ back best true :=
  ⟨fun q => (by cases q), fun q => by
    obtain ⟨p, h1, h2⟩ := h.mem q
    exact ⟨p, List.mem_append_left _ h1, h2⟩, fun q p hm hc => by
    rcases List.mem_append.1 hm with r | r
    · exact h.best q p r hc
    · simp at r; subst r; exact hb⟩
theorem EdgeOf.take {D : Tab} {from_ : Bs} {back : Bool} {best : Bs} {found : Bool} (h : EdgeOf D from_ back best found) {x : Bs × Bs} (hc : Cand from_ back x.1) (hb : found = true → if back then best < x.1 else ¬ best < x.1) : EdgeOf (D ++ [x]) from_ back x.1 true :=
  ⟨fun q => (by cases q), fun _ => ⟨x, by simp, rfl, hc⟩, fun _ p hm hp => by
    rcases List.mem_append.1 hm with r | r
    · cases found with
      | false => exact absurd hp ((h.no rfl).2 p r)
      | true =>
        have h1 := h.best rfl p r hp
        have h2 := hb rfl
        cases back with
        | true =>
          simp only [if_true] at h1 h2 ⊢
          intro q
          exact h1 (Kv.lt_tr h2 q)
        | false =>
          simp only [Bool.false_eq_true, if_false] at h1 h2 ⊢
          intro q
          by_cases e : best = x.1
          · rw [e] at h1; exact h1 q
          · exact h1 (Kv.lt_tr q (Kv.lt_or h2 e))
    · simp at r; subst r
      cases back <;> simp [Kv.lt_irr]⟩

theorem run_gtr {P : Program} (t : TypeId) (a b : Bs) (w : World) : (binOp .gtr t (sv a) (sv b)).run P w = .ok (.bool (Op.bytesLess b a)) w := by
  have hb : (!Op.bytesLess a b && !(a == b)) = Op.bytesLess b a := by
    rw [Kv.less_eq, Kv.less_eq]
    by_cases h1 : a < b
    · have h2 : ¬ b < a := fun q => Kv.lt_irr _ (Kv.lt_tr h1 q)
      simp [h1, h2]
    · by_cases h2 : a = b
      · subst h2; simp [h1]
      · simp [h1, h2, Kv.lt_or h1 h2]
  have : binOp .gtr t (sv a) (sv b) = pure (.bool (Op.bytesLess b a)) := by rw [← hb]; simp [binOp, Op.stringOp, sv]
  rw [this]; rfl
/-- What Edge answers. -/
def RetEdge (w : World) (T : Tab) (from_ : Bs) (back : Bool) (e : Ending) (w' : World) : Prop := ∃ best found, e = .returned (.tuple #[sv best, .bool found]) ∧ EdgeOf T from_ back best found ∧ Keeps Non w w'

set_option maxHeartbeats 4000000 in
set_option maxRecDepth 100000 in
theorem sedge_any (Z : Nat → Prop) (s b m age : Nat) (T : Tab) (from_ : Bs) (back : Bool) (w : World) (hs : StA w s b m age) (h : TabW Z w m T) :
    Calls Tryz.prog 24 #[.pointer (some ⟨s, 0, none⟩), sv from_, .bool back] w (RetEdge w T from_ back) := by
  obtain ⟨c0, c1, c2⟩ := trio hs.st
  have hm := h.lt
  have h0 : TabW (fun k => Z k ∨ w.heap.size ≤ k) w m T := h.grow fun k q => q
  clear h
  go_enter Tryz.func24, Tryz.ntmps24
  go_wp2_with (at_range; refine hold_it ?_)
  refine let_go ?_
  refine wp_tab_range _ rfl _ _ rfl 9 60 _ m T Tryz.underlying9 Tryz.underlying76 rfl h0 ?_
  intro w1 hR1 k1 z1
  go_wp2_with fail
  try go_frame
  obtain ⟨r, hr⟩ : ∃ r, r = w.heap.size := ⟨_, rfl⟩
  rw [← hr] at hR1 h0 hm z1 ⊢
  have HR := Lib.hid hr
  clear hr h0
  go_loopw [8, 9] (fun v u wr => ∃ (D : Tab) (cnt : Nat) (best : Bs) (found : Bool), TabR Tryz.prog 9 (fun k => Z k ∨ r ≤ k) wr m r T D cnt ∧ v = sv best ∧ u = .bool found ∧ Hid (EdgeOf D from_ back best found) ∧ Keeps Non w wr ∧ r + 1 ≤ wr.heap.size) (fun _ _ wr => wr.rangeLeft m r)
  case atStart => exact ⟨[], _, [], false, hR1, rfl, rfl, ⟨fun _ => ⟨rfl, fun p hp => by simp at hp⟩, fun q => (by cases q), fun q => (by cases q)⟩, k1, by omega⟩
  case round =>
    clear hR1 k1 z1
    obtain ⟨D, cnt, best, found, hR, rfl, rfl, HE, hk, hz⟩ := hrel
    have hleft := hR.left_eq
    go_wp2_with (at_next; refine hold_it ?_)
    refine let_go ?_
    refine wp_tab_next _ rfl _ rfl 9 _ m r T D cnt Tryz.underlying9 rfl hR ?_ ?_
    · intro h0 hperm
      have HP := Lib.hid (HE.out.perm hperm)
      clear hR hperm hleft
      go_wp2_with fail
      go_ret2
      exact ⟨best, found, rfl, HP.out, hk⟩
    · intro key l A n c w2 cnt2 hmem hnew hkl hs2 hR2 hlt k2 z2 hen
      have hk2 : Keeps Non w w2 := hk.into k2 (fun k hk' e => by have := HR.out; show False; omega)
      have hleft2 := hR2.left_eq
      have Hm : Hid (w2.rangeLeft m r < wr.rangeLeft m r) := by show _ < _; rw [hleft2, hleft]; exact hlt
      have hz2 : r + 1 ≤ w2.heap.size := by omega
      clear hR hk k2 hleft2 hleft z2 hz hmem hnew hs2
      have eg := run_gtr (P := Tryz.prog) 9 key best
      obtain ⟨lt1, hlt1⟩ : ∃ lt1, lt1 = decide (key < from_) := ⟨_, rfl⟩
      have e1 : Op.bytesLess key from_ = lt1 := by rw [hlt1, Kv.less_eq]
      obtain ⟨gt1, hgt1⟩ : ∃ gt1, gt1 = decide (best < key) := ⟨_, rfl⟩
      have e2 : Op.bytesLess best key = gt1 := by rw [hgt1, Kv.less_eq]
      have H1 := Lib.hid hlt1
      have H2 := Lib.hid hgt1
      clear hlt1 hgt1
      by_cases hc : lt1 = back
      · subst hc
        have hC : Cand from_ lt1 key := H1.out.symm
        have HC := Lib.hid hC
        clear hC
        by_cases ht : found = false ∨ gt1 = lt1
        · have HF : Hid (EdgeOf (D ++ [(key, l)]) from_ lt1 key true) := HE.out.take (x := (key, l)) HC.out (fun q => by
            rcases ht with e | e
            · rw [e] at q; cases q
            · have h2 := H2.out
              rw [e] at h2
              cases lt1 with
              | true => simp only [if_true]; exact of_decide_eq_true h2.symm
              | false => simp only [Bool.false_eq_true, if_false]; exact of_decide_eq_false h2.symm)
          rcases ht with rfl | rfl
          · cases lt1 <;> cases gt1
            all_goals
              go_wp2_with fail
              go_roundw
              case rel => exact ⟨D ++ [(key, l)], cnt2, key, true, hR2, rfl, rfl, HF.out, hk2, hz2⟩
              case measure => exact Hm.out
          · cases gt1 <;> cases found
            all_goals
              go_wp2_with fail
              go_roundw
              case rel => exact ⟨D ++ [(key, l)], cnt2, key, true, hR2, rfl, rfl, HF.out, hk2, hz2⟩
              case measure => exact Hm.out
        · have hf : found = true := by cases found; exact absurd (.inl rfl) ht; rfl
          have hg : ¬ gt1 = lt1 := fun e => ht (.inr e)
          subst hf
          have HF : Hid (EdgeOf (D ++ [(key, l)]) from_ lt1 best true) := HE.out.stay (x := (key, l)) (by
            have h2 := H2.out
            cases lt1 with
            | true =>
              cases gt1 with
              | true => exact absurd rfl hg
              | false => simp only [if_true]; exact of_decide_eq_false h2.symm
            | false =>
              cases gt1 with
              | false => exact absurd rfl hg
              | true => simp only [Bool.false_eq_true, if_false]; intro q; exact Kv.lt_irr _ (Kv.lt_tr (of_decide_eq_true h2.symm) q))
          clear ht
          cases lt1 <;> cases gt1 <;> first
            | exact absurd rfl hg
            | (clear hg
               go_wp2_with fail
               go_roundw
               case rel => exact ⟨D ++ [(key, l)], cnt2, best, true, hR2, rfl, rfl, HF.out, hk2, hz2⟩
               case measure => exact Hm.out)
      · have HF : Hid (EdgeOf (D ++ [(key, l)]) from_ back best found) := HE.out.skip (x := (key, l)) (fun q => hc (H1.out.trans q))
        cases lt1 <;> cases back <;> first
          | exact absurd rfl hc
          | (clear hc
             go_wp2_with fail
             go_roundw
             case rel => exact ⟨D ++ [(key, l)], cnt2, best, found, hR2, rfl, rfl, HF.out, hk2, hz2⟩
             case measure => exact Hm.out)
end Go.Proofs.YtbmamhcjbhnkiaaGreat
