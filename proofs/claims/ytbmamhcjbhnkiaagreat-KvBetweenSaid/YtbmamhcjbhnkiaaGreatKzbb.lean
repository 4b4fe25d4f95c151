/- Layer 9 (the great seat): the steps of a play, and the walk of mild. -/
import Derived.Test.YtbmamhcjbhnkiaaGreatKzba
namespace Go.Proofs.YtbmamhcjbhnkiaaGreat
open Go.RowKit Go.Maps
open Kv (Bs Tab)

theorem IsSteps.keepN {w w' : World} {a : Option Addr} {len cap : Nat} {Q : List Kv.St} (h : IsSteps w a len cap Q) (hk : Keeps Non w w') : IsSteps w' a len cap Q :=
  ⟨h.hlen, h.le, h.cm, h.fit, fun h0 => by
    obtain ⟨b, off, e, hl, hc⟩ := h.cells h0
    refine ⟨b, off, e, Nat.lt_of_lt_of_le hl hk.size, fun j p hp => ?_⟩
    obtain ⟨h1, h2, h3⟩ := hc j p hp
    exact ⟨hk.cell h1 id, hk.cell h2 id, hk.cell h3 id⟩⟩
theorem IsSteps.rdQ {Z : Nat → Prop} {w : World} {a : Option Addr} {len cap : Nat} {Q : List Kv.St} (h : IsSteps w a len cap Q) (hz : ∀ k, k < w.heap.size → ¬ Z k) : RdQ Z w a len Q :=
  ⟨h.hlen, fun h0 => by
    obtain ⟨b, off, e, hl, hc⟩ := h.cells h0
    exact ⟨b, off, e, hz _ hl, hl, hc⟩⟩

/-- A step of a play. -/
structure O9 where
  k : Int
  t : Int
  n : Int
  A : Option Addr
  m : Nat
  c : Nat
  Q : List Kv.St
/-- A slice of a play's steps. -/
structure RdO (w : World) (A : Option Addr) (n : Nat) (O : List O9) : Prop where
  len : O.length = n
  cells : 0 < n → ∃ b off, A = some ⟨b, off, none⟩ ∧ b < w.heap.size ∧ ∀ (j : Nat) (o : O9), O[j]? = some o → w.cell? ⟨b, off + j * 4, none⟩ = some (.int .i64 o.k) ∧ w.cell? ⟨b, off + j * 4 + 1, none⟩ = some (.int .i64 o.t) ∧ w.cell? ⟨b, off + j * 4 + 2, none⟩ = some (.int .i64 o.n) ∧ w.cell? ⟨b, off + j * 4 + 3, none⟩ = some (.slice o.A o.m o.c)
  el : ∀ o ∈ O, IsSteps w o.A o.m o.c o.Q
theorem RdO.keepN {w w' : World} {A : Option Addr} {n : Nat} {O : List O9} (h : RdO w A n O) (hk : Keeps Non w w') : RdO w' A n O :=
  ⟨h.len, fun h0 => by
    obtain ⟨b, off, e, hl, hc⟩ := h.cells h0
    refine ⟨b, off, e, Nat.lt_of_lt_of_le hl hk.size, fun j p hp => ?_⟩
    obtain ⟨h1, h2, h3, h4⟩ := hc j p hp
    exact ⟨hk.cell h1 id, hk.cell h2 id, hk.cell h3 id, hk.cell h4 id⟩, fun o ho => (h.el o ho).keepN hk⟩
theorem RdO.at_ {w : World} {A : Option Addr} {n : Nat} {O : List O9} (h : RdO w A n O) {j : Nat} (hj : j < n) :
    ∃ b off o, A = some ⟨b, off, none⟩ ∧ O[j]? = some o ∧ w.cell? ⟨b, off + j * 4, none⟩ = some (.int .i64 o.k) ∧ w.cell? ⟨b, off + j * 4 + 1, none⟩ = some (.int .i64 o.t) ∧ w.cell? ⟨b, off + j * 4 + 2, none⟩ = some (.int .i64 o.n) ∧ w.cell? ⟨b, off + j * 4 + 3, none⟩ = some (.slice o.A o.m o.c) := by
  obtain ⟨b, off, e, _, hc⟩ := h.cells (by omega)
  have hl : j < O.length := by rw [h.len]; exact hj
  obtain ⟨h1, h2, h3, h4⟩ := hc j _ (List.getElem?_eq_getElem hl)
  exact ⟨b, off, O[j], e, List.getElem?_eq_getElem hl, h1, h2, h3, h4⟩

def Fine (p : Kv.St) : Prop := 1 ≤ p.k.length ∧ p.k.length ≤ 20 ∧ p.v.length ≤ 200
/-- What mild answers. -/
def RetMild (w : World) (O : List O9) (e : Ending) (w' : World) : Prop := ∃ b : Bool, e = .returned (.bool b) ∧ (b = true → (∀ o ∈ O, Mild o.Q) ∧ O.length ≤ 40) ∧ Keeps Non w w'

set_option maxHeartbeats 8000000 in
set_option maxRecDepth 100000 in
theorem mild_any (A : Option Addr) (n c : Nat) (O : List O9) (w : World) (hnb : n ≤ 9223372036854775807) (h : RdO w A n O) :
    Calls Tryz.prog 7 #[.slice A n c] w (RetMild w O) := by
  have HN := Lib.hid h.len
  go_enter Tryz.func7, Tryz.ntmps7
  go_wp2
  go_loopw [9] (fun i wr => ∃ j : Nat, j ≤ n ∧ i = .int .i64 j ∧ Hid (∀ o ∈ O.take j, Mild o.Q) ∧ Keeps Non w wr) (fun i _ => n - (intOf i).toNat)
  case atStart => exact ⟨0, Nat.zero_le _, rfl, fun o ho => by simp at ho, Keeps.refl _ _⟩
  case round =>
    obtain ⟨j, hj, rfl, HM, hk⟩ := hrel
    by_cases hlt : j < n
    · obtain ⟨b, off, ⟨ok, ot, on, oA, om, oc, oQ⟩, rfl, ho, q0, q1, q2, q3⟩ := (h.keepN hk).at_ hlt
      simp only [] at q0 q1 q2 q3
      have hst := (h.keepN hk).el _ (List.mem_of_getElem? ho)
      simp only [] at hst
      have Hn : Hid (∀ (hm : Mild oQ), ∀ o ∈ O.take (j + 1), Mild o.Q) := fun hm o hmem => by
        obtain ⟨hj', e⟩ := List.getElem?_eq_some_iff.1 ho
        rw [List.take_succ_eq_append_getElem hj', e] at hmem
        rcases List.mem_append.1 hmem with q | q
        · exact HM.out o q
        · simp at q; subst q; exact hm
      have hml := hst.le
      have hmc := hst.cm
      have HL := Lib.hid hst.hlen
      clear ho
      by_cases h8 : 8 < om
      · have Hk := Lib.hid hk
        clear hk hst
        go_wp2_with fail
        go_ret
        exact ⟨false, rfl, fun q => (by cases q), (Hk.out.alloc _)⟩
      · have kA : Keeps Non wr (wr.alloc (.cells #[.int .i64 ok, .int .i64 ot, .int .i64 on, .slice oA om oc] 35)) := (Keeps.refl _ _).alloc _
        have hstA := hst.keepN kA
        have HkA := Lib.hid (hk.trans kA)
        clear hst hk kA
        go_wp2
        go_loopw [20] (fun i wr' => ∃ z : Nat, z ≤ om ∧ i = .int .i64 z ∧ Hid (∀ p ∈ oQ.take z, Fine p) ∧ Keeps Non (wr.alloc (.cells #[.int .i64 ok, .int .i64 ot, .int .i64 on, .slice oA om oc] 35)) wr') (fun i _ => om - (intOf i).toNat)
        case atStart => exact ⟨0, Nat.zero_le _, rfl, fun o ho => by simp at ho, Keeps.refl _ _⟩
        case round =>
          obtain ⟨z, hz, rfl, HF, hkz⟩ := hrel
          by_cases hlt2 : z < om
          · obtain ⟨qb, qo, ⟨d, k, x⟩, rfl, hp, r0, r1, r2⟩ := ((hstA.keepN hkz).rdQ (Z := Non) (fun _ _ q => q)).at_ hlt2
            simp only [] at r0 r1 r2
            have hft := hstA.fit _ (List.mem_of_getElem? hp)
            simp only [] at hft
            have HkB := Lib.hid ((HkA.out.trans hkz).alloc (.cells #[.bool d, sv k, sv x] 67))
            have HkC := Lib.hid (hkz.alloc (.cells #[.bool d, sv k, sv x] 67))
            by_cases hbad : 20 < k.length ∨ 200 < x.length ∨ k = []
            · have hcases : 20 < k.length ∨ (¬ 20 < k.length ∧ 200 < x.length) ∨ (¬ 20 < k.length ∧ ¬ 200 < x.length ∧ k = []) := by
                by_cases h1 : 20 < k.length
                · exact .inl h1
                · by_cases h2 : 200 < x.length
                  · exact .inr (.inl ⟨h1, h2⟩)
                  · rcases hbad with q | q | q
                    · exact absurd q h1
                    · exact absurd q h2
                    · exact .inr (.inr ⟨h1, h2, q⟩)
              clear hbad hkz hp HF
              rcases hcases with g1 | ⟨g1, g2⟩ | ⟨g1, g2, rfl⟩
              all_goals
                go_wp2_with fail
                go_ret
                exact ⟨_, rfl, fun q => (by simp at q), HkB.out⟩
            · have g1 : ¬ 20 < k.length := by omega
              have g2 : ¬ 200 < x.length := by omega
              have g3 : ¬ k = [] := fun q => hbad (.inr (.inr q))
              have E1 : List.isEmpty k = false := by cases k with
                | nil => exact absurd rfl g3
                | cons _ _ => rfl
              have HN2 : Hid (∀ p ∈ oQ.take (z + 1), Fine p) := fun p hmem => by
                obtain ⟨hj', e⟩ := List.getElem?_eq_some_iff.1 hp
                rw [List.take_succ_eq_append_getElem hj', e] at hmem
                rcases List.mem_append.1 hmem with q | q
                · exact HF.out p q
                · simp at q
                  subst q
                  refine ⟨?_, by show k.length ≤ 20; omega, by show x.length ≤ 200; omega⟩
                  show 1 ≤ k.length
                  cases k with
                  | nil => exact absurd rfl g3
                  | cons _ _ => simp
              clear hbad hkz hp HF g3
              go_wp2_with fail
              go_roundw
              case rel => exact ⟨z + 1, by omega, by go_num, HN2, HkC.out⟩
              case measure => simp [intOf]; omega
          · obtain rfl : z = om := by omega
            have hm : Mild oQ := ⟨by have := HL.out; omega, fun p hp => HF.out p (by rw [List.take_of_length_le (by rw [HL.out]; exact Nat.le_refl _)]; exact hp)⟩
            have HM2 := Lib.hid (Hn.out hm)
            have HkB := Lib.hid (HkA.out.trans hkz)
            clear hm hkz
            go_wp2_with fail
            go_roundw
            case rel => exact ⟨j + 1, by omega, by go_num, HM2.out, HkB.out⟩
            case measure => simp [intOf]; omega
    · obtain rfl : j = n := by omega
      have Hk := Lib.hid hk
      have HF : Hid (∀ o ∈ O, Mild o.Q) := by
        have := HM.out
        rw [List.take_of_length_le (by rw [HN.out]; exact Nat.le_refl _)] at this
        exact this
      clear hk
      go_wp2_with fail
      go_ret
      exact ⟨_, rfl, fun q => ⟨HF.out, by have := of_decide_eq_true q; have := HN.out; omega⟩, Hk.out⟩
end Go.Proofs.YtbmamhcjbhnkiaaGreat
