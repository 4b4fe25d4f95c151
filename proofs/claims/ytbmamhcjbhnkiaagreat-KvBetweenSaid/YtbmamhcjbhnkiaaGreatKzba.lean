/- Layer 9 (the great seat): the walks of the reference's Drop, and of changed. -/
import Derived.Test.YtbmamhcjbhnkiaaGreatKzv
namespace Go.Proofs.YtbmamhcjbhnkiaaGreat
open Go.RowKit Go.Maps
open Kv (Bs Tab)

theorem del_take_snoc (k : Bs) {T : Tab} {j : Nat} {p : Bs × Bs} (h : T[j]? = some p) : Kv.del (T.take (j + 1)) k = Kv.del (T.take j) k ++ (if p.1 = k then [] else [p]) := by
  obtain ⟨hj, e⟩ := List.getElem?_eq_some_iff.1 h
  rw [List.take_succ_eq_append_getElem hj, e]
  unfold Kv.del
  rw [List.filter_append]
  congr 1
  by_cases hk : p.1 = k <;> simp [hk]
theorem del_take_len (k : Bs) (T : Tab) (j : Nat) : (Kv.del (T.take j) k).length ≤ j := Nat.le_trans (List.length_filter_le _ _) (by simp; omega)

set_option maxHeartbeats 4000000 in
set_option maxRecDepth 100000 in
theorem rdrop_any (Z : Nat → Prop) (A : Option Addr) (n c : Nat) (T : Tab) (k : Bs) (w : World) (hr : RdR Z w A n T) :
    Calls Tryz.prog 34 #[.slice A n c, sv k] w (RetR w (Kv.del T k)) := by
  have HN := Lib.hid hr.len
  have hnb := hr.le
  go_enter Tryz.func34, Tryz.ntmps34
  go_wp2
  go_loopw [5, 6] (fun v i wr => ∃ j : Nat, j ≤ n ∧ i = .int .i64 j ∧ OwnR wr w.heap.size v (Kv.del (T.take j) k) ∧ Below w.heap.size w wr) (fun _ i _ => n - (intOf i).toNat)
  case atStart => exact ⟨0, Nat.zero_le _, rfl, OwnR.nil _ _, Below.refl _ _⟩
  case round =>
    obtain ⟨j, hj, rfl, hO, hbel⟩ := hrel
    have hOl := del_take_len k T j
    by_cases hlt : j < n
    · obtain ⟨b, off, ⟨yk, yv⟩, rfl, hy, q0, q1⟩ := (hr.below hbel).at_ hlt
      simp only [] at q0 q1
      have HP := Lib.hid (del_take_snoc k hy)
      simp only [] at HP
      clear hy
      obtain ⟨O, hO0⟩ : ∃ O, O = Kv.del (T.take j) k := ⟨_, rfl⟩
      rw [← hO0] at hO HP hOl
      clear hO0
      unfold OwnR at hO
      obtain ⟨A7, q7, rfl⟩ := own_slice hO
      by_cases hk : yk = k
      · have e2 := eq_yes hk
        have e3 : (yk != k) = false := by simp [hk]
        rw [if_pos hk] at HP
        clear hk
        have HO : Hid (OwnR wr w.heap.size (.slice A7 O.length q7) O) := hO
        clear hO
        go_wp2_with fail
        go_roundw
        case rel => exact ⟨j + 1, by omega, by go_num, by rw [HP.out]; simpa using HO.out, hbel⟩
        case measure => simp [intOf]; omega
      · have e2 := eq_no hk
        have e3 : (yk != k) = true := by simp [hk]
        rw [if_neg hk] at HP
        clear hk
        have kA1 : Keeps Non wr (wr.alloc (.cells #[sv yk, sv yv] 54)) := (Keeps.refl _ _).alloc _
        have oA1 := own_kept hO kA1 (fun _ _ q => q)
        have bA1 : Below w.heap.size w (wr.alloc (.cells #[sv yk, sv yv] 54)) := hbel.alloc hbel.size _
        have zA1 := bA1.size
        have sA1 := src_ref wr yk yv
        clear kA1
        go_wp2_with (at_builtin; refine hold_it ?_)
        refine let_go ?_
        refine wpList_append_src _ rfl _ _ 32 32 rfl w.heap.size 54 (.agg #[.string ⟨#[]⟩, .string ⟨#[]⟩]) 2 32 Tryz.underlying32 info_ref rfl (by decide) (.slice A7 O.length q7) _ _ rfl oA1 _ _ _ rfl sA1 (by unfold maxLen; omega) (by omega) zA1 ?_
        intro v1 w1 o1 g1 _
        have b1 := own_below oA1 bA1 g1 zA1
        clear oA1 bA1 zA1 sA1 g1
        have HO : Hid (OwnR w1 w.heap.size v1 (O ++ [(yk, yv)])) := by
          show World.ownsRow _ _ _ _ _ _ _
          simpa [encR] using o1
        clear o1
        go_wp2_with fail
        go_roundw
        case rel => exact ⟨j + 1, by omega, by go_num, by rw [HP.out]; exact HO.out, b1⟩
        case measure => simp [intOf]; omega
    · obtain rfl : j = n := by omega
      have H3 : Hid (T.take j = T) := by show _ = _; rw [List.take_of_length_le (by rw [HN.out]; exact Nat.le_refl _)]
      rw [H3.out] at hO
      have HO := Lib.hid hO
      clear hO
      go_wp2_with fail
      go_ret
      exact ⟨_, rfl, HO.out, Keeps.of_below hbel⟩

/-- Steps of a law that are read; they lie in no block of Z. -/
structure RdQ (Z : Nat → Prop) (w : World) (A : Option Addr) (n : Nat) (Q : List Kv.St) : Prop where
  len : Q.length = n
  cells : 0 < n → ∃ b off, A = some ⟨b, off, none⟩ ∧ ¬ Z b ∧ b < w.heap.size ∧ ∀ (j : Nat) (p : Kv.St), Q[j]? = some p → w.cell? ⟨b, off + j * 3, none⟩ = some (.bool p.d) ∧ w.cell? ⟨b, off + j * 3 + 1, none⟩ = some (sv p.k) ∧ w.cell? ⟨b, off + j * 3 + 2, none⟩ = some (sv p.v)
theorem RdQ.keep {Z S : Nat → Prop} {w w' : World} {A : Option Addr} {n : Nat} {Q : List Kv.St} (h : RdQ Z w A n Q) (hk : Keeps S w w') (hS : ∀ k, S k → Z k) : RdQ Z w' A n Q :=
  ⟨h.len, fun h0 => by
    obtain ⟨b, off, e, hz, hl, hc⟩ := h.cells h0
    refine ⟨b, off, e, hz, Nat.lt_of_lt_of_le hl hk.size, fun j p hp => ?_⟩
    obtain ⟨h1, h2, h3⟩ := hc j p hp
    exact ⟨hk.cell h1 (fun q => hz (hS _ q)), hk.cell h2 (fun q => hz (hS _ q)), hk.cell h3 (fun q => hz (hS _ q))⟩⟩
theorem RdQ.grow {Z Z' : Nat → Prop} {w : World} {A : Option Addr} {n : Nat} {Q : List Kv.St} (h : RdQ Z w A n Q) (hz : ∀ k, Z' k → Z k ∨ w.heap.size ≤ k) : RdQ Z' w A n Q :=
  ⟨h.len, fun h0 => by
    obtain ⟨b, off, e, hb, hl, hc⟩ := h.cells h0
    exact ⟨b, off, e, fun q => by rcases hz _ q with r | r; exact hb r; omega, hl, hc⟩⟩
theorem RdQ.at_ {Z : Nat → Prop} {w : World} {A : Option Addr} {n : Nat} {Q : List Kv.St} (h : RdQ Z w A n Q) {j : Nat} (hj : j < n) :
    ∃ b off p, A = some ⟨b, off, none⟩ ∧ Q[j]? = some p ∧ w.cell? ⟨b, off + j * 3, none⟩ = some (.bool p.d) ∧ w.cell? ⟨b, off + j * 3 + 1, none⟩ = some (sv p.k) ∧ w.cell? ⟨b, off + j * 3 + 2, none⟩ = some (sv p.v) := by
  obtain ⟨b, off, e, _, _, hc⟩ := h.cells (by omega)
  have hl : j < Q.length := by rw [h.len]; exact hj
  obtain ⟨h1, h2, h3⟩ := hc j _ (List.getElem?_eq_getElem hl)
  exact ⟨b, off, Q[j], e, List.getElem?_eq_getElem hl, h1, h2, h3⟩

/-- A step as a change has it. -/
def cook (p : Kv.St) : Kv.St := ⟨p.d, p.k, if p.d then [] else p.v⟩
def Mild (Q : List Kv.St) : Prop := Q.length ≤ 8 ∧ ∀ p ∈ Q, 1 ≤ p.k.length ∧ p.k.length ≤ 20 ∧ p.v.length ≤ 200
theorem cook_snoc {Q : List Kv.St} {j : Nat} {p : Kv.St} (h : Q[j]? = some p) : (Q.take (j + 1)).map cook = (Q.take j).map cook ++ [cook p] := by
  obtain ⟨hj, e⟩ := List.getElem?_eq_some_iff.1 h
  rw [List.take_succ_eq_append_getElem hj, e, List.map_append]
  rfl
theorem cook_ok {Q : List Kv.St} (h : Mild Q) : ∀ p ∈ Q.map cook, p.ok ∧ p.k.length ≤ 20 ∧ p.v.length ≤ 200 := fun p hp => by
  obtain ⟨q, hq, rfl⟩ := List.mem_map.1 hp
  obtain ⟨h1, h2, h3⟩ := h.2 q hq
  cases hd : q.d <;> simp [cook, hd, Kv.St.ok] <;> omega

/-- What changed answers. -/
def RetCh (X Y : Nat → Prop) (w : World) (c s mc age : Nat) (v : Value) (l : List Kv.St) (T : Tab) (Q : List Kv.St) (e : Ending) (w' : World) : Prop :=
  ∃ v' A n cc, e = .returned (.tuple #[.slice A n cc, .bool true]) ∧ Chg Y w' c s mc v' (l ++ Q.map cook) (Kv.doAll T (Q.map cook)) age false ∧ RdR (fun k => X k ∨ Cb c mc v' k) w' A n (Kv.doAll T (Q.map cook)) ∧ Keeps (Cb c mc v) w w' ∧ (v'.ownBlock = v.ownBlock ∨ ∃ g, v'.ownBlock = some g ∧ w.heap.size ≤ g)

/-- What its loop keeps. -/
structure ChI (X Y : Nat → Prop) (w : World) (c s mc age : Nat) (v : Value) (l : List Kv.St) (T : Tab) (Q : List Kv.St) (wr : World) (j : Nat) (v' : Value) (A : Option Addr) (n : Nat) : Prop where
  ch : Chg Y wr c s mc v' (l ++ (Q.take j).map cook) (Kv.doAll T ((Q.take j).map cook)) age false
  rd : RdR (fun k => X k ∨ Cb c mc v' k) wr A n (Kv.doAll T ((Q.take j).map cook))
  kp : Keeps (Cb c mc v) w wr
  lo : v'.ownBlock = v.ownBlock ∨ ∃ g, v'.ownBlock = some g ∧ w.heap.size ≤ g

set_option maxHeartbeats 16000000 in
set_option maxRecDepth 100000 in
theorem changed_any (X Y : Nat → Prop) (c s mc age : Nat) (v : Value) (l : List Kv.St) (T : Tab) (A : Option Addr) (n cc : Nat) (B : Option Addr) (m bb : Nat) (Q : List Kv.St) (w : World) (hX : ∀ k, X k → k < w.heap.size) (hY : ∀ k, Y k → k < w.heap.size)
    (hc : Chg Y w c s mc v l T age false) (hr : RdR (fun k => X k ∨ Cb c mc v k) w A n T) (hq : RdQ (Cb c mc v) w B m Q) (hQ : Mild Q) (hl : l.length + Q.length ≤ 64) (hT : T.length + Q.length ≤ 1000000) (hTok : Kv.Ok T) :
    Calls Tryz.prog 11 #[.pointer (some ⟨c, 0, none⟩), .slice A n cc, .slice B m bb] w (RetCh X Y w c s mc age v l T Q) := by
  have HQl := Lib.hid hq.len
  have hm8 : m ≤ 8 := by rw [← hq.len]; exact hQ.1
  have H0 : ChI X Y w c s mc age v l T Q w 0 v A n := ⟨by simpa [Kv.doAll] using hc, by simpa [Kv.doAll] using hr, Keeps.refl _ _, .inl rfl⟩
  clear hc hr
  go_enter Tryz.func11, Tryz.ntmps11
  go_wp2
  go_loopw [1, 17] (fun lv i wr => ∃ (j : Nat) (v' : Value) (A' : Option Addr) (n' c' : Nat), j ≤ m ∧ i = .int .i64 j ∧ lv = .slice A' n' c' ∧ ChI X Y w c s mc age v l T Q wr j v' A' n') (fun _ i _ => m - (intOf i).toNat)
  case atStart => exact ⟨0, v, A, n, cc, Nat.zero_le _, rfl, rfl, H0⟩
  case round =>
    clear H0
    obtain ⟨j, v1, A1, n1, c1, hj, rfl, rfl, hI⟩ := hrel
    by_cases hlt : j < m
    · obtain ⟨qb, qo, ⟨d, k, x⟩, rfl, hp, q0, q1, q2⟩ := (hq.keep hI.kp (fun _ q => q)).at_ hlt
      simp only [] at q0 q1 q2
      obtain ⟨m1, m2, m3⟩ := hQ.2 _ (List.mem_of_getElem? hp)
      simp only [] at m1 m2 m3
      have HC := Lib.hid (cook_snoc hp)
      have hjl : (Q.take j).length = j := by rw [List.length_take, HQl.out]; omega
      have hcc := (Array.getElem?_eq_some_iff.1 hI.ch.st).1
      have hmm := hI.ch.tab.lt
      have hvv : ∀ k, v1.ownBlock = some k → k < wr.heap.size := fun k q => hI.ch.row_lt q
      have hwr := hI.kp.size
      have hrise := hI.ch.tab.rise
      have hok1 : Kv.Ok (Kv.doAll T ((Q.take j).map cook)) := hTok.doAll fun q hq' => (cook_ok hQ q (by rw [List.map_take] at hq'; exact List.mem_of_mem_take hq')).1
      have hTl := length_doAll ((Q.take j).map cook) T
      rw [List.length_map, hjl] at hTl
      have hll : (l ++ (Q.take j).map cook).length = l.length + j := by rw [List.length_append, List.length_map, hjl]
      have hQl := HQl.out
      obtain ⟨hc1, hr1, hk1, hg1⟩ := hI
      obtain ⟨T1, hT1⟩ : ∃ T1, T1 = Kv.doAll T ((Q.take j).map cook) := ⟨_, rfl⟩
      obtain ⟨l1, hl1⟩ : ∃ l1, l1 = l ++ (Q.take j).map cook := ⟨_, rfl⟩
      rw [← hT1] at hc1 hr1 hrise hok1 hTl
      rw [← hl1] at hc1 hll
      have HT1 := Lib.hid hT1
      have Hl1 := Lib.hid hl1
      clear hp hjl hT1 hl1
      have kA : Keeps Non wr (wr.alloc (.cells #[.bool d, sv k, sv x] 67)) := (Keeps.refl _ _).alloc _
      have hbA : (wr.alloc (.cells #[.bool d, sv k, sv x] 67)).heap[wr.heap.size]? = some (.cells #[.bool d, sv k, sv x] 67 (0, 0)) := heap_new _ _
      have hnS : ¬ Cb c mc v1 wr.heap.size := fun q => by
        rcases q with q | q | q
        · omega
        · omega
        · have := hvv _ q; omega
      have hcA := hc1.keepN kA
      have hrA := hr1.keepN kA
      have hyA : ∀ z, Y z → z < (wr.alloc (.cells #[.bool d, sv k, sv x] 67)).heap.size := fun z q => by have := hY z q; have := kA.size; omega
      have hXA : ∀ k, X k → k < wr.heap.size := fun k q => by have := hX k q; omega
      cases d with
      | true =>
        have Hd := Lib.hid (drop_ok k (by omega) (by omega) (by omega) (by omega) hcA hyA)
        have hrA' := hrA
        have hbA' := hbA
        have kA' := kA
        clear hrA hbA kA hcA hyA hc1 hr1
        go_wp2_with fail
        refine Hd.out.mono ?_
        rintro e w1 ⟨rfl, v2, hc2, k2, g2⟩
        have hwA := kA'.size
        have hr2 : RdR (fun k => X k ∨ Cb c mc v2 k) w1 A1 n1 T1 := (((hrA'.grow (Z' := fun k => (X k ∨ Cb c mc v1 k) ∨ Cb c mc v2 k) fun k q => by
          rcases q with q | q
          · exact .inl q
          · rcases q with q | q | q
            · exact .inl (.inr (.inl q))
            · exact .inl (.inr (.inr (.inl q)))
            · rcases g2 with e | ⟨g, e, e2⟩
              · rw [e] at q; exact .inl (.inr (.inr (.inr q)))
              · rw [e] at q; injection q with q; exact .inr (by omega)).keep k2 fun k q => .inl (.inr q)).grow fun k q => by
          rcases q with q | q
          · exact .inl (.inl (.inl q))
          · exact .inl (.inr q))
        have hb2 := k2.at_ hbA' hnS
        have kW : Keeps (Cb c mc v) w w1 := hk1.into ((kA'.mono (T := Cb c mc v1) fun _ _ q => q.elim).into k2 fun _ _ q => q) (fun k h1 q => by
          rcases q with q | q | q
          · exact .inl q
          · exact .inr (.inl q)
          · rcases hg1 with e | ⟨g, e, e2⟩
            · rw [e] at q; exact .inr (.inr q)
            · rw [e] at q; injection q with q; omega)
        have hg2 : v2.ownBlock = v.ownBlock ∨ ∃ g, v2.ownBlock = some g ∧ w.heap.size ≤ g := by
          rcases g2 with e | ⟨g, e, e2⟩
          · rw [e]; exact hg1
          · exact .inr ⟨g, e, by have := kA'.size; omega⟩
        obtain ⟨d0, d1, d2⟩ := trio hb2
        have Hr := Lib.hid (rdrop_any _ A1 n1 c1 T1 k w1 hr2)
        clear Hd k2 g2 hrA' hbA' kA'
        go_wp2_with fail
        refine Hr.out.mono ?_
        rintro e w2 ⟨l2, rfl, hO2, k2⟩
        have hc3 := hc2.keepN k2
        have hb3 := k2.at_ hb2 id
        have kW2 := kW.into k2 (fun _ _ q => q.elim)
        have hZ2 : ∀ k, w1.heap.size ≤ k → ¬ (X k ∨ Cb c mc v2 k) := fun k hk q => by
          have h1 := (Array.getElem?_eq_some_iff.1 hc2.st).1
          have h2 := hc2.tab.lt
          have h3 := kW.size
          rcases q with q | q | q | q
          · have := hX k q; omega
          · omega
          · omega
          · have := hc2.row_lt q; omega
        obtain ⟨T2, hT2⟩ : ∃ T2, T2 = Kv.do1 T1 (cook ⟨true, k, x⟩) := ⟨_, rfl⟩
        have hO2' : OwnR w2 w1.heap.size l2 T2 := by rw [hT2]; exact hO2
        have hc3' : Chg Y w2 c s mc v2 (l1 ++ [cook ⟨true, k, x⟩]) T2 age false := by rw [hT2]; exact hc3
        have hok2 : Kv.Ok T2 := by rw [hT2]; exact hok1.do1 (cook_ok (Q := [⟨true, k, x⟩]) ⟨by simp, fun p hp => by simp at hp; subst hp; exact ⟨m1, m2, m3⟩⟩ _ (by simp)).1
        have hT2l : T2.length ≤ 1048576 := by rw [hT2]; have := length_do1 T1 (cook ⟨true, k, x⟩); omega
        have HT2 : Hid (T2 = Kv.doAll T ((Q.take (j + 1)).map cook)) := by show _ = _; rw [HC.out, Kv.doAll_snoc, ← HT1.out, hT2]
        have HL2 : Hid (l1 ++ [cook ⟨true, k, x⟩] = l ++ (Q.take (j + 1)).map cook) := by show _ = _; rw [HC.out, Hl1.out, List.append_assoc]
        obtain ⟨A2, c2, rfl, hR2, -, -⟩ := OwnR.rdR hO2' hT2l hZ2
        obtain ⟨d0, d1, d2⟩ := trio hb3
        have Hg := Lib.hid (cget_any k (by unfold maxLen; omega) hc3')
        have HC3 := Lib.hid hc3'
        have Hg2 := Lib.hid hg2
        clear Hr hO2 hO2' hZ2 hc3 hc3' hc2 hb2 kW hT2 k2 hg2 hg1 hr2
        go_wp2_with fail
        refine Hg.out.mono ?_
        rintro e w3 ⟨vg, rfl, hOg, k3⟩
        have hb4 := k3.at_ hb3 id
        have HC4 := Lib.hid (HC3.out.keepN k3)
        have kW3 := kW2.into k3 (fun _ _ q => q.elim)
        have hR3 := hR2.keepN k3
        obtain ⟨d0', d1', d2'⟩ := trio hb4
        have Hr := Lib.hid (rget_any _ A2 _ c2 T2 k w3 hR3)
        unfold RetG at Hr
        have hgl : ((Kv.get T2 k).getD []).length ≤ 4096 := by
          cases hgt : Kv.get T2 k with
          | none => exact Nat.zero_le _
          | some z => exact (hok2 _ ((Kv.get_some HC3.out.tab.rise).1 hgt)).2.2
        obtain ⟨gv, hgv⟩ : ∃ gv, gv = (Kv.get T2 k).getD [] := ⟨_, rfl⟩
        obtain ⟨ok, hok⟩ : ∃ ok, ok = (Kv.get T2 k).isSome := ⟨_, rfl⟩
        rw [← hgv] at Hr hOg hgl
        rw [← hok] at Hr ⊢
        clear Hg HC3 hb3 kW2 hR2 k3 hgv hok d0 d1 d2
        go_wp2_with fail
        refine Hr.out.mono ?_
        rintro e w4 ⟨rfl, q, rfl⟩
        have kq : Keeps Non w3 (w3.drewN q) := (Keeps.refl _ _).drewN q
        have hc4 := HC4.out.keepN kq
        have kW4 := kW3.into kq (fun _ _ q => q.elim)
        have hR4 := hR3.keepN kq
        have hOz := own_kept hOg kq (fun _ _ q => q)
        obtain ⟨w4, hw4⟩ : ∃ w4, w4 = w3.drewN q := ⟨_, rfl⟩
        rw [← hw4] at hc4 kW4 hR4 hOz ⊢
        obtain ⟨Az, cz, rfl, hrz, -, -, -⟩ := own_rdB hOz (by omega)
        have tz := run_str w4 Az _ cz gv hrz
        have Hs := Lib.hid (cscan_any [] (by omega) hc4)
        have HC4 := Lib.hid hc4
        clear Hr hOg hOz kq hw4 hc4 hrz kW3 hR3 d0' d1' d2' hb4
        go_wp2_with fail
        refine Hs.out.mono ?_
        rintro e w5 ⟨v5, d5, rfl, hd5, hP5, k5⟩
        rw [Kv.pre_nil] at hd5
        have HC5 := Lib.hid (HC4.out.keepN k5)
        have kW5 := kW4.into k5 (fun _ _ q => q.elim)
        have hR5 := hR4.keepN k5
        have hd5l : d5.length ≤ 1048576 := by have := congrArg List.length hd5; rw [keys_len] at this; omega
        have Hl := Lib.hid (listed_any _ v5 d5 w5 hd5l hP5)
        rw [hd5] at Hl
        clear Hs HC4 kW4 k5 hR4 hP5 hd5 hd5l tz
        go_wp2_with fail
        refine Hl.out.mono ?_
        rintro e w6 ⟨v6, rfl, hO6, k6⟩
        have HC6 := Lib.hid (HC5.out.keepN k6)
        have kW6 := kW5.into k6 (fun _ _ q => q.elim)
        have hR6 := hR5.keepN k6
        obtain ⟨A6, c6, rfl, hR6', -, -⟩ := OwnR.rdR (Z := Non) hO6 hT2l (fun _ _ q => q)
        have Hsm := Lib.hid (same9_any _ _ A6 A2 _ _ c6 c2 _ _ w6 hR6' hR6)
        rw [decide_eq_true rfl] at Hsm
        have HR6 := Lib.hid hR6
        clear Hl HC5 kW5 k6 hR5 hO6 hR6' hR6
        go_wp2_with fail
        refine Hsm.out.mono ?_
        rintro e w7 ⟨rfl, q, rfl⟩
        have kq : Keeps Non w6 (w6.drewN q) := (Keeps.refl _ _).drewN q
        have HF : Hid (ChI X Y w c s mc age v l T Q (w6.drewN q) (j + 1) v2 A2 T2.length) :=
          ⟨by rw [← HL2.out, ← HT2.out]; exact HC6.out.keepN kq, by rw [← HT2.out]; exact HR6.out.keepN kq, kW6.into kq (fun _ _ q => q.elim), Hg2.out⟩
        clear Hsm HC6 kW6 HR6 kq
        go_wp2_with fail
        go_roundw
        case rel => exact ⟨j + 1, v2, A2, T2.length, c2, by omega, by go_num, rfl, HF.out⟩
        case measure => simp [intOf]; omega
      | false =>
        obtain ⟨A6, c6, w6, hcv, hrd6, hk6⟩ := conv_sb x (by omega) (wr.alloc (.cells #[.bool false, sv k, sv x] 67))
        have hrA' := hrA.keepN hk6
        have hbA' := hk6.at_ hbA id
        have kA' := kA.trans hk6
        have Hd := Lib.hid (put_ok k x (by omega) (by omega) (by omega) A6 x.length c6 (by omega) (by omega) (hcA.keepN hk6) hrd6 (fun k q => by have := hyA k q; have := hk6.size; omega))
        clear hrA hbA kA hcA hyA hc1 hr1 hrd6 hk6
        go_wp2_with fail
        refine Hd.out.mono ?_
        rintro e w1 ⟨rfl, v2, hc2, k2, g2⟩
        have hwA := kA'.size
        have hr2 : RdR (fun k => X k ∨ Cb c mc v2 k) w1 A1 n1 T1 := (((hrA'.grow (Z' := fun k => (X k ∨ Cb c mc v1 k) ∨ Cb c mc v2 k) fun k q => by
          rcases q with q | q
          · exact .inl q
          · rcases q with q | q | q
            · exact .inl (.inr (.inl q))
            · exact .inl (.inr (.inr (.inl q)))
            · rcases g2 with e | ⟨g, e, e2⟩
              · rw [e] at q; exact .inl (.inr (.inr (.inr q)))
              · rw [e] at q; injection q with q; exact .inr (by omega)).keep k2 fun k q => .inl (.inr q)).grow fun k q => by
          rcases q with q | q
          · exact .inl (.inl (.inl q))
          · exact .inl (.inr q))
        have hb2 := k2.at_ hbA' hnS
        have kW : Keeps (Cb c mc v) w w1 := hk1.into ((kA'.mono (T := Cb c mc v1) fun _ _ q => q.elim).into k2 fun _ _ q => q) (fun k h1 q => by
          rcases q with q | q | q
          · exact .inl q
          · exact .inr (.inl q)
          · rcases hg1 with e | ⟨g, e, e2⟩
            · rw [e] at q; exact .inr (.inr q)
            · rw [e] at q; injection q with q; omega)
        have hg2 : v2.ownBlock = v.ownBlock ∨ ∃ g, v2.ownBlock = some g ∧ w.heap.size ≤ g := by
          rcases g2 with e | ⟨g, e, e2⟩
          · rw [e]; exact hg1
          · exact .inr ⟨g, e, by have := kA'.size; omega⟩
        obtain ⟨d0, d1, d2⟩ := trio hb2
        have Hr := rput_any _ A1 n1 c1 T1 k x w1 hr2
        rw [Kv.rput_eq k x hrise] at Hr
        have Hr := Lib.hid Hr
        clear Hd k2 g2 hrA' hbA' kA' hcv
        go_wp2_with fail
        refine Hr.out.mono ?_
        rintro e w2 ⟨l2, rfl, hO2, k2⟩
        have hc3 := hc2.keepN k2
        have hb3 := k2.at_ hb2 id
        have kW2 := kW.into k2 (fun _ _ q => q.elim)
        have hZ2 : ∀ k, w1.heap.size ≤ k → ¬ (X k ∨ Cb c mc v2 k) := fun k hk q => by
          have h1 := (Array.getElem?_eq_some_iff.1 hc2.st).1
          have h2 := hc2.tab.lt
          have h3 := kW.size
          rcases q with q | q | q | q
          · have := hX k q; omega
          · omega
          · omega
          · have := hc2.row_lt q; omega
        obtain ⟨T2, hT2⟩ : ∃ T2, T2 = Kv.do1 T1 (cook ⟨false, k, x⟩) := ⟨_, rfl⟩
        have hO2' : OwnR w2 w1.heap.size l2 T2 := by rw [hT2]; exact hO2
        have hc3' : Chg Y w2 c s mc v2 (l1 ++ [cook ⟨false, k, x⟩]) T2 age false := by rw [hT2]; exact hc3
        have hok2 : Kv.Ok T2 := by rw [hT2]; exact hok1.do1 (cook_ok (Q := [⟨false, k, x⟩]) ⟨by simp, fun p hp => by simp at hp; subst hp; exact ⟨m1, m2, m3⟩⟩ _ (by simp)).1
        have hT2l : T2.length ≤ 1048576 := by rw [hT2]; have := length_do1 T1 (cook ⟨false, k, x⟩); omega
        have HT2 : Hid (T2 = Kv.doAll T ((Q.take (j + 1)).map cook)) := by show _ = _; rw [HC.out, Kv.doAll_snoc, ← HT1.out, hT2]
        have HL2 : Hid (l1 ++ [cook ⟨false, k, x⟩] = l ++ (Q.take (j + 1)).map cook) := by show _ = _; rw [HC.out, Hl1.out, List.append_assoc]
        obtain ⟨A2, c2, rfl, hR2, -, -⟩ := OwnR.rdR hO2' hT2l hZ2
        obtain ⟨d0, d1, d2⟩ := trio hb3
        have Hg := Lib.hid (cget_any k (by unfold maxLen; omega) hc3')
        have HC3 := Lib.hid hc3'
        have Hg2 := Lib.hid hg2
        clear Hr hO2 hO2' hZ2 hc3 hc3' hc2 hb2 kW hT2 k2 hg2 hg1 hr2
        go_wp2_with fail
        refine Hg.out.mono ?_
        rintro e w3 ⟨vg, rfl, hOg, k3⟩
        have hb4 := k3.at_ hb3 id
        have HC4 := Lib.hid (HC3.out.keepN k3)
        have kW3 := kW2.into k3 (fun _ _ q => q.elim)
        have hR3 := hR2.keepN k3
        obtain ⟨d0', d1', d2'⟩ := trio hb4
        have Hr := Lib.hid (rget_any _ A2 _ c2 T2 k w3 hR3)
        unfold RetG at Hr
        have hgl : ((Kv.get T2 k).getD []).length ≤ 4096 := by
          cases hgt : Kv.get T2 k with
          | none => exact Nat.zero_le _
          | some z => exact (hok2 _ ((Kv.get_some HC3.out.tab.rise).1 hgt)).2.2
        obtain ⟨gv, hgv⟩ : ∃ gv, gv = (Kv.get T2 k).getD [] := ⟨_, rfl⟩
        obtain ⟨ok, hok⟩ : ∃ ok, ok = (Kv.get T2 k).isSome := ⟨_, rfl⟩
        rw [← hgv] at Hr hOg hgl
        rw [← hok] at Hr ⊢
        clear Hg HC3 hb3 kW2 hR2 k3 hgv hok d0 d1 d2
        go_wp2_with fail
        refine Hr.out.mono ?_
        rintro e w4 ⟨rfl, q, rfl⟩
        have kq : Keeps Non w3 (w3.drewN q) := (Keeps.refl _ _).drewN q
        have hc4 := HC4.out.keepN kq
        have kW4 := kW3.into kq (fun _ _ q => q.elim)
        have hR4 := hR3.keepN kq
        have hOz := own_kept hOg kq (fun _ _ q => q)
        obtain ⟨w4, hw4⟩ : ∃ w4, w4 = w3.drewN q := ⟨_, rfl⟩
        rw [← hw4] at hc4 kW4 hR4 hOz ⊢
        obtain ⟨Az, cz, rfl, hrz, -, -, -⟩ := own_rdB hOz (by omega)
        have tz := run_str w4 Az _ cz gv hrz
        have Hs := Lib.hid (cscan_any [] (by omega) hc4)
        have HC4 := Lib.hid hc4
        clear Hr hOg hOz kq hw4 hc4 hrz kW3 hR3 d0' d1' d2' hb4
        go_wp2_with fail
        refine Hs.out.mono ?_
        rintro e w5 ⟨v5, d5, rfl, hd5, hP5, k5⟩
        rw [Kv.pre_nil] at hd5
        have HC5 := Lib.hid (HC4.out.keepN k5)
        have kW5 := kW4.into k5 (fun _ _ q => q.elim)
        have hR5 := hR4.keepN k5
        have hd5l : d5.length ≤ 1048576 := by have := congrArg List.length hd5; rw [keys_len] at this; omega
        have Hl := Lib.hid (listed_any _ v5 d5 w5 hd5l hP5)
        rw [hd5] at Hl
        clear Hs HC4 kW4 k5 hR4 hP5 hd5 hd5l tz
        go_wp2_with fail
        refine Hl.out.mono ?_
        rintro e w6 ⟨v6, rfl, hO6, k6⟩
        have HC6 := Lib.hid (HC5.out.keepN k6)
        have kW6 := kW5.into k6 (fun _ _ q => q.elim)
        have hR6 := hR5.keepN k6
        obtain ⟨A6, c6, rfl, hR6', -, -⟩ := OwnR.rdR (Z := Non) hO6 hT2l (fun _ _ q => q)
        have Hsm := Lib.hid (same9_any _ _ A6 A2 _ _ c6 c2 _ _ w6 hR6' hR6)
        rw [decide_eq_true rfl] at Hsm
        have HR6 := Lib.hid hR6
        clear Hl HC5 kW5 k6 hR5 hO6 hR6' hR6
        go_wp2_with fail
        refine Hsm.out.mono ?_
        rintro e w7 ⟨rfl, q, rfl⟩
        have kq : Keeps Non w6 (w6.drewN q) := (Keeps.refl _ _).drewN q
        have HF : Hid (ChI X Y w c s mc age v l T Q (w6.drewN q) (j + 1) v2 A2 T2.length) :=
          ⟨by rw [← HL2.out, ← HT2.out]; exact HC6.out.keepN kq, by rw [← HT2.out]; exact HR6.out.keepN kq, kW6.into kq (fun _ _ q => q.elim), Hg2.out⟩
        clear Hsm HC6 kW6 HR6 kq
        go_wp2_with fail
        go_roundw
        case rel => exact ⟨j + 1, v2, A2, T2.length, c2, by omega, by go_num, rfl, HF.out⟩
        case measure => simp [intOf]; omega
    · obtain rfl : j = m := by omega
      have hall : Q.take j = Q := List.take_of_length_le (by rw [HQl.out]; exact Nat.le_refl _)
      obtain ⟨h1, h2, h3, h4⟩ := hI
      rw [hall] at h1 h2
      have H1 := Lib.hid h1
      have H2 := Lib.hid h2
      clear h1 h2 hall
      go_wp2_with fail
      go_ret2
      exact ⟨v1, A1, n1, c1, rfl, H1.out, H2.out, h3, h4⟩
end Go.Proofs.YtbmamhcjbhnkiaaGreat
