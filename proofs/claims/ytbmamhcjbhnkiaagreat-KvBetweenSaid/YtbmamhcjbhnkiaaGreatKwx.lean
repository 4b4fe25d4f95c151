/- Layer 8: the walks of scan, found, fresh and Open. -/
import Derived.Test.YtbmamhcjbhnkiaaGreatKww
import Derived.Deep.AppendLies
namespace Go.Proofs.YtbmamhcjbhnkiaaGreat
open Go.RowKit

theorem info_sl : (Tryz.prog.info? 60).map (fun i => (i.zero, i.size, i.bytes)) = some (some (.slice none 0 0), 1, 24) := by kernel_rfl
theorem info_sl' : ∃ i, Tryz.prog.info? 60 = some i ∧ i.zero = some (.slice none 0 0) ∧ i.size = 1 ∧ i.bytes = 24 := by
  obtain ⟨i, hi, hz⟩ := Option.map_eq_some_iff.1 info_sl
  simp only [Prod.mk.injEq] at hz
  exact ⟨i, hi, hz⟩

/-- The blocks of a log to which a record was added. -/
def More (F : Nat → Prop) (gg : Nat) (A : Option Addr) : Nat → Prop := fun k => F k ∨ k = gg ∨ ∃ a, A = some a ∧ k = a.block

/-- A record is added to the row, and the row is written into the log. -/
theorem LogAt'.push {F : Nat → Prop} {w wa w1 : World} {b p : Nat} {L : Wal.Lg} {v : Value} {vs : List Value} (h : LogAt' w F b p L v vs) (hka : Keeps Non w wa) {A : Option Addr} {n c gg cap : Nat} {x : List UInt8} (hr : RdB wa A n x) (hn : 0 < n)
    (hA : ∀ a, A = some a → ¬ F a.block) (hown : w1.ownsRow 0 60 1 (.slice (some ⟨gg, 0, none⟩) (L.recs.length + 1) cap) (L.recs.length + 1) (vs ++ [.slice A n c])) (hgrow : wa.grownBy w1 v.ownBlock)
    (hor : v.ownBlock = some gg ∨ gg = wa.heap.size) (hlt : gg < w1.heap.size) (hm : L.recs.length + 1 ≤ 1048576) :
    LogAt' (w1.setCell ⟨b, 4, none⟩ (.slice (some ⟨gg, 0, none⟩) (L.recs.length + 1) cap)) (More F gg A) b p { L with recs := L.recs ++ [x] } (.slice (some ⟨gg, 0, none⟩) (L.recs.length + 1) cap) (vs ++ [.slice A n c]) ∧
    Keeps F w (w1.setCell ⟨b, 4, none⟩ (.slice (some ⟨gg, 0, none⟩) (L.recs.length + 1) cap)) := by
  have hsz := hka.size
  have hkg := Keeps.of_grown hgrow
  have hk1 : Keeps F w w1 := (hka.mono fun _ _ h => h.elim).trans (hkg.mono fun k _ hk => (h.row k hk.symm).1)
  have hbF := h.hb
  have hk2 : Keeps F w (w1.setCell ⟨b, 4, none⟩ (.slice (some ⟨gg, 0, none⟩) (L.recs.length + 1) cap)) := hk1.setCell (fun _ => hbF) _
  have hbold := h.old b hbF
  have hst1 : w1.heap[b]? = some _ := hkg.at_ (hka.at_ h.st id) (fun e => (h.row b e.symm).2 rfl)
  have hggb : gg ≠ b := by
    rcases hor with ho | ho
    · exact (h.row gg ho).2
    · omega
  have hks : Keeps (fun k => k = b) w1 (w1.setCell ⟨b, 4, none⟩ (.slice (some ⟨gg, 0, none⟩) (L.recs.length + 1) cap)) := (Keeps.refl _ _).set1 4 _
  have hlen : (vs).length = L.recs.length := by simpa using h.own.1
  refine ⟨⟨setCell_row _ b 4 _ _ _ hst1 _, ?_, ?_, ?_, .inl hbF, ?_, by simpa using hm⟩, hk2⟩
  · simp only [List.length_append, List.length_singleton]
    exact own_kept hown hks fun g hg => by simp [Value.ownBlock] at hg; subst hg; exact hggb
  · intro g hg
    simp [Value.ownBlock] at hg
    subst hg
    exact ⟨.inr (.inl rfl), hggb⟩
  · intro j y hy
    by_cases hj : j < L.recs.length
    · rw [List.getElem?_append_left hj] at hy
      obtain ⟨B, m, c', h1, h2, h3⟩ := h.rd j y hy
      refine ⟨B, m, c', by rw [List.getElem?_append_left (by omega)]; exact h1, ?_, fun a ha => ?_⟩
      · have h20 := h2.keepN hka
        have h21 : RdB w1 B m y := h20.keep hkg fun _ a ha e => (h3 a ha).2.2 e.symm
        exact h21.keep hks fun _ a ha => (h3 a ha).2.1
      · obtain ⟨q1, q2, q3⟩ := h3 a ha
        refine ⟨.inl q1, q2, ?_⟩
        intro e
        simp [Value.ownBlock] at e
        rcases hor with ho | ho
        · exact q3 (by rw [ho, e])
        · have := h.old _ q1; omega
    · have hj' : j = L.recs.length := by
        have := (List.getElem?_eq_some_iff.1 hy).1
        simp at this; omega
      subst hj'
      rw [List.getElem?_append_right (Nat.le_refl _)] at hy
      simp at hy
      subst hy
      have hlt2 : ∀ a, A = some a → a.block < wa.heap.size := fun a ha => hr.old hn a ha
      refine ⟨A, n, c, by rw [List.getElem?_append_right (by omega)]; simp [hlen], ?_, fun a ha => ⟨.inr (.inr ⟨a, ha, rfl⟩), fun e => hA a ha (e ▸ hbF), ?_⟩⟩
      · have h21 : RdB w1 A n x := hr.keep hkg fun _ a ha e => hA a ha (h.row _ e.symm).1
        exact h21.keep hks fun _ a ha e => hA a ha (e ▸ hbF)
      · intro e
        simp [Value.ownBlock] at e
        rcases hor with ho | ho
        · exact hA a ha (e ▸ (h.row gg ho).1)
        · have := hlt2 a ha; omega
  · intro k hk
    have hs2 := hk2.size
    have hs1 := hkg.size
    have hsks := hks.size
    rcases hk with hk | hk | ⟨a, ha, rfl⟩
    · exact Nat.lt_of_lt_of_le (h.old k hk) hs2
    · omega
    · have := hr.old hn a ha; omega

theorem scan_next {H : List UInt8} {gen f p : Nat} {b : List UInt8} (hn : Wal.next H gen p = some b) (hf : H.length ≤ p + f) : Wal.scan H gen f p = (b :: (Wal.scan H gen f (p + 9 + b.length)).1, (Wal.scan H gen f (p + 9 + b.length)).2) := by
  have h9 := Wal.next_some hn
  rw [Wal.scan_fuel H gen f (f + 1) p hf (by omega)]
  simp only [Wal.scan, hn]
theorem scan_stop {H : List UInt8} {gen f p : Nat} (hn : Wal.next H gen p = none) : Wal.scan H gen f p = ([], p) := by
  cases f with
  | zero => rfl
  | succ f => simp [Wal.scan, hn]

/-- The answer of a scan. -/
def RetScan (w : World) (F : Nat → Prop) (b p g : Nat) (d : Dk) (L : Wal.Lg) (w' : World) : Prop := ∃ F', Wl w' F' b p g d L ∧ (∀ k, F' k → F k ∨ w.heap.size ≤ k) ∧ Keeps F w w'

set_option maxHeartbeats 2000000 in
set_option maxRecDepth 100000 in
theorem scan_any (F : Nat → Prop) (b p g : Nat) (d : Dk) (L : Wal.Lg) (hh : L.half ≤ 1) (hg : L.gen < 4294967296) (big : 512 ≤ Wal.hs d) (w : World) (hW : Wl w F b p g d L) (hup : d.down = false) :
    Calls Tryz.prog 74 #[.pointer (some ⟨b, 0, none⟩)] w fun e w' => e = .returned (.tuple #[]) ∧
      RetScan w F b p g d { L with fin := (Wal.scan (Wal.half d L.half) L.gen (Wal.hs d) 16).2, recs := (Wal.scan (Wal.half d L.half) L.gen (Wal.hs d) 16).1 } w' := by
  have hz := Wal.hs_le hW.disk.wf
  have hH := Wal.half_length (d := d) hh
  obtain ⟨v, vs, hl⟩ := hW.log
  have c3 := hl.cells.c3
  have c4 := hl.cells.c4
  have f3 := free hl.st 3
  have f4 := free hl.st 4
  obtain ⟨w1, hw1⟩ : ∃ w1, w1 = (w.setCell ⟨b, 3, none⟩ (.int .i64 16)).setCell ⟨b, 4, none⟩ (.slice none 0 0) := ⟨_, rfl⟩
  have hk1 : Keeps (fun k => k = b) w w1 := by rw [hw1]; exact ((Keeps.refl _ _).set1 _ _).set1 _ _
  have hl1 : LogAt' w1 F b p { L with fin := 16, recs := [] } (.slice none 0 0) [] := ⟨by rw [hw1]; exact setCell_row _ b 4 _ _ _ (setCell_row _ b 3 _ _ _ hl.st _) _, World.ownsRow_nil _ _ _ _, (fun g hg => by simp [Value.ownBlock] at hg), (fun j x hx => by simp at hx), hl.hb, fun k hk => Nat.lt_of_lt_of_le (hl.old k hk) hk1.size, by simp⟩
  have hkF1 : Keeps F w w1 := hk1.mono fun k _ h => by subst h; exact hl.hb
  obtain ⟨H, hHe⟩ : ∃ H, H = Wal.half d L.half := ⟨_, rfl⟩
  obtain ⟨R, hR⟩ : ∃ R, R = Wal.scan H L.gen (Wal.hs d) 16 := ⟨_, rfl⟩
  have HW := Lib.hid hw1
  have HH := Lib.hid hHe
  have HR := Lib.hid hR
  have Hlen : Hid (H.length = Wal.hs d) := by show _ = _; rw [hHe, hH]
  rw [← hHe, ← hR]
  clear hw1 hHe hR hH
  have hfp := hW.fp
  have hfg := hW.fg
  go_enter Tryz.func74, Tryz.ntmps74
  go_wp2
  rw [← HW.out]
  go_loopw [] (fun wr => ∃ (F' : Nat → Prop) (fin : Nat) (recs : List (List UInt8)) (v' : Value) (vs' : List Value), LogAt' wr F' b p { L with fin := fin, recs := recs } v' vs' ∧ (∀ k, F' k → F k ∨ w.heap.size ≤ k) ∧ Keeps F w wr ∧ 16 ≤ fin ∧ fin ≤ Wal.hs d ∧ recs.length * 10 ≤ fin ∧
    R = (recs ++ (Wal.scan H L.gen (Wal.hs d) fin).1, (Wal.scan H L.gen (Wal.hs d) fin).2)) (fun wr => Wal.hs d - (intOf ((wr.cell? ⟨b, 3, none⟩).getD (.int .i64 0))).toNat)
  case atStart => exact ⟨F, 16, [], _, _, hl1, (fun k h => .inl h), hkF1, Nat.le_refl _, by omega, by simp, by rw [HR.out]; rfl⟩
  case round =>
    obtain ⟨F', fin, recs, v', vs', hl', hF', hkF, h16, hfin, hmany, hR⟩ := hrel
    have e3 : wr.cell? ⟨b, 3, none⟩ = some (.int .i64 (fin : Int)) := hl'.cells.c3
    have hD := hW.disk.keep hkF hfp hfg
    have HX := Lib.hid hR
    have Hup := Lib.hid hup
    clear hR hup
    go_wp2_with fail
    refine (next_any b p g d { L with fin := fin, recs := recs } v' fin hh hg (by omega) wr hl'.cells hD Hup.out).mono ?_
    rintro e w2 ⟨A, n, c, ok, rfl, hk2, hno, hyes⟩
    have hno' : Wal.next H L.gen fin = none → ok = false := by rw [HH.out]; exact hno
    have hyes' : ∀ x, Wal.next H L.gen fin = some x → ok = true ∧ RdB w2 A n x ∧ (∀ a, A = some a → wr.heap.size ≤ a.block) ∧ n ≤ c ∧ c ≤ 9223372036854775807 := by rw [HH.out]; exact hyes
    clear hno hyes
    cases hn : Wal.next H L.gen fin with
    | none =>
      have hok := hno' hn
      subst hok
      have HE : Hid (R = (recs, fin)) := by show _ = _; rw [HX.out, scan_stop hn, List.append_nil]
      clear hn hno' hyes'
      go_wp2_with fail
      refine bodyPost_ret (results_none rfl _ _ _) rfl ?_
      refine ⟨rfl, ?_⟩
      rw [HE.out]
      exact ⟨F', ⟨hD.keep hk2 id id, ⟨v', vs', hl'.keep hk2 fun _ _ h => h⟩, fun h => by rcases hF' p h with h | h; exact hfp h; have := hW.disk.lt; omega, fun h => by rcases hF' g h with h | h; exact hfg h; have := hW.disk.lt; omega⟩, hF', hkF.trans (hk2.mono fun _ _ h => h.elim)⟩
    | some x =>
      obtain ⟨hok, hrx, hfr, hnc, hcm⟩ := hyes' x hn
      subst hok
      have h9 := Wal.next_some hn
      have hsn := scan_next hn (f := Wal.hs d) (by rw [Hlen.out]; omega)
      rw [Hlen.out] at h9
      have hnx : x.length = n := hrx.len
      have HE : Hid (R = ((recs ++ [x]) ++ (Wal.scan H L.gen (Wal.hs d) (fin + (9 + n))).1, (Wal.scan H L.gen (Wal.hs d) (fin + (9 + n))).2)) := by
        show _ = _; rw [HX.out, hsn, hnx, Nat.add_assoc]; simp
      rw [hnx] at h9
      clear hn hno' hyes' hsn HX hnx
      obtain ⟨i0, hi0, hz0, hs0, hb0⟩ := info_sl'
      have hl2 := hl'.keep hk2 fun _ _ h => h
      have hka : Keeps Non w2 (w2.alloc (.cells #[.slice A n c] 60)) := (Keeps.refl _ _).alloc _
      have hwz := hk2.size
      have hAF : ∀ a, A = some a → ¬ F' a.block := fun a ha hh => by have := hl'.old _ hh; have := hfr a ha; omega
      have hown0 : (w2.alloc (.cells #[.slice A n c] 60)).ownsRow 0 60 1 v' recs.length vs' := own_kept hl2.own hka fun _ _ h => h
      have e32 : w2.cell? ⟨b, 3, none⟩ = some (.int .i64 (fin : Int)) := hl2.cells.c3
      have e42 : w2.cell? ⟨b, 4, none⟩ = some v' := hl2.cells.c4
      have E3 := Lib.hid e3
      clear e3
      go_wp2_with (at_builtin; refine wpList_append_lies _ rfl _ _ _ rfl 0 60 i0 (.slice none 0 0) 1 24 Tryz.underlying79 hi0 hz0 hs0 hb0 rfl (by omega) v' recs.length vs' rfl hown0 ⟨w2.heap.size, 0, none⟩ 1 1 [.slice A n c] rfl rfl (World.news_of_block (heap_new _ _)) (fun u hu => by simp at hu; subst hu; rfl) (by omega) (by unfold maxLen; omega) (by omega) (Nat.zero_le _) (w2.heap.size + 1) (by simp) ?_; intro gg cap w5 hown hgrow hor hlt; have hpush := hl2.push (x := x) hka (hrx.keepN hka) (by omega) hAF hown hgrow (by rcases hor with h | h; exact .inl h; exact .inr (by simpa using h)) hlt (by show recs.length + 1 ≤ _; omega); have q5 := hl2.cells.keep ((hka.mono (T := fun k => some k = v'.ownBlock) fun _ _ h => h.elim).trans (Keeps.of_grown hgrow)) (fun e => (hl2.row b e.symm).2 rfl); have e35 : w5.cell? ⟨b, 3, none⟩ = some (.int .i64 (fin : Int)) := q5.c3; have e45 : w5.cell? ⟨b, 4, none⟩ = some v' := q5.c4; have hst5 : w5.heap[b]? = some _ := (Keeps.of_grown hgrow).at_ (hka.at_ hl2.st id) (fun e => (hl2.row b e.symm).2 rfl); have f45 := free hst5 4; have f35 := free hst5 3; have HO := Lib.hid hor; clear hown hgrow hor q5 hst5)
      have hturn := fun (w7 : World) (hk : Keeps (fun k => k = b) (w5.setCell ⟨b, 4, none⟩ (.slice (some ⟨gg, 0, none⟩) (recs.length + 1) cap)) w7) hst => hpush.1.turn (L' := { L with fin := fin + (9 + n), recs := recs ++ [x] }) hk hst rfl
      have hst6 := setCell_row _ b 3 _ _ _ hpush.1.st (.int .i64 ((fin + (9 + n) : Nat) : Int))
      have hk7 : Keeps (fun k => k = b) (w5.setCell ⟨b, 4, none⟩ (.slice (some ⟨gg, 0, none⟩) (recs.length + 1) cap)) ((w5.setCell ⟨b, 4, none⟩ (.slice (some ⟨gg, 0, none⟩) (recs.length + 1) cap)).setCell ⟨b, 3, none⟩ (.int .i64 ((fin + (9 + n) : Nat) : Int))) := (Keeps.refl _ _).set1 3 _
      have hl7 := hturn _ hk7 hst6
      have hkp := hpush.2
      have hF7 : ∀ k, More F' gg A k → F k ∨ w.heap.size ≤ k := by
        intro k hk
        have s1 := hkF.size
        rcases hk with hk | hk | ⟨a, ha, rfl⟩
        · exact hF' k hk
        · subst hk
          rcases HO.out with h | h
          · exact hF' _ (hl2.row _ h).1
          · right; omega
        · right; have := hfr a ha; omega
      have hkF7 : Keeps F w ((w5.setCell ⟨b, 4, none⟩ (.slice (some ⟨gg, 0, none⟩) (recs.length + 1) cap)).setCell ⟨b, 3, none⟩ (.int .i64 ((fin + (9 + n) : Nat) : Int))) :=
        ((hkF.trans (hk2.mono fun _ _ h => h.elim)).into hkp (fun k hk h => by rcases hF' k h with h | h; exact h; omega)).setCell (fun _ => hl.hb) _
      have H7 := Lib.hid hl7
      have K7 := Lib.hid hkF7
      clear hl7 hkF7 hst6 hk7 hturn hpush hkp
      go_wp2
      go_roundw
      case rel => exact ⟨More F' gg A, fin + (9 + n), recs ++ [x], _, _, H7.out, hF7, K7.out, by omega, by omega, by simp; omega, HE.out⟩
      case measure => go_simp; simp [intOf, E3.out]; omega
end Go.Proofs.YtbmamhcjbhnkiaaGreat
