/- Layer 8: the walks of a half's generation and of the record at a place. -/
import Derived.Test.YtbmamhcjbhnkiaaGreatKwu
namespace Go.Proofs.YtbmamhcjbhnkiaaGreat
open Go.RowKit

theorem genOf_slc {H : List UInt8} (h : 16 ≤ H.length) : Wal.genOf H = Wal.genOf (Wal.slc H 0 16) := by
  have e : H = Wal.slc H 0 16 ++ H.drop 16 := by simp [Wal.slc]
  have := Wal.genOf_pre (P := Wal.slc H 0 16) (H.drop 16) (Wal.slc_length (by omega))
  rw [← e] at this
  exact this
theorem genOf_case {l : List UInt8} {x : UInt8} (hx : l[8]? = some x) : Wal.genOf l = if x ≠ 1 ∨ Crc.get (Wal.slc l 4 4) ≠ Crc.sum (l.take 4) ∨ 2147483647 < Crc.get (l.take 4) then 0 else Crc.get (l.take 4) := by
  have e : Wal.slc l 0 4 = l.take 4 := by simp [Wal.slc]
  unfold Wal.genOf
  rw [hx, e]
  simp

set_option maxRecDepth 100000 in
theorem generation_any (b p g : Nat) (d : Dk) (h : Nat) (hh : h ≤ 1) (big : 512 ≤ Wal.hs d) (w : World) (c0 : w.cell? ⟨b, 0, none⟩ = some (.pointer (some ⟨p, 0, none⟩))) (hD : DiskAt w p g d) (hup : d.down = false) :
    Calls Tryz.prog 49 #[.pointer (some ⟨b, 0, none⟩), .int .i64 (h : Int)] w fun e w' => e = .returned (.int .i64 (Wal.genOf (Wal.half d h) : Int)) ∧ Keeps Non w w' := by
  have hH := Wal.half_length (d := d) hh
  rw [genOf_slc (by omega)]
  obtain ⟨l, hl⟩ : ∃ l, l = Wal.slc (Wal.half d h) 0 16 := ⟨_, rfl⟩
  rw [← hl]
  have HL := Lib.hid hl
  have Hup := Lib.hid hup
  clear hup hH hl
  go_enter Tryz.func49, Tryz.ntmps49
  go_wp2_with fail
  refine (lread_any b p g d h 0 16 hh (by omega) w c0 hD Hup.out).mono ?_
  rintro e w1 ⟨A, c, rfl, hrd, hfr, hnc, hcm, hk1⟩
  rw [← HL.out] at hrd
  obtain ⟨x8, hx8⟩ : ∃ x, l[8]? = some x := ⟨_, List.getElem?_eq_getElem (by rw [hrd.len]; omega)⟩
  have HC := Lib.hid (genOf_case hx8)
  obtain ⟨bb, off, rfl, hcell⟩ := hrd.cells (by omega)
  have e8 := hcell 8 x8 hx8
  have hr4 := hrd.take (show 4 ≤ 16 by omega)
  have hs4 := hrd.sub (show 4 + 4 ≤ 16 by omega)
  have hn4 := Crc.get_lt (l.take 4) hr4.len
  clear hcell hfr hx8
  go_wp2_with fail
  refine (number_any _ 16 c l w1 hrd (by omega) hnc hcm).mono ?_
  rintro e w' ⟨rfl, rfl⟩
  go_wp2_with fail
  refine (get_yes _ _ _ w1 hs4).mono ?_
  rintro e w' ⟨rfl, rfl⟩
  by_cases h8 : x8 = 1
  · subst h8
    have hg := hr4.keepN ((Keeps.refl Non w1).alloc (.cells #[.slice (some ⟨bb, off, none⟩) 4 c] 60))
    have hk2 : Keeps Non w (w1.alloc (.cells #[.slice (some ⟨bb, off, none⟩) 4 c] 60)) := hk1.alloc _
    by_cases hs : Crc.get (Wal.slc l 4 4) = Crc.sum (l.take 4)
    · rw [hs] at HC ⊢
      have HR : Hid (Wal.genOf l = if 2147483647 < Crc.get (l.take 4) then 0 else Crc.get (l.take 4)) := by show _ = _; rw [HC.out]; simp
      clear HC hs
      have hsum := sum_one (some ⟨bb, off, none⟩) 4 c w1.heap.size 1 (l.take 4) _ _ _ (heap_new w1 (.cells #[.slice (some ⟨bb, off, none⟩) 4 c] 60)) hg
      have Hsum := Lib.hid hsum
      clear hsum hg
      generalize Crc.sum (l.take 4) = s at *
      generalize Crc.get (l.take 4) = n at *
      by_cases hn : 2147483647 < n
      · rw [if_pos hn] at HR
        go_wp2_with fail
        refine Hsum.out.mono ?_
        rintro e w3 ⟨rfl, hk3⟩
        have hkw := hk2.trans hk3
        go_wp2_with fail
        go_ret
        exact ⟨ret_int (by rw [HR.out]; rfl), hkw⟩
      · rw [if_neg hn] at HR
        go_wp2_with fail
        refine Hsum.out.mono ?_
        rintro e w3 ⟨rfl, hk3⟩
        have hkw := hk2.trans hk3
        go_wp2_with fail
        go_ret
        exact ⟨ret_int (by rw [HR.out]), hkw⟩
    · have HR : Hid (Wal.genOf l = 0) := by show _ = _; rw [HC.out, if_pos (.inr (.inl hs))]
      have hne : ((Crc.get (Wal.slc l 4 4) : Int) != (Crc.sum (l.take 4) : Int)) = true := by rw [bne_iff_ne]; omega
      have hsum := sum_one (some ⟨bb, off, none⟩) 4 c w1.heap.size 1 (l.take 4) _ _ _ (heap_new w1 (.cells #[.slice (some ⟨bb, off, none⟩) 4 c] 60)) hg
      have Hsum := Lib.hid hsum
      clear hsum hg HC hs
      go_wp2_with fail
      refine Hsum.out.mono ?_
      rintro e w3 ⟨rfl, hk3⟩
      have hkw := hk2.trans hk3
      go_wp2_with fail
      go_ret
      exact ⟨ret_int (by rw [HR.out]; rfl), hkw⟩
  · have HR : Hid (Wal.genOf l = 0) := by show _ = _; rw [HC.out, if_pos (.inl h8)]
    have hne : ((x8.toNat : Int) != 1) = true := by
      rw [bne_iff_ne]
      intro hh
      exact h8 (UInt8.toNat_inj.1 (by show x8.toNat = 1; omega))
    clear HC h8
    go_wp2_with fail
    go_ret
    exact ⟨ret_int (by rw [HR.out]; rfl), hk1⟩
theorem next_case {H f : List UInt8} {gen a : Nat} (h9 : a + 9 ≤ H.length) (hf : f = Wal.slc H a 9) {x : UInt8} (hx : f[8]? = some x) :
    Wal.next H gen a = if Crc.get (f.take 4) < 1 ∨ 65536 < Crc.get (f.take 4) ∨ H.length < a + 9 + Crc.get (f.take 4) ∨ x ≠ 1 then none
      else if Crc.four (Wal.sumOf gen a (Wal.slc H (a + 9) (Crc.get (f.take 4)))) = Wal.slc f 4 4 then some (Wal.slc H (a + 9) (Crc.get (f.take 4))) else none := by
  have e4 : f.take 4 = Wal.slc H a 4 := by rw [hf]; simp [Wal.slc, List.take_take]
  have e44 : Wal.slc f 4 4 = Wal.slc H (a + 4) 4 := by rw [hf, Wal.slc_slc (by omega)]
  have e8 : H[a + 8]? = some x := by rw [← hx, hf, Wal.slc_get (by omega)]
  rw [e4, e44]
  unfold Wal.next
  rw [if_neg (by omega), e8]
  simp

/-- The record at a place, if it is there. -/
def RetNext (w : World) (o : Option (List UInt8)) (e : Ending) (w' : World) : Prop := ∃ A n c ok, e = .returned (.tuple #[.slice A n c, .bool ok]) ∧ Keeps Non w w' ∧ (o = none → ok = false) ∧
  ∀ x, o = some x → ok = true ∧ RdB w' A n x ∧ (∀ a, A = some a → w.heap.size ≤ a.block) ∧ n ≤ c ∧ c ≤ 9223372036854775807
theorem RetNext.no {w w' : World} {o : Option (List UInt8)} {A : Option Addr} {n c : Nat} (ho : o = none) (hk : Keeps Non w w') : RetNext w o (.returned (.tuple #[.slice A n c, .bool false])) w' :=
  ⟨A, n, c, false, rfl, hk, fun _ => rfl, fun x hx => by rw [ho] at hx; cases hx⟩

set_option maxHeartbeats 2000000 in
set_option maxRecDepth 100000 in
theorem next_any (b p g : Nat) (d : Dk) (L : Wal.Lg) (v : Value) (a : Nat) (hh : L.half ≤ 1) (hg : L.gen < 4294967296) (ha : a ≤ 1048576) (w : World) (C : LogC w b p L v) (hD : DiskAt w p g d) (hup : d.down = false) :
    Calls Tryz.prog 101 #[.pointer (some ⟨b, 0, none⟩), .int .i64 (a : Int)] w (RetNext w (Wal.next (Wal.half d L.half) L.gen a)) := by
  have hz := Wal.hs_le hD.wf
  have hH := Wal.half_length (d := d) hh
  have c0 := C.c0
  have c1 := C.c1
  have c2 := C.c2
  have Hup := Lib.hid hup
  clear hup
  by_cases h9 : Wal.hs d < a + 9
  · have HN : Hid (Wal.next (Wal.half d L.half) L.gen a = none) := by show _ = _; unfold Wal.next; rw [if_pos (by omega)]
    clear hH
    go_enter Tryz.func101, Tryz.ntmps101
    go_wp2_with fail
    refine (lsize_any b p g d w c0 hD).mono ?_
    rintro e w' ⟨rfl, rfl⟩
    go_wp2_with fail
    go_ret2
    exact RetNext.no HN.out (Keeps.refl _ _)
  · obtain ⟨f, hf⟩ : ∃ f, f = Wal.slc (Wal.half d L.half) a 9 := ⟨_, rfl⟩
    have hfl : f.length = 9 := by rw [hf, Wal.slc_length (by omega)]
    obtain ⟨x8, hx8⟩ : ∃ x, f[8]? = some x := ⟨_, List.getElem?_eq_getElem (by omega)⟩
    have HC := Lib.hid (next_case (gen := L.gen) (show a + 9 ≤ (Wal.half d L.half).length by omega) hf hx8)
    rw [hH] at HC
    rw [HC.out]
    have HF := Lib.hid hf
    have hn4 := Crc.get_lt (f.take 4) (by rw [List.length_take]; omega)
    clear hf HC hH
    obtain ⟨n, hn⟩ : ∃ n, n = Crc.get (f.take 4) := ⟨_, rfl⟩
    rw [← hn] at hn4 ⊢
    have Hn := Lib.hid hn
    clear hn
    by_cases hbad : n < 1 ∨ 65536 < n ∨ Wal.hs d < a + 9 + n ∨ x8 ≠ 1
    · rw [if_pos hbad]
      have hcases : n < 1 ∨ (¬ n < 1 ∧ 65536 < n) ∨ (¬ n < 1 ∧ ¬ 65536 < n ∧ Wal.hs d < a + 9 + n) ∨ (¬ n < 1 ∧ ¬ 65536 < n ∧ ¬ Wal.hs d < a + 9 + n ∧ ((x8.toNat : Int) != 1) = true) := by
        by_cases q1 : n < 1
        · exact .inl q1
        · by_cases q2 : 65536 < n
          · exact .inr (.inl ⟨q1, q2⟩)
          · by_cases q3 : Wal.hs d < a + 9 + n
            · exact .inr (.inr (.inl ⟨q1, q2, q3⟩))
            · refine .inr (.inr (.inr ⟨q1, q2, q3, ?_⟩))
              have q4 : x8 ≠ 1 := by
                rcases hbad with h | h | h | h
                · exact (q1 h).elim
                · exact (q2 h).elim
                · exact (q3 h).elim
                · exact h
              rw [bne_iff_ne]
              intro hh
              exact q4 (UInt8.toNat_inj.1 (by show x8.toNat = 1; omega))
      clear hbad
      rcases hcases with q1 | ⟨q1, q2⟩ | ⟨q1, q2, q3⟩ | ⟨q1, q2, q3, q4⟩
      all_goals
        go_enter Tryz.func101, Tryz.ntmps101
        go_wp2_with fail
        refine (lsize_any b p g d w c0 hD).mono ?_
        rintro e w' ⟨rfl, rfl⟩
        go_wp2_with fail
        refine (lread_any b p g d L.half a 9 hh (by omega) w c0 hD Hup.out).mono ?_
        rintro e w1 ⟨A, c, rfl, hrd, -, hnc, hcm, hk1⟩
        rw [← HF.out] at hrd
        obtain ⟨bb, off, rfl, hcell⟩ := hrd.cells (by omega)
        have e8 := hcell 8 x8 hx8
        have c0' := hk1.cell c0 id
        have hD' := hD.keep hk1 id id
        clear hcell
        go_wp2_with fail
        refine (number_any _ 9 c f w1 hrd (by omega) hnc hcm).mono ?_
        rintro e w' ⟨rfl, rfl⟩
        rw [← Hn.out]
        go_wp2_with fail
        try
          refine (lsize_any b p g d w1 c0' hD').mono ?_
          rintro e w' ⟨rfl, rfl⟩
          go_wp2_with fail
        go_ret2
        exact RetNext.no rfl hk1
    · rw [if_neg hbad]
      have q1 : ¬ n < 1 := fun h => hbad (.inl h)
      have q2 : ¬ 65536 < n := fun h => hbad (.inr (.inl h))
      have q3 : ¬ Wal.hs d < a + 9 + n := fun h => hbad (.inr (.inr (.inl h)))
      have q4 : x8 = 1 := Decidable.not_not.1 fun h => hbad (.inr (.inr (.inr h)))
      subst q4
      clear hbad
      obtain ⟨bd, hbd⟩ : ∃ bd, bd = Wal.slc (Wal.half d L.half) (a + 9) n := ⟨_, rfl⟩
      rw [← hbd]
      have HB := Lib.hid hbd
      obtain ⟨o, ho⟩ : ∃ o, o = (if Crc.four (Wal.sumOf L.gen a bd) = Wal.slc f 4 4 then some bd else none) := ⟨_, rfl⟩
      rw [← ho]
      have HO := Lib.hid ho
      clear hbd ho
      go_enter Tryz.func101, Tryz.ntmps101
      go_wp2_with fail
      refine (lsize_any b p g d w c0 hD).mono ?_
      rintro e w' ⟨rfl, rfl⟩
      go_wp2_with fail
      refine (lread_any b p g d L.half a 9 hh (by omega) w c0 hD Hup.out).mono ?_
      rintro e w1 ⟨A, c, rfl, hrd, -, hnc, hcm, hk1⟩
      rw [← HF.out] at hrd
      obtain ⟨bb, off, rfl, hcell⟩ := hrd.cells (by omega)
      have e8 := hcell 8 1 hx8
      have c0' := hk1.cell c0 id
      have c1' := hk1.cell c1 id
      have hD' := hD.keep hk1 id id
      clear hcell
      go_wp2_with fail
      refine (number_any _ 9 c f w1 hrd (by omega) hnc hcm).mono ?_
      rintro e w' ⟨rfl, rfl⟩
      rw [← Hn.out]
      go_wp2_with fail
      refine (lsize_any b p g d w1 c0' hD').mono ?_
      rintro e w' ⟨rfl, rfl⟩
      go_wp2_with fail
      refine (lread_any b p g d L.half (a + 9) n hh (by omega) w1 c0' hD' Hup.out).mono ?_
      rintro e w2 ⟨B, cB, rfl, hrB, hfB, hnB, hcB, hk2⟩
      rw [← HB.out] at hrB
      have hk12 := hk1.trans hk2
      have c2' : w2.drew.cell? ⟨b, 2, none⟩ = some (.int .i64 (L.gen : Int)) := hk12.cell c2 id
      have hrB' : RdB w2.drew B n bd := hrB.keepN ((Keeps.refl _ _).drew)
      have hf' : RdB w2.drew (some ⟨bb, off + 4, none⟩) 4 (Wal.slc f 4 4) := ((hrd.sub (by omega)).keepN hk2).keepN ((Keeps.refl _ _).drew)
      have hz1 := hk1.size
      have hfB' : ∀ a, B = some a → w.heap.size ≤ a.block := fun a ha => Nat.le_trans hz1 (hfB a ha)
      have hk2d : Keeps Non w w2.drew := hk12.drew
      have hc4 : ¬ c = 4 := by omega
      have hc8 : (8 : Int) ≤ (c : Int) := by omega
      clear hrd hrB hfB e8 c0' c1' hD' hk1 hk2 hk12 hz1
      go_wp2_with fail
      go_region_held3 (fun w' => w'.cell? ⟨b, 2, none⟩ = some (.int .i64 (L.gen : Int))) (first | exact c2' | exact hk5.cell c2' id) (first
        | (go_at_call 81; refine (wsum_any L.gen a hg (by omega) B n cB bd (by omega) _ hrB').mono ?_; rintro e w5 ⟨q, rfl, r5, hq5, hk5⟩)
        | (go_at_call 113; refine (equal_any _ _ 4 4 _ _ _ _ _ r5 (hf'.keepN hk5)).mono ?_; rintro e w6 ⟨rfl, qq, rfl⟩))
      all_goals
        have hkw := hk2d.trans (hk5.drewN qq)
        have hrE := (hrB'.keepN hk5).keepN ((Keeps.refl _ _).drewN qq)
        go_wp2_with fail
        go_ret2
        rw [HO.out]
        by_cases hE : Crc.four (Wal.sumOf L.gen a bd) = Wal.slc f 4 4
        · rw [if_pos hE]
          exact ⟨B, n, cB, _, rfl, hkw, (fun h => by cases h), fun x hx => by cases hx; exact ⟨by simp [hE], hrE, hfB', hnB, hcB⟩⟩
        · rw [if_neg hE]
          exact ⟨B, n, cB, _, rfl, hkw, (fun _ => by simp [hE]), fun x hx => by cases hx⟩
end Go.Proofs.YtbmamhcjbhnkiaaGreat
