/- Layer 8: the walk of Anew. -/
import Derived.Test.YtbmamhcjbhnkiaaGreatKyd
namespace Go.Proofs.YtbmamhcjbhnkiaaGreat
open Go.RowKit

theorem anew_down (F : Nat → Prop) (b p g : Nat) (d : Dk) (L : Wal.Lg) (A : Option Addr) (n c : Nat) (w : World) (hW : Wl w F b p g d L) (hd : L.dead = true ∨ d.down = true) :
    Calls Tryz.prog 40 #[.pointer (some ⟨b, 0, none⟩), .slice A n c] w (RetNo w F b p g d (L.die false) 20) := by
  go_enter Tryz.func40, Tryz.ntmps40
  go_wp2_with fail
  refine (alive_no F b p g d L w hW hd).mono ?_
  rintro e w1 ⟨rfl, hW1, hk1⟩
  go_wp2_with fail
  go_ret
  exact ⟨rfl, hW1, hk1⟩

theorem anew_no (F : Nat → Prop) (b p g : Nat) (d : Dk) (L : Wal.Lg) (A : Option Addr) (n c : Nat) (ls : List (List UInt8)) (big : 512 ≤ Wal.hs d) (hne : fitErr ls (Wal.hs d) ≠ 0) (w : World) (hW : Wl w F b p g d L) (hd : L.dead = false) (hup : d.down = false)
    (hr : RdLZ (fun k => k = p ∨ k = g ∨ F k) w A n ls) :
    Calls Tryz.prog 40 #[.pointer (some ⟨b, 0, none⟩), .slice A n c] w (RetNo w F b p g d L (fitErr ls (Wal.hs d))) := by
  have hbF := hW.hb
  obtain ⟨z, hz⟩ : ∃ z, z = fitErr ls (Wal.hs d) := ⟨_, rfl⟩
  rw [← hz] at hne ⊢
  have hb : (z != 0) = true := by rw [bne_iff_ne]; exact hne
  have HZ := Lib.hid hz
  clear hz hne
  go_enter Tryz.func40, Tryz.ntmps40
  go_wp2_with fail
  refine (alive_yes F b p g d L w hW hd hup).mono ?_
  rintro e w1 ⟨rfl, hW1, hk1⟩
  have hr1 := hr.keep (hk1.mono fun k _ h => .inr (.inr (h ▸ hbF)))
  go_wp2_with fail
  refine (fits_any F b p g d L A n c ls big w1 hW1 hr1.rdL).mono ?_
  rintro e w' ⟨rfl, rfl⟩
  rw [← HZ.out]
  go_wp2_with fail
  go_ret
  exact ⟨rfl, hW1, hk1⟩

theorem anew_full (F : Nat → Prop) (b p g : Nat) (d : Dk) (L : Wal.Lg) (A : Option Addr) (n c : Nat) (ls : List (List UInt8)) (big : 512 ≤ Wal.hs d) (h0 : fitErr ls (Wal.hs d) = 0) (hg : L.gen = 2147483647) (w : World) (hW : Wl w F b p g d L) (hd : L.dead = false) (hup : d.down = false)
    (hr : RdLZ (fun k => k = p ∨ k = g ∨ F k) w A n ls) :
    Calls Tryz.prog 40 #[.pointer (some ⟨b, 0, none⟩), .slice A n c] w (RetNo w F b p g d L 14) := by
  have hbF := hW.hb
  have HZ := Lib.hid h0
  clear h0
  go_enter Tryz.func40, Tryz.ntmps40
  go_wp2_with fail
  refine (alive_yes F b p g d L w hW hd hup).mono ?_
  rintro e w1 ⟨rfl, hW1, hk1⟩
  have hr1 := hr.keep (hk1.mono fun k _ h => .inr (.inr (h ▸ hbF)))
  obtain ⟨v1, vs1, hl1⟩ := hW1.log
  have c2 := hl1.cells.c2
  rw [hg] at c2
  have c2' : w1.cell? ⟨b, 2, none⟩ = some (.int .i64 2147483647) := c2
  clear c2 hg
  go_wp2_with fail
  refine (fits_any F b p g d L A n c ls big w1 hW1 hr1.rdL).mono ?_
  rintro e w' ⟨rfl, rfl⟩
  rw [HZ.out]
  go_wp2_with fail
  go_ret
  exact ⟨rfl, hW1, hk1⟩

set_option maxHeartbeats 8000000 in
set_option maxRecDepth 100000 in
theorem anew_do (F : Nat → Prop) (b p g : Nat) (d : Dk) (L : Wal.Lg) (A : Option Addr) (m c : Nat) (ls : List (List UInt8)) (hh : L.half ≤ 1) (big : 512 ≤ Wal.hs d) (hf : ∀ b ∈ ls, Wal.Fit b) (hc : 16 + Wal.cost ls ≤ Wal.hs d) (hg : L.gen + 1 ≤ 2147483647)
    (w : World) (hW : Wl w F b p g d L) (hd : L.dead = false) (hup : d.down = false) (hr : RdLZ (fun k => k = p ∨ k = g ∨ F k) w A m ls) :
    Calls Tryz.prog 40 #[.pointer (some ⟨b, 0, none⟩), .slice A m c] w (RetApp w F b p g L ⟨1 - L.half, L.gen + 1, 16 + Wal.cost ls, ls, false⟩ (Wal.anewW d (1 - L.half) (L.gen + 1) ls)) := by
  have hz := Wal.hs_le hW.disk.wf
  have hbF := hW.hb
  have hbp := hW.bp
  have HZ : Hid (fitErr ls (Wal.hs d) = 0) := by show _ = _; unfold fitErr; rw [if_pos (show ∀ b ∈ ls, 1 ≤ b.length ∧ b.length ≤ 65536 from hf), if_neg (by omega)]
  obtain ⟨o, ho⟩ : ∃ o, o = 1 - L.half := ⟨_, rfl⟩
  obtain ⟨gn, hgn⟩ : ∃ gn, gn = L.gen + 1 := ⟨_, rfl⟩
  have hw1 : IntKind.i64.wrap (1 - (L.half : Int)) = (o : Int) := by rw [IntKind.wrap_i64]; omega
  have hw2 : IntKind.i64.wrap ((L.gen : Int) + 1) = (gn : Int) := by rw [IntKind.wrap_i64]; omega
  have hne : ¬ ((L.gen : Int) = 2147483647) := by omega
  have hneb : ((L.gen : Int) == 2147483647) = false := by simpa using hne
  have ho1 : o ≤ 1 := by omega
  have hg32 : gn < 4294967296 := by omega
  rw [← ho, ← hgn]
  have hll : Hid ((Wal.laid gn 16 ls).length = Wal.cost ls) := Wal.laid_length gn ls 16
  obtain ⟨s, hs⟩ : ∃ s, s = Wal.cost ls := ⟨_, rfl⟩
  obtain ⟨all, hal⟩ : ∃ all, all = Wal.laid gn 16 ls := ⟨_, rfl⟩
  have hcl : Wal.cost ls ≤ 1048576 := by omega
  rw [← hal, ← hs] at hll
  have hs524 : 16 + s ≤ Wal.hs d := by omega
  obtain ⟨r, hrr⟩ : ∃ r, r = Wal.anewW d o gn ls := ⟨_, rfl⟩
  rw [← hrr]
  have HAL := Lib.hid hal
  have HS := Lib.hid hs
  -- the steps
  obtain ⟨r1, hr1⟩ : ∃ r1, r1 = Wal.wr d o 8 [0] := ⟨_, rfl⟩
  have hz1 : Wal.hs r1.1 = Wal.hs d := by rw [hr1]; unfold Wal.hs Wal.wr; rw [(hW.disk.wf.write _ _).2]
  have w1w := Wal.wr_wrote (b := [0]) (a := 8) hW.disk.wf hup ho1 (by simp; omega)
  rw [← hr1] at w1w
  have HR : Hid (r = Wal.andThen (Wal.andThen (Wal.andThen r1 fun d => Wal.clr d o 16) fun d => Wal.all3 d o gn ls) fun d => Wal.crown d o gn) := by show _ = _; rw [hrr, hr1]; rfl
  have Hr1 := Lib.hid hr1
  have Hd := Lib.hid hd
  have Hup := Lib.hid hup
  have hmr := hr.len
  have hmb : m ≤ 1048576 := by have := cost_ge ls hf; omega
  have Hmr := Lib.hid hmr
  have Hf := Lib.hid hf
  have Hcl := Lib.hid hcl
  have Hw1w := Lib.hid w1w
  have hkS : ∀ {w w' : World}, Keeps (fun k => k = b) w w' → Keeps (fun k => k = p ∨ k = g ∨ F k) w w' := fun hk => hk.mono fun k _ h => .inr (.inr (h ▸ hbF))
  have hkN : ∀ {w w' : World}, Keeps Non w w' → Keeps (fun k => k = p ∨ k = g ∨ F k) w w' := fun hk => hk.mono fun k _ h => h.elim
  have hkW : ∀ {w w' : World}, Keeps (fun k => k = p ∨ k = g ∨ k = b) w w' → Keeps (fun k => k = p ∨ k = g ∨ F k) w w' := fun hk => hk.mono fun k _ h => by rcases h with h | h | h; exact .inl h; exact .inr (.inl h); exact .inr (.inr (h ▸ hbF))
  clear hal hs hrr hr1 hd hup hmr hf hcl w1w hne ho hgn
  go_enter Tryz.func40, Tryz.ntmps40
  go_wp2_with fail
  refine (alive_yes F b p g d L w hW Hd.out Hup.out).mono ?_
  rintro e w1 ⟨rfl, hW1, hk1⟩
  have hr1' := hr.keep (hkS hk1)
  obtain ⟨v1, vs1, hl1⟩ := hW1.log
  have c1 := hl1.cells.c1
  have c2 := hl1.cells.c2
  have hk01 := hkS hk1
  clear hl1 hk1
  go_wp2_with fail
  refine (fits_any F b p g d L A m c ls big w1 hW1 hr1'.rdL).mono ?_
  rintro e w' ⟨rfl, rfl⟩
  rw [HZ.out]
  go_wp2_with fail
  go_region
  have hW2 := hW1.keepN ((Keeps.refl _ _).drew)
  have hr2 := hr1'.keep ((Keeps.refl _ w1).drew)
  have hk02 := hk01.trans ((Keeps.refl _ _).drew)
  clear c1 c2 hW1 hr1' hk01
  obtain ⟨w2, hw2e⟩ : ∃ w2, w2 = w1.drew := ⟨_, rfl⟩
  rw [← hw2e] at hW2 hr2 hk02
  have HW2 := Lib.hid hw2e
  clear hw2e
  go_wp2_with fail
  rw [← HW2.out]
  refine (laid_any gn hg32 A m c ls Hf.out Hcl.out w2 hr2.rdL).mono ?_
  rintro e w3 ⟨u, rfl, hu, hk3⟩
  rw [← HAL.out, hll.out] at hu
  obtain ⟨Au, cu, rfl, hru, hbu, hnu, hcu⟩ := own_rdB hu (by omega)
  have hfru : ∀ a, Au = some a → w2.heap.size ≤ a.block := fun a ha => own_ge hu _ (hbu a ha)
  have hW3 := hW2.keepN hk3
  have hr3 := hr2.keep (hkN hk3)
  have hk03 := hk02.trans (hkN hk3)
  have hkB : Keeps Non w3 (w3.alloc (.cells #[.int .u8 0] 5)) := (Keeps.refl _ _).alloc _
  have hrB : RdB (w3.alloc (.cells #[.int .u8 0] 5)) (some ⟨w3.heap.size, 0, none⟩) 1 [0] := RdB.of_whole (heap_new _ _) rfl rfl (by decide)
  have Hlw := Lib.hid (lwrite_any F b p g d L o 8 ho1 _ 1 1 [0] (by simp; omega) _ (hW3.keepN hkB) Hd.out hrB (Nat.le_refl _))
  have hs03 := hk03.size
  have hs2 := hk02.size
  -- what the bytes that are laid lie apart from
  have hofF : ∀ a, Au = some a → ¬ (a.block = p ∨ a.block = g ∨ F a.block) := fun a ha h => by
    have q1 := hfru a ha
    have q2 := hW2.disk.lt
    rcases h with h | h | h
    · omega
    · omega
    · have := hW2.old _ h; omega
  have hk0B := hk03.trans (hkN hkB)
  have hr4 := hr3.keep (hkN hkB)
  have hru4 := hru.keepN hkB
  clear hkB hrB hu hru hW3 hr3 hk03 hW2 hr2 hk02
  go_wp2_with fail
  refine Hlw.out.mono ?_
  rintro e w4 ⟨rfl, hW4, hk4⟩
  rw [← Hr1.out] at hW4 ⊢
  have hk04 := hk0B.trans (hkW hk4)
  have hr5 := hr4.keep (hkW hk4)
  have hru5 := hru4.keep (hkW hk4) fun _ a ha => hofF a ha
  clear Hlw hk0B hr4 hru4 hk4
  cases hok1 : r1.2 with
  | false =>
    rw [hok1] at hW4
    have HE : Hid (r = (r1.1, false)) := by show _ = _; rw [HR.out, Wal.andThen_no hok1, Wal.andThen_no hok1, Wal.andThen_no hok1]; exact Prod.ext rfl hok1
    go_wp2_with fail
    go_ret
    rw [HE.out]
    exact ⟨.inr ⟨rfl, rfl, hW4⟩, hk04⟩
  | true =>
    rw [hok1, die_true Hd.out] at hW4
    obtain ⟨r2, hr2⟩ : ∃ r2, r2 = Wal.clr r1.1 o 16 := ⟨_, rfl⟩
    have HR2 : Hid (r = Wal.andThen (Wal.andThen r2 fun d => Wal.all3 d o gn ls) fun d => Wal.crown d o gn) := by show _ = _; rw [HR.out, Wal.andThen_yes hok1, hr2]
    have hup1 : r1.1.down = false := by rw [Hw1w.out.up, hok1]; rfl
    have hlen1 : (Wal.half r1.1 o).length = Wal.hs d := by rw [Wal.half_length ho1, hz1]
    have hA16 : ((Wal.half r1.1 o).take 16).length = 16 := by simp; omega
    have hclr := Wal.clr_wrote (A := (Wal.half r1.1 o).take 16) (T := (Wal.half r1.1 o).drop 16) Hw1w.out.wf hup1 ho1 (by simp)
    rw [hA16, ← hr2] at hclr
    obtain ⟨q1, q2, q3, _, _, _, _⟩ := hclr
    have hz2 : Wal.hs r2.1 = Wal.hs d := by rw [← hz1]; unfold Wal.hs; rw [q2]
    have Hq1 := Lib.hid q1
    have Hq3 := Lib.hid q3
    have Hr2 := Lib.hid hr2
    have Hup1 := Lib.hid hup1
    clear HR hr2 hlen1 hA16 q1 q2 q3 hup1
    go_wp2_with fail
    refine (clear_any F b p g r1.1 L o 16 ho1 (by rw [hz1]; omega) w4 hW4 Hd.out Hup1.out).mono ?_
    rintro e w5 ⟨rfl, hW5, hk5⟩
    rw [← Hr2.out] at hW5 ⊢
    have hk05 := hk04.trans (hkW hk5)
    have hr6 := hr5.keep (hkW hk5)
    have hru6 := hru5.keep (hkW hk5) fun _ a ha => hofF a ha
    clear hk04 hr5 hru5 hW4 hk5
    cases hok2 : r2.2 with
    | false =>
      rw [hok2] at hW5
      have HE : Hid (r = (r2.1, false)) := by show _ = _; rw [HR2.out, Wal.andThen_no hok2, Wal.andThen_no hok2]; exact Prod.ext rfl hok2
      go_wp2_with fail
      go_ret
      rw [HE.out]
      exact ⟨.inr ⟨rfl, rfl, hW5⟩, hk05⟩
    | true =>
      rw [hok2, die_true Hd.out] at hW5
      obtain ⟨r3, hr3⟩ : ∃ r3, r3 = Wal.all3 r2.1 o gn ls := ⟨_, rfl⟩
      have HR3 : Hid (r = Wal.andThen r3 fun d => Wal.crown d o gn) := by show _ = _; rw [HR2.out, Wal.andThen_yes hok2, hr3]
      have Hr3 : Hid (r3 = if all = [] then (r2.1, true) else Wal.wr r2.1 o 16 all) := by show _ = _; rw [hr3, HAL.out]; rfl
      have Hnil : Hid (s = 0 → all = []) := fun h => List.eq_nil_of_length_eq_zero (by rw [hll.out, h])
      have hup2 : Hid (r2.1.down = false) := by show _ = _; rw [Hq3.out, hok2]; rfl
      clear hr3 HR2
      have hcases : ¬ (0 < s) ∨ 0 < s := by omega
      rcases hcases with hs0 | hs0
      rotate_left
      -- something is laid
      have hal : ¬ all = [] := fun h => by have := hll.out; rw [h] at this; simp at this; omega
      have hE3 : Hid (r3 = Wal.wr r2.1 o 16 all) := by show _ = _; rw [Hr3.out, if_neg hal]
      have hz3 : Wal.hs r3.1 = Wal.hs d := by rw [hE3.out, ← hz2]; unfold Wal.hs Wal.wr; rw [(Hq1.out.write _ _).2]
      clear hal Hr3
      go_wp2_with fail
      refine (lwrite_any F b p g r2.1 L o 16 ho1 Au s cu all (by rw [hll.out, hz2]; exact hs524) w5 hW5 Hd.out hru6 hnu).mono ?_
      rintro e w6 ⟨rfl, hW6, hk6⟩
      rw [← hE3.out] at hW6 ⊢
      have hk06 := hk05.trans (hkW hk6)
      have hr7 := hr6.keep (hkW hk6)
      clear hE3 hW5 hk6 hk05 hr6 hru6
      cases hok3 : r3.2
      case false =>
        rw [hok3] at hW6
        have HE : Hid (r = (r3.1, false)) := by show _ = _; rw [HR3.out, Wal.andThen_no hok3]; exact Prod.ext rfl hok3
        go_wp2_with fail
        go_ret
        rw [HE.out]
        exact ⟨.inr ⟨rfl, rfl, hW6⟩, hk06⟩
      rw [hok3, die_true Hd.out] at hW6
      go_wp2_with fail
      rotate_left
      -- nothing is laid
      have hE3 : r3 = (r2.1, true) := by rw [Hr3.out, if_pos (Hnil.out (by omega))]
      have hz3 : Wal.hs r3.1 = Wal.hs d := by rw [hE3]; exact hz2
      have hW6 : Wl w5 F b p g r3.1 L := by rw [hE3]; exact hW5
      have hok3 : r3.2 = true := by rw [hE3]
      clear hE3 hW5 Hr3
      have hk06 := hk05
      have hr7 := hr6
      obtain ⟨w6, hw6⟩ : ∃ w6, w6 = w5 := ⟨_, rfl⟩
      rw [← hw6] at hW6 hk06 hr7 ⊢
      clear hw6 hk05 hr6 hru6
      go_wp2_with fail
      all_goals
        clear Hnil
        obtain ⟨r4, hr4⟩ : ∃ r4, r4 = Wal.crown r3.1 o gn := ⟨_, rfl⟩
        have HR4 : Hid (r = r4) := by show _ = _; rw [HR3.out, Wal.andThen_yes hok3, hr4]
        have Hr4 := Lib.hid hr4
        clear hr4 HR3 hok3 hok2 hok1
        refine (crown_any F b p g r3.1 L o gn ho1 hg32 (by rw [hz3]; exact big) w6 hW6 Hd.out).mono ?_
        rintro e w7 ⟨rfl, hW7, hk7⟩
        rw [← Hr4.out] at hW7 ⊢
        have hk07 := hk06.trans (hkW hk7)
        have hr8 := hr7.keep (hkW hk7)
        clear hW6 hk7 hk06 hr7
        cases hok4 : r4.2 with
        | false =>
          rw [hok4] at hW7
          have HE : Hid (r = (r4.1, false)) := by show _ = _; rw [HR4.out]; exact Prod.ext rfl hok4
          go_wp2_with fail
          go_ret
          rw [HE.out]
          exact ⟨.inr ⟨rfl, rfl, hW7⟩, hk07⟩
        | true =>
          rw [hok4, die_true Hd.out] at hW7
          obtain ⟨v7, vs7, hl7⟩ := hW7.log
          have c71 := hl7.cells.c1
          have c72 := hl7.cells.c2
          have c73 := hl7.cells.c3
          have c74 := hl7.cells.c4
          have f71 := free hl7.st 1
          have f72 := free hl7.st 2
          have f73 := free hl7.st 3
          have f74 := free hl7.st 4
          obtain ⟨w8, hw8⟩ : ∃ w8, w8 = (((w7.setCell ⟨b, 1, none⟩ (.int .i64 (o : Int))).setCell ⟨b, 2, none⟩ (.int .i64 (gn : Int))).setCell ⟨b, 3, none⟩ (.int .i64 (16 + (s : Int)))).setCell ⟨b, 4, none⟩ (.slice none 0 0) := ⟨_, rfl⟩
          have hk8 : Keeps (fun k => k = b) w7 w8 := by rw [hw8]; exact ((((Keeps.refl _ _).set1 _ _).set1 _ _).set1 _ _).set1 _ _
          have hdd := Hd.out
          have hfs : (((16 + s : Nat)) : Int) = 16 + (s : Int) := by omega
          have hl8 : LogAt' w8 F b p ⟨o, gn, 16 + s, [], false⟩ (.slice none 0 0) [] :=
            ⟨by show w8.heap[b]? = some (.cells #[_, .int .i64 (o : Int), .int .i64 (gn : Int), .int .i64 (((16 + s : Nat)) : Int), _, .bool false] _ _)
                rw [hfs, hw8, ← hdd]
                exact setCell_row _ b 4 _ _ _ (setCell_row _ b 3 _ _ _ (setCell_row _ b 2 _ _ _ (setCell_row _ b 1 _ _ _ hl7.st _) _) _) _,
              World.ownsRow_nil _ _ _ _, (fun g hg => by simp [Value.ownBlock] at hg), (fun j x hx => by simp at hx), hbF, fun k hk => Nat.lt_of_lt_of_le (hl7.old k hk) hk8.size, by simp⟩
          have hk08 := hk07.trans (hkS hk8)
          have hr9 := hr8.keep (hkS hk8)
          have hD8 : DiskAt w8 p g r4.1 := hW7.disk.keep hk8 (fun e => hbp.1 e.symm) (fun e => hbp.2 e.symm)
          have hfp := hW7.fp
          have hfg := hW7.fg
          have hpg := hW.disk.lt
          have H8 := Lib.hid hw8
          clear hw8 hl7 hk8 hfs hdd hk07 hr8 hW7
          go_wp2
          rw [← H8.out]
          go_loopw [86] (fun i wr => ∃ (k : Nat) (F' : Nat → Prop) (v' : Value) (vs' : List Value), k ≤ m ∧ i = .int .i64 k ∧ LogAt' wr F' b p ⟨o, gn, 16 + s, ls.take k, false⟩ v' vs' ∧ (∀ k, F' k → F k ∨ w8.heap.size ≤ k) ∧ Keeps (fun k => k = p ∨ k = g ∨ F k) w8 wr ∧ DiskAt wr p g r4.1) (fun i _ => m - (intOf i).toNat)
          case atStart => exact ⟨0, F, _, _, Nat.zero_le _, rfl, by simpa using hl8, (fun k h => .inl h), Keeps.refl _ _, hD8⟩
          case round =>
            obtain ⟨k, F', v', vs', hk, rfl, hl', hF', hkr, hDr⟩ := hrel
            by_cases hlt : k < m
            · obtain ⟨bb, off, Aj, nj, cj, rfl, hck, hrk, -, -, -⟩ := (hr9.keep hkr).at_ k hlt
              have hlen : k < ls.length := by rw [Hmr.out]; exact hlt
              have hF1 := Hf.out ls[k] (List.getElem_mem _)
              have hn1 : 1 ≤ nj := by rw [← hrk.len]; exact hF1.1
              have hn2 : nj ≤ 65536 := by rw [← hrk.len]; exact hF1.2
              have hsn : ls.take (k + 1) = ls.take k ++ [ls[k]] := List.take_succ_eq_append_getElem hlen
              have hkl : (ls.take k).length = k := by rw [List.length_take]; omega
              obtain ⟨x, hx⟩ : ∃ x, x = ls[k] := ⟨_, rfl⟩
              rw [← hx] at hsn hrk
              have Hsn := Lib.hid hsn
              have Hkl := Lib.hid hkl
              have hxn := hrk.len
              have Hxn := Lib.hid hxn
              obtain ⟨i0, hi0, hz0, hsz0, hb0⟩ := info_sl'
              have hlD := hl'.keep ((Keeps.refl Non wr).drew) (fun _ _ h => h)
              have hrD := hrk.keepN ((Keeps.refl Non wr).drew)
              have c4D : wr.drew.cell? ⟨b, 4, none⟩ = some v' := hlD.cells.c4
              have hfacts : ∀ w8 : World, Keeps Non wr.drew w8 → w8.cell? ⟨b, 4, none⟩ = some v' := fun w8 hk => hk.cell c4D id
              clear hx hF1 hsn hkl hxn hrk
              go_wp2_with fail
              go_region_law (first
                | (refine step_append_lies _ (by rfl) _ _ _ (by rfl) 0 60 i0 (.slice none 0 0) 1 24 Tryz.underlying79 hi0 hz0 hsz0 hb0 rfl (by omega) v' k vs' (by rfl) hownA ⟨w10.heap.size, 0, none⟩ 1 1 [.slice Ax nj cx] (by rfl) rfl (World.news_of_block (heap_new _ _)) (fun u hu => by simp at hu; subst hu; rfl) (by omega) (by unfold maxLen; omega) (by omega) (Nat.zero_le _) (w10.heap.size + 1) (by simp) ?_; intro gg cap w11 hown hgrow hor hlt11; have hpush := hl10.push (x := x) ((Keeps.refl Non _).alloc _) (hrx.keepN ((Keeps.refl Non _).alloc _)) (by omega) (fun a ha hF => (by have := hlD.old _ hF; have := hAx a ha; omega)) (by rw [Hkl.out]; exact hown) hgrow (by rcases hor with h | h; exact .inl h; exact .inr (by simpa using h)) hlt11 (by rw [Hkl.out]; omega); have hkg : Keeps (fun k => some k = v'.ownBlock) w10 w11 := (((Keeps.refl Non _).alloc _).mono (fun _ _ h => h.elim)).trans (Keeps.of_grown hgrow); have q11 := hl10.cells.keep hkg (fun e => (hl10.row b e.symm).2 rfl); have e4 : w11.cell? ⟨b, 4, none⟩ = some v' := q11.c4; have hst11 : w11.heap[b]? = some _ := hkg.at_ hl10.st (fun e => (hl10.row b e.symm).2 rfl); have f4 := free hst11 4; have HO := Lib.hid hor; clear hown hgrow hor q11 hst11)
                | (go_simp; go_at_call 43; refine (clone_own Aj nj cj x _ hrD).mono ?_; rintro e w10 ⟨u, rfl, hu, hk10⟩; rw [Hxn.out] at hu; obtain ⟨Ax, cx, rfl, hrx, hbx, hnx, hcx⟩ := own_rdB hu (by omega); have hAx : ∀ a, Ax = some a → wr.drew.heap.size ≤ a.block := (fun a ha => own_ge hu _ (hbx a ha)); have c410 := hfacts w10 hk10; have c411 := hfacts (w10.alloc (.cells #[.slice Ax nj cx] 60)) (hk10.alloc _); have hl10 := hlD.keep hk10 (fun _ _ h => h); have hownA0 : (w10.alloc (.cells #[.slice Ax nj cx] 60)).ownsRow 0 60 1 v' (ls.take k).length vs' := own_kept hl10.own ((Keeps.refl Non _).alloc _) (fun _ _ h => h); have hownA : (w10.alloc (.cells #[.slice Ax nj cx] 60)).ownsRow 0 60 1 v' k vs' := (by rw [Hkl.out] at hownA0; exact hownA0); clear hownA0))
              all_goals
                rw [Hkl.out] at hpush
                have hl12 : ∃ v vs, LogAt' (w11.setCell ⟨b, 4, none⟩ (.slice (some ⟨gg, 0, none⟩) (k + 1) cap)) (More F' gg Ax) b p ⟨o, gn, 16 + s, ls.take (k + 1), false⟩ v vs := by
                  rw [Hsn.out]
                  exact ⟨_, _, hpush.1⟩
                have hs8r := hkr.size
                have hs78 := hk08.size
                have hM12 : ∀ j, More F' gg Ax j → F j ∨ w8.heap.size ≤ j := by
                  intro j hj
                  have s2 := hk10.size
                  have s3 : wr.drew.heap.size = wr.heap.size := rfl
                  rcases hj with hj | hj | ⟨a, ha, rfl⟩
                  · exact hF' j hj
                  · subst hj
                    rcases HO.out with h | h
                    · exact hF' _ (hl10.row _ h).1
                    · right; omega
                  · right; have := hAx a ha; omega
                have hk1r : Keeps F' wr (w11.setCell ⟨b, 4, none⟩ (.slice (some ⟨gg, 0, none⟩) (k + 1) cap)) := (((Keeps.refl Non wr).drew).trans hk10 |>.mono (T := F') fun _ _ h => h.elim).trans hpush.2
                have hk12 : Keeps (fun k => k = p ∨ k = g ∨ F k) w8 (w11.setCell ⟨b, 4, none⟩ (.slice (some ⟨gg, 0, none⟩) (k + 1) cap)) :=
                  hkr.into hk1r (fun j hj h => by
                    rcases hF' j h with h | h
                    · exact .inr (.inr h)
                    · omega)
                have hnp : ¬ F' p := fun h => by rcases hF' p h with h | h; exact hfp h; omega
                have hng : ¬ F' g := fun h => by rcases hF' g h with h | h; exact hfg h; omega
                have hD12 := hDr.keep hk1r hnp hng
                obtain ⟨v12, vs12, hl12⟩ := hl12
                have H12 := Lib.hid hl12
                have K12 := Lib.hid hk12
                have D12 := Lib.hid hD12
                clear hl12 hk12 hD12 hk1r hpush hkg
                go_wp2
                go_roundw
                case rel => exact ⟨k + 1, More F' gg Ax, v12, vs12, by omega, by go_num, H12.out, hM12, K12.out, D12.out⟩
                case measure => simp [intOf]; omega
            · obtain rfl : k = m := by omega
              have H3 : Hid (ls.take k = ls) := by show ls.take k = ls; rw [List.take_of_length_le (by rw [Hmr.out]; omega)]
              have hs780 := hk08.size
              have hnp : ¬ F' p := fun h => by rcases hF' p h with h | h; exact hfp h; omega
              have hng : ¬ F' g := fun h => by rcases hF' g h with h | h; exact hfg h; omega
              have hWr : Wl wr F' b p g r4.1 ⟨o, gn, 16 + Wal.cost ls, ls, false⟩ := by
                rw [H3.out] at hl'
                rw [← HS.out]
                exact ⟨hDr, ⟨v', vs', hl'⟩, hnp, hng⟩
              have hs78 := hk08.size
              have hkw := hk08.trans hkr
              have HWr := Lib.hid hWr
              clear hl' hWr
              go_wp2
              go_ret
              rw [HR4.out]
              exact ⟨.inl ⟨hok4, rfl, F', HWr.out, fun k hk => by rcases hF' k hk with h | h; exact .inl h; right; omega⟩, hkw⟩
end Go.Proofs.YtbmamhcjbhnkiaaGreat
