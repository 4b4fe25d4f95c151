/- Layer 8: the walks of the log's methods that write. -/
import Derived.Test.YtbmamhcjbhnkiaaGreatKwv
namespace Go.Proofs.YtbmamhcjbhnkiaaGreat
open Go.RowKit

def Wal.Lg.die (L : Wal.Lg) (ok : Bool) : Wal.Lg := { L with dead := !ok }
theorem die_true {L : Wal.Lg} (h : L.dead = false) : L.die true = L := by cases L; simp at h; subst h; rfl
theorem die_die (L : Wal.Lg) (a b : Bool) : (L.die a).die b = L.die b := rfl

/-- The log's struct has turned, its records not. -/
theorem LogAt'.turn {F : Nat → Prop} {w w' : World} {b p : Nat} {L L' : Wal.Lg} {v : Value} {vs : List Value} (h : LogAt' w F b p L v vs) (hk : Keeps (fun k => k = b) w w')
    (hst : w'.heap[b]? = some (.cells #[.pointer (some ⟨p, 0, none⟩), .int .i64 (L'.half : Int), .int .i64 (L'.gen : Int), .int .i64 (L'.fin : Int), v, .bool L'.dead] 102 (0, 0))) (hrec : L'.recs = L.recs) : LogAt' w' F b p L' v vs :=
  ⟨hst, by rw [hrec]; exact own_kept h.own hk fun g hg => (h.row g hg).2, h.row, fun j x hx => by
    rw [hrec] at hx
    obtain ⟨A, n, c, h1, h2, h3⟩ := h.rd j x hx
    exact ⟨A, n, c, h1, h2.keep hk fun _ a ha => (h3 a ha).2.1, h3⟩, h.hb, fun k hk' => Nat.lt_of_lt_of_le (h.old k hk') hk.size, by rw [hrec]; exact h.many⟩
theorem Wl.turn {F : Nat → Prop} {w w' : World} {b p g : Nat} {d : Dk} {L L' : Wal.Lg} {v : Value} {vs : List Value} (hW : Wl w F b p g d L) (h : LogAt' w F b p L v vs) (hk : Keeps (fun k => k = b) w w')
    (hst : w'.heap[b]? = some (.cells #[.pointer (some ⟨p, 0, none⟩), .int .i64 (L'.half : Int), .int .i64 (L'.gen : Int), .int .i64 (L'.fin : Int), v, .bool L'.dead] 102 (0, 0))) (hrec : L'.recs = L.recs) : Wl w' F b p g d L' :=
  ⟨hW.disk.keep hk (fun e => hW.bp.1 e.symm) (fun e => hW.bp.2 e.symm), ⟨v, vs, h.turn hk hst hrec⟩, hW.fp, hW.fg⟩

/-- The answer of a write: was it done? -/
def RetW (w : World) (F : Nat → Prop) (b p g : Nat) (L : Wal.Lg) (r : Dk × Bool) (e : Ending) (w' : World) : Prop :=
  e = .returned (.bool r.2) ∧ Wl w' F b p g r.1 (L.die r.2) ∧ Keeps (fun k => k = p ∨ k = g ∨ k = b) w w'

set_option maxRecDepth 100000 in
theorem lwrite_any (F : Nat → Prop) (b p g : Nat) (d : Dk) (L : Wal.Lg) (h a : Nat) (hh : h ≤ 1) (A : Option Addr) (n c : Nat) (l : List UInt8) (han : a + l.length ≤ Wal.hs d) (w : World) (hW : Wl w F b p g d L) (hd : L.dead = false)
    (hr : RdB w A n l) (hnc : n ≤ c) :
    Calls Tryz.prog 59 #[.pointer (some ⟨b, 0, none⟩), .int .i64 (h : Int), .int .i64 (a : Int), .slice A n c] w (RetW w F b p g L (Wal.wr d h a l)) := by
  have hz := Wal.hs_le hW.disk.wf
  have hbp := hW.bp
  obtain ⟨v, vs, hl⟩ := hW.log
  have c0 : w.drew.cell? ⟨b, 0, none⟩ = some (.pointer (some ⟨p, 0, none⟩)) := hl.cells.c0
  have c5 : w.drew.cell? ⟨b, 5, none⟩ = some (.bool false) := by have := hl.cells.c5; rw [hd] at this; exact this
  have hD : DiskAt w.drew p g d := hW.disk.keep (S := Non) ((Keeps.refl _ _).drew) id id
  have hr' : RdB w.drew A n l := hr.keepN ((Keeps.refl _ _).drew)
  obtain ⟨x, hx⟩ : ∃ x, x = h * Wal.hs d + a := ⟨_, rfl⟩
  have HX := Lib.hid hx
  have hxl : x ≤ 9223372036854775807 := by
    have h01 : h = 0 ∨ h = 1 := by omega
    rcases h01 with rfl | rfl <;> omega
  unfold Wal.wr
  rw [← hx]
  clear hx
  have hnS : ∀ k, (k = b) → ¬ (k = p ∨ k = g) := fun k hk h => by subst hk; rcases h with h | h; exact hbp.1 h; exact hbp.2 h
  by_cases he : d.writeErr (x : Int) l = 0
  · have HE := Lib.hid he
    rw [he]
    clear he
    go_enter Tryz.func59, Tryz.ntmps59
    go_wp2_with fail
    go_region_held3 (fun w' => w'.cell? ⟨b, 0, none⟩ = some (.pointer (some ⟨p, 0, none⟩)) ∧ w'.cell? ⟨b, 5, none⟩ = some (.bool false)) (first | exact ⟨c0, c5⟩ | exact ⟨hk1.cell c0 (hnS _ rfl), hk1.cell c5 (hnS _ rfl)⟩) (first
      | (go_at_call 78; refine (place_any b p g d h a hh (by omega) _ c0 hD).mono ?_; rintro e w' ⟨rfl, rfl⟩; rw [← HX.out])
      | (go_at_call 77; refine (write_any' p g d x A n c l (by omega) (by omega) _ hD hr' hnc).mono ?_; rintro e w1 ⟨rfl, hD1, hk1⟩; rw [HE.out]))
    all_goals
      have hkw : Keeps (fun k => k = p ∨ k = g) w w1 := ((Keeps.refl _ _).drew).trans hk1
      have c51 := hk1.cell c5 (hnS _ rfl)
      go_wp2_with fail
      go_ret
      refine ⟨rfl, ?_, hkw.mono fun k _ h => by rcases h with h | h; exact .inl h; exact .inr (.inl h)⟩
      show Wl w1 F b p g (d.write (x : Int) l) (L.die true)
      rw [die_true hd]
      exact ⟨hD1, ⟨v, vs, hl.keep hkw fun k hF h => by rcases h with h | h; exact hW.fp (h ▸ hF); exact hW.fg (h ▸ hF)⟩, hW.fp, hW.fg⟩
  · have hb : (d.writeErr (x : Int) l != 0) = true := by rw [bne_iff_ne]; exact he
    have HE : Hid (decide (d.writeErr (x : Int) l = 0) = false) := by show _ = _; simpa using he
    rw [HE.out]
    clear he
    go_enter Tryz.func59, Tryz.ntmps59
    go_wp2_with fail
    go_region_held3 (fun w' => w'.cell? ⟨b, 0, none⟩ = some (.pointer (some ⟨p, 0, none⟩)) ∧ w'.cell? ⟨b, 5, none⟩ = some (.bool false)) (first | exact ⟨c0, c5⟩ | exact ⟨hk1.cell c0 (hnS _ rfl), hk1.cell c5 (hnS _ rfl)⟩) (first
      | (go_at_call 78; refine (place_any b p g d h a hh (by omega) _ c0 hD).mono ?_; rintro e w' ⟨rfl, rfl⟩; rw [← HX.out])
      | (go_at_call 77; refine (write_any' p g d x A n c l (by omega) (by omega) _ hD hr' hnc).mono ?_; rintro e w1 ⟨rfl, hD1, hk1⟩))
    all_goals
      have hkw : Keeps (fun k => k = p ∨ k = g) w w1 := ((Keeps.refl _ _).drew).trans hk1
      have hW1 : Wl w1 F b p g (d.write (x : Int) l) L := ⟨hD1, ⟨v, vs, hl.keep hkw fun k hF h => by rcases h with h | h; exact hW.fp (h ▸ hF); exact hW.fg (h ▸ hF)⟩, hW.fp, hW.fg⟩
      have hl1 := hl.keep hkw fun k hF h => by rcases h with h | h; exact hW.fp (h ▸ hF); exact hW.fg (h ▸ hF)
      have f5 := free hl1.st 5
      go_wp2_with fail
      go_ret
      refine ⟨rfl, hW1.turn hl1 ((Keeps.refl _ _).set1 5 _) (setCell_row _ b 5 _ _ _ hl1.st _) rfl, ?_⟩
      exact (hkw.mono fun k _ h => by rcases h with h | h; exact .inl h; exact .inr (.inl h)).setCell (fun _ => .inr (.inr rfl)) _
set_option maxRecDepth 100000 in
theorem clear_any (F : Nat → Prop) (b p g : Nat) (d : Dk) (L : Wal.Lg) (h a : Nat) (hh : h ≤ 1) (ha : a ≤ Wal.hs d) (w : World) (hW : Wl w F b p g d L) (hd : L.dead = false) (hup : d.down = false) :
    Calls Tryz.prog 63 #[.pointer (some ⟨b, 0, none⟩), .int .i64 (h : Int), .int .i64 (a : Int)] w (RetW w F b p g L (Wal.clr d h a)) := by
  have hz := Wal.hs_le hW.disk.wf
  obtain ⟨v, vs, hl⟩ := hW.log
  have c0 := hl.cells.c0
  have c5 := hl.cells.c5
  rw [hd] at c5
  have Hd := Lib.hid hd
  obtain ⟨n, hn⟩ : ∃ n, n = Wal.hs d - a := ⟨_, rfl⟩
  have hnI : (Wal.hs d : Int) - (a : Int) = (n : Int) := by omega
  have HN := Lib.hid hn
  have Hup := Lib.hid hup
  clear hd hup
  by_cases hzr : Wal.slc (Wal.half d h) a n = zeros n
  · have HR : Hid (Wal.clr d h a = (d, true)) := by show _ = _; unfold Wal.clr; rw [← HN.out, if_pos hzr]
    have HZ : Hid (decide (Wal.slc (Wal.half d h) a n ≠ zeros n) = false) := by show _ = _; simp [hzr]
    rw [HR.out]
    clear hzr hn
    go_enter Tryz.func63, Tryz.ntmps63
    go_wp2_with fail
    refine (lsize_any b p g d w c0 hW.disk).mono ?_
    rintro e w' ⟨rfl, rfl⟩
    go_wp2_with fail
    refine (lread_any b p g d h a n hh (by have := HN.out; omega) w c0 hW.disk Hup.out).mono ?_
    rintro e w1 ⟨A, c, rfl, hrd, -, hnc, hcm, hk1⟩
    have c51 := hk1.cell c5 id
    go_wp2_with fail
    refine (contains_any A n c _ w1 hrd).mono ?_
    rintro e w' ⟨rfl, rfl⟩
    rw [HZ.out]
    go_wp2_with fail
    go_ret
    refine ⟨rfl, ?_, hk1.mono fun _ _ h => h.elim⟩
    show Wl w1 F b p g d (L.die true)
    rw [die_true Hd.out]
    exact hW.keepN hk1
  · have HR : Hid (Wal.clr d h a = Wal.wr d h a (zeros n)) := by show _ = _; unfold Wal.clr; rw [← HN.out, if_neg hzr]
    have HZ : Hid (decide (Wal.slc (Wal.half d h) a n ≠ zeros n) = true) := by show _ = _; simp [hzr]
    have hmk := make_zeros n (by omega)
    rw [HR.out]
    clear hzr hn
    go_enter Tryz.func63, Tryz.ntmps63
    go_wp2_with fail
    refine (lsize_any b p g d w c0 hW.disk).mono ?_
    rintro e w' ⟨rfl, rfl⟩
    go_wp2_with fail
    refine (lread_any b p g d h a n hh (by have := HN.out; omega) w c0 hW.disk Hup.out).mono ?_
    rintro e w1 ⟨A, c, rfl, hrd, -, hnc, hcm, hk1⟩
    have hW1 := hW.keepN hk1
    go_wp2_with fail
    refine (contains_any A n c _ w1 hrd).mono ?_
    rintro e w' ⟨rfl, rfl⟩
    rw [HZ.out]
    clear hrd
    go_wp2_with fail
    have hz2 := heap_zeros w1 n
    have hk2 : Keeps Non w1 (w1.alloc (.cells ((zeros n).map bv).toArray 5)) := (Keeps.refl _ _).alloc _
    have hr2 := row_rdB (n := n) hz2 (zeros_length n) (by omega)
    refine (lwrite_any F b p g d L h a hh _ n n (zeros n) (by rw [zeros_length]; have := HN.out; omega) _ (hW1.keepN hk2) Hd.out hr2 (Nat.le_refl _)).mono ?_
    rintro e w3 ⟨rfl, hW3, hk3⟩
    have hkw := (hk1.trans hk2)
    have hkw3 : Keeps (fun k => k = p ∨ k = g ∨ k = b) w w3 := (hkw.mono (T := fun k => k = p ∨ k = g ∨ k = b) fun _ _ h => h.elim).trans hk3
    clear hz2 hk2 hr2 hkw hk3
    go_wp2_with fail
    go_ret
    exact ⟨rfl, hW3, hkw3⟩

/-- A call that was done, and then another one of the same log. -/
theorem RetW.trans {w w1 w2 : World} {F : Nat → Prop} {b p g : Nat} {L : Wal.Lg} {r r' : Dk × Bool} {e : Ending} (hL : L.dead = false) (hk : Keeps (fun k => k = p ∨ k = g ∨ k = b) w w1) (h : RetW w1 F b p g L r' e w2) : RetW w F b p g L r' e w2 :=
  ⟨h.1, h.2.1, hk.trans h.2.2⟩

set_option maxHeartbeats 2000000 in
set_option maxRecDepth 100000 in
theorem crown_any (F : Nat → Prop) (b p g : Nat) (d : Dk) (L : Wal.Lg) (h gen : Nat) (hh : h ≤ 1) (hg : gen < 4294967296) (big : 512 ≤ Wal.hs d) (w : World) (hW : Wl w F b p g d L) (hd : L.dead = false) :
    Calls Tryz.prog 64 #[.pointer (some ⟨b, 0, none⟩), .int .i64 (h : Int), .int .i64 (gen : Int)] w (RetW w F b p g L (Wal.crown d h gen)) := by
  have hmk : ∀ W : World, (Instr.makeSlice 60 (.int .i64 16) (.int .i64 16)).run Tryz.prog W = .ok (.slice (some ⟨W.heap.size, 0, none⟩) 16 16) (W.alloc (.cells ((zeros 16).map bv).toArray 5)) := make_zeros 16 (by omega)
  have Hd := Lib.hid hd
  obtain ⟨r, hr⟩ : ∃ r, r = Wal.crown d h gen := ⟨_, rfl⟩
  rw [← hr]
  have HR : Hid (r = Wal.andThen (Wal.wr d h 0 (Wal.head0 gen)) fun d => Wal.wr d h 8 [1]) := hr
  clear hr
  obtain ⟨l8, hl8⟩ : ∃ l8, l8 = Crc.four gen ++ Crc.four (Crc.sum (Crc.four gen)) := ⟨_, rfl⟩
  have hS : Hid (([Crc.four gen, Crc.four (Crc.sum (Crc.four gen))] : List (List UInt8)).flatten = l8) := by show _ = _; rw [hl8]; simp
  have hlen8 : Hid (l8.length = 8) := by show _ = _; rw [hl8]; simp [Crc.four_length]
  have hP : Hid (Dk.put (zeros 16) 0 (l8.take 16) = Wal.head0 gen) := by
    show _ = _
    rw [hl8]
    rw [List.take_of_length_le (by simp [Crc.four_length])]
    simp [Dk.put, Wal.head0, zeros, Crc.four_length]
  clear hd hl8
  go_enter Tryz.func64, Tryz.ntmps64
  go_wp2_with fail
  have hz1 := heap_zeros w 16
  have hk1 : Keeps Non w (w.alloc (.cells ((zeros 16).map bv).toArray 5)) := (Keeps.refl _ _).alloc _
  obtain ⟨w1, hw1⟩ : ∃ w1, w1 = w.alloc (.cells ((zeros 16).map bv).toArray 5) := ⟨_, rfl⟩
  rw [← hw1] at hz1 hk1 ⊢
  have hs1 : w1.heap.size = w.heap.size + 1 := by rw [hw1]; simp
  have Hs1 := Lib.hid hs1
  clear hw1 hs1
  refine (bytes_any gen hg w1).mono ?_
  rintro e w2 ⟨rfl, h2, k2, -⟩
  go_wp2_with fail
  refine (bytes_any gen hg w2).mono ?_
  rintro e w3 ⟨rfl, h3, k3, -⟩
  have r2 := (rd_four h2).keepN k3
  have r3 := rd_four h3
  have hk4 : Keeps Non w3 (w3.alloc (.cells #[.slice (some ⟨w2.heap.size, 0, none⟩) 4 4] 60)) := (Keeps.refl _ _).alloc _
  have Hsum := Lib.hid (sum_one (some ⟨w2.heap.size, 0, none⟩) 4 4 w3.heap.size 1 (Crc.four gen) _ _ _ (heap_new w3 (.cells #[.slice (some ⟨w2.heap.size, 0, none⟩) 4 4] 60)) (r3.keepN hk4))
  have k13 := k2.trans k3
  clear h2 h3 r3
  go_wp2_with fail
  refine Hsum.out.mono ?_
  rintro e w5 ⟨rfl, k5⟩
  have hlt : Crc.sum (Crc.four gen) < 4294967296 := Crc.sum_lt _
  have k15 := (k13.trans hk4).trans k5
  have r2' := (r2.keepN hk4).keepN k5
  clear Hsum hk4 k5 r2 k2 k3 k13
  go_wp2_with fail
  refine (put_k _ hlt w5).mono ?_
  rintro e w6 ⟨rfl, h6, k6, -⟩
  have r6 := rd_four h6
  have k16 := k15.trans k6
  have hk7 : Keeps Non w6 (w6.alloc (.cells #[.slice (some ⟨w1.heap.size, 0, none⟩) 4 4, .slice (some ⟨w5.heap.size, 0, none⟩) 4 4] 60)) := (Keeps.refl _ _).alloc _
  have HL := Lib.hid (RdL.two (heap_new w6 (.cells #[.slice (some ⟨w1.heap.size, 0, none⟩) 4 4, .slice (some ⟨w5.heap.size, 0, none⟩) 4 4] 60)) ((r2'.keepN k6).keepN hk7) (r6.keepN hk7))
  have k17 := k16.trans hk7
  clear h6 r6 r2' k6 hk7 k15 k16
  go_wp2_with fail
  refine (concat_any _ 2 _ _ _ HL.out (by rw [hS.out, hlen8.out]; omega)).mono ?_
  rintro e w8 ⟨u, rfl, hown, k8⟩
  rw [hS.out, hlen8.out] at hown
  have k18 := k17.trans k8
  obtain ⟨A, c, rfl, hrA, hblk, hnc, hcm⟩ := own_rdB hown (by omega)
  have hz8 := k18.at_ hz1 id
  obtain ⟨w9, hcp, hg9, hk9⟩ := run_copy_bytes w8 3 (some ⟨w.heap.size, 0, none⟩) w.heap.size 0 16 16 (zeros 16) [] hz8 A _ c _ hrA (fun _ => rfl) (by rw [zeros_length]; omega)
  rw [hP.out] at hg9
  have hsz := hk1.size
  have hk19 : Keeps (fun k => k = w.heap.size) w w9 := ((hk1.trans k18).mono fun _ _ h => h.elim).trans hk9
  have hk19' : Keeps Non w w9 := hk19.mono fun k hk h => by show False; omega
  have hW9 := hW.keepN hk19'
  have hr9 := row_rdB (n := 16) hg9 (Wal.head0_length gen) (by omega)
  clear HL k8 k17 hown hz8 hrA hblk hz1 hg9 hk9 hk19 hk1 k18 hsz
  go_wp2_with fail
  refine (lwrite_any F b p g d L h 0 hh _ 16 16 (Wal.head0 gen) (by rw [Wal.head0_length]; omega) w9 hW9 Hd.out hr9 (Nat.le_refl _)).mono ?_
  rintro e wA ⟨rfl, hWA, hkA⟩
  have hkwA : Keeps (fun k => k = p ∨ k = g ∨ k = b) w wA := (hk19'.mono fun _ _ h => h.elim).trans hkA
  obtain ⟨w1r, hw1r⟩ : ∃ x, x = Wal.wr d h 0 (Wal.head0 gen) := ⟨_, rfl⟩
  have hlen1 : Wal.hs w1r.1 = Wal.hs d := by
    rw [hw1r]; unfold Wal.hs Wal.wr; rw [(hW.disk.wf.write _ _).2]
  rw [← hw1r] at HR hWA ⊢
  clear hw1r hcp hr9 hW9
  cases hok : w1r.2 with
  | false =>
    rw [hok] at hWA
    have HR2 : Hid (r = (w1r.1, false)) := by show _ = _; rw [HR.out, Wal.andThen_no hok]; exact Prod.ext rfl hok
    go_wp2_with fail
    go_ret
    rw [HR2.out]
    exact ⟨rfl, hWA, hkwA⟩
  | true =>
    rw [hok] at hWA
    have HR2 : Hid (r = Wal.wr w1r.1 h 8 [1]) := by show _ = _; rw [HR.out, Wal.andThen_yes hok]
    rw [die_true Hd.out] at hWA
    have hkB : Keeps Non wA (wA.alloc (.cells #[.int .u8 1] 5)) := (Keeps.refl _ _).alloc _
    have hrB : RdB (wA.alloc (.cells #[.int .u8 1] 5)) (some ⟨wA.heap.size, 0, none⟩) 1 [1] := RdB.of_whole (heap_new _ _) rfl rfl (by decide)
    have Hlw := Lib.hid (lwrite_any F b p g w1r.1 L h 8 hh _ 1 1 [1] (by rw [hlen1]; simp; omega) _ (hWA.keepN hkB) Hd.out hrB (Nat.le_refl _))
    have hkwB := hkwA.trans (hkB.mono (T := fun k => k = p ∨ k = g ∨ k = b) fun _ _ h => h.elim)
    clear hkB hrB
    go_wp2_with fail
    refine Hlw.out.mono ?_
    rintro e wC ⟨rfl, hWC, hkC⟩
    have hkwC := hkwB.trans hkC
    go_wp2_with fail
    go_ret
    rw [HR2.out]
    exact ⟨rfl, hWC, hkwC⟩
end Go.Proofs.YtbmamhcjbhnkiaaGreat