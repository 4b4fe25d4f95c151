/- Layer 8: the walks of fresh, found and Open. -/
import Derived.Test.YtbmamhcjbhnkiaaGreatKwx
namespace Go.Proofs.YtbmamhcjbhnkiaaGreat
open Go.RowKit

set_option maxHeartbeats 2000000 in
set_option maxRecDepth 100000 in
theorem fresh_any (F : Nat → Prop) (b p g : Nat) (d : Dk) (L : Wal.Lg) (big : 512 ≤ Wal.hs d) (w : World) (hW : Wl w F b p g d L) (hd : L.dead = false) (hup : d.down = false) :
    Calls Tryz.prog 50 #[.pointer (some ⟨b, 0, none⟩)] w (RetW w F b p g { L with half := 0, gen := 1, fin := 16 } (Wal.andThen (Wal.clr d 0 0) fun d => Wal.crown d 0 1)) := by
  obtain ⟨v, vs, hl⟩ := hW.log
  have c1 := hl.cells.c1
  have c2 := hl.cells.c2
  have c3 := hl.cells.c3
  have f1 := free hl.st 1
  have f2 := free hl.st 2
  have f3 := free hl.st 3
  obtain ⟨w1, hw1⟩ : ∃ w1, w1 = ((w.setCell ⟨b, 1, none⟩ (.int .i64 0)).setCell ⟨b, 2, none⟩ (.int .i64 1)).setCell ⟨b, 3, none⟩ (.int .i64 16) := ⟨_, rfl⟩
  have hk1 : Keeps (fun k => k = b) w w1 := by rw [hw1]; exact (((Keeps.refl _ _).set1 _ _).set1 _ _).set1 _ _
  have hW1 : Wl w1 F b p g d { L with half := 0, gen := 1, fin := 16 } := hW.turn hl hk1 (by rw [hw1]; exact setCell_row _ b 3 _ _ _ (setCell_row _ b 2 _ _ _ (setCell_row _ b 1 _ _ _ hl.st _) _) _) rfl
  obtain ⟨L1, hL1⟩ : ∃ L1 : Wal.Lg, L1 = { L with half := 0, gen := 1, fin := 16 } := ⟨_, rfl⟩
  rw [← hL1] at hW1 ⊢
  have hd1 : L1.dead = false := by rw [hL1]; exact hd
  obtain ⟨r1, hr1⟩ : ∃ r1, r1 = Wal.clr d 0 0 := ⟨_, rfl⟩
  have hc := Wal.clr_wrote (A := []) (T := Wal.half d 0) hW.disk.wf hup (by omega) rfl
  rw [show ([] : List UInt8).length = 0 from rfl, ← hr1] at hc
  have hz1 : Wal.hs r1.1 = Wal.hs d := by unfold Wal.hs; rw [hc.2.1]
  obtain ⟨r, hr⟩ : ∃ r, r = Wal.andThen r1 fun d => Wal.crown d 0 1 := ⟨_, rfl⟩
  rw [← hr1, ← hr]
  have HR := Lib.hid hr
  have HR1 := Lib.hid hr1
  have HW := Lib.hid hw1
  have Hd := Lib.hid hd1
  have Hc := Lib.hid hc
  have hk1' : Keeps (fun k => k = p ∨ k = g ∨ k = b) w w1 := hk1.mono fun _ _ h => .inr (.inr h)
  clear hr hr1 hw1 hd hd1 hc hL1
  go_enter Tryz.func50, Tryz.ntmps50
  go_wp2_with fail
  rw [← HW.out]
  refine (clear_any F b p g d L1 0 0 (by omega) (by omega) w1 hW1 Hd.out hup).mono ?_
  rintro e w2 ⟨rfl, hW2, hk2⟩
  rw [← HR1.out] at hW2 ⊢
  have hk12 := hk1'.trans hk2
  cases hok : r1.2 with
  | false =>
    rw [hok] at hW2
    have HE : Hid (r = (r1.1, false)) := by show _ = _; rw [HR.out, Wal.andThen_no hok]; exact Prod.ext rfl hok
    go_wp2_with fail
    go_ret
    rw [HE.out]
    exact ⟨rfl, hW2, hk12⟩
  | true =>
    rw [hok, die_true Hd.out] at hW2
    have HE : Hid (r = Wal.crown r1.1 0 1) := by show _ = _; rw [HR.out, Wal.andThen_yes hok]
    go_wp2_with fail
    refine (crown_any F b p g r1.1 L1 0 1 (by omega) (by omega) (by rw [hz1]; exact big) w2 hW2 Hd.out).mono ?_
    rintro e w3 ⟨rfl, hW3, hk3⟩
    have hk13 := hk12.trans hk3
    go_wp2_with fail
    go_ret
    rw [HE.out]
    exact ⟨rfl, hW3, hk13⟩

/-- The answer of an opening's last step. -/
def RetF (w : World) (F : Nat → Prop) (b p g : Nat) (L : Wal.Lg) (r : Dk × Bool) (e : Ending) (w' : World) : Prop :=
  e = .returned (.bool r.2) ∧ ∃ F', Wl w' F' b p g r.1 (L.die r.2) ∧ (∀ k, F' k → F k ∨ w.heap.size ≤ k) ∧ Keeps (fun k => k = p ∨ k = g ∨ F k) w w'

set_option maxHeartbeats 2000000 in
set_option maxRecDepth 100000 in
theorem found_any (F : Nat → Prop) (b p g : Nat) (d : Dk) (L : Wal.Lg) (big : 512 ≤ Wal.hs d) (w : World) (hW : Wl w F b p g d L) (hd : L.dead = false) (hup : d.down = false) (h : Nat) (hh : h = Wal.pick d) :
    Calls Tryz.prog 51 #[.pointer (some ⟨b, 0, none⟩), .int .i64 (Wal.genOf (Wal.half d 0) : Int), .int .i64 (Wal.genOf (Wal.half d 1) : Int)] w
      (RetF w F b p g ⟨h, Wal.genOf (Wal.half d h), (Wal.scan (Wal.half d h) (Wal.genOf (Wal.half d h)) (Wal.hs d) 16).2, (Wal.scan (Wal.half d h) (Wal.genOf (Wal.half d h)) (Wal.hs d) 16).1, false⟩
        (Wal.clr d h (Wal.scan (Wal.half d h) (Wal.genOf (Wal.half d h)) (Wal.hs d) 16).2)) := by
  obtain ⟨v, vs, hl⟩ := hW.log
  have c1 := hl.cells.c1
  have c2 := hl.cells.c2
  have f1 := free hl.st 1
  have f2 := free hl.st 2
  have hga := Wal.genOf_le (Wal.half d 0)
  have hgb := Wal.genOf_le (Wal.half d 1)
  have hgh := Wal.genOf_le (Wal.half d h)
  have hbF := hW.hb
  have hbp := hW.bp
  have hcase : (¬ Wal.genOf (Wal.half d 0) < Wal.genOf (Wal.half d 1) ∧ h = 0) ∨ (Wal.genOf (Wal.half d 0) < Wal.genOf (Wal.half d 1) ∧ h = 1) := by
    unfold Wal.pick at hh
    split at hh
    · exact .inr ⟨by assumption, hh⟩
    · exact .inl ⟨by assumption, hh⟩
  have h1 : h ≤ 1 := by rcases hcase with ⟨_, h⟩ | ⟨_, h⟩ <;> omega
  have hlen := Wal.half_length (d := d) h1
  have hsl := Wal.scan_le (Wal.half d h) (Wal.genOf (Wal.half d h)) (Wal.hs d) 16 (by omega)
  rw [hlen] at hsl
  obtain ⟨ga, hga'⟩ : ∃ ga, ga = Wal.genOf (Wal.half d 0) := ⟨_, rfl⟩
  obtain ⟨gb, hgb'⟩ : ∃ gb, gb = Wal.genOf (Wal.half d 1) := ⟨_, rfl⟩
  obtain ⟨gh, hgh'⟩ : ∃ gh, gh = Wal.genOf (Wal.half d h) := ⟨_, rfl⟩
  rw [← hgh'] at hsl hgh ⊢
  obtain ⟨s, hs'⟩ : ∃ s, s = Wal.scan (Wal.half d h) gh (Wal.hs d) 16 := ⟨_, rfl⟩
  rw [← hs'] at hsl ⊢
  obtain ⟨r, hr⟩ : ∃ r, r = Wal.clr d h s.2 := ⟨_, rfl⟩
  rw [← hr, ← hga', ← hgb']
  rw [← hga', ← hgb'] at hcase
  rw [← hga'] at hga
  rw [← hgb'] at hgb
  have HR := Lib.hid hr
  have HS := Lib.hid hs'
  have Hdead := Lib.hid hd
  have hgc : (¬ ga < gb ∧ h = 0 ∧ gh = ga) ∨ (ga < gb ∧ h = 1 ∧ gh = gb) := by
    rcases hcase with ⟨q, rfl⟩ | ⟨q, rfl⟩
    · exact .inl ⟨q, rfl, by rw [hgh', hga']⟩
    · exact .inr ⟨q, rfl, by rw [hgh', hgb']⟩
  clear hr hs' hcase hga' hgb' hgh' hh hlen hd
  rcases hgc with ⟨hlt, rfl, rfl⟩ | ⟨hlt, rfl, rfl⟩
  · obtain ⟨w1, hw1⟩ : ∃ w1, w1 = (w.setCell ⟨b, 1, none⟩ (.int .i64 0)).setCell ⟨b, 2, none⟩ (.int .i64 (gh : Int)) := ⟨_, rfl⟩
    have hk1 : Keeps (fun k => k = b) w w1 := by rw [hw1]; exact ((Keeps.refl _ _).set1 _ _).set1 _ _
    have hW1 : Wl w1 F b p g d { L with half := 0, gen := gh } := hW.turn hl hk1 (by rw [hw1]; exact setCell_row _ b 2 _ _ _ (setCell_row _ b 1 _ _ _ hl.st _) _) rfl
    have HW := Lib.hid hw1
    clear hw1
    go_enter Tryz.func51, Tryz.ntmps51
    go_wp2_with fail
    rw [← HW.out]
    refine (scan_any F b p g d { L with half := 0, gen := gh } (by show 0 ≤ 1; omega) (by show gh < _; omega) big w1 hW1 hup).mono ?_
    rintro e w2 ⟨rfl, F', hW2, hF', hk2⟩
    rw [← HS.out] at hW2
    have hW2' : Wl w2 F' b p g d ⟨0, gh, s.2, s.1, L.dead⟩ := hW2
    rw [Hdead.out] at hW2'
    obtain ⟨v2, vs2, hl2⟩ := hW2'.log
    have c1' : w2.drew.cell? ⟨b, 1, none⟩ = some (.int .i64 0) := hl2.cells.c1
    have c3' : w2.drew.cell? ⟨b, 3, none⟩ = some (.int .i64 (s.2 : Int)) := hl2.cells.c3
    have hWd := hW2'.keepN ((Keeps.refl _ _).drew)
    have hbF2 : b ≠ p ∧ b ≠ g := hbp
    have hnb : ∀ w4 : World, Keeps (fun k => k = p ∨ k = g ∨ k = b) w2.drew w4 → Keeps (fun k => k = p ∨ k = g ∨ F k) w w4 := fun w4 hk =>
      (((hk1.mono (T := fun k => k = p ∨ k = g ∨ F k) fun k _ h => .inr (.inr (h ▸ hbF))).trans (hk2.mono fun k _ h => .inr (.inr h))).drew).trans (hk.mono fun k _ h => by rcases h with h | h | h; exact .inl h; exact .inr (.inl h); exact .inr (.inr (h ▸ hbF)))
    have hF2 : ∀ k, F' k → F k ∨ w.heap.size ≤ k := fun k hk => by
      rcases hF' k hk with h | h
      · exact .inl h
      · right; have := hk1.size; omega
    clear hW2 hW2' hl2 hF' hk2
    go_wp2_with fail
    go_region_held3 (fun w' => w'.cell? ⟨b, 1, none⟩ = some (.int .i64 0) ∧ w'.cell? ⟨b, 3, none⟩ = some (.int .i64 (s.2 : Int))) (first | exact ⟨c1', c3'⟩ | exact ⟨q1, q3⟩) (first
      | (go_at_call 63; refine (clear_any F' b p g d _ 0 s.2 (by omega) hsl.2 _ hWd rfl hup).mono ?_; rintro e w4 ⟨rfl, hW4, hk4⟩; rw [← HR.out] at hW4 ⊢; obtain ⟨v4, vs4, hl4⟩ := hW4.log; have q1 : w4.cell? ⟨b, 1, none⟩ = some (.int .i64 0) := hl4.cells.c1; have q3 : w4.cell? ⟨b, 3, none⟩ = some (.int .i64 (s.2 : Int)) := hl4.cells.c3))
    all_goals
      go_wp2_with fail
      go_ret
      exact ⟨rfl, F', hW4, hF2, hnb _ hk4⟩
  · obtain ⟨w1, hw1⟩ : ∃ w1, w1 = (((w.setCell ⟨b, 1, none⟩ (.int .i64 0)).setCell ⟨b, 2, none⟩ (.int .i64 (ga : Int))).setCell ⟨b, 1, none⟩ (.int .i64 1)).setCell ⟨b, 2, none⟩ (.int .i64 (gh : Int)) := ⟨_, rfl⟩
    have hk1 : Keeps (fun k => k = b) w w1 := by rw [hw1]; exact ((((Keeps.refl _ _).set1 _ _).set1 _ _).set1 _ _).set1 _ _
    have hW1 : Wl w1 F b p g d { L with half := 1, gen := gh } := hW.turn hl hk1 (by rw [hw1]; exact setCell_row _ b 2 _ _ _ (setCell_row _ b 1 _ _ _ (setCell_row _ b 2 _ _ _ (setCell_row _ b 1 _ _ _ hl.st _) _) _) _) rfl
    have HW := Lib.hid hw1
    clear hw1
    go_enter Tryz.func51, Tryz.ntmps51
    go_wp2_with fail
    rw [← HW.out]
    refine (scan_any F b p g d { L with half := 1, gen := gh } (by show 1 ≤ 1; omega) (by show gh < _; omega) big w1 hW1 hup).mono ?_
    rintro e w2 ⟨rfl, F', hW2, hF', hk2⟩
    rw [← HS.out] at hW2
    have hW2' : Wl w2 F' b p g d ⟨1, gh, s.2, s.1, L.dead⟩ := hW2
    rw [Hdead.out] at hW2'
    obtain ⟨v2, vs2, hl2⟩ := hW2'.log
    have c1' : w2.drew.cell? ⟨b, 1, none⟩ = some (.int .i64 1) := hl2.cells.c1
    have c3' : w2.drew.cell? ⟨b, 3, none⟩ = some (.int .i64 (s.2 : Int)) := hl2.cells.c3
    have hWd := hW2'.keepN ((Keeps.refl _ _).drew)
    have hnb : ∀ w4 : World, Keeps (fun k => k = p ∨ k = g ∨ k = b) w2.drew w4 → Keeps (fun k => k = p ∨ k = g ∨ F k) w w4 := fun w4 hk =>
      (((hk1.mono (T := fun k => k = p ∨ k = g ∨ F k) fun k _ h => .inr (.inr (h ▸ hbF))).trans (hk2.mono fun k _ h => .inr (.inr h))).drew).trans (hk.mono fun k _ h => by rcases h with h | h | h; exact .inl h; exact .inr (.inl h); exact .inr (.inr (h ▸ hbF)))
    have hF2 : ∀ k, F' k → F k ∨ w.heap.size ≤ k := fun k hk => by
      rcases hF' k hk with h | h
      · exact .inl h
      · right; have := hk1.size; omega
    clear hW2 hW2' hl2 hF' hk2
    go_wp2_with fail
    go_region_held3 (fun w' => w'.cell? ⟨b, 1, none⟩ = some (.int .i64 1) ∧ w'.cell? ⟨b, 3, none⟩ = some (.int .i64 (s.2 : Int))) (first | exact ⟨c1', c3'⟩ | exact ⟨q1, q3⟩) (first
      | (go_at_call 63; refine (clear_any F' b p g d _ 1 s.2 (by omega) hsl.2 _ hWd rfl hup).mono ?_; rintro e w4 ⟨rfl, hW4, hk4⟩; rw [← HR.out] at hW4 ⊢; obtain ⟨v4, vs4, hl4⟩ := hW4.log; have q1 : w4.cell? ⟨b, 1, none⟩ = some (.int .i64 1) := hl4.cells.c1; have q3 : w4.cell? ⟨b, 3, none⟩ = some (.int .i64 (s.2 : Int)) := hl4.cells.c3))
    all_goals
      go_wp2_with fail
      go_ret
      exact ⟨rfl, F', hW4, hF2, hnb _ hk4⟩

/-- The answer of Open. -/
def RetOpen (w : World) (p g : Nat) (d : Dk) (e : Ending) (w' : World) : Prop :=
  (((Wal.openW d).2 = true ∧ ∃ F b, e = .returned (.tuple #[.pointer (some ⟨b, 0, none⟩), .int .i64 0]) ∧ Wl w' F b p g (Wal.openW d).1 (Wal.openL d) ∧ ∀ k, F k → w.heap.size ≤ k) ∨
    ((Wal.openW d).2 = false ∧ e = .returned (.tuple #[.pointer none, .int .i64 20]) ∧ DiskAt w' p g (Wal.openW d).1)) ∧ Keeps (fun k => k = p ∨ k = g) w w'
theorem openL_dead (d : Dk) : (Wal.openL d).dead = false := by unfold Wal.openL; split <;> rfl

set_option maxHeartbeats 2000000 in
set_option maxRecDepth 100000 in
theorem open_any (p g : Nat) (d : Dk) (big : 512 ≤ Wal.hs d) (w : World) (hD : DiskAt w p g d) (hup : d.down = false) :
    Calls Tryz.prog 29 #[.pointer (some ⟨p, 0, none⟩)] w (RetOpen w p g d) := by
  have hlt := hD.lt
  obtain ⟨w1, hw1⟩ : ∃ w1, w1 = w.alloc (.cells #[.pointer (some ⟨p, 0, none⟩), .int .i64 0, .int .i64 0, .int .i64 0, .slice none 0 0, .bool false] 102) := ⟨_, rfl⟩
  have hk1 : Keeps Non w w1 := by rw [hw1]; exact (Keeps.refl _ _).alloc _
  have hz1 : Hid (w1.heap.size = w.heap.size + 1) := by show _ = _; rw [hw1]; simp
  have hW1 : Wl w1 (fun k => k = w.heap.size) w.heap.size p g d ⟨0, 0, 0, [], false⟩ :=
    ⟨hD.keep hk1 id id, ⟨.slice none 0 0, [], by rw [hw1]; exact heap_new _ _, World.ownsRow_nil _ _ _ _, (fun g hg => by simp [Value.ownBlock] at hg), (fun j x hx => by simp at hx), rfl, fun k hk => by subst hk; rw [hz1.out]; omega, by simp⟩, fun h => by have h : p = w.heap.size := h; omega, fun h => by have h : g = w.heap.size := h; omega⟩
  have HW := Lib.hid hw1
  have Hup := Lib.hid hup
  clear hw1 hup
  obtain ⟨v, vs, hl1⟩ := hW1.log
  have c01 := hl1.cells.c0
  have hgo : ∀ (w3 : World) (r : Dk × Bool) (L : Wal.Lg) (e : Ending) (w4 : World) (F' : Nat → Prop), Keeps Non w1 w3 → (Wal.openW d = r) → (Wal.openL d = L) → Wl w4 F' w.heap.size p g r.1 (L.die r.2) → (∀ k, F' k → k = w.heap.size ∨ w3.heap.size ≤ k) →
      Keeps (fun k => k = p ∨ k = g ∨ k = w.heap.size) w3 w4 → (r.2 = true → e = .returned (.tuple #[.pointer (some ⟨w.heap.size, 0, none⟩), .int .i64 0])) → (r.2 = false → e = .returned (.tuple #[.pointer none, .int .i64 20])) → RetOpen w p g d e w4 := by
    intro w3 r L e w4 F' hk13 hr hL hW4 hF' hk34 h1 h0
    subst hr
    subst hL
    have hkw : Keeps (fun k => k = p ∨ k = g) w w4 := (hk1.trans hk13).mono (T := fun k => k = p ∨ k = g) (fun _ _ h => h.elim) |>.into hk34 (fun k hk h => by rcases h with h | h | h; exact .inl h; exact .inr h; omega)
    refine ⟨?_, hkw⟩
    cases hok : (Wal.openW d).2 with
    | true =>
      left
      rw [hok, die_true (openL_dead d)] at hW4
      exact ⟨rfl, F', _, h1 hok, hW4, fun k hk => by rcases hF' k hk with h | h; omega; have := (hk1.trans hk13).size; omega⟩
    | false => right; exact ⟨rfl, h0 hok, hW4.disk⟩
  have Hgo := Lib.hid hgo
  clear hgo
  by_cases hb : Wal.genOf (Wal.half d 0) = 0 ∧ Wal.genOf (Wal.half d 1) = 0
  · have HL : Hid (Wal.openL d = ⟨0, 1, 16, [], false⟩) := if_pos hb
    have HO : Hid (Wal.openW d = Wal.andThen (Wal.clr d 0 0) fun d => Wal.crown d 0 1) := if_pos hb
    obtain ⟨hb0, hb1⟩ := hb
    have Hb0 := Lib.hid hb0
    have Hb1 := Lib.hid hb1
    clear hb0 hb1
    go_enter Tryz.func29, Tryz.ntmps29
    go_wp2_with fail
    rw [← HW.out]
    refine (up_any p g d w1 hW1.disk).mono ?_
    rintro e w' ⟨rfl, rfl⟩
    rw [Hup.out]
    go_wp2_with fail
    refine (generation_any w.heap.size p g d 0 (by omega) big w1 c01 hW1.disk Hup.out).mono ?_
    rintro e w2 ⟨rfl, hk2⟩
    rw [Hb0.out]
    go_wp2_with fail
    refine (generation_any w.heap.size p g d 1 (by omega) big w2 (hk2.cell c01 id) (hW1.disk.keep hk2 id id) Hup.out).mono ?_
    rintro e w3 ⟨rfl, hk3⟩
    rw [Hb1.out]
    have hk13 := hk2.trans hk3
    have hW3 := hW1.keepN hk13
    clear hk2 hk3
    go_wp2_with fail
    refine (fresh_any _ w.heap.size p g d _ big w3 hW3 rfl Hup.out).mono ?_
    rintro e w4 ⟨rfl, hW4, hk4⟩
    have hF4 : ∀ k, k = w.heap.size → k = w.heap.size ∨ w3.heap.size ≤ k := fun k h => .inl h
    rw [← HO.out] at hW4 ⊢
    cases hok : (Wal.openW d).2 with
    | true =>
      rw [hok] at hW4
      go_wp2_with fail
      go_ret2
      exact Hgo.out _ ((Wal.openW d).1, true) _ _ _ _ hk13 (Prod.ext rfl hok) HL.out hW4 hF4 hk4 (fun _ => rfl) (fun h => by cases h)
    | false =>
      rw [hok] at hW4
      go_wp2_with fail
      go_ret2
      exact Hgo.out _ ((Wal.openW d).1, false) _ _ _ _ hk13 (Prod.ext rfl hok) HL.out hW4 hF4 hk4 (fun h => by cases h) (fun _ => rfl)
  · obtain ⟨h, hh⟩ : ∃ h, h = Wal.pick d := ⟨_, rfl⟩
    have HL : Hid (Wal.openL d = ⟨h, Wal.genOf (Wal.half d h), (Wal.scan (Wal.half d h) (Wal.genOf (Wal.half d h)) (Wal.hs d) 16).2, (Wal.scan (Wal.half d h) (Wal.genOf (Wal.half d h)) (Wal.hs d) 16).1, false⟩) := by rw [hh]; exact if_neg hb
    have HO : Hid (Wal.openW d = Wal.clr d h (Wal.scan (Wal.half d h) (Wal.genOf (Wal.half d h)) (Wal.hs d) 16).2) := by rw [hh]; exact if_neg hb
    have Hh := Lib.hid hh
    clear hh
    have hz0 := Wal.genOf_le (Wal.half d 0)
    have hz1 := Wal.genOf_le (Wal.half d 1)
    have hb' : ¬ ((Wal.genOf (Wal.half d 0) : Int) = 0) ∨ ((Wal.genOf (Wal.half d 0) : Int) = 0 ∧ ¬ ((Wal.genOf (Wal.half d 1) : Int) = 0)) := by omega
    obtain ⟨ga, hga⟩ : ∃ ga, ga = Wal.genOf (Wal.half d 0) := ⟨_, rfl⟩
    obtain ⟨gb, hgb⟩ : ∃ gb, gb = Wal.genOf (Wal.half d 1) := ⟨_, rfl⟩
    rw [← hga, ← hgb] at hb'
    have Ha := Lib.hid hga
    have Hb := Lib.hid hgb
    clear hga hgb hb hz0 hz1
    have hb2 : (¬ ((ga : Int) == 0) = true) ∨ (((ga : Int) == 0) = true ∧ ¬ ((gb : Int) == 0) = true) := by simpa using hb'
    clear hb'
    rcases hb2 with q | ⟨q, q'⟩
    all_goals
      go_enter Tryz.func29, Tryz.ntmps29
      go_wp2_with fail
      rw [← HW.out]
      refine (up_any p g d w1 hW1.disk).mono ?_
      rintro e w' ⟨rfl, rfl⟩
      rw [Hup.out]
      go_wp2_with fail
      refine (generation_any w.heap.size p g d 0 (by omega) big w1 c01 hW1.disk Hup.out).mono ?_
      rintro e w2 ⟨rfl, hk2⟩
      rw [← Ha.out]
      go_wp2_with fail
      refine (generation_any w.heap.size p g d 1 (by omega) big w2 (hk2.cell c01 id) (hW1.disk.keep hk2 id id) Hup.out).mono ?_
      rintro e w3 ⟨rfl, hk3⟩
      rw [← Hb.out]
      have hk13 := hk2.trans hk3
      have hW3 := hW1.keepN hk13
      clear hk2 hk3
      go_wp2_with fail
      rw [Ha.out, Hb.out]
      refine (found_any _ w.heap.size p g d _ big w3 hW3 rfl Hup.out h Hh.out).mono ?_
      rintro e w4 ⟨rfl, F', hW4, hF4, hk4⟩
      rw [← HO.out] at hW4 ⊢
      cases hok : (Wal.openW d).2 with
      | true =>
        rw [hok] at hW4
        go_wp2_with fail
        go_ret2
        exact Hgo.out _ ((Wal.openW d).1, true) _ _ _ _ hk13 (Prod.ext rfl hok) HL.out hW4 hF4 hk4 (fun _ => rfl) (fun h => by cases h)
      | false =>
        rw [hok] at hW4
        go_wp2_with fail
        go_ret2
        exact Hgo.out _ ((Wal.openW d).1, false) _ _ _ _ hk13 (Prod.ext rfl hok) HL.out hW4 hF4 hk4 (fun h => by cases h) (fun _ => rfl)
end Go.Proofs.YtbmamhcjbhnkiaaGreat
