/- The walk of the law DiskPlays. -/
import Derived.Test.YtbmamhcjbhnkiaaKra
import Derived.Test.YtbmamhcjbhnkiaaKi
import Derived.Deep.RegionHeld3
import Derived.BigQuiet
import Derived.Lib.SlBytesConst
namespace Go.Proofs.Ytbmamhcjbhnkiaa
open Go.RowKit

/-- A play: the disk and the document's answer alike. -/
structure Play (w wr : World) (p g q h : Nat) (d : Dk) (n : Nat) : Prop where
  D : DiskAt wr p g d
  R : Ref wr q h d
  k : Keeps Non w wr
  pb : w.heap.size ≤ p
  gb : w.heap.size ≤ g
  qb : w.heap.size ≤ q
  hb : w.heap.size ≤ h
  pq : p ≠ q
  ph : p ≠ h
  gq : g ≠ q
  gh : g ≠ h
  len : d.data.length = n

theorem Play.keep {w wr wr' : World} {p g q h n : Nat} {d : Dk} (H : Play w wr p g q h d n) (hk : Keeps Non wr wr') : Play w wr' p g q h d n :=
  ⟨H.D.keep hk id id, H.R.keep hk id id, H.k.trans hk, H.pb, H.gb, H.qb, H.hb, H.pq, H.ph, H.gq, H.gh, H.len⟩

theorem Play.cells {w wr : World} {p g q h n : Nat} {d : Dk} (H : Play w wr p g q h d n) : wr.cell? ⟨q, 1, none⟩ = some (.bool d.down) ∧ wr.cell? ⟨q, 4, none⟩ = some (.int .i64 d.wr) := by
  obtain ⟨left, bytes, H⟩ := H.R
  exact ⟨(five H.st).c1, (five H.st).c4⟩
theorem four_cells {w : World} {b : Nat} {v0 v1 v2 v3 : Value} {e : TypeId} {fr : Nat × Nat} (h : w.heap[b]? = some (.cells #[v0, v1, v2, v3] e fr)) :
    w.cell? ⟨b, 0, none⟩ = some v0 ∧ w.cell? ⟨b, 1, none⟩ = some v1 ∧ w.cell? ⟨b, 2, none⟩ = some v2 ∧ w.cell? ⟨b, 3, none⟩ = some v3 := by simp [World.cell?, h]

section
variable {w : World} {p g : Nat} {d : Dk}
theorem quiet_up {b : Bool} (H : DiskAt w p g d) (hb : d.down = b) (n : Nat) : Calls Try.prog 39 #[.pointer (some ⟨p, 0, none⟩)] (w.drewN n) fun e w'' => e = .returned (.bool (!b)) ∧ ∃ m, w'' = w.drewN m :=
  Calls.quiet_of_same ((up_any p g d _ (H.keep ((Keeps.refl Non _).drewN n) id id)).mono fun _ _ ⟨he, hw⟩ => ⟨hb ▸ he, hw.symm⟩)
theorem quiet_size {k : Nat} (H : DiskAt w p g d) (hk : d.data.length = k) (n : Nat) : Calls Try.prog 43 #[.pointer (some ⟨p, 0, none⟩)] (w.drewN n) fun e w'' => e = .returned (.int .i64 (k : Int)) ∧ ∃ m, w'' = w.drewN m :=
  Calls.quiet_of_same ((size_any p g d _ (H.keep ((Keeps.refl Non _).drewN n) id id)).mono fun _ _ ⟨he, hw⟩ => ⟨hk ▸ he, hw.symm⟩)
theorem quiet_writes (H : DiskAt w p g d) (n : Nat) : Calls Try.prog 37 #[.pointer (some ⟨p, 0, none⟩)] (w.drewN n) fun e w'' => e = .returned (.int .i64 d.wr) ∧ ∃ m, w'' = w.drewN m :=
  Calls.quiet_of_same ((writes_any p g d _ (H.keep ((Keeps.refl Non _).drewN n) id id)).mono fun _ _ ⟨he, hw⟩ => ⟨he, hw.symm⟩)
end

def other : List UInt8 := [111, 116, 104, 101, 114]

set_option maxRecDepth 100000 in
set_option maxHeartbeats 6400000 in
theorem diskPlays_walk (a0 : Int) (a1 : Option Addr) (len1 cap1 : Nat) (K T N : Nat → Int) (A : Nat → Option Addr) (L C : Nat → Nat) (Z : Nat → List Int) (w : World) (w0 : (Lit.int .i64 a0).wf = true) (w1 : IsOps w a1 len1 cap1 K T N A L C Z) :
    Calls Try.prog 12 #[.int .i64 a0, .slice a1 len1 cap1] w fun e w' => e = .returned (.bool true) ∧ Below w.heap.size w w' := by
  simp only [Lit.wf, Bool.and_eq_true, decide_eq_true_eq] at w0
  have hmin : IntKind.i64.min = -9223372036854775808 := rfl
  have hmax : IntKind.i64.max = 9223372036854775807 := rfl
  rw [hmin, hmax] at w0
  clear hmin hmax
  have hlen1 := w1.1.len_le
  have kc := fun (w : World) (C : Array Value) (n c : Nat) => Lib.run_convert_bytes_const (P := Try.prog) w 22 5 C n c Try.underlying22 Try.underlying5
  have rng := fun (n : Nat) (h0 : 1024 ≤ n) (h1 : n ≤ 1048576) (w : World) => new_ex n h0 h1 w
  by_cases h60 : 60 < len1
  · go_enter Try.func12, Try.ntmps12
    go_wp2_with fail
    refine (anchor7_any _).mono ?_
    rintro e w3 ⟨rfl, hk1⟩
    go_wp2_with fail
    all_goals
      go_ret
      exact ⟨rfl, hk1.none_below⟩
  · by_cases hmid : 4096 < a0 ∧ a0 ≤ 1048576
    · obtain ⟨h1, h2⟩ := hmid
      go_enter Try.func12, Try.ntmps12
      go_wp2_with fail
      refine (anchor7_any _).mono ?_
      rintro e w3 ⟨rfl, hk1⟩
      go_wp2_with fail
      all_goals
        go_ret
        exact ⟨rfl, hk1.none_below⟩
    · by_cases hout : a0 < 1024 ∨ 1048576 < a0
      · have hcases : a0 < 1024 ∨ (¬ a0 < 1024 ∧ 1048576 < a0) := by omega
        clear hmid
        have hn := Lib.hid (fun w => new_range a0 hout w)
        clear hout
        rcases hcases with h1 | ⟨h1, h2⟩
        all_goals
          go_enter Try.func12, Try.ntmps12
          go_wp2_with fail
          refine (anchor7_any _).mono ?_
          rintro e w3 ⟨rfl, hk1⟩
          go_wp2_with fail
          refine (hn.out w3).mono ?_
          rintro e w4 ⟨rfl, rfl⟩
          go_wp2_with fail
          go_ret
          exact ⟨rfl, hk1.none_below⟩
      · obtain ⟨n, rfl⟩ := Int.eq_ofNat_of_zero_le (show 0 ≤ a0 by omega)
        have hn0 : ¬ (n : Int) < 1024 := by omega
        have hn1 : ¬ 4096 < (n : Int) := by omega
        clear hmid hout
        go_enter Try.func12, Try.ntmps12
        go_wp2_with fail
        refine (anchor7_any _).mono ?_
        rintro e w3 ⟨rfl, hk1⟩
        go_wp2_with fail
        refine (new_ex n (by omega) (by omega) w3).mono ?_
        rintro e w4 ⟨p, g, rfl, hD, hp, hg, hk2⟩
        have hk4 := hk1.trans hk2
        have hlt := hD.lt
        go_wp2_with fail
        refine (rnew_any n (by omega) (by omega) w4).mono ?_
        rintro e w5 ⟨rfl, hR, hk5⟩
        have hsz := hk1.size
        have hP : Play w w5 p g (w4.heap.size + 1) w4.heap.size (Dk.new n) n := ⟨hD.keep hk5 id id, hR, hk4.trans hk5, by omega, by omega, by omega, by omega, by omega, by omega, by omega, by omega, new_len n⟩
        obtain ⟨q, hq⟩ : ∃ q, q = w4.heap.size + 1 := ⟨_, rfl⟩
        obtain ⟨h, hh⟩ : ∃ h, h = w4.heap.size := ⟨_, rfl⟩
        rw [← hq, ← hh] at hP
        rw [← hq]
        clear hq hh hR hk5 hk4 hk2 hk1 hD hlt hsz
        go_wp2_with fail
        go_loopw [5, 52] (fun v5 v52 wr => ∃ (i p g : Nat) (d : Dk), i ≤ len1 ∧ v5 = .pointer (some ⟨p, 0, none⟩) ∧ v52 = .int .i64 i ∧ Play w wr p g q h d n) (fun _ v _ => len1 - (intOf v).toNat)
        case atStart => exact ⟨0, p, g, _, Nat.zero_le _, rfl, rfl, hP⟩
        case round =>
          clear hP rng
          obtain ⟨i, p, g, d, hi, rfl, rfl, hP⟩ := hrel
          by_cases hlt : i < len1
          · obtain ⟨b0, off0, rfl, hcell⟩ := w1.1.place (by omega) (by omega)
            obtain ⟨wK, wT, wN, wZ⟩ := w1.2 i hlt
            have e0 := hP.k.cell (hcell i hlt 0 (by omega)) id
            have e1 := hP.k.cell (hcell i hlt 1 (by omega)) id
            have e2 := hP.k.cell (hcell i hlt 2 (by omega)) id
            have e3 := hP.k.cell (hcell i hlt 3 (by omega)) id
            simp only [] at e0 e1 e2 e3
            rw [Nat.add_zero] at e0
            rw [← Nat.add_assoc] at e1 e2 e3
            obtain ⟨kk, hkk⟩ : ∃ x, x = K i := ⟨_, rfl⟩
            obtain ⟨tt, htt⟩ : ∃ x, x = T i := ⟨_, rfl⟩
            obtain ⟨nn, hnn⟩ : ∃ x, x = N i := ⟨_, rfl⟩
            obtain ⟨aa, haa⟩ : ∃ x, x = A i := ⟨_, rfl⟩
            obtain ⟨ll, hll⟩ : ∃ x, x = L i := ⟨_, rfl⟩
            obtain ⟨cc, hcc⟩ : ∃ x, x = C i := ⟨_, rfl⟩
            rw [← hkk] at e0 wK
            rw [← htt] at e1 wT
            rw [← hnn] at e2 wN
            rw [← haa, ← hll, ← hcc] at e3 wZ
            clear hcell hkk htt hnn haa hll hcc
            simp only [Lit.wf, Bool.and_eq_true, decide_eq_true_eq] at wK wT wN
            have hmin : IntKind.i64.min = -9223372036854775808 := rfl
            have hmax : IntKind.i64.max = 9223372036854775807 := rfl
            rw [hmin, hmax] at wK wT wN
            clear hmin hmax
            have hlc := wZ.cap_le
            obtain ⟨w5, hw5⟩ : ∃ w5, w5 = wr.alloc (.cells #[.int .i64 kk, .int .i64 tt, .int .i64 nn, .slice aa ll cc] 61) := ⟨_, rfl⟩
            have hk5 : Keeps Non wr w5 := by rw [hw5]; exact (Keeps.refl _ _).alloc _
            have hb5 : w5.heap[wr.heap.size]? = some (.cells #[.int .i64 kk, .int .i64 tt, .int .i64 nn, .slice aa ll cc] 61) := by rw [hw5]; exact heap_new _ _
            obtain ⟨B, hB⟩ : ∃ B, B = wr.heap.size := ⟨_, rfl⟩
            rw [← hB] at hb5
            have hltD := hP.D.lt
            have hltR := hP.R.lt
            have hne : B ≠ p ∧ B ≠ g ∧ B ≠ q ∧ B ≠ h := by omega
            have H5 := Lib.hid hw5
            have HB := Lib.hid hB
            clear hw5 hB
            have hP5 := hP.keep hk5
            have four := four_cells hb5
            have u0 := four.1
            have u1 := four.2.1
            have u2 := four.2.2.1
            have u3 := four.2.2.2
            have HP := Lib.hid hP
            clear hP hltD hltR hk5 four
            by_cases h300 : 300 < ll
            · go_wp2_with fail
              rw [← H5.out]
              go_wp2_with fail
              go_ret
              exact ⟨rfl, hP5.k.none_below⟩
            · have hr0 := wZ.rdB (by omega)
              have hrd := hr0.below hP5.k.none_below
              generalize bytesOf _ _ = l at *
              by_cases q1 : kk = 1
              ·
                subst q1
                have hA : 0 < ll → ∀ a, aa = some a → a.block ≠ h := fun h0 a ha hh => by have := hr0.old h0 a ha; have := hP5.hb; omega
                have hcells : ∀ w6 : World, Keeps (fun k => k = p ∨ k = g) w5.drew w6 → w6.cell? ⟨B, 1, none⟩ = some (.int .i64 tt) ∧ w6.cell? ⟨B, 3, none⟩ = some (.slice aa ll cc) ∧ Ref w6 q h d ∧ RdB w6 aa ll l ∧ Keeps Non w w6 := by
                  intro w6 hk
                  have hk' : Keeps (fun k => k = p ∨ k = g) w5 w6 := ((Keeps.refl _ _).drew).trans hk
                  have hkw := hP5.k.into hk' (fun k h1 h2 => by have := hP5.pb; have := hP5.gb; show False; omega)
                  exact ⟨hk'.cell u1 (fun hh => by have hh : B = p ∨ B = g := hh; omega), hk'.cell u3 (fun hh => by have hh : B = p ∨ B = g := hh; omega), hP5.R.keep hk' (by have := hP5.pq; have := hP5.gq; omega) (by have := hP5.ph; have := hP5.gh; omega), hr0.below hkw.none_below, hkw⟩
                have hD0 : DiskAt w5.drew p g d := hP5.D.keep ((Keeps.refl Non _).drew) id id
                have hrd0 : RdB w5.drew aa ll l := hrd.keepN ((Keeps.refl _ _).drew)
                go_wp2_with fail
                rw [← H5.out, ← HB.out]
                go_region_held3 (fun w' => w'.cell? ⟨B, 1, none⟩ = some (.int .i64 tt) ∧ w'.cell? ⟨B, 3, none⟩ = some (.slice aa ll cc)) (first | (exact ⟨by simpa using u1, by simpa using u3⟩) | (exact ⟨v1, v3⟩) | (exact ⟨hk7.cell v1 (fun hh => by have hh : B = q ∨ B = h := hh; omega), hk7.cell v3 (fun hh => by have hh : B = q ∨ B = h := hh; omega)⟩)) (first
                  | (go_at_call 33; refine (write_any' p g d tt aa ll cc l wT.1 wT.2 _ ?_ ?_ hlc.1).mono ?_; exact hD0; exact hrd0; rintro e w6 ⟨rfl, hD6, hk6⟩; obtain ⟨v1, v3, hR6, hr6, hkw6⟩ := hcells w6 hk6)
                  | (go_at_call 41; refine (rwrite_any q h d tt aa ll cc l wT.1 wT.2 _ ?_ ?_ hA).mono ?_; exact hR6; exact hr6; rintro e w7 ⟨rfl, hR7, hk7⟩))
                all_goals
                  have hP' : Play w w7 p g q h (d.write tt l) n := ⟨hD6.keep hk7 (by have := hP5.pq; have := hP5.ph; omega) (by have := hP5.gq; have := hP5.gh; omega), hR7, hkw6.into hk7 (fun k h1 h2 => by have := hP5.qb; have := hP5.hb; show False; omega), hP5.pb, hP5.gb, hP5.qb, hP5.hb, hP5.pq, hP5.ph, hP5.gq, hP5.gh, (hP5.D.wf.write tt l).2.trans hP5.len⟩
                  clear hcells hD0 hrd0 hD6 hk6 hR6 hr6 hkw6 hR7 hk7 hA v1 v3
                  have hcR := hP'.cells
                  go_wp2_with fail
                  cases hdn : (d.write tt l).down
                  all_goals
                    have hup := quiet_up hP'.D hdn
                    have hsi := quiet_size hP'.D hP'.len
                    have hwr := quiet_writes hP'.D
                    have c1 := hcR.1
                    rw [hdn] at c1
                    have c4 := hcR.2
                    clear hcR
                    go_quiet (first
                      | (go_at_call 39; exact hup _)
                      | (go_at_call 43; exact hsi _)
                      | (go_at_call 37; exact hwr _))
                    go_wp2_with fail
                    go_roundw
                    case rel => exact ⟨i + 1, p, g, (d.write tt l), by omega, rfl, by go_num, hP'.keep ((Keeps.refl _ _).drewN _)⟩
                    case measure => simp [intOf]; omega

              · by_cases q2 : kk = 2
                · subst q2
                  by_cases he : d.may tt nn = 0
                  ·
                    obtain ⟨_, ht0, hn0', _⟩ := Dk.may_zero he
                    obtain ⟨x, rfl⟩ := Int.eq_ofNat_of_zero_le ht0
                    obtain ⟨m, rfl⟩ := Int.eq_ofNat_of_zero_le hn0'
                    go_wp2_with fail
                    rw [← H5.out, ← HB.out]
                    refine (read_ok p g d x m w5 hP5.D he).mono ?_
                    rintro e w6 ⟨⟨A6, c6, rfl, hr6, _, _, _⟩, hk6⟩
                    have v1 := hk6.cell u1 id
                    have v2 := hk6.cell u2 id
                    have hP' := hP5.keep hk6
                    go_wp2_with fail
                    refine (rread_any q h d x m (by omega) (by omega) (by omega) w6 hP'.R).mono ?_
                    rintro e w7 ⟨⟨A7, m7, c7, rfl, h71, h72⟩, rfl⟩
                    obtain ⟨hr7, _⟩ := h72 he
                    rw [he]
                    have s1 := run_str w6 A6 m c6 _ hr6
                    have s2 := run_str w6 A7 m7 c7 _ hr7
                    simp only [Int.toNat_natCast] at s2
                    clear h71 h72 hr6 hr7 hk6 ht0 hn0'
                    have hcR := hP'.cells
                    go_wp2_with fail
                    cases hdn : d.down
                    all_goals
                      have hup := quiet_up hP'.D hdn
                      have hsi := quiet_size hP'.D hP'.len
                      have hwr := quiet_writes hP'.D
                      have c1 := hcR.1
                      rw [hdn] at c1
                      have c4 := hcR.2
                      clear hcR
                      go_quiet (first
                        | (go_at_call 39; exact hup _)
                        | (go_at_call 43; exact hsi _)
                        | (go_at_call 37; exact hwr _))
                      go_wp2_with fail
                      go_roundw
                      case rel => exact ⟨i + 1, p, g, d, by omega, rfl, by go_num, hP'.keep ((Keeps.refl _ _).drewN _)⟩
                      case measure => simp [intOf]; omega

                  ·
                    go_wp2_with fail
                    rw [← H5.out, ← HB.out]
                    refine (read_err p g d tt nn (by omega) (by omega) w5 hP5.D he).mono ?_
                    rintro e w6 ⟨rfl, rfl⟩
                    go_wp2_with fail
                    refine (rread_any q h d tt nn (by omega) (by omega) (by omega) w5 hP5.R).mono ?_
                    rintro e w6 ⟨⟨A6, m6, c6, rfl, h61, h62⟩, rfl⟩
                    obtain ⟨rfl, rfl, rfl⟩ := h61 he
                    have s1 := run_str w5 none 0 0 [] (RdB.nil _ _)
                    have hP' := hP5
                    clear h61 h62
                    have hcR := hP'.cells
                    go_wp2_with fail
                    cases hdn : d.down
                    all_goals
                      have hup := quiet_up hP'.D hdn
                      have hsi := quiet_size hP'.D hP'.len
                      have hwr := quiet_writes hP'.D
                      have c1 := hcR.1
                      rw [hdn] at c1
                      have c4 := hcR.2
                      clear hcR
                      go_quiet (first
                        | (go_at_call 39; exact hup _)
                        | (go_at_call 43; exact hsi _)
                        | (go_at_call 37; exact hwr _))
                      go_wp2_with fail
                      go_roundw
                      case rel => exact ⟨i + 1, p, g, d, by omega, rfl, by go_num, hP'.keep ((Keeps.refl _ _).drewN _)⟩
                      case measure => simp [intOf]; omega

                · by_cases q3 : kk = 3
                  · subst q3
                    by_cases hbad : tt < 0 ∨ nn < 0
                    · rcases (show tt < 0 ∨ (¬ tt < 0 ∧ nn < 0) by omega) with h3 | ⟨h3, h4⟩
                      ·
                        go_wp2_with fail
                        rw [← H5.out, ← HB.out]
                        refine (light_any p g d tt nn (by omega) (by omega) w5 hP5.D).mono ?_
                        rintro e w6 ⟨rfl, hD6, hk6⟩
                        rw [Dk.lightErr, if_pos hbad]
                        rw [Dk.light, if_pos hbad] at hD6
                        have hP' : Play w w6 p g q h d n := ⟨hD6, hP5.R.keep hk6 hP5.pq.symm hP5.ph.symm, hP5.k.into hk6 (fun k h1 h2 => by have := hP5.pb; show False; omega), hP5.pb, hP5.gb, hP5.qb, hP5.hb, hP5.pq, hP5.ph, hP5.gq, hP5.gh, hP5.len⟩
                        have v1 := hk6.cell u1 hne.1
                        have v2 := hk6.cell u2 hne.1
                        clear hD6 hk6
                        have hcR := hP'.cells
                        go_wp2_with fail
                        cases hdn : d.down
                        all_goals
                          have hup := quiet_up hP'.D hdn
                          have hsi := quiet_size hP'.D hP'.len
                          have hwr := quiet_writes hP'.D
                          have c1 := hcR.1
                          rw [hdn] at c1
                          have c4 := hcR.2
                          clear hcR
                          go_quiet (first
                            | (go_at_call 39; exact hup _)
                            | (go_at_call 43; exact hsi _)
                            | (go_at_call 37; exact hwr _))
                          go_wp2_with fail
                          go_roundw
                          case rel => exact ⟨i + 1, p, g, d, by omega, rfl, by go_num, hP'.keep ((Keeps.refl _ _).drewN _)⟩
                          case measure => simp [intOf]; omega

                      ·
                        go_wp2_with fail
                        rw [← H5.out, ← HB.out]
                        refine (light_any p g d tt nn (by omega) (by omega) w5 hP5.D).mono ?_
                        rintro e w6 ⟨rfl, hD6, hk6⟩
                        rw [Dk.lightErr, if_pos hbad]
                        rw [Dk.light, if_pos hbad] at hD6
                        have hP' : Play w w6 p g q h d n := ⟨hD6, hP5.R.keep hk6 hP5.pq.symm hP5.ph.symm, hP5.k.into hk6 (fun k h1 h2 => by have := hP5.pb; show False; omega), hP5.pb, hP5.gb, hP5.qb, hP5.hb, hP5.pq, hP5.ph, hP5.gq, hP5.gh, hP5.len⟩
                        have v1 := hk6.cell u1 hne.1
                        have v2 := hk6.cell u2 hne.1
                        clear hD6 hk6
                        have hcR := hP'.cells
                        go_wp2_with fail
                        cases hdn : d.down
                        all_goals
                          have hup := quiet_up hP'.D hdn
                          have hsi := quiet_size hP'.D hP'.len
                          have hwr := quiet_writes hP'.D
                          have c1 := hcR.1
                          rw [hdn] at c1
                          have c4 := hcR.2
                          clear hcR
                          go_quiet (first
                            | (go_at_call 39; exact hup _)
                            | (go_at_call 43; exact hsi _)
                            | (go_at_call 37; exact hwr _))
                          go_wp2_with fail
                          go_roundw
                          case rel => exact ⟨i + 1, p, g, d, by omega, rfl, by go_num, hP'.keep ((Keeps.refl _ _).drewN _)⟩
                          case measure => simp [intOf]; omega

                    · have ht0 : 0 ≤ tt := by omega
                      have hn0' : 0 ≤ nn := by omega
                      go_wp2_with fail
                      rw [← H5.out, ← HB.out]
                      refine (light_any p g d tt nn (by omega) (by omega) w5 hP5.D).mono ?_
                      rintro e w6 ⟨rfl, hD6, hk6⟩
                      rw [Dk.lightErr, if_neg hbad]
                      rw [Dk.light_ok ht0 hn0'] at hD6
                      have v1 := hk6.cell u1 hne.1
                      have v2 := hk6.cell u2 hne.1
                      have hR6 := hP5.R.keep hk6 hP5.pq.symm hP5.ph.symm
                      have hk6w := hP5.k.into hk6 (fun k h1 h2 => by have := hP5.pb; show False; omega)
                      obtain ⟨lf, bf, hR7⟩ := hR6
                      have g2 := (five hR7.st).c2
                      have g3 := (five hR7.st).c3
                      have z2 := free hR7.st 2
                      have z3 := free hR7.st 3
                      have hd1 : (B == q) = false := by simpa using hne.2.2.1
                      have hd2 : (q == B) = false := by simpa using fun h => hne.2.2.1 h.symm
                      obtain ⟨w7, hw7⟩ : ∃ w7, w7 = ((w6.setCell ⟨q, 2, none⟩ (.int .i64 tt)).setCell ⟨q, 3, none⟩ (.int .i64 nn)).drew := ⟨_, rfl⟩
                      have hP' : Play w w7 p g q h { d with lit := true, fw := tt, fb := nn } n := by
                        rw [hw7]
                        have hks : Keeps (fun k => k = q) w6 ((w6.setCell ⟨q, 2, none⟩ (.int .i64 tt)).setCell ⟨q, 3, none⟩ (.int .i64 nn)).drew := (((Keeps.refl _ _).set1 2 _).set1 3 _).drew
                        exact ⟨hD6.keep hks hP5.pq hP5.gq, ⟨tt, nn, setCell_row _ q 3 _ _ _ (setCell_row _ q 2 _ _ _ hR7.st _) _, hks.at_ hR7.row hR7.ne.symm, hR7.ne, hD6.wf, wT, wN, (fun _ h => by cases h), fun _ _ => ⟨rfl, rfl⟩⟩, hk6w.into hks (fun k h1 h2 => by have := hP5.qb; show False; omega), hP5.pb, hP5.gb, hP5.qb, hP5.hb, hP5.pq, hP5.ph, hP5.gq, hP5.gh, hP5.len⟩
                      have H7 := Lib.hid hw7
                      clear hw7 hR7 hD6 hk6 hk6w
                      go_wp2_with fail
                      go_region
                      rw [← H7.out]
                      clear g2 g3 z2 z3 hd1 hd2
                      have hcR := hP'.cells
                      go_wp2_with fail
                      cases hdn : { d with lit := true, fw := tt, fb := nn }.down
                      all_goals
                        have hup := quiet_up hP'.D hdn
                        have hsi := quiet_size hP'.D hP'.len
                        have hwr := quiet_writes hP'.D
                        have c1 := hcR.1
                        rw [hdn] at c1
                        have c4 := hcR.2
                        clear hcR
                        go_quiet (first
                          | (go_at_call 39; exact hup _)
                          | (go_at_call 43; exact hsi _)
                          | (go_at_call 37; exact hwr _))
                        go_wp2_with fail
                        go_roundw
                        case rel => exact ⟨i + 1, p, g, { d with lit := true, fw := tt, fb := nn }, by omega, rfl, by go_num, hP'.keep ((Keeps.refl _ _).drewN _)⟩
                        case measure => simp [intOf]; omega

                  · by_cases q4 : kk = 4
                    ·
                      subst q4
                      go_wp2_with fail
                      rw [← H5.out, ← HB.out]
                      refine (start_any p g d w5 hP5.D).mono ?_
                      rintro e w6 ⟨rfl, hD6, hk6⟩
                      have hR6 := hP5.R.keep hk6 hP5.pq.symm hP5.ph.symm
                      have hk6w := hP5.k.into hk6 (fun k h1 h2 => by have := hP5.pb; show False; omega)
                      obtain ⟨lf, bf, hR7⟩ := hR6
                      have g0 := (five hR7.st).c0
                      have g1 := (five hR7.st).c1
                      have g2 := (five hR7.st).c2
                      have z1 := free hR7.st 1
                      have z2 := free hR7.st 2
                      obtain ⟨w7, hw7⟩ : ∃ w7, w7 = (w6.setCell ⟨q, 1, none⟩ (.bool false)).setCell ⟨q, 2, none⟩ (.int .i64 (-1)) := ⟨_, rfl⟩
                      have hP' : Play w w7 p g q h d.start n := by
                        rw [hw7]
                        have hks : Keeps (fun k => k = q) w6 ((w6.setCell ⟨q, 1, none⟩ (.bool false)).setCell ⟨q, 2, none⟩ (.int .i64 (-1))) := ((Keeps.refl _ _).set1 1 _).set1 2 _
                        exact ⟨hD6.keep hks hP5.pq hP5.gq, ⟨-1, bf, setCell_row _ q 2 _ _ _ (setCell_row _ q 1 _ _ _ hR7.st _) _, hks.at_ hR7.row hR7.ne.symm, hR7.ne, hR7.wf.start, by omega, hR7.r1, fun _ _ => rfl, fun _ h => by cases h⟩, hk6w.into hks (fun k h1 h2 => by have := hP5.qb; show False; omega), hP5.pb, hP5.gb, hP5.qb, hP5.hb, hP5.pq, hP5.ph, hP5.gq, hP5.gh, hP5.len⟩
                      have H7 := Lib.hid hw7
                      clear hw7 hR7 hD6 hk6 hk6w
                      go_wp2_with fail
                      rw [← H7.out]
                      clear g0 g1 g2 z1 z2
                      have hcR := hP'.cells
                      skip
                      cases hdn : d.start.down
                      all_goals
                        have hup := quiet_up hP'.D hdn
                        have hsi := quiet_size hP'.D hP'.len
                        have hwr := quiet_writes hP'.D
                        have c1 := hcR.1
                        rw [hdn] at c1
                        have c4 := hcR.2
                        clear hcR
                        go_quiet (first
                          | (go_at_call 39; exact hup _)
                          | (go_at_call 43; exact hsi _)
                          | (go_at_call 37; exact hwr _))
                        go_wp2_with fail
                        go_roundw
                        case rel => exact ⟨i + 1, p, g, d.start, by omega, rfl, by go_num, hP'.keep ((Keeps.refl _ _).drewN _)⟩
                        case measure => simp [intOf]; omega

                    · by_cases q5 : kk = 5
                      ·
                        subst q5
                        go_wp2_with fail
                        rw [← H5.out, ← HB.out]
                        refine (copy_any p g d w5 hP5.D).mono ?_
                        rintro e w6 ⟨p', g', rfl, hX, hp', hg', hk6⟩
                        have hD6 := hP5.D.keep hk6 id id
                        have hR6 := hP5.R.keep hk6 id id
                        have hk6w := hP5.k.trans hk6
                        have hlD := hP5.D.lt
                        have hlR := hP5.R.lt
                        have hs5 := hP5.k.size
                        have hkc := kc
                        go_wp2_with fail
                        have hk7 : ∀ o, Keeps Non w6 (w6.alloc o) := fun o => (Keeps.refl _ _).alloc o
                        refine (write_any' p g d 0 _ 5 5 other (by omega) (by omega) _ (hD6.keep (hk7 _) id id) (RdB.of_whole (heap_new w6 _) rfl rfl (by omega)) (by omega)).mono ?_
                        rintro e w8 ⟨rfl, _, hk8⟩
                        have hP' : Play w w8 p' g' q h d n := ⟨(hX.keep (hk7 _) id id).keep hk8 (by omega) (by omega), (hR6.keep (hk7 _) id id).keep hk8 (by have := hP5.pq; have := hP5.gq; omega) (by have := hP5.ph; have := hP5.gh; omega), (hk6w.trans (hk7 _)).into hk8 (fun k h1 h2 => by have := hP5.pb; have := hP5.gb; show False; omega), by omega, by omega, hP5.qb, hP5.hb, by omega, by omega, by omega, by omega, hP5.len⟩
                        clear hD6 hR6 hk6w hk6 hk7 hk8 hX hkc
                        have hcR := hP'.cells
                        go_wp2_with fail
                        cases hdn : d.down
                        all_goals
                          have hup := quiet_up hP'.D hdn
                          have hsi := quiet_size hP'.D hP'.len
                          have hwr := quiet_writes hP'.D
                          have c1 := hcR.1
                          rw [hdn] at c1
                          have c4 := hcR.2
                          clear hcR
                          go_quiet (first
                            | (go_at_call 39; exact hup _)
                            | (go_at_call 43; exact hsi _)
                            | (go_at_call 37; exact hwr _))
                          go_wp2_with fail
                          go_roundw
                          case rel => exact ⟨i + 1, p', g', d, by omega, rfl, by go_num, hP'.keep ((Keeps.refl _ _).drewN _)⟩
                          case measure => simp [intOf]; omega

                      · have hP' := hP5
                        go_wp2_with fail
                        rw [← H5.out, ← HB.out]
                        have hcR := hP'.cells
                        go_wp2_with fail
                        cases hdn : d.down
                        all_goals
                          have hup := quiet_up hP'.D hdn
                          have hsi := quiet_size hP'.D hP'.len
                          have hwr := quiet_writes hP'.D
                          have c1 := hcR.1
                          rw [hdn] at c1
                          have c4 := hcR.2
                          clear hcR
                          go_quiet (first
                            | (go_at_call 39; exact hup _)
                            | (go_at_call 43; exact hsi _)
                            | (go_at_call 37; exact hwr _))
                          go_wp2_with fail
                          go_roundw
                          case rel => exact ⟨i + 1, p, g, d, by omega, rfl, by go_num, hP'.keep ((Keeps.refl _ _).drewN _)⟩
                          case measure => simp [intOf]; omega

          · obtain rfl : i = len1 := by omega
            have hD5 := hP.D
            go_wp2_with fail
            refine (start_any p g d wr hP.D).mono ?_
            rintro e w6 ⟨rfl, hD6, hk6⟩
            have hR6 := hP.R.keep hk6 hP.pq.symm hP.ph.symm
            have hk6w := hP.k.into hk6 (fun k h1 h2 => by have := hP.pb; show False; omega)
            have hlen := hP.len
            have hml : d.start.may (0 : Nat) (n : Nat) = 0 := may_in rfl (by show ¬ (_ ∨ _ ∨ (d.data.length : Int) < _ ∨ (d.data.length : Int) - _ < _); omega)
            clear hk6 hD5
            go_wp2_with fail
            refine (read_ok p g d.start 0 n w6 hD6 hml).mono ?_
            rintro e w7 ⟨⟨A7, c7, rfl, hr7, _, _, _⟩, hk7⟩
            have hd0 : d.start.data = d.data := rfl
            rw [hd0, List.drop_zero, List.take_of_length_le (by omega)] at hr7
            obtain ⟨lf, bf, hR7⟩ := hR6.keep hk7 id id
            have hr8 : RdB w7 (some ⟨h, 0, none⟩) n d.data := row_rdB hR7.row hlen (by omega)
            have g0 := (five hR7.st).c0
            have Hlen := Lib.hid hlen
            rw [hlen] at g0
            have s1 := fun k => run_str (w7.drewN k) A7 n c7 _ (hr7.keepN ((Keeps.refl _ _).drewN k))
            have s2 := fun k => run_str (w7.drewN k) _ n n _ (hr8.keepN ((Keeps.refl _ _).drewN k))
            have hkw7 := hk6w.trans hk7
            clear hr7 hr8 hk7 hk6w hD6 hml hd0 hlen hR7
            go_wp2_with fail
            go_quiet (fail)
            go_wp2_with fail
            go_ret
            exact ⟨rfl, (hkw7.drewN _).none_below⟩

end Go.Proofs.Ytbmamhcjbhnkiaa
