/- Layer 8: the walks of the log's methods that tell, and of alive. -/
import Derived.Test.YtbmamhcjbhnkiaaGreatKya
namespace Go.Proofs.YtbmamhcjbhnkiaaGreat
open Go.RowKit

theorem lsize' {w : World} {F : Nat → Prop} {b p g : Nat} {d : Dk} {L : Wal.Lg} (hW : Wl w F b p g d L) : Calls Tryz.prog 76 #[.pointer (some ⟨b, 0, none⟩)] w fun e w' => e = .returned (.int .i64 (Wal.hs d : Int)) ∧ w = w' := by
  obtain ⟨v, vs, hl⟩ := hW.log
  exact lsize_any b p g d w hl.cells.c0 hW.disk

theorem room_any (F : Nat → Prop) (b p g : Nat) (d : Dk) (L : Wal.Lg) (hfin : L.fin ≤ Wal.hs d) (w : World) (hW : Wl w F b p g d L) :
    Calls Tryz.prog 58 #[.pointer (some ⟨b, 0, none⟩)] w fun e w' => e = .returned (.int .i64 ((Wal.hs d - L.fin : Nat) : Int)) ∧ Keeps Non w w' := by
  have hz := Wal.hs_le hW.disk.wf
  have hWd := hW.keepN ((Keeps.refl Non w).drew)
  obtain ⟨v, vs, hl⟩ := hWd.log
  have c3 : w.drew.cell? ⟨b, 3, none⟩ = some (.int .i64 (L.fin : Int)) := hl.cells.c3
  have hwr : IntKind.i64.wrap ((Wal.hs d : Int) - (L.fin : Int)) = ((Wal.hs d - L.fin : Nat) : Int) := by rw [IntKind.wrap_i64]; omega
  go_enter Tryz.func58, Tryz.ntmps58
  go_wp2_with fail
  go_region_held3 (fun w' => w'.cell? ⟨b, 3, none⟩ = some (.int .i64 (L.fin : Int))) (exact c3) (first
    | (go_at_call 76; refine (lsize' hWd).mono ?_; rintro e w' ⟨rfl, rfl⟩))
  all_goals
    go_wp2_with fail
    go_ret
    exact ⟨rfl, (Keeps.refl _ _).drew⟩

theorem cost_ok (n : Nat) (h1 : 1 ≤ n) (h2 : n ≤ 65536) (w : World) : Calls Tryz.prog 56 #[.int .i64 (n : Int)] w fun e w' => e = .returned (.int .i64 ((9 + n : Nat) : Int)) ∧ w = w' := by
  go_enter Tryz.func56, Tryz.ntmps56
  go_wp2
  go_ret
  exact ⟨ret_int (by omega), rfl⟩
theorem cost_bad (n : Nat) (h : n < 1 ∨ 65536 < n) (w : World) : Calls Tryz.prog 56 #[.int .i64 (n : Int)] w fun e w' => e = .returned (.int .i64 0) ∧ w = w' := by
  have hc : n < 1 ∨ (¬ n < 1 ∧ 65536 < n) := by omega
  rcases hc with q | ⟨q, q'⟩
  all_goals
    go_enter Tryz.func56, Tryz.ntmps56
    go_wp2
    go_ret
    exact ⟨rfl, rfl⟩

theorem alive_yes (F : Nat → Prop) (b p g : Nat) (d : Dk) (L : Wal.Lg) (w : World) (hW : Wl w F b p g d L) (hd : L.dead = false) (hup : d.down = false) :
    Calls Tryz.prog 57 #[.pointer (some ⟨b, 0, none⟩)] w fun e w' => e = .returned (.bool true) ∧ Wl w' F b p g d L ∧ Keeps (fun k => k = b) w w' := by
  obtain ⟨v, vs, hl⟩ := hW.log
  have c0 := hl.cells.c0
  have c5 := hl.cells.c5
  have f5 := free hl.st 5
  rw [hd] at c5
  have hst := setCell_row _ b 5 _ _ _ hl.st (.bool false)
  have hW1 : Wl (w.setCell ⟨b, 5, none⟩ (.bool false)) F b p g d L := hW.turn hl ((Keeps.refl _ _).set1 5 _) (by rw [hd]; exact hst) rfl
  have HW1 := Lib.hid hW1
  have Hup := Lib.hid hup
  clear hd hst hup hW1
  go_enter Tryz.func57, Tryz.ntmps57
  go_wp2_with fail
  refine (up_any p g d w hW.disk).mono ?_
  rintro e w' ⟨rfl, rfl⟩
  rw [Hup.out]
  go_wp2_with fail
  go_ret
  exact ⟨rfl, HW1.out, (Keeps.refl _ _).set1 5 _⟩

theorem alive_no (F : Nat → Prop) (b p g : Nat) (d : Dk) (L : Wal.Lg) (w : World) (hW : Wl w F b p g d L) (hd : L.dead = true ∨ d.down = true) :
    Calls Tryz.prog 57 #[.pointer (some ⟨b, 0, none⟩)] w fun e w' => e = .returned (.bool false) ∧ Wl w' F b p g d (L.die false) ∧ Keeps (fun k => k = b) w w' := by
  obtain ⟨v, vs, hl⟩ := hW.log
  have c0 := hl.cells.c0
  have c5 := hl.cells.c5
  have f5 := free hl.st 5
  have hst := setCell_row _ b 5 _ _ _ hl.st (.bool true)
  have hW1 : Wl (w.setCell ⟨b, 5, none⟩ (.bool true)) F b p g d (L.die false) := hW.turn hl ((Keeps.refl _ _).set1 5 _) hst rfl
  have HW1 := Lib.hid hW1
  clear hst hW1
  cases hdd : L.dead with
  | true =>
    rw [hdd] at c5
    clear hd hdd
    go_enter Tryz.func57, Tryz.ntmps57
    go_wp2_with fail
    go_ret
    exact ⟨rfl, HW1.out, (Keeps.refl _ _).set1 5 _⟩
  | false =>
    rw [hdd] at c5
    have Hup : Hid (d.down = true) := by rcases hd with h | h; rw [hdd] at h; cases h; exact h
    clear hd hdd
    go_enter Tryz.func57, Tryz.ntmps57
    go_wp2_with fail
    refine (up_any p g d w hW.disk).mono ?_
    rintro e w' ⟨rfl, rfl⟩
    rw [Hup.out]
    go_wp2_with fail
    go_ret
    exact ⟨rfl, HW1.out, (Keeps.refl _ _).set1 5 _⟩

/-- Rows of unlike kinds lie apart. -/
theorem own_apart {w : World} {b1 b2 s1 s2 n m : Nat} {e1 e2 : TypeId} {v u : Value} {xs ys : List Value} (h1 : w.ownsRow b1 e1 s1 v n xs) (h2 : w.ownsRow b2 e2 s2 u m ys) (hne : e1 ≠ e2) {k : Nat} (hv : v.ownBlock = some k) : u.ownBlock ≠ some k := by
  intro hu
  rcases h1.2 with ⟨rfl, _⟩ | ⟨g1, c1, r1, rfl, _, q1, _⟩
  · simp [Value.ownBlock] at hv
  · rcases h2.2 with ⟨rfl, _⟩ | ⟨g2, c2, r2, rfl, _, q2, _⟩
    · simp [Value.ownBlock] at hu
    · simp [Value.ownBlock] at hv hu
      subst hv hu
      rw [q1] at q2
      injection q2 with q2
      injection q2 with _ q2
      exact hne q2

/-- Rows of bytes of one's own, in a row of one's own. -/
structure OwnL (w : World) (base : Nat) (v : Value) (vs : List Value) (ls : List (List UInt8)) : Prop where
  row : w.ownsRow base 60 1 v ls.length vs
  el : ∀ (j : Nat) (x : List UInt8), ls[j]? = some x → ∃ u, vs[j]? = some u ∧ w.ownsRow base 5 1 u x.length (x.map bv)
theorem OwnL.nil (w : World) (base : Nat) : OwnL w base (.slice none 0 0) [] [] := ⟨World.ownsRow_nil _ _ _ _, fun j x h => by simp at h⟩
theorem OwnL.len {w : World} {base : Nat} {v : Value} {vs : List Value} {ls : List (List UInt8)} (h : OwnL w base v vs ls) : vs.length = ls.length := by simpa using h.row.1
theorem OwnL.keep {S : Nat → Prop} {w w' : World} {base : Nat} {v : Value} {vs : List Value} {ls : List (List UInt8)} (h : OwnL w base v vs ls) (hk : Keeps S w w') (hS : ∀ k, base ≤ k → ¬ S k) : OwnL w' base v vs ls :=
  ⟨own_kept h.row hk fun g hg => hS g (own_ge h.row g hg), fun j x hx => by
    obtain ⟨u, h1, h2⟩ := h.el j x hx
    exact ⟨u, h1, own_kept h2 hk fun g hg => hS g (own_ge h2 g hg)⟩⟩
theorem OwnL.push {w w1 : World} {base : Nat} {v v' u : Value} {vs : List Value} {ls : List (List UInt8)} {x : List UInt8} (h : OwnL w base v vs ls) (hu : w.ownsRow base 5 1 u x.length (x.map bv)) (hgrow : w.grownBy w1 v.ownBlock)
    (hown : w1.ownsRow base 60 1 v' (ls.length + 1) (vs ++ [u])) : OwnL w1 base v' (vs ++ [u]) (ls ++ [x]) := by
  have hk := Keeps.of_grown hgrow
  have hlen := h.len
  refine ⟨by simpa using hown, fun j y hy => ?_⟩
  by_cases hj : j < ls.length
  · rw [List.getElem?_append_left hj] at hy
    obtain ⟨u', h1, h2⟩ := h.el j y hy
    exact ⟨u', by rw [List.getElem?_append_left (by omega)]; exact h1, own_kept h2 hk fun g hg e => own_apart h.row h2 (by decide) e.symm hg⟩
  · have hj' : j = ls.length := by
      have := (List.getElem?_eq_some_iff.1 hy).1
      simp at this; omega
    subst hj'
    rw [List.getElem?_append_right (Nat.le_refl _)] at hy
    simp at hy
    subst hy
    exact ⟨u, by rw [List.getElem?_append_right (by omega)]; simp [hlen], own_kept hu hk fun g hg e => own_apart h.row hu (by decide) e.symm hg⟩
/-- Such rows are read. -/
theorem OwnL.rdL {w : World} {base : Nat} {v : Value} {vs : List Value} {ls : List (List UInt8)} (h : OwnL w base v vs ls) (hle : ls.length ≤ 140737488355328) (hb : ∀ x ∈ ls, x.length ≤ 140737488355328) :
    ∃ A c, v = .slice A ls.length c ∧ RdL w A ls.length ls ∧ ls.length ≤ c ∧ c ≤ 9223372036854775807 := by
  rcases h.row.2 with ⟨rfl, h0⟩ | ⟨g, cap, cur, rfl, hg0, hg, hnc, hcm, hcs, htake⟩
  · have : ls = [] := List.eq_nil_of_length_eq_zero h0
    subst this
    exact ⟨none, 0, rfl, RdL.nil _ _, Nat.le_refl _, by omega⟩
  · refine ⟨_, cap, rfl, ⟨rfl, hle, fun _ => ⟨g, 0, rfl, fun j l hl => ?_⟩⟩, hnc, hcm⟩
    obtain ⟨u, h1, h2⟩ := h.el j l hl
    obtain ⟨A, c, rfl, hrd, _⟩ := own_rdB h2 (hb l (List.mem_of_getElem? hl))
    refine ⟨A, _, c, ?_, hrd⟩
    have hj : j < ls.length := (List.getElem?_eq_some_iff.1 hl).1
    simp only [World.cell?, hg, Option.isSome_none, Bool.false_eq_true, if_false, Nat.zero_add]
    have := congrArg (fun x => x[j]?) htake
    simp only [Nat.mul_one, List.getElem?_take, if_pos hj, h1, Array.getElem?_toList] at this
    exact this

/-- A log's records are read. -/
theorem LogAt'.rdL {w : World} {F : Nat → Prop} {b p : Nat} {L : Wal.Lg} {v : Value} {vs : List Value} (h : LogAt' w F b p L v vs) : ∃ A c, v = .slice A L.recs.length c ∧ RdL w A L.recs.length L.recs := by
  have hle := h.many
  rcases h.own.2 with ⟨rfl, h0⟩ | ⟨g, cap, cur, rfl, hg0, hg, hnc, hcm, hcs, htake⟩
  · have : L.recs = [] := List.eq_nil_of_length_eq_zero h0
    rw [this]
    exact ⟨none, 0, rfl, RdL.nil _ _⟩
  · refine ⟨_, cap, rfl, ⟨rfl, by omega, fun _ => ⟨g, 0, rfl, fun j l hl => ?_⟩⟩⟩
    obtain ⟨A, n, c, h1, h2, _⟩ := h.rd j l hl
    refine ⟨A, n, c, ?_, h2⟩
    have hj : j < L.recs.length := (List.getElem?_eq_some_iff.1 hl).1
    simp only [World.cell?, hg, Option.isSome_none, Bool.false_eq_true, if_false, Nat.zero_add]
    have := congrArg (fun x => x[j]?) htake
    simp only [Nat.mul_one, List.getElem?_take, if_pos hj, h1, Array.getElem?_toList] at this
    exact this

/-- A call answers rows of bytes of its own. -/
def RetOwnL (w : World) (ls : List (List UInt8)) (e : Ending) (w' : World) : Prop := ∃ v vs, e = .returned v ∧ OwnL w' w.heap.size v vs ls ∧ Keeps Non w w'

set_option maxHeartbeats 2000000 in
set_option maxRecDepth 100000 in
theorem records_any (F : Nat → Prop) (b p g : Nat) (d : Dk) (L : Wal.Lg) (w : World) (hW : Wl w F b p g d L) :
    Calls Tryz.prog 30 #[.pointer (some ⟨b, 0, none⟩)] w (RetOwnL w L.recs) := by
  obtain ⟨v, vs, hl⟩ := hW.log
  have c4 := hl.cells.c4
  obtain ⟨A, c, rfl, hr⟩ := hl.rdL
  have hmany := hl.many
  obtain ⟨ls, hls⟩ : ∃ ls, ls = L.recs := ⟨_, rfl⟩
  rw [← hls] at c4 hr hmany ⊢
  obtain ⟨m, hm⟩ : ∃ m, m = ls.length := ⟨_, rfl⟩
  rw [← hm] at c4 hr hmany
  have HM := Lib.hid hm
  clear hm hls
  go_enter Tryz.func30, Tryz.ntmps30
  go_wp2
  go_loopw [3, 11] (fun v i wr => ∃ (k : Nat) (us : List Value), k ≤ m ∧ i = .int .i64 k ∧ OwnL wr w.heap.size v us (ls.take k) ∧ Below w.heap.size w wr) (fun _ i _ => m - (intOf i).toNat)
  case atStart => exact ⟨0, [], Nat.zero_le _, rfl, OwnL.nil _ _, Below.refl _ _⟩
  case round =>
    obtain ⟨k, us, hk, rfl, hown, hbel⟩ := hrel
    by_cases hlt : k < m
    · obtain ⟨bb, off, Aj, nj, cj, rfl, hck, hrk⟩ := (hr.below hbel).at_ k hlt
      have hlen : k < ls.length := by rw [← HM.out]; exact hlt
      have H2 : Hid (ls.take (k + 1) = ls.take k ++ [ls[k]]) := List.take_succ_eq_append_getElem hlen
      have HK : Hid ((ls.take k).length = k) := by show _ = _; rw [List.length_take]; omega
      have hsz := hbel.size
      obtain ⟨i0, hi0, hz0, hs0, hb0⟩ := info_sl'
      obtain ⟨x, hx⟩ : ∃ x, x = ls[k] := ⟨_, rfl⟩
      rw [← hx] at H2 hrk
      clear hx
      go_wp2_with fail
      refine (clone_own Aj nj cj x wr hrk).mono ?_
      rintro e w2 ⟨u, rfl, hu, hk2⟩
      obtain ⟨Au, cu, rfl⟩ : ∃ A c, u = .slice A x.length c := by
        obtain ⟨A, c, _, _, h, _⟩ := own_form hu
        exact ⟨A, c, h⟩
      have hbel2 : Below w.heap.size w w2 := hbel.trans (hk2.none_below.mono hsz)
      have hown2 := hown.keep hk2 fun _ _ h => h
      have hu2 := own_base hu hsz
      have hka : Keeps Non w2 (w2.alloc (.cells #[.slice Au x.length cu] 60)) := (Keeps.refl _ _).alloc _
      have hownA := hown2.keep hka fun _ _ h => h
      have huA := own_kept hu2 hka fun _ _ h => h
      have hbelA : Below w.heap.size w (w2.alloc (.cells #[.slice Au x.length cu] 60)) := hbel2.alloc hbel2.size _
      have hrowA := hownA.row
      rw [HK.out] at hrowA
      have hz2 := hbelA.size
      clear hrk hck hu hk2 hown hbel hown2 hu2
      go_wp2_with (at_builtin; go_loud (refine wpList_append_lies _ rfl _ _ _ rfl w.heap.size 60 i0 (.slice none 0 0) 1 24 Tryz.underlying79 hi0 hz0 hs0 hb0 rfl (by omega) u3 k us rfl hrowA ⟨w2.heap.size, 0, none⟩ 1 1 [.slice Au x.length cu] rfl rfl (World.news_of_block (heap_new _ _)) (fun z hz => by simp at hz; subst hz; rfl) (by omega) (by unfold maxLen; omega) (by omega) hz2 (w2.heap.size + 1) (by simp) ?_; intro gg cap w5 hown5 hgrow hor hlt5))
      have hL5 := hownA.push huA hgrow (by rw [HK.out]; exact hown5)
      have hbel5 := own_below hrowA hbelA hgrow hz2
      have HL5 := Lib.hid hL5
      clear hL5 hown5 hgrow hor hownA huA hrowA hka
      go_wp2
      go_roundw
      case rel => exact ⟨k + 1, _, by omega, by go_num, by rw [H2.out]; exact HL5.out, hbel5⟩
      case measure => simp [intOf]; omega
    · obtain rfl : k = m := by omega
      have H3 : Hid (ls.take k = ls) := by show ls.take k = ls; rw [List.take_of_length_le (by rw [← HM.out]; omega)]
      rw [H3.out] at hown
      have HO := Lib.hid hown
      clear hown
      go_wp2
      go_ret
      exact ⟨_, _, rfl, HO.out, Keeps.of_below hbel⟩
end Go.Proofs.YtbmamhcjbhnkiaaGreat
