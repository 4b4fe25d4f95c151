/- Layer 8: the walk of told. -/
import Derived.Test.YtbmamhcjbhnkiaaKyp
namespace Go.Proofs.Ytbmamhcjbhnkiaa
open Go.RowKit

/-- The document's error for an Append. -/
def told1 (dl sz cw : Nat) : Int := if dl < 1 then 11 else if sz < cw + 9 + dl then 21 else 0
/-- The document's error for an Anew. -/
def told2 (ls : List (List UInt8)) (sz gen : Nat) : Int := if rcost ls < 0 then 11 else if (sz : Int) < rcost ls then 21 else if gen = 2147483647 then 14 else 0

set_option maxHeartbeats 2000000 in
set_option maxRecDepth 100000 in
theorem told1_any (A : Option Addr) (m c : Nat) (ls : List (List UInt8)) (hm2 : m ≤ 1048576) (o : O8) (hk : o.k = 1) (sz gen cw : Nat) (hcw : rcost ls = (cw : Int)) (hcb : cw ≤ 2097152) (hdl : o.dl ≤ 300) (w : World) (hr : RdL w A m ls) :
    Calls Try.prog 54 #[.slice A m c, .agg o.cells.toArray, .int .i64 (sz : Int), .int .i64 (gen : Int)] w fun e w' => e = .returned (.int .i64 (told1 o.dl sz cw)) ∧ Keeps Non w w' := by
  obtain ⟨k, t, n, da, dl, dc, dz, aa, al, ac, A', L', C', Z'⟩ := o
  simp only [] at hk hdl
  subst hk
  simp only [O8.cells]
  have hkA : Keeps Non w (w.alloc (.cells #[.int .i64 1, .int .i64 t, .int .i64 n, .slice da dl dc, .slice aa al ac] 89)) := (Keeps.refl _ _).alloc _
  have h5 : Cells5 (w.alloc (.cells #[.int .i64 1, .int .i64 t, .int .i64 n, .slice da dl dc, .slice aa al ac] 89)) w.heap.size 0 ⟨1, t, n, da, dl, dc, dz, aa, al, ac, A', L', C', Z'⟩ := cells5 (heap_new _ _)
  obtain ⟨w1, hw1⟩ : ∃ w1, w1 = w.alloc (.cells #[.int .i64 1, .int .i64 t, .int .i64 n, .slice da dl dc, .slice aa al ac] 89) := ⟨_, rfl⟩
  rw [← hw1] at hkA h5
  obtain ⟨e0, -, -, e3, e4⟩ := h5
  simp only [Nat.zero_add] at e0 e3 e4
  have HW := Lib.hid hw1
  clear hw1
  obtain ⟨z, hz⟩ : ∃ z, z = told1 dl sz cw := ⟨_, rfl⟩
  rw [← hz]
  by_cases h1 : dl < 1
  · have HZ : Hid (z = 11) := by show _ = _; rw [hz]; exact if_pos h1
    clear hz hcw
    go_enter Try.func54, Try.ntmps54
    go_wp2_with fail
    rw [← HW.out]
    go_wp2_with fail
    go_ret
    rw [HZ.out]
    exact ⟨rfl, hkA⟩
  · have e3' : w1.drew.cell? ⟨w.heap.size, 3, none⟩ = some (.slice da dl dc) := e3
    have hr1 : RdL w1.drew A m ls := (hr.below hkA.none_below).below ((Keeps.refl Non w1).drew).none_below
    have Hc := Lib.hid hcw
    have t1 : IntKind.i64.wrap ((cw : Int) + 9) = (cw : Int) + 9 := by rw [IntKind.wrap_i64]; omega
    have t2 : IntKind.i64.wrap ((cw : Int) + 9 + (dl : Int)) = (cw : Int) + 9 + (dl : Int) := by rw [IntKind.wrap_i64]; omega
    by_cases h2 : sz < cw + 9 + dl
    · have HZ : Hid (z = 21) := by show _ = _; rw [hz]; unfold told1; rw [if_neg h1, if_pos h2]
      clear hz hcw
      go_enter Try.func54, Try.ntmps54
      go_wp2_with fail
      rw [← HW.out]
      go_wp2_with fail
      go_region_held3 (fun w' => w'.cell? ⟨w.heap.size, 3, none⟩ = some (.slice da dl dc)) (exact e3') (first
        | (go_at_call 88; refine (rcost_any A m c ls hm2 _ hr1).mono ?_; rintro e w' ⟨rfl, rfl⟩; rw [Hc.out]))
      all_goals
        go_wp2_with fail
        go_ret
        rw [HZ.out]
        exact ⟨rfl, hkA.drew⟩
    · have HZ : Hid (z = 0) := by show _ = _; rw [hz]; unfold told1; rw [if_neg h1, if_neg h2]
      clear hz hcw
      go_enter Try.func54, Try.ntmps54
      go_wp2_with fail
      rw [← HW.out]
      go_wp2_with fail
      go_region_held3 (fun w' => w'.cell? ⟨w.heap.size, 3, none⟩ = some (.slice da dl dc)) (exact e3') (first
        | (go_at_call 88; refine (rcost_any A m c ls hm2 _ hr1).mono ?_; rintro e w' ⟨rfl, rfl⟩; rw [Hc.out]))
      all_goals
        go_wp2_with fail
        go_ret
        rw [HZ.out]
        exact ⟨rfl, hkA.drew⟩

set_option maxHeartbeats 2000000 in
set_option maxRecDepth 100000 in
theorem told2_any (A : Option Addr) (m c : Nat) (o : O8) (ls : List (List UInt8)) (hm2 : o.al ≤ 1048576) (hk : ((o.k == 1) : Bool) = false) (sz gen : Nat) (w : World) (hr : RdL w o.aa o.al ls) :
    Calls Try.prog 54 #[.slice A m c, .agg o.cells.toArray, .int .i64 (sz : Int), .int .i64 (gen : Int)] w fun e w' => e = .returned (.int .i64 (told2 ls sz gen)) ∧ Keeps Non w w' := by
  obtain ⟨k, t, n, da, dl, dc, dz, aa, al, ac, A', L', C', Z'⟩ := o
  simp only [] at hk hm2 hr
  simp only [O8.cells]
  have hkA : Keeps Non w (w.alloc (.cells #[.int .i64 k, .int .i64 t, .int .i64 n, .slice da dl dc, .slice aa al ac] 89)) := (Keeps.refl _ _).alloc _
  have h5 : Cells5 (w.alloc (.cells #[.int .i64 k, .int .i64 t, .int .i64 n, .slice da dl dc, .slice aa al ac] 89)) w.heap.size 0 ⟨k, t, n, da, dl, dc, dz, aa, al, ac, A', L', C', Z'⟩ := cells5 (heap_new _ _)
  obtain ⟨w1, hw1⟩ : ∃ w1, w1 = w.alloc (.cells #[.int .i64 k, .int .i64 t, .int .i64 n, .slice da dl dc, .slice aa al ac] 89) := ⟨_, rfl⟩
  rw [← hw1] at hkA h5
  obtain ⟨e0, -, -, e3, e4⟩ := h5
  simp only [Nat.zero_add] at e0 e3 e4
  have HW := Lib.hid hw1
  clear hw1
  obtain ⟨z, hz⟩ : ∃ z, z = told2 ls sz gen := ⟨_, rfl⟩
  rw [← hz]
  have hr1 : RdL w1 aa al ls := hr.below hkA.none_below
  obtain ⟨rc, hrc⟩ : ∃ rc, rc = rcost ls := ⟨_, rfl⟩
  have HRC := Lib.hid hrc
  have hz2 : z = if rc < 0 then 11 else if (sz : Int) < rc then 21 else if gen = 2147483647 then 14 else 0 := by rw [hz, hrc]; rfl
  clear hz hrc
  by_cases h1 : rc < 0
  · have HZ : Hid (z = 11) := by show _ = _; rw [hz2, if_pos h1]
    clear hz2
    go_enter Try.func54, Try.ntmps54
    go_wp2_with fail
    rw [← HW.out]
    go_wp2_with fail
    refine (rcost_any aa al ac ls hm2 w1 hr1).mono ?_
    rintro e w' ⟨rfl, rfl⟩
    rw [← HRC.out]
    go_wp2_with fail
    go_ret
    rw [HZ.out]
    exact ⟨rfl, hkA⟩
  · by_cases h2 : (sz : Int) < rc
    · have HZ : Hid (z = 21) := by show _ = _; rw [hz2, if_neg h1, if_pos h2]
      clear hz2
      go_enter Try.func54, Try.ntmps54
      go_wp2_with fail
      rw [← HW.out]
      go_wp2_with fail
      refine (rcost_any aa al ac ls hm2 w1 hr1).mono ?_
      rintro e w' ⟨rfl, rfl⟩
      rw [← HRC.out]
      go_wp2_with fail
      go_ret
      rw [HZ.out]
      exact ⟨rfl, hkA⟩
    · by_cases h3 : gen = 2147483647
      · have HZ : Hid (z = 14) := by show _ = _; rw [hz2, if_neg h1, if_neg h2, if_pos h3]
        clear hz2
        subst h3
        go_enter Try.func54, Try.ntmps54
        go_wp2_with fail
        rw [← HW.out]
        go_wp2_with fail
        refine (rcost_any aa al ac ls hm2 w1 hr1).mono ?_
        rintro e w' ⟨rfl, rfl⟩
        rw [← HRC.out]
        go_wp2_with fail
        go_ret
        rw [HZ.out]
        exact ⟨rfl, hkA⟩
      · have HZ : Hid (z = 0) := by show _ = _; rw [hz2, if_neg h1, if_neg h2, if_neg h3]
        have hgb : ((gen : Int) == 2147483647) = false := by rw [beq_eq_false_iff_ne]; omega
        clear hz2 h3
        go_enter Try.func54, Try.ntmps54
        go_wp2_with fail
        rw [← HW.out]
        go_wp2_with fail
        refine (rcost_any aa al ac ls hm2 w1 hr1).mono ?_
        rintro e w' ⟨rfl, rfl⟩
        rw [← HRC.out]
        go_wp2_with fail
        go_ret
        rw [HZ.out]
        exact ⟨rfl, hkA⟩
end Go.Proofs.Ytbmamhcjbhnkiaa
