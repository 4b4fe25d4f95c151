/- Layer 8: the walks of the reference: number, four, generation. -/
import Derived.Test.YtbmamhcjbhnkiaaKyf
import Derived.Test.YtbmamhcjbhnkiaaKg
namespace Go.Proofs.Ytbmamhcjbhnkiaa
open Go.RowKit

theorem get_slc {l : List UInt8} {x : Nat} {b0 b1 b2 b3 : UInt8} (h0 : l[x]? = some b0) (h1 : l[x + 1]? = some b1) (h2 : l[x + 2]? = some b2) (h3 : l[x + 3]? = some b3) :
    Crc.get (Wal.slc l x 4) = ((b0.toNat * 256 + b1.toNat) * 256 + b2.toNat) * 256 + b3.toNat := by
  have e : Wal.slc l x 4 = [b0, b1, b2, b3] := by
    apply List.ext_getElem?
    intro i
    rw [Wal.slc_get?]
    match i with
    | 0 => simpa using h0
    | 1 => simpa using h1
    | 2 => simpa using h2
    | 3 => simpa using h3
    | i + 4 => rw [if_neg (by omega)]; rfl
  rw [e]; simp [Crc.get]

set_option maxRecDepth 100000 in
theorem rnumber_any (A : Option Addr) (n c : Nat) (l : List UInt8) (x : Nat) (hx : x + 4 ≤ n) (w : World) (hr : RdB w A n l) :
    Calls Try.prog 107 #[.slice A n c, .int .i64 (x : Int)] w fun e w' => e = .returned (.int .i64 (Crc.get (Wal.slc l x 4) : Int)) ∧ ∃ q, w.drewN q = w' := by
  have hle := hr.le
  obtain ⟨b, off, b0, rfl, g0, e0⟩ := hr.get (k := x) (by omega)
  obtain ⟨_, _, b1, q1, g1, e1⟩ := hr.get (k := x + 1) (by omega)
  cases q1
  obtain ⟨_, _, b2, q2, g2, e2⟩ := hr.get (k := x + 2) (by omega)
  cases q2
  obtain ⟨_, _, b3, q3, g3, e3⟩ := hr.get (k := x + 3) (by omega)
  cases q3
  have HG := Lib.hid (get_slc g0 g1 g2 g3)
  rw [HG.out]
  have h0 := b0.toNat_lt
  have h1 := b1.toNat_lt
  have h2 := b2.toNat_lt
  have h3 := b3.toNat_lt
  have f0 : ∀ q, (w.drewN q).cell? ⟨b, off + x, none⟩ = some (bv b0) := fun q => e0
  have f1 : ∀ q, (w.drewN q).cell? ⟨b, off + (x + 1), none⟩ = some (bv b1) := fun q => e1
  have f2 : ∀ q, (w.drewN q).cell? ⟨b, off + (x + 2), none⟩ = some (bv b2) := fun q => e2
  have f3 : ∀ q, (w.drewN q).cell? ⟨b, off + (x + 3), none⟩ = some (bv b3) := fun q => e3
  have t1 : IntKind.i64.wrap ((x : Int) + 1) = (x : Int) + 1 := by rw [IntKind.wrap_i64]; omega
  have t2 : IntKind.i64.wrap ((x : Int) + 2) = (x : Int) + 2 := by rw [IntKind.wrap_i64]; omega
  have t3 : IntKind.i64.wrap ((x : Int) + 3) = (x : Int) + 3 := by rw [IntKind.wrap_i64]; omega
  clear g0 g1 g2 g3 hr
  go_enter Try.func107, Try.ntmps107
  go_wp2_with fail
  go_quiet (fail)
  go_wp2_with fail
  go_ret
  exact ⟨ret_int (by omega), _, rfl⟩

theorem rfour_any (n : Nat) (h : n < 4294967296) (w : World) :
    Calls Try.prog 108 #[.int .i64 (n : Int)] w fun e w' => e = .returned (.slice (some ⟨w.heap.size, 0, none⟩) 4 4) ∧ w'.heap[w.heap.size]? = some (.cells ((Crc.four n).map bv).toArray 5) ∧ Keeps Non w w' := by
  go_enter Try.func108, Try.ntmps108
  go_wp2
  go_ret
  refine ⟨rfl, ?_, (Keeps.refl _ _).alloc _⟩
  rw [heap_new]
  simp only [Crc.four, List.map, bv_ofNat]
  have e1 : ((n / 16777216 % 256 : Nat) : Int) = (n : Int) / 16777216 := by omega
  have e2 : ((n / 65536 % 256 : Nat) : Int) = (n : Int) / 65536 % 256 := by omega
  have e3 : ((n / 256 % 256 : Nat) : Int) = (n : Int) / 256 % 256 := by omega
  have e4 : ((n % 256 : Nat) : Int) = (n : Int) % 256 := by omega
  rw [e1, e2, e3, e4]
theorem genOf_at {l : List UInt8} {x : Nat} (h : x + 16 ≤ l.length) {x8 : UInt8} (hx : l[x + 8]? = some x8) : Wal.genOf (Wal.slc l x 16) =
    if x8 ≠ 1 ∨ Crc.get (Wal.slc l (x + 4) 4) ≠ Crc.sum (Wal.slc l x 4) ∨ 2147483647 < Crc.get (Wal.slc l x 4) then 0 else Crc.get (Wal.slc l x 4) := by
  have e8 : (Wal.slc l x 16)[8]? = some x8 := by rw [Wal.slc_get (by omega), hx]
  have e0 : (Wal.slc l x 16).take 4 = Wal.slc l x 4 := by simp [Wal.slc, List.take_take]
  have e4 : Wal.slc (Wal.slc l x 16) 4 4 = Wal.slc l (x + 4) 4 := Wal.slc_slc (by omega)
  rw [genOf_case e8, e0, e4]

set_option maxHeartbeats 2000000 in
set_option maxRecDepth 100000 in
theorem rgeneration_any (A : Option Addr) (n c : Nat) (l : List UInt8) (x : Nat) (hx : x + 16 ≤ n) (w : World) (hr : RdB w A n l) :
    Calls Try.prog 106 #[.slice A n c, .int .i64 (x : Int)] w fun e w' => e = .returned (.int .i64 (Wal.genOf (Wal.slc l x 16) : Int)) ∧ Keeps Non w w' := by
  have hle := hr.le
  obtain ⟨b, off, x8, rfl, g8, e8⟩ := hr.get (k := x + 8) (by omega)
  have hlen := hr.len
  have HC := Lib.hid (genOf_at (x := x) (by omega) g8)
  obtain ⟨z, hz⟩ : ∃ z, z = Wal.genOf (Wal.slc l x 16) := ⟨_, rfl⟩
  rw [← hz] at HC ⊢
  have l4 : (Wal.slc l x 4).length = 4 := Wal.slc_length (by omega)
  have hn4 := Crc.get_lt _ l4
  have hf4 : Hid (Crc.four (Crc.get (Wal.slc l x 4)) = Wal.slc l x 4) := Crc.four_get _ l4
  have t8 : IntKind.i64.wrap ((x : Int) + 8) = (x : Int) + 8 := by rw [IntKind.wrap_i64]; omega
  have t4 : IntKind.i64.wrap ((x : Int) + 4) = (x : Int) + 4 := by rw [IntKind.wrap_i64]; omega
  obtain ⟨m, hm⟩ : ∃ m, m = Crc.get (Wal.slc l x 4) := ⟨_, rfl⟩
  obtain ⟨s4, hs4⟩ : ∃ s4, s4 = Wal.slc l x 4 := ⟨_, rfl⟩
  rw [← hs4] at hm HC hf4 hn4
  rw [← hm] at HC hf4 hn4
  have HS := Lib.hid hs4
  have HM := Lib.hid hm
  have f8 : ∀ q, (w.drewN q).cell? ⟨b, off + (x + 8), none⟩ = some (bv x8) := fun q => e8
  clear hz hs4 hm l4 g8 e8 hlen
  by_cases h8 : x8 = 1
  · subst h8
    by_cases hbig : 2147483647 < m
    · have HE : Hid (z = 0) := by show _ = _; rw [HC.out, if_pos (.inr (.inr hbig))]
      go_enter Try.func106, Try.ntmps106
      go_wp2_with fail
      refine (rnumber_any _ n c l x (by omega) w hr).mono ?_
      rintro e w1 ⟨rfl, q, rfl⟩
      rw [← HS.out, ← HM.out]
      go_wp2_with fail
      go_ret
      rw [HE.out]
      exact ⟨rfl, (Keeps.refl _ _).drewN q⟩
    · have HC2 : Hid (z = if Crc.get (Wal.slc l (x + 4) 4) ≠ Crc.sum s4 then 0 else m) := by
        show _ = _
        rw [HC.out]
        by_cases hh : Crc.get (Wal.slc l (x + 4) 4) ≠ Crc.sum s4
        · rw [if_pos (.inr (.inl hh)), if_pos hh]
        · rw [if_neg (by rintro (h | h | h); exact h rfl; exact hh h; exact hbig h), if_neg hh]
      obtain ⟨u, hu⟩ : ∃ u, u = Crc.get (Wal.slc l (x + 4) 4) := ⟨_, rfl⟩
      rw [← hu] at HC2
      have HU := Lib.hid hu
      have hr1 : ∀ q, RdB (w.drewN q) (some ⟨b, off, none⟩) n l := fun q => hr.keepN ((Keeps.refl _ _).drewN q)
      clear hu HC
      by_cases hs : u = Crc.sum s4
      · have HE : Hid (z = m) := by show _ = _; rw [HC2.out, if_neg (fun h => h hs)]
        have HSu := Lib.hid hs
        clear hs HC2
        go_enter Try.func106, Try.ntmps106
        go_wp2_with fail
        refine (rnumber_any _ n c l x (by omega) w hr).mono ?_
        rintro e w1 ⟨rfl, q, rfl⟩
        rw [← HS.out, ← HM.out]
        go_wp2_with fail
        refine (rnumber_any _ n c l (x + 4) (by omega) _ (hr1 q)).mono ?_
        rintro e w2 ⟨rfl, q2, rfl⟩
        rw [← HU.out]
        go_wp2_with fail
        refine (rfour_any m hn4 _).mono ?_
        rintro e w3 ⟨rfl, h3, hk3⟩
        have r3 := rd_four h3
        rw [hf4.out] at r3
        have hk03 : Keeps Non w w3 := ((Keeps.refl _ _).drewN (q + q2)).trans hk3
        clear h3 hk3
        go_wp2_with fail
        refine (rsum3_any _ 4 4 s4 w3 r3).mono ?_
        rintro e w' ⟨rfl, rfl⟩
        rw [← HSu.out]
        go_wp2_with fail
        go_ret
        rw [HE.out]
        exact ⟨rfl, hk03⟩
      · have HE : Hid (z = 0) := by show _ = _; rw [HC2.out, if_pos hs]
        obtain ⟨sm, hsm⟩ : ∃ sm, sm = Crc.sum s4 := ⟨_, rfl⟩
        rw [← hsm] at hs
        have HSm := Lib.hid hsm
        have hne : ((u : Int) != (sm : Int)) = true := by rw [bne_iff_ne]; omega
        clear hs HC2 hsm
        go_enter Try.func106, Try.ntmps106
        go_wp2_with fail
        refine (rnumber_any _ n c l x (by omega) w hr).mono ?_
        rintro e w1 ⟨rfl, q, rfl⟩
        rw [← HS.out, ← HM.out]
        go_wp2_with fail
        refine (rnumber_any _ n c l (x + 4) (by omega) _ (hr1 q)).mono ?_
        rintro e w2 ⟨rfl, q2, rfl⟩
        rw [← HU.out]
        go_wp2_with fail
        refine (rfour_any m hn4 _).mono ?_
        rintro e w3 ⟨rfl, h3, hk3⟩
        have r3 := rd_four h3
        rw [hf4.out] at r3
        have hk03 : Keeps Non w w3 := ((Keeps.refl _ _).drewN (q + q2)).trans hk3
        clear h3 hk3
        go_wp2_with fail
        refine (rsum3_any _ 4 4 s4 w3 r3).mono ?_
        rintro e w' ⟨rfl, rfl⟩
        rw [← HSm.out]
        go_wp2_with fail
        go_ret
        rw [HE.out]
        exact ⟨rfl, hk03⟩
  · have HE : Hid (z = 0) := by show _ = _; rw [HC.out, if_pos (.inl h8)]
    have hne : ((x8.toNat : Int) != 1) = true := by
      rw [bne_iff_ne]
      intro hh
      exact h8 (UInt8.toNat_inj.1 (by show x8.toNat = 1; omega))
    clear h8 HC
    go_enter Try.func106, Try.ntmps106
    go_wp2_with fail
    refine (rnumber_any _ n c l x (by omega) w hr).mono ?_
    rintro e w1 ⟨rfl, q, rfl⟩
    rw [← HS.out, ← HM.out]
    go_wp2_with fail
    go_ret
    rw [HE.out]
    exact ⟨rfl, (Keeps.refl _ _).drewN q⟩
end Go.Proofs.Ytbmamhcjbhnkiaa
