/- Layer 9: the walks of a record's reader. -/
import Derived.Test.YtbmamhcjbhnkiaaGreatKza
import Derived.Deep.RegionHeld3
import Derived.BigQuiet
namespace Go.Proofs.YtbmamhcjbhnkiaaGreat
open Go.RowKit
open Kv (Bs Tab)

/-- A reader lies in block r, and has these bytes ahead, which lie in a block before q. -/
def Rdr (w : World) (r q : Nat) (l : Bs) : Prop := ∃ A n c, w.heap[r]? = some (.cells #[.slice A n c, .bool false] 107 (0, 0)) ∧ RdB w A n l ∧ n ≤ c ∧ c ≤ 9223372036854775807 ∧ (0 < n → ∀ a, A = some a → a.block < q)
theorem Rdr.keepN {w w' : World} {r q : Nat} {l : Bs} (h : Rdr w r q l) (hk : Keeps Non w w') : Rdr w' r q l := by
  obtain ⟨A, n, c, h1, h2, h3⟩ := h
  exact ⟨A, n, c, hk.at_ h1 id, h2.keepN hk, h3⟩
theorem Rdr.keep {S : Nat → Prop} {w w' : World} {r q : Nat} {l : Bs} (h : Rdr w r q l) (hk : Keeps S w w') (hr : ¬ S r) (hS : ∀ k, S k → q ≤ k) : Rdr w' r q l := by
  obtain ⟨A, n, c, h1, h2, h3, h4, h5⟩ := h
  exact ⟨A, n, c, hk.at_ h1 hr, h2.keep hk (fun h0 a ha hs => by have := h5 h0 a ha; have := hS _ hs; omega), h3, h4, h5⟩
theorem Rdr.lt {w : World} {r q : Nat} {l : Bs} (h : Rdr w r q l) : r < w.heap.size := by
  obtain ⟨_, _, _, h, _⟩ := h
  exact (Array.getElem?_eq_some_iff.1 h).1
theorem RdB.off {w : World} {b : Nat} {cs : Array Value} {e : TypeId} {fr : Nat × Nat} (hb : w.heap[b]? = some (.cells cs e fr)) (hn : ∀ (i : Nat) (x : Int), cs[i]? ≠ some (.int .u8 x)) {A : Option Addr} {n : Nat} {l : List UInt8} (h : RdB w A n l) (h0 : 0 < n) (a : Addr) (ha : A = some a) : a.block ≠ b := by
  obtain ⟨b', off, e, hc⟩ := h.cells h0
  rw [e] at ha
  cases ha
  have hl : 0 < l.length := by rw [h.len]; exact h0
  have hx := hc 0 _ (List.getElem?_eq_getElem hl)
  rintro rfl
  simp [World.cell?, hb] at hx
  exact hn _ _ hx

/-- What a call of take answers. -/
def RetTake (w : World) (r q m : Nat) (x y : Bs) (e : Ending) (w' : World) : Prop := ∃ A c, e = .returned (.slice A m c) ∧ RdB w' A m x ∧ m ≤ c ∧ c ≤ 9223372036854775807 ∧ (0 < m → ∀ a, A = some a → a.block < q) ∧ Rdr w' r q y ∧ Keeps (fun k => k = r) w w'

set_option maxHeartbeats 4000000 in
set_option maxRecDepth 100000 in
theorem take_any (r q m : Nat) (x y : Bs) (hx : x.length = m) (w : World) (h : Rdr w r q (x ++ y)) :
    Calls Tryz.prog 75 #[.pointer (some ⟨r, 0, none⟩), .int .i64 (m : Int)] w (RetTake w r q m x y) := by
  obtain ⟨A, n, c, hb, hr, hnc, hcm, hq⟩ := h
  have hlen := hr.len
  rw [List.length_append, hx] at hlen
  have c0 : w.cell? ⟨r, 0, none⟩ = some (.slice A n c) := by simp [World.cell?, hb]
  have c1 : w.cell? ⟨r, 1, none⟩ = some (.bool false) := by simp [World.cell?, hb]
  have f0 : w.frozen? ⟨r, 0, none⟩ = false := free hb 0
  have HL : Hid (m + y.length = n) := Lib.hid hlen
  have fin : ∀ (B A' : Option Addr) (c' : Nat), (B = A ∨ m = 0) → (m < n → ∃ b off, A = some ⟨b, off, none⟩ ∧ A' = some ⟨b, off + m, none⟩) → n - m ≤ c' → c' ≤ c → RetTake w r q m x y (.returned (.slice B m c)) (w.setCell ⟨r, 0, none⟩ (.slice A' (n - m) c')) := by
    intro B A' c' hB hA' h1 h2
    have hk : Keeps (fun k => k = r) w (w.setCell ⟨r, 0, none⟩ (.slice A' (n - m) c')) := (Keeps.refl _ _).set1 0 _
    have hrow := setCell_row w r 0 _ _ _ hb (.slice A' (n - m) c')
    have hoff : 0 < n → ∀ a, A = some a → ¬ a.block = r := fun h0 a ha => RdB.off hb (fun i z => by match i with | 0 => simp | 1 => simp | _ + 2 => simp) hr h0 a ha
    have hr' := hr.keep hk hoff
    refine ⟨B, c, rfl, ?_, by omega, hcm, fun h0 a ha => hq (by omega) a (by rcases hB with h | h; exact h ▸ ha; omega), ⟨A', n - m, c', hrow, ?_, h1, by omega, fun h0 a ha => ?_⟩, hk⟩
    · rcases hB with rfl | h0
      · have := hr'.take (m := m) (by omega)
        rwa [List.take_left' hx] at this
      · subst h0
        have : x = [] := List.eq_nil_of_length_eq_zero hx
        subst this
        exact RdB.nil _ _
    · rcases Nat.lt_or_ge m n with hlt | hge
      · obtain ⟨b, off, rfl, rfl⟩ := hA' hlt
        have := RdB.sub hr' (q := m) (m := n - m) (by omega)
        have hs : Wal.slc (x ++ y) m (n - m) = y := by
          unfold Wal.slc
          rw [List.drop_left' hx, List.take_of_length_le (by omega)]
        rwa [hs] at this
      · have : y = [] := List.eq_nil_of_length_eq_zero (by omega)
        subst this
        rw [show n - m = 0 by omega]
        exact RdB.nil _ _
    · obtain ⟨b, off, e1, e2⟩ := hA' (by omega)
      rw [e2] at ha
      cases ha
      have := hq (by omega) _ e1
      exact this
  have Fin := Lib.hid fin
  clear fin hlen hb hq
  rcases Nat.eq_zero_or_pos n with h0 | h0
  · subst h0
    obtain rfl : m = 0 := by have := HL.out; omega
    go_enter Tryz.func75, Tryz.ntmps75
    go_wp2_with fail
    go_ret
    exact Fin.out A A c (.inl rfl) (fun h => by omega) (by omega) (Nat.le_refl _)
  · obtain ⟨b, off, rfl, hc⟩ := hr.cells h0
    have hle : ¬ n < m := by have := HL.out; omega
    clear hc hr
    by_cases hmc : m = c
    · subst hmc
      go_enter Tryz.func75, Tryz.ntmps75
      go_wp2_with fail
      go_ret
      have := Fin.out (some ⟨b, off, none⟩) (some ⟨b, off, none⟩) 0 (.inl rfl) (fun h => by omega) (by omega) (by omega)
      rw [show n - m = 0 by omega] at this
      exact this
    · go_enter Tryz.func75, Tryz.ntmps75
      go_wp2_with fail
      go_ret
      exact Fin.out _ _ _ (.inl rfl) (fun h => ⟨b, off, rfl, rfl⟩) (by omega) (by omega)

theorem take_any' (r q m : Nat) (z : Int) (hz : z = (m : Int)) (x y : Bs) (hx : x.length = m) (w : World) (h : Rdr w r q (x ++ y)) :
    Calls Tryz.prog 75 #[.pointer (some ⟨r, 0, none⟩), .int .i64 z] w (RetTake w r q m x y) := by subst hz; exact take_any r q m x y hx w h
theorem i64_or_nat (a b : Nat) (ha : a < 9223372036854775808) (hb : b < 9223372036854775808) : bits .or .i64 (a : Int) (b : Int) = ((a ||| b : Nat) : Int) := by
  have hx : a ||| b < 2 ^ 63 := Nat.or_lt_two_pow (by omega) (by omega)
  show IntKind.i64.wrap ((BitVec.ofInt 64 (a : Int) ||| BitVec.ofInt 64 (b : Int)).toNat : Int) = _
  rw [BitVec.toNat_or, ofInt_i64 a ha, ofInt_i64 b hb, IntKind.wrap_i64]
  omega
theorem two_bytes {n : Nat} (h : n ≤ 4096) : bits .or .i64 (IntKind.i64.wrap (IntKind.i64.wrap ((n : Int) / 256) * 256)) (IntKind.i64.wrap ((n : Int) % 256)) = (n : Int) := by
  have e1 : IntKind.i64.wrap ((n : Int) / 256) = ((n / 256 : Nat) : Int) := by rw [IntKind.wrap_i64]; omega
  have e2 : IntKind.i64.wrap (((n / 256 : Nat) : Int) * 256) = ((n / 256 * 256 : Nat) : Int) := by rw [IntKind.wrap_i64]; omega
  have e3 : IntKind.i64.wrap ((n : Int) % 256) = ((n % 256 : Nat) : Int) := by rw [IntKind.wrap_i64]; omega
  rw [e1, e2, e3, i64_or_nat _ _ (by omega) (by omega)]
  have := Nat.two_pow_add_eq_or_of_lt (i := 8) (b := n % 256) (by omega) (n / 256)
  rw [show 2 ^ 8 * (n / 256) = n / 256 * 256 by omega] at this
  rw [← this]
  omega

/-- What a call of step answers. -/
def RetRStep (w : World) (r q : Nat) (p : Kv.St) (y : Bs) (e : Ending) (w' : World) : Prop := ∃ A n c, e = .returned (.agg #[kd p, sv p.k, .slice A n c]) ∧ RdB w' A n p.v ∧ n ≤ c ∧ c ≤ 9223372036854775807 ∧ (∀ a, A = some a → w.heap.size ≤ a.block) ∧ Rdr w' r q y ∧ Keeps (fun k => k = r) w w'

set_option maxHeartbeats 8000000 in
set_option maxRecDepth 100000 in
theorem rstep_put (r q : Nat) (k v y : Bs) (hk1 : 1 ≤ k.length) (hk : k.length ≤ 128) (hv : v.length ≤ 4096) (w : World) (hqw : q ≤ r) (h : Rdr w r q (Kv.enc ⟨false, k, v⟩ ++ y)) :
    Calls Tryz.prog 52 #[.pointer (some ⟨r, 0, none⟩)] w (RetRStep w r q ⟨false, k, v⟩ y) := by
  have e0 : Kv.enc ⟨false, k, v⟩ ++ y = [1] ++ ([UInt8.ofNat k.length] ++ (k ++ ([UInt8.ofNat (v.length / 256), UInt8.ofNat v.length] ++ (v ++ y)))) := by simp [Kv.enc]
  rw [e0] at h
  have hr0 : r < w.heap.size := by obtain ⟨_, _, _, h, _⟩ := h; exact (Array.getElem?_eq_some_iff.1 h).1
  have h' : Rdr (w.alloc (.cells #[.int .u8 0, sv [], .slice none 0 0] 97)) r q ([1] ++ ([UInt8.ofNat k.length] ++ (k ++ ([UInt8.ofNat (v.length / 256), UInt8.ofNat v.length] ++ (v ++ y))))) := by
    obtain ⟨A, n, c, h1, h2, h3⟩ := h
    exact ⟨A, n, c, heap_old h1 _, h2.keepN ((Keeps.refl _ _).alloc _), h3⟩
  clear e0 h
  go_enter Tryz.func52, Tryz.ntmps52
  go_wp2_with fail
  refine (take_any r q 1 _ _ rfl _ h').mono ?_
  rintro e w1 ⟨A1, s1, rfl, r1, -, -, -, h1, k1⟩
  obtain ⟨b1, o1, x1, rfl, hx1, q1⟩ := r1.get (k := 0) (by decide)
  have hx1' : x1 = 1 := by simpa using hx1.symm
  subst hx1'
  rw [Nat.add_zero] at q1
  have q1' : w1.cell? ⟨b1, o1, none⟩ = some (.int .u8 1) := q1
  clear r1 hx1 q1
  obtain ⟨B, hB⟩ : ∃ B, B = w1.heap.size := ⟨_, rfl⟩
  obtain ⟨R, hR⟩ : ∃ R, R = w.heap.size := ⟨_, rfl⟩
  have zR : R < B := by have := k1.size; simp at this; omega
  have zr : r < R := by omega
  have kB : Keeps Non w1 (w1.alloc (.cells #[.int .u8 1, sv [], .slice none 0 0] 97)) := (Keeps.refl _ _).alloc _
  have bB := heap_new w1 (.cells #[.int .u8 1, sv [], .slice none 0 0] 97)
  have bR : w1.heap[R]? = some (.cells #[.int .u8 0, sv [], .slice none 0 0] 97) := k1.at_ (by rw [hR]; exact heap_new w _) (by omega)
  have bR2 := heap_old bR (.cells #[.int .u8 1, sv [], .slice none 0 0] 97)
  have h1' := h1.keepN kB
  rw [← hB] at bB
  have K1 : Keeps (fun k => k = r) w (w1.alloc (.cells #[.int .u8 1, sv [], .slice none 0 0] 97)) := ((((Keeps.refl _ w).alloc _).trans k1)).alloc _
  have HB := Lib.hid hB
  have HR := Lib.hid hR
  clear h1 kB bR k1 hB hR h'
  go_wp2_with fail
  rw [← HB.out, ← HR.out]
  refine (take_any r q 1 _ _ rfl _ h1').mono ?_
  rintro e w2 ⟨A2, s2, rfl, r2, -, -, -, h2, k2⟩
  obtain ⟨b2, o2, x2, rfl, hx2, q2⟩ := r2.get (k := 0) (by decide)
  have hx2' : x2 = UInt8.ofNat k.length := by simpa using hx2.symm
  subst hx2'
  rw [Nat.add_zero, ← u8_small (show k.length < 256 by omega)] at q2
  have bB2 := k2.at_ bB (by omega)
  have bR3 := k2.at_ bR2 (by omega)
  have K2 := K1.trans k2
  clear r2 hx2 bB bR2 K1 k2 h1'
  go_wp2_with fail
  refine (take_any r q k.length _ _ rfl _ h2).mono ?_
  rintro e w3 ⟨A3, s3, rfl, r3, n3, m3, -, h3, k3⟩
  have t3 := run_str w3 A3 k.length s3 k r3
  have bB3 := k3.at_ bB2 (by omega)
  have bR4 := k3.at_ bR3 (by omega)
  have K3 := K2.trans k3
  have f3 := free bB3 1
  have q3 := (trio bB3).c1
  have bB4 := setCell_row w3 B 1 _ _ _ bB3 (sv k)
  have bR5 := setCell_other (a := ⟨B, 1, none⟩) bR4 (by show R ≠ B; omega) (sv k)
  have kB4 : Keeps (fun k => k = B) w3 (w3.setCell ⟨B, 1, none⟩ (sv k)) := (Keeps.refl _ _).set1 1 _
  have h3' := h3.keep kB4 (by omega) (fun k h => by have := HR.out; omega)
  have t4 := trio bB4
  obtain ⟨g0, g1, g2⟩ := t4
  have K4 := K3.into kB4 (fun k hk h => by have := HB.out; have := HR.out; omega)
  clear bB2 bR3 r3 n3 m3 h3 K2 k3 bR4 K3 h2
  go_wp2_with fail
  refine (take_any r q 2 _ _ rfl _ h3').mono ?_
  rintro e w5 ⟨A5, s5, rfl, r5, -, -, z5, h5, k5⟩
  obtain ⟨b5, o5, x5, rfl, hx5, q5⟩ := r5.get (k := 0) (by decide)
  obtain ⟨b5', o5', x5', e5, hx5', q5'⟩ := r5.get (k := 1) (by decide)
  cases e5
  have z5 : b5 < q := z5 (by decide) _ rfl
  have hx5a : x5 = UInt8.ofNat (v.length / 256) := by simpa using hx5.symm
  have hx5b : x5' = UInt8.ofNat v.length := by simpa using hx5'.symm
  subst hx5a
  subst hx5b
  rw [Nat.add_zero, ← u8_small (show v.length / 256 < 256 by omega)] at q5
  rw [← u8_mod] at q5'
  have bB5 := k5.at_ bB4 (by omega)
  have bR6 := k5.at_ bR5 (by omega)
  have K5 := K4.trans k5
  clear bB3 f3 q3 bB4 bR5 kB4 h3' g0 g1 g2 t3 q1' q2 r5 hx5 hx5' k5 K4
  go_wp2_with fail
  go_region_held3 (fun w' => w'.cell? ⟨b5, o5, none⟩ = some (.int .u8 ((v.length / 256 : Nat) : Int)) ∧ w'.cell? ⟨b5, o5 + 1, none⟩ = some (.int .u8 ((v.length : Int) % 256))) (first | exact ⟨by simpa using q5, by simpa using q5'⟩ | exact ⟨q7, q7'⟩ | exact ⟨q6, q6'⟩ | exact ⟨((Keeps.refl (fun k => k = B) w7).set1 2 _).cell q7 (show ¬ b5 = B by omega), ((Keeps.refl (fun k => k = B) w7).set1 2 _).cell q7' (show ¬ b5 = B by omega)⟩) (first
    | (go_at_call 75; refine (take_any' r q v.length _ (two_bytes hv) v y rfl _ (h5.keepN ((Keeps.refl _ _).drew))).mono ?_; rintro e w6 ⟨A6, s6, rfl, r6, -, -, -, h6, k6⟩; have k6' : Keeps (fun k => k = r) w5 w6 := ((Keeps.refl _ w5).drew).trans k6; have q6 := k6'.cell q5 (show ¬ b5 = r by omega); have q6' := k6'.cell q5' (show ¬ b5 = r by omega))
    | (go_at_call 43; refine (clone_any A6 v.length s6 v w6 r6).mono ?_; rintro e w7 ⟨A7, n7, s7, rfl, r7, k7, g7, m7, c7⟩; have q7 := k7.cell q6 id; have q7' := k7.cell q6' id; have bB7 := k7.at_ (k6'.at_ bB5 (show ¬ B = r by omega)) id; have f7 := free bB7 2; have u7 := (trio bB7).c2))
  have hn7 := r7.len
  subst hn7
  have k8 : Keeps (fun k => k = B) w7 (w7.setCell ⟨B, 2, none⟩ (.slice A7 v.length s7)) := (Keeps.refl _ _).set1 2 _
  have bB8 := setCell_row w7 B 2 _ _ _ bB7 (.slice A7 v.length s7)
  have h8 := (h6.keepN k7).keep k8 (show ¬ r = B by omega) (fun i hi => by have := HR.out; omega)
  have bR8 := k8.at_ (k7.at_ (k6'.at_ bR6 (show ¬ R = r by omega)) id) (show ¬ R = B by omega)
  have r8 := r7.keep k8 (fun h0 a ha e => by have := g7 a ha; have := (Array.getElem?_eq_some_iff.1 (k6'.at_ bB5 (show ¬ B = r by omega))).1; omega)
  have g8 : ∀ a, A7 = some a → B < a.block := fun a ha => by have := g7 a ha; have := (Array.getElem?_eq_some_iff.1 (k6'.at_ bB5 (show ¬ B = r by omega))).1; omega
  have K8 := (((K5.trans k6').trans (k7.mono fun _ _ h => h.elim)).into k8 (fun k hk h => by have := HR.out; omega))
  obtain ⟨w8, hw8⟩ : ∃ w8, w8 = w7.setCell ⟨B, 2, none⟩ (.slice A7 v.length s7) := ⟨_, rfl⟩
  rw [← hw8] at bB8 h8 bR8 r8 K8
  have bB8' : w8.heap[B]? = some (.cells #[.int .u8 1, sv k, .slice A7 v.length s7] 97 (0, 0)) := bB8
  have H8 := Lib.hid hw8
  have E8 : List.isEmpty k = false := by cases k; simp at hk1; rfl
  have E9 : ¬ (128 < (k.length : Int)) := by omega
  have E10 : ¬ (4096 < (v.length : Int)) := by omega
  clear k8 bB8 h5 q5 q5' bB5 bR6 K5 r6 h6 k6 k6' q6 q6' r7 k7 g7 q7 q7' bB7 f7 u7 hw8
  obtain ⟨Ay, ny, cy, br, ry⟩ := id h8
  have t8 := trio bB8'
  obtain ⟨u0, u1, u2⟩ := t8
  have v1 : w8.cell? ⟨r, 1, none⟩ = some (.bool false) := by simp [World.cell?, br]
  have fr := free br 1
  have k9 : Keeps (fun k => k = r) w8 (w8.setCell ⟨r, 1, none⟩ (.bool false)) := (Keeps.refl _ _).set1 1 _
  have bB9 := k9.at_ bB8' (show ¬ B = r by omega)
  have bR9 := k9.at_ bR8 (show ¬ R = r by omega)
  have br9 := setCell_row w8 r 1 _ _ _ br (.bool false)
  have r9 := r8.keep k9 (fun h0 a ha e => RdB.off br (fun i z => by match i with | 0 => simp | 1 => simp | _ + 2 => simp) r8 h0 a ha e)
  have K9 := K8.trans k9
  obtain ⟨x0, x1, x2⟩ := trio bB9
  obtain ⟨y0, y1, y2⟩ := trio bR9
  have z0 := free bR9 0
  have z1 := free bR9 1
  have z2 := free bR9 2
  obtain ⟨w9, hw9⟩ : ∃ w9, w9 = w8.setCell ⟨r, 1, none⟩ (.bool false) := ⟨_, rfl⟩
  rw [← hw9] at k9 bB9 bR9 br9 r9 K9
  have k10 : Keeps (fun k => k = R) w9 (((w9.setCell ⟨R, 0, none⟩ (.int .u8 1)).setCell ⟨R, 1, none⟩ (sv k)).setCell ⟨R, 2, none⟩ (.slice A7 v.length s7)) := (((Keeps.refl _ _).set1 0 _).set1 1 _).set1 2 _
  have bR10 := setCell_row _ R 2 _ _ _ (setCell_row _ R 1 _ _ _ (setCell_row w9 R 0 _ _ _ bR9 (.int .u8 1)) (sv k)) (.slice A7 v.length s7)
  have bR10' : (((w9.setCell ⟨R, 0, none⟩ (.int .u8 1)).setCell ⟨R, 1, none⟩ (sv k)).setCell ⟨R, 2, none⟩ (.slice A7 v.length s7)).heap[R]? = some (.cells #[.int .u8 1, sv k, .slice A7 v.length s7] 97 (0, 0)) := bR10
  have H10 := Lib.hid (show RetRStep w r q ⟨false, k, v⟩ y (.returned (.agg #[.int .u8 1, sv k, .slice A7 v.length s7])) (((w9.setCell ⟨R, 0, none⟩ (.int .u8 1)).setCell ⟨R, 1, none⟩ (sv k)).setCell ⟨R, 2, none⟩ (.slice A7 v.length s7)) from
    ⟨A7, v.length, s7, rfl, r9.keep k10 (fun h0 a ha e => by have := g8 a ha; have e : a.block = R := e; omega), m7, c7, (fun a ha => by have := g8 a ha; have := HR.out; omega), ⟨Ay, ny, cy, k10.at_ br9 (show ¬ r = R by omega), (ry.1.keep k9 (fun h0 a ha e => by have := ry.2.2.2 h0 a ha; have e : a.block = r := e; omega)).keep k10 (fun h0 a ha e => by have := ry.2.2.2 h0 a ha; have e : a.block = R := e; omega), ry.2.1, ry.2.2.1, ry.2.2.2⟩, K9.into k10 (fun k hk h => by have := HR.out; omega)⟩)
  have B10 := Lib.hid bR10'
  have H9 := Lib.hid hw9
  rw [hw9] at H10 B10
  clear hw9 k9 bB9 bR9 br9 r9 K9 k10 bR10 bR10' H9 K8 r8 bR8 h8 bB8' br ry g8
  rw [← H8.out]
  go_wp2_with fail
  exact bodyPost_ret (results_cell_row Tryz.results52 _ _ R _ _ _ _ rfl B10.out Tryz.underlying97 rfl (by kernel_rfl)) rfl H10.out
set_option maxHeartbeats 8000000 in
set_option maxRecDepth 100000 in
theorem rstep_drop (r q : Nat) (k y : Bs) (hk1 : 1 ≤ k.length) (hk : k.length ≤ 128) (w : World) (hqw : q ≤ r) (h : Rdr w r q (Kv.enc ⟨true, k, []⟩ ++ y)) :
    Calls Tryz.prog 52 #[.pointer (some ⟨r, 0, none⟩)] w (RetRStep w r q ⟨true, k, []⟩ y) := by
  have e0 : Kv.enc ⟨true, k, []⟩ ++ y = [2] ++ ([UInt8.ofNat k.length] ++ (k ++ y)) := by simp [Kv.enc]
  rw [e0] at h
  have hr0 : r < w.heap.size := h.lt
  have h' := h.keepN ((Keeps.refl Non w).alloc (.cells #[.int .u8 0, sv [], .slice none 0 0] 97))
  clear e0 h
  go_enter Tryz.func52, Tryz.ntmps52
  go_wp2_with fail
  refine (take_any r q 1 _ _ rfl _ h').mono ?_
  rintro e w1 ⟨A1, s1, rfl, r1, -, -, -, h1, k1⟩
  obtain ⟨b1, o1, x1, rfl, hx1, q1⟩ := r1.get (k := 0) (by decide)
  have hx1' : x1 = 2 := by simpa using hx1.symm
  subst hx1'
  rw [Nat.add_zero] at q1
  have q1' : w1.cell? ⟨b1, o1, none⟩ = some (.int .u8 2) := q1
  clear r1 hx1 q1
  obtain ⟨B, hB⟩ : ∃ B, B = w1.heap.size := ⟨_, rfl⟩
  obtain ⟨R, hR⟩ : ∃ R, R = w.heap.size := ⟨_, rfl⟩
  have zR : R < B := by have := k1.size; simp at this; omega
  have zr : r < R := by omega
  have kB : Keeps Non w1 (w1.alloc (.cells #[.int .u8 2, sv [], .slice none 0 0] 97)) := (Keeps.refl _ _).alloc _
  have bB := heap_new w1 (.cells #[.int .u8 2, sv [], .slice none 0 0] 97)
  have bR : w1.heap[R]? = some (.cells #[.int .u8 0, sv [], .slice none 0 0] 97) := k1.at_ (by rw [hR]; exact heap_new w _) (by omega)
  have bR2 := heap_old bR (.cells #[.int .u8 2, sv [], .slice none 0 0] 97)
  have h1' := h1.keepN kB
  rw [← hB] at bB
  have K1 : Keeps (fun k => k = r) w (w1.alloc (.cells #[.int .u8 2, sv [], .slice none 0 0] 97)) := ((((Keeps.refl _ w).alloc _).trans k1)).alloc _
  have HB := Lib.hid hB
  have HR := Lib.hid hR
  clear h1 kB bR k1 hB hR h'
  go_wp2_with fail
  rw [← HB.out, ← HR.out]
  refine (take_any r q 1 _ _ rfl _ h1').mono ?_
  rintro e w2 ⟨A2, s2, rfl, r2, -, -, -, h2, k2⟩
  obtain ⟨b2, o2, x2, rfl, hx2, q2⟩ := r2.get (k := 0) (by decide)
  have hx2' : x2 = UInt8.ofNat k.length := by simpa using hx2.symm
  subst hx2'
  rw [Nat.add_zero, ← u8_small (show k.length < 256 by omega)] at q2
  have bB2 := k2.at_ bB (by omega)
  have bR3 := k2.at_ bR2 (by omega)
  have K2 := K1.trans k2
  clear r2 hx2 bB bR2 K1 k2 h1'
  go_wp2_with fail
  refine (take_any r q k.length _ _ rfl _ h2).mono ?_
  rintro e w3 ⟨A3, s3, rfl, r3, n3, m3, -, h3, k3⟩
  have t3 := run_str w3 A3 k.length s3 k r3
  have bB3 := k3.at_ bB2 (by omega)
  have bR4 := k3.at_ bR3 (by omega)
  have K3 := K2.trans k3
  have f3 := free bB3 1
  have q3 := (trio bB3).c1
  have bB4 := setCell_row w3 B 1 _ _ _ bB3 (sv k)
  have bR5 := setCell_other (a := ⟨B, 1, none⟩) bR4 (by show R ≠ B; omega) (sv k)
  have kB4 : Keeps (fun k => k = B) w3 (w3.setCell ⟨B, 1, none⟩ (sv k)) := (Keeps.refl _ _).set1 1 _
  have h8 := h3.keep kB4 (by omega) (fun k h => by have := HR.out; omega)
  have K4 := K3.into kB4 (fun k hk h => by have := HB.out; have := HR.out; omega)
  have bB8' : (w3.setCell ⟨B, 1, none⟩ (sv k)).heap[B]? = some (.cells #[.int .u8 2, sv k, .slice none 0 0] 97 (0, 0)) := bB4
  obtain ⟨w8, hw8⟩ : ∃ w8, w8 = w3.setCell ⟨B, 1, none⟩ (sv k) := ⟨_, rfl⟩
  rw [← hw8] at h8 bR5 K4 bB8'
  have E8 : List.isEmpty k = false := by cases k; simp at hk1; rfl
  clear bB2 bR3 r3 n3 m3 h3 K2 k3 bR4 K3 h2 bB4 kB4 bB3
  obtain ⟨Ay, ny, cy, br, ry⟩ := id h8
  obtain ⟨u0, u1, u2⟩ := trio bB8'
  have v1 : w8.cell? ⟨r, 1, none⟩ = some (.bool false) := by simp [World.cell?, br]
  have fr := free br 1
  have k9 : Keeps (fun k => k = r) w8 (w8.setCell ⟨r, 1, none⟩ (.bool false)) := (Keeps.refl _ _).set1 1 _
  have bB9 := k9.at_ bB8' (show ¬ B = r by omega)
  have bR9 := k9.at_ bR5 (show ¬ R = r by omega)
  have br9 := setCell_row w8 r 1 _ _ _ br (.bool false)
  have K9 := K4.trans k9
  obtain ⟨x0, x1, x2⟩ := trio bB9
  obtain ⟨y0, y1, y2⟩ := trio bR9
  have z0 := free bR9 0
  have z1 := free bR9 1
  have z2 := free bR9 2
  obtain ⟨w9, hw9⟩ : ∃ w9, w9 = w8.setCell ⟨r, 1, none⟩ (.bool false) := ⟨_, rfl⟩
  rw [← hw9] at k9 bB9 bR9 br9 K9
  have k10 : Keeps (fun k => k = R) w9 (((w9.setCell ⟨R, 0, none⟩ (.int .u8 2)).setCell ⟨R, 1, none⟩ (sv k)).setCell ⟨R, 2, none⟩ (.slice none 0 0)) := (((Keeps.refl _ _).set1 0 _).set1 1 _).set1 2 _
  have bR10 := setCell_row _ R 2 _ _ _ (setCell_row _ R 1 _ _ _ (setCell_row w9 R 0 _ _ _ bR9 (.int .u8 2)) (sv k)) (.slice none 0 0)
  have bR10' : (((w9.setCell ⟨R, 0, none⟩ (.int .u8 2)).setCell ⟨R, 1, none⟩ (sv k)).setCell ⟨R, 2, none⟩ (.slice none 0 0)).heap[R]? = some (.cells #[.int .u8 2, sv k, .slice none 0 0] 97 (0, 0)) := bR10
  have H10 := Lib.hid (show RetRStep w r q ⟨true, k, []⟩ y (.returned (.agg #[.int .u8 2, sv k, .slice none 0 0])) (((w9.setCell ⟨R, 0, none⟩ (.int .u8 2)).setCell ⟨R, 1, none⟩ (sv k)).setCell ⟨R, 2, none⟩ (.slice none 0 0)) from
    ⟨none, 0, 0, rfl, RdB.nil _ _, Nat.le_refl _, by decide, (fun a ha => by cases ha), ⟨Ay, ny, cy, k10.at_ br9 (show ¬ r = R by omega), (ry.1.keep k9 (fun h0 a ha e => by have := ry.2.2.2 h0 a ha; have e : a.block = r := e; omega)).keep k10 (fun h0 a ha e => by have := ry.2.2.2 h0 a ha; have e : a.block = R := e; omega), ry.2.1, ry.2.2.1, ry.2.2.2⟩, K9.into k10 (fun k hk h => by have := HR.out; omega)⟩)
  have B10 := Lib.hid bR10'
  have H9 := Lib.hid hw9
  rw [hw9] at H10 B10
  clear hw9 k9 bB9 bR9 br9 K9 k10 bR10 bR10' H9 K4 bR5 h8 bB8' br ry
  subst hw8
  go_wp2_with (at_len; refine hold_it ?_)
  refine let_go ?_
  have E9 : ¬ (128 < (k.length : Int)) := by omega
  go_wp2_with fail
  exact bodyPost_ret (results_cell_row Tryz.results52 _ _ R _ _ _ _ rfl B10.out Tryz.underlying97 rfl (by kernel_rfl)) rfl H10.out

theorem rstep_any (r q : Nat) (p : Kv.St) (hp : p.ok) (y : Bs) (w : World) (hqw : q ≤ r) (h : Rdr w r q (Kv.enc p ++ y)) :
    Calls Tryz.prog 52 #[.pointer (some ⟨r, 0, none⟩)] w (RetRStep w r q p y) := by
  obtain ⟨d, k, v⟩ := p
  obtain ⟨h1, h2, h3, h4⟩ := hp
  cases d with
  | false => exact rstep_put r q k v y h1 h2 h3 w hqw h
  | true =>
    obtain rfl : v = [] := h4 rfl
    exact rstep_drop r q k y h1 h2 w hqw h
end Go.Proofs.YtbmamhcjbhnkiaaGreat
