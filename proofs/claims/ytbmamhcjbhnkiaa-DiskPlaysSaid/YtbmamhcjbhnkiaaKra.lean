/- Layer 7: the document's disk (klaxonref07), told by the same plain disk. -/
import Derived.Test.YtbmamhcjbhnkiaaKr
import Derived.RegionTactic
import Derived.Handy
namespace Go.Proofs.Ytbmamhcjbhnkiaa
open Go.RowKit

/-- The document's disk lies in block q, its bytes in block h; it answers as d does. -/
structure RefAt (w : World) (q h : Nat) (d : Dk) (left bytes : Int) : Prop where
  st : w.heap[q]? = some (.cells #[.slice (some ⟨h, 0, none⟩) d.data.length d.data.length, .bool d.down, .int .i64 left, .int .i64 bytes, .int .i64 d.wr] 66 (0, 0))
  row : w.heap[h]? = some (.cells (d.data.map bv ++ []).toArray 5 (0, 0))
  ne : q ≠ h
  wf : d.WF
  r0 : -9223372036854775808 ≤ left ∧ left ≤ 9223372036854775807
  r1 : -9223372036854775808 ≤ bytes ∧ bytes ≤ 9223372036854775807
  off : d.down = false → d.lit = false → left = -1
  lit : d.down = false → d.lit = true → left = d.fw ∧ bytes = d.fb
def Ref (w : World) (q h : Nat) (d : Dk) : Prop := ∃ left bytes, RefAt w q h d left bytes

theorem Ref.keep {S : Nat → Prop} {w w' : World} {q h : Nat} {d : Dk} (H : Ref w q h d) (hk : Keeps S w w') (hq : ¬ S q) (hh : ¬ S h) : Ref w' q h d := by
  obtain ⟨l, b, H⟩ := H
  exact ⟨l, b, hk.at_ H.st hq, hk.at_ H.row hh, H.ne, H.wf, H.r0, H.r1, H.off, H.lit⟩
theorem Ref.lt {w : World} {q h : Nat} {d : Dk} (H : Ref w q h d) : q < w.heap.size ∧ h < w.heap.size := by
  obtain ⟨_, _, H⟩ := H
  exact ⟨(Array.getElem?_eq_some_iff.1 H.st).1, (Array.getElem?_eq_some_iff.1 H.row).1⟩

structure Five (w : World) (p : Nat) (v0 v1 v2 v3 v4 : Value) : Prop where
  c0 : w.cell? ⟨p, 0, none⟩ = some v0
  c1 : w.cell? ⟨p, 1, none⟩ = some v1
  c2 : w.cell? ⟨p, 2, none⟩ = some v2
  c3 : w.cell? ⟨p, 3, none⟩ = some v3
  c4 : w.cell? ⟨p, 4, none⟩ = some v4
theorem five {w : World} {p : Nat} {v0 v1 v2 v3 v4 : Value} {e : TypeId} {fr : Nat × Nat} (h : w.heap[p]? = some (.cells #[v0, v1, v2, v3, v4] e fr)) : Five w p v0 v1 v2 v3 v4 := by
  constructor <;> simp [World.cell?, h]

theorem RefAt.off' {w : World} {q h : Nat} {d : Dk} {left bytes : Int} (H : RefAt w q h d left bytes) {A : Option Addr} {n : Nat} {l : List UInt8} (hr : RdB w A n l) (h0 : 0 < n) (a : Addr) (ha : A = some a) : a.block ≠ q := by
  obtain ⟨b, off, e, hc⟩ := hr.cells h0
  rw [e] at ha
  cases ha
  have hl : 0 < l.length := by rw [hr.len]; exact h0
  have hx := hc 0 _ (List.getElem?_eq_getElem hl)
  rintro rfl
  simp only [World.cell?, H.st, Nat.add_zero] at hx
  match off, hx with
  | 0, hx => simp at hx
  | 1, hx => simp at hx
  | 2, hx => simp at hx
  | 3, hx => simp at hx
  | 4, hx => simp at hx
  | _ + 5, hx => simp at hx

theorem put_zero (D : List UInt8) (x : Nat) : Dk.put D x [] = D := by simp [Dk.put]
theorem put_succ (D : List UInt8) (x i : Nat) (l : List UInt8) (u : UInt8) (hu : l[i]? = some u) (hf : x + l.length ≤ D.length) : (Dk.put D x (l.take i)).set (x + i) u = Dk.put D x (l.take (i + 1)) := by
  have hi := (List.getElem?_eq_some_iff.1 hu).1
  apply List.ext_getElem?
  intro j
  rw [List.getElem?_set, Dk.put_length _ _ _ (by rw [List.length_take]; omega)]
  have e1 : min x D.length = x := by omega
  have e2 : min i l.length = i := by omega
  have e3 : min (i + 1) l.length = i + 1 := by omega
  simp only [Dk.put, List.append_assoc, List.getElem?_append, List.length_take, List.getElem?_take, List.getElem?_drop, e1, e2, e3]
  rcases Nat.lt_trichotomy j (x + i) with h1 | h1 | h1
  · rw [if_neg (by omega)]
    rcases Nat.lt_or_ge j x with h2 | h2
    · simp only [if_pos h2]
    · simp only [if_neg (show ¬ j < x by omega), if_pos (show j - x < i by omega), if_pos (show j - x < i + 1 by omega)]
  · subst h1
    simp only [if_pos, if_neg (show ¬ x + i < x by omega), show x + i - x = i by omega, if_pos (show i < i + 1 by omega), hu]
    rw [if_pos (by omega)]
  · simp only [if_neg (show ¬ x + i = j by omega), if_neg (show ¬ j < x by omega), if_neg (show ¬ j - x < i by omega), if_neg (show ¬ j - x < i + 1 by omega)]
    congr 1
    omega

theorem rmay_any (q h : Nat) (d : Dk) (x n : Int) (hx0 : -9223372036854775808 ≤ x) (hx1 : x ≤ 9223372036854775807) (w : World) (H : Ref w q h d) :
    Calls Try.prog 74 #[.pointer (some ⟨q, 0, none⟩), .int .i64 x, .int .i64 n] w fun e w' => e = .returned (.int .i64 (d.may x n)) ∧ w = w' := by
  obtain ⟨left, bytes, H⟩ := H
  have c0 := (five H.st).c0
  have c1 := (five H.st).c1
  have hle := H.wf.le
  cases hd : d.down with
  | true =>
    rw [hd] at c1
    have H := Lib.hid (may_down (x := x) (n := n) hd)
    clear hd
    go_enter Try.func74, Try.ntmps74
    go_wp2
    go_ret
    exact ⟨ret_int H.out.symm, rfl⟩
  | false =>
    rw [hd] at c1
    by_cases h1 : x < 0
    · have H := Lib.hid (may_out (n := n) hd (.inl h1))
      clear hd
      go_enter Try.func74, Try.ntmps74
      go_wp2
      go_ret
      exact ⟨ret_int H.out.symm, rfl⟩
    · by_cases h2 : n < 0
      · have H := Lib.hid (may_out (x := x) hd (.inr (.inl h2)))
        clear hd
        go_enter Try.func74, Try.ntmps74
        go_wp2
        go_ret
        exact ⟨ret_int H.out.symm, rfl⟩
      · by_cases h3 : (d.data.length : Int) < x
        · have H := Lib.hid (may_out (n := n) hd (.inr (.inr (.inl h3))))
          clear hd
          go_enter Try.func74, Try.ntmps74
          go_wp2
          go_ret
          exact ⟨ret_int H.out.symm, rfl⟩
        · by_cases h4 : (d.data.length : Int) - x < n
          · have H := Lib.hid (may_out hd (.inr (.inr (.inr h4))))
            clear hd
            go_enter Try.func74, Try.ntmps74
            go_wp2
            go_ret
            exact ⟨ret_int H.out.symm, rfl⟩
          · have H := Lib.hid (may_in (x := x) (n := n) hd (by omega))
            clear hd
            go_enter Try.func74, Try.ntmps74
            go_wp2
            go_ret
            exact ⟨ret_int H.out.symm, rfl⟩

theorem rnew_any (n : Nat) (h0 : 0 < n) (h1 : n ≤ 1048576) (w : World) :
    Calls Try.prog 40 #[.int .i64 (n : Int)] w fun e w' => e = .returned (.pointer (some ⟨w.heap.size + 1, 0, none⟩)) ∧ Ref w' (w.heap.size + 1) w.heap.size (Dk.new n) ∧ Keeps Non w w' := by
  have hmk := make_zeros n (by omega)
  have hz := heap_zeros w n
  obtain ⟨w1, hw1⟩ : ∃ w1, w1 = w.alloc (.cells ((zeros n).map bv).toArray 5) := ⟨_, rfl⟩
  have hk1 : Keeps Non w w1 := by rw [hw1]; exact (Keeps.refl _ _).alloc _
  have hs1 : w1.heap.size = w.heap.size + 1 := by rw [hw1]; simp
  rw [← hw1] at hz
  have H1 := Lib.hid hw1
  clear hw1
  go_enter Try.func40, Try.ntmps40
  go_wp2
  rw [← H1.out]
  go_ret
  have hst := heap_new w1 (.cells #[.slice (some ⟨w.heap.size, 0, none⟩) n n, .bool false, .int .i64 (-1), .int .i64 0, .int .i64 0] 66)
  rw [hs1] at hst
  exact ⟨rfl, ⟨-1, 0, by rw [new_len]; exact hst, (((Keeps.refl Non w1).alloc _).at_ hz id), by omega, Dk.WF.new h0 h1, by omega, by omega, fun _ _ => rfl, fun _ h => by cases h⟩, hk1.alloc _⟩

theorem rread_any (q h : Nat) (d : Dk) (x n : Int) (hx0 : -9223372036854775808 ≤ x) (hx1 : x ≤ 9223372036854775807) (hn1 : n ≤ 9223372036854775807) (w : World) (H : Ref w q h d) :
    Calls Try.prog 42 #[.pointer (some ⟨q, 0, none⟩), .int .i64 x, .int .i64 n] w fun e w' => (∃ A m c, e = .returned (.tuple #[.slice A m c, .int .i64 (d.may x n)]) ∧
      (d.may x n ≠ 0 → A = none ∧ m = 0 ∧ c = 0) ∧ (d.may x n = 0 → RdB w A m ((d.data.drop x.toNat).take n.toNat) ∧ m ≤ c)) ∧ w = w' := by
  have H0 := H
  obtain ⟨left, bytes, H⟩ := H
  have c0 := (five H.st).c0
  have hle := H.wf.le
  by_cases he : d.may x n = 0
  · have hb : (d.may x n != 0) = false := by rw [he]; rfl
    obtain ⟨h1, h2, h3, h4, h5⟩ := Dk.may_zero he
    obtain ⟨x, rfl⟩ := Int.eq_ofNat_of_zero_le h2
    obtain ⟨n, rfl⟩ := Int.eq_ofNat_of_zero_le h3
    have HE := Lib.hid he
    clear he
    have hlen : Hid (((d.data.drop x).take n).length = n) := by show _ = _; simp; omega
    have hsrc : ∀ A : Option Addr, (0 < n → A = some ⟨h, x, none⟩) → RdB w A n ((d.data.drop x).take n) := fun A hA => ⟨hlen.out, by omega, fun h0 => ⟨h, x, hA h0, fun j u hu => by
      rw [List.getElem?_take] at hu
      split at hu
      · rw [List.getElem?_drop] at hu
        exact row_cell H.row hu
      · cases hu⟩⟩
    have Hsrc := Lib.hid hsrc
    clear hsrc
    by_cases hx : d.data.length = x
    · go_enter Try.func42, Try.ntmps42
      go_wp2_with fail
      refine (rmay_any q h d x n (by omega) (by omega) w H0).mono ?_
      rintro e w' ⟨rfl, rfl⟩
      go_wp2_with fail
      go_ret2
      have hxn : x + n - x = n := by omega
      rw [HE.out, hxn]
      exact ⟨⟨some ⟨h, 0, none⟩, n, 0, rfl, fun h => absurd rfl h, fun _ => ⟨Hsrc.out _ (fun h0 => by first | rfl | omega), by omega⟩⟩, rfl⟩
    · go_enter Try.func42, Try.ntmps42
      go_wp2_with fail
      refine (rmay_any q h d x n (by omega) (by omega) w H0).mono ?_
      rintro e w' ⟨rfl, rfl⟩
      go_wp2_with fail
      go_ret2
      have hxn : x + n - x = n := by omega
      rw [HE.out, hxn]
      exact ⟨⟨some ⟨h, x, none⟩, n, d.data.length - x, rfl, fun h => absurd rfl h, fun _ => ⟨Hsrc.out _ (fun h0 => by first | rfl | omega), by omega⟩⟩, rfl⟩
  · have hb : (d.may x n != 0) = true := by rw [bne_iff_ne]; exact he
    have HE := Lib.hid he
    clear he
    go_enter Try.func42, Try.ntmps42
    go_wp2_with fail
    refine (rmay_any q h d x n hx0 hx1 w H0).mono ?_
    rintro e w' ⟨rfl, rfl⟩
    go_wp2_with fail
    go_ret2
    exact ⟨⟨none, 0, 0, rfl, fun _ => ⟨rfl, rfl, rfl⟩, fun h => absurd h HE.out⟩, rfl⟩

set_option maxRecDepth 100000 in
set_option maxHeartbeats 1600000 in
/-- What the document's Write does, where the bytes lie on the disk. -/
theorem rwrite_in (q h : Nat) (d : Dk) (x : Nat) (A : Option Addr) (n c : Nat) (l : List UInt8) (w : World) (H : Ref w q h d) (hr : RdB w A n l) (hA : 0 < n → ∀ a, A = some a → a.block ≠ h) (he : d.may x n = 0) :
    Calls Try.prog 41 #[.pointer (some ⟨q, 0, none⟩), .int .i64 (x : Int), .slice A n c] w fun e w' => e = .returned (.int .i64 (d.writeErr x l)) ∧ Ref w' q h (d.write x l) ∧ Keeps (fun k => k = q ∨ k = h) w w' := by
  obtain ⟨h1, h2, h3, h4, h5⟩ := Dk.may_zero he
  have hb : (d.may x n != 0) = false := by rw [he]; rfl
  have H0 := H
  obtain ⟨left, bytes, H⟩ := H
  have c0 := (five H.st).c0
  have c1 := (five H.st).c1
  have c2 := (five H.st).c2
  have c3 := (five H.st).c3
  have c4 := (five H.st).c4
  have f1 := free H.st 1
  have f2 := free H.st 2
  have f4 := free H.st 4
  have hle := H.wf.le
  have hwf := H.wf.write x l
  have hfb0 := H.wf.fb0
  have hfb1 := H.wf.fb1
  have hfw1 := H.wf.fw1
  have hr6 := Dk.wrap_range (d.wr + 1)
  have HE := Lib.hid he
  have HL := Lib.hid hr.len
  have hne := H.ne
  have hst5 := setCell_row w q 4 _ _ _ H.st (.int .i64 (wrap64 (d.wr + 1)))
  have hk5 : Keeps (fun k => k = q) w (w.setCell ⟨q, 4, none⟩ (.int .i64 (wrap64 (d.wr + 1)))) := (Keeps.refl _ _).set1 4 _
  obtain ⟨w5, hw5⟩ : ∃ w5, w5 = w.setCell ⟨q, 4, none⟩ (.int .i64 (wrap64 (d.wr + 1))) := ⟨_, rfl⟩
  rw [← hw5] at hst5 hk5
  have H5 := Lib.hid hw5
  have hhst := H.row
  clear he hw5
  cases hlit : d.lit with
  | false =>
    have hleft := H.off h1 hlit
    subst hleft
    have hk6 := hk5
    have hst6 := hst5
    obtain ⟨w6, hw6⟩ : ∃ w6, w6 = w5 := ⟨_, rfl⟩
    rw [← hw6] at hk6 hst6
    have H6 : Hid (w6 = w.setCell ⟨q, 4, none⟩ (.int .i64 (wrap64 (d.wr + 1)))) := hw6.trans H5.out
    clear hw6
    have e1 : Hid (d.writeErr x l = 0) := by show _ = _; unfold Dk.writeErr; rw [HL.out, HE.out]; simp [hlit]
    have e2 : Hid (d.write x l = { d with data := Dk.put d.data x l, wr := wrap64 (d.wr + 1) }) := by show _ = _; unfold Dk.write; rw [HL.out, HE.out]; simp [hlit]
    have hlM : Hid (l.take n = l) := by show _ = _; exact List.take_of_length_le (by rw [HL.out]; omega)
    have hr6' : RdB w6 A n l := hr.keep hk6 (H.off' hr)
    have hh6 := hk6.at_ hhst hne.symm
    have d0 := (five (v0 := .slice (some ⟨h, 0, none⟩) d.data.length d.data.length) hst6).c0
    have Hst6 := Lib.hid hst6
    have Hlit := Lib.hid hlit
    clear hst6 hst5 hhst hlit
    go_enter Try.func41, Try.ntmps41
    go_wp2_with fail
    refine (rmay_any q h d x n (by omega) (by omega) w H0).mono ?_
    rintro e w' ⟨rfl, rfl⟩
    rw [HE.out]
    go_wp2_with fail
    rw [← H6.out]
    clear c0 c1 c2 c3 c4
    go_loopw [9] (fun v9 wr => ∃ i : Nat, i ≤ n ∧ v9 = .int .i64 i ∧ wr.heap[h]? = some (.cells ((Dk.put d.data x (l.take i)).map bv ++ []).toArray 5 (0, 0)) ∧ Keeps (fun k => k = h) w6 wr) (fun v9 _ => n - (intOf v9).toNat)
    case atStart => exact ⟨0, Nat.zero_le _, rfl, by rw [List.take_zero, put_zero]; exact hh6, Keeps.refl _ _⟩
    case round =>
      obtain ⟨i, hi, rfl, hrow, hkr⟩ := hrel
      have d0' := hkr.cell d0 hne
      by_cases hlt : i < n
      · obtain ⟨u, hu⟩ : ∃ y, l[i]? = some y := ⟨_, List.getElem?_eq_getElem (by rw [HL.out]; omega)⟩
        obtain ⟨b, off, rfl, hc⟩ := hr6'.cells (by omega)
        have e3 := hkr.cell (hc i u hu) (fun hh => hA (by omega) ⟨b, off, none⟩ rfl hh)
        have hpl : (Dk.put d.data x (l.take i)).length = d.data.length := Dk.put_length _ _ _ (by rw [List.length_take, HL.out]; omega)
        obtain ⟨u0, hu0⟩ : ∃ y, (Dk.put d.data x (l.take i))[x + i]? = some y := ⟨_, List.getElem?_eq_getElem (by rw [hpl]; omega)⟩
        have e4 := row_cell hrow hu0
        have e5 := row_free hrow (x + i)
        have hrow' : wr.drew.heap[h]? = some (.cells ((Dk.put d.data x (l.take i)).map bv ++ []).toArray 5 (0, 0)) := hrow
        have hset := row_set hrow' (k := x + i) (by rw [hpl]; omega) u
        rw [put_succ d.data x i l u hu (by rw [HL.out]; omega)] at hset
        have Hset := Lib.hid hset
        have hadd : IntKind.i64.wrap ((x : Int) + (i : Int)) = ((x + i : Nat) : Int) := by rw [IntKind.wrap_i64]; omega
        clear hset hrow hrow' hu hu0 hpl
        go_wp2_with fail
        go_region
        go_wp2_with fail
        go_roundw
        case rel => exact ⟨i + 1, by omega, by go_num, Hset.out, (hkr.drew).set1 _ _⟩
        case measure => simp [intOf]; omega
      · obtain rfl : i = n := by omega
        rw [hlM.out] at hrow
        have Hrow := Lib.hid hrow
        clear hrow
        go_wp2_with fail
        go_ret
        refine ⟨ret_int e1.out.symm, ?_, (hk6.mono fun _ _ h => .inl h).trans (hkr.mono fun _ _ h => .inr h)⟩
        rw [e2.out] at hwf ⊢
        exact ⟨_, _, by rw [hwf.2]; exact hkr.at_ Hst6.out hne, Hrow.out, hne, hwf.1, by omega, H.r1, fun _ _ => rfl, fun _ h => absurd h (by show ¬ d.lit = true; rw [Hlit.out]; decide)⟩
  | true =>
    have hup := H.wf.up hlit h1
    obtain ⟨hleft, hbytes⟩ := H.lit h1 hlit
    subst hleft
    subst hbytes
    by_cases hfw : 1 ≤ d.fw
    ·
      have hst6 := setCell_row w5 q 2 _ _ _ hst5 (.int .i64 (d.fw - 1))
      have hk6 := hk5.set1 2 (.int .i64 (d.fw - 1))
      obtain ⟨w6, hw6⟩ : ∃ w6, w6 = w5.setCell ⟨q, 2, none⟩ (.int .i64 (d.fw - 1)) := ⟨_, rfl⟩
      rw [← hw6] at hk6 hst6
      have H6 : Hid (w6 = (w.setCell ⟨q, 4, none⟩ (.int .i64 (wrap64 (d.wr + 1)))).setCell ⟨q, 2, none⟩ (.int .i64 (d.fw - 1))) := by rw [← H5.out]; exact hw6
      clear hw6
      have hfz : (d.fw == 0) = false := by simp; omega
      have e1 : Hid (d.writeErr x l = 0) := by show _ = _; unfold Dk.writeErr; rw [HL.out, HE.out]; simp [hlit, hfw]
      have e2 : Hid (d.write x l = { d with data := Dk.put d.data x l, fw := d.fw - 1, wr := wrap64 (d.wr + 1) }) := by show _ = _; unfold Dk.write; rw [HL.out, HE.out]; simp [hlit, hfw]
      have hlM : Hid (l.take n = l) := by show _ = _; exact List.take_of_length_le (by rw [HL.out]; omega)
      have hr6' : RdB w6 A n l := hr.keep hk6 (H.off' hr)
      have hh6 := hk6.at_ hhst hne.symm
      have d0 := (five (v0 := .slice (some ⟨h, 0, none⟩) d.data.length d.data.length) hst6).c0
      have Hst6 := Lib.hid hst6
      have Hlit := Lib.hid hlit
      clear hst6 hst5 hhst hlit
      go_enter Try.func41, Try.ntmps41
      go_wp2_with fail
      refine (rmay_any q h d x n (by omega) (by omega) w H0).mono ?_
      rintro e w' ⟨rfl, rfl⟩
      rw [HE.out]
      go_wp2_with fail
      rw [← H6.out]
      clear c0 c1 c2 c3 c4
      go_loopw [9] (fun v9 wr => ∃ i : Nat, i ≤ n ∧ v9 = .int .i64 i ∧ wr.heap[h]? = some (.cells ((Dk.put d.data x (l.take i)).map bv ++ []).toArray 5 (0, 0)) ∧ Keeps (fun k => k = h) w6 wr) (fun v9 _ => n - (intOf v9).toNat)
      case atStart => exact ⟨0, Nat.zero_le _, rfl, by rw [List.take_zero, put_zero]; exact hh6, Keeps.refl _ _⟩
      case round =>
        obtain ⟨i, hi, rfl, hrow, hkr⟩ := hrel
        have d0' := hkr.cell d0 hne
        by_cases hlt : i < n
        · obtain ⟨u, hu⟩ : ∃ y, l[i]? = some y := ⟨_, List.getElem?_eq_getElem (by rw [HL.out]; omega)⟩
          obtain ⟨b, off, rfl, hc⟩ := hr6'.cells (by omega)
          have e3 := hkr.cell (hc i u hu) (fun hh => hA (by omega) ⟨b, off, none⟩ rfl hh)
          have hpl : (Dk.put d.data x (l.take i)).length = d.data.length := Dk.put_length _ _ _ (by rw [List.length_take, HL.out]; omega)
          obtain ⟨u0, hu0⟩ : ∃ y, (Dk.put d.data x (l.take i))[x + i]? = some y := ⟨_, List.getElem?_eq_getElem (by rw [hpl]; omega)⟩
          have e4 := row_cell hrow hu0
          have e5 := row_free hrow (x + i)
          have hrow' : wr.drew.heap[h]? = some (.cells ((Dk.put d.data x (l.take i)).map bv ++ []).toArray 5 (0, 0)) := hrow
          have hset := row_set hrow' (k := x + i) (by rw [hpl]; omega) u
          rw [put_succ d.data x i l u hu (by rw [HL.out]; omega)] at hset
          have Hset := Lib.hid hset
          have hadd : IntKind.i64.wrap ((x : Int) + (i : Int)) = ((x + i : Nat) : Int) := by rw [IntKind.wrap_i64]; omega
          clear hset hrow hrow' hu hu0 hpl
          go_wp2_with fail
          go_region
          go_wp2_with fail
          go_roundw
          case rel => exact ⟨i + 1, by omega, by go_num, Hset.out, (hkr.drew).set1 _ _⟩
          case measure => simp [intOf]; omega
        · obtain rfl : i = n := by omega
          rw [hlM.out] at hrow
          have Hrow := Lib.hid hrow
          clear hrow
          go_wp2_with fail
          go_ret
          refine ⟨ret_int e1.out.symm, ?_, (hk6.mono fun _ _ h => .inl h).trans (hkr.mono fun _ _ h => .inr h)⟩
          rw [e2.out] at hwf ⊢
          exact ⟨_, _, by rw [hwf.2]; exact hkr.at_ Hst6.out hne, Hrow.out, hne, hwf.1, by show _ ≤ d.fw - 1 ∧ d.fw - 1 ≤ _; omega, H.r1, fun _ h => absurd h (by show ¬ d.lit = false; rw [Hlit.out]; decide), fun _ _ => ⟨rfl, rfl⟩⟩

    · have hfw0 : d.fw = 0 := by omega
      rw [hfw0] at c2
      obtain ⟨f, hf⟩ : ∃ f : Nat, d.fb = (f : Int) := ⟨d.fb.toNat, by omega⟩
      have hfN := Lib.hid (show f = d.fb.toNat by omega)
      rw [hf] at c3
      by_cases hfn : (f : Int) < (n : Int)
      ·
        have hst6 := setCell_row w5 q 1 _ _ _ hst5 (.bool true)
        have hk6 := hk5.set1 1 (.bool true)
        obtain ⟨w6, hw6⟩ : ∃ w6, w6 = w5.setCell ⟨q, 1, none⟩ (.bool true) := ⟨_, rfl⟩
        rw [← hw6] at hk6 hst6
        have H6 : Hid (w6 = (w.setCell ⟨q, 4, none⟩ (.int .i64 (wrap64 (d.wr + 1)))).setCell ⟨q, 1, none⟩ (.bool true)) := by rw [← H5.out]; exact hw6
        clear hw6
        have e1 : Hid (d.writeErr x l = 20) := by show _ = _; unfold Dk.writeErr; rw [HL.out, HE.out]; simp [hlit, hfw]
        have e2 : Hid (d.write x l = { d with data := Dk.put d.data x (l.take d.fb.toNat), fw := d.fw - 1, wr := wrap64 (d.wr + 1), down := true }) := by show _ = _; unfold Dk.write; rw [HL.out, HE.out]; simp [hlit, hfw]
        have hlM : Hid (l.take f = l.take d.fb.toNat) := by show _ = _; rw [hfN.out]
        have hr6' : RdB w6 A n l := hr.keep hk6 (H.off' hr)
        have hh6 := hk6.at_ hhst hne.symm
        have d0 := (five (v0 := .slice (some ⟨h, 0, none⟩) d.data.length d.data.length) hst6).c0
        have Hst6 := Lib.hid hst6
        have Hlit := Lib.hid hlit
        clear hst6 hst5 hhst hlit
        go_enter Try.func41, Try.ntmps41
        go_wp2_with fail
        refine (rmay_any q h d x n (by omega) (by omega) w H0).mono ?_
        rintro e w' ⟨rfl, rfl⟩
        rw [HE.out]
        go_wp2_with fail
        rw [← H6.out]
        clear c0 c1 c2 c3 c4
        go_loopw [9] (fun v9 wr => ∃ i : Nat, i ≤ f ∧ v9 = .int .i64 i ∧ wr.heap[h]? = some (.cells ((Dk.put d.data x (l.take i)).map bv ++ []).toArray 5 (0, 0)) ∧ Keeps (fun k => k = h) w6 wr) (fun v9 _ => f - (intOf v9).toNat)
        case atStart => exact ⟨0, Nat.zero_le _, rfl, by rw [List.take_zero, put_zero]; exact hh6, Keeps.refl _ _⟩
        case round =>
          obtain ⟨i, hi, rfl, hrow, hkr⟩ := hrel
          have d0' := hkr.cell d0 hne
          by_cases hlt : i < f
          · obtain ⟨u, hu⟩ : ∃ y, l[i]? = some y := ⟨_, List.getElem?_eq_getElem (by rw [HL.out]; omega)⟩
            obtain ⟨b, off, rfl, hc⟩ := hr6'.cells (by omega)
            have e3 := hkr.cell (hc i u hu) (fun hh => hA (by omega) ⟨b, off, none⟩ rfl hh)
            have hpl : (Dk.put d.data x (l.take i)).length = d.data.length := Dk.put_length _ _ _ (by rw [List.length_take, HL.out]; omega)
            obtain ⟨u0, hu0⟩ : ∃ y, (Dk.put d.data x (l.take i))[x + i]? = some y := ⟨_, List.getElem?_eq_getElem (by rw [hpl]; omega)⟩
            have e4 := row_cell hrow hu0
            have e5 := row_free hrow (x + i)
            have hrow' : wr.drew.heap[h]? = some (.cells ((Dk.put d.data x (l.take i)).map bv ++ []).toArray 5 (0, 0)) := hrow
            have hset := row_set hrow' (k := x + i) (by rw [hpl]; omega) u
            rw [put_succ d.data x i l u hu (by rw [HL.out]; omega)] at hset
            have Hset := Lib.hid hset
            have hadd : IntKind.i64.wrap ((x : Int) + (i : Int)) = ((x + i : Nat) : Int) := by rw [IntKind.wrap_i64]; omega
            clear hset hrow hrow' hu hu0 hpl
            go_wp2_with fail
            go_region
            go_wp2_with fail
            go_roundw
            case rel => exact ⟨i + 1, by omega, by go_num, Hset.out, (hkr.drew).set1 _ _⟩
            case measure => simp [intOf]; omega
          · obtain rfl : i = f := by omega
            rw [hlM.out] at hrow
            have Hrow := Lib.hid hrow
            clear hrow
            go_wp2_with fail
            go_ret
            refine ⟨ret_int e1.out.symm, ?_, (hk6.mono fun _ _ h => .inl h).trans (hkr.mono fun _ _ h => .inr h)⟩
            rw [e2.out] at hwf ⊢
            exact ⟨_, _, by rw [hwf.2]; exact hkr.at_ Hst6.out hne, Hrow.out, hne, hwf.1, by omega, by omega, (fun h => by cases h), (fun h => by cases h)⟩

      ·
        have hst6 := setCell_row w5 q 1 _ _ _ hst5 (.bool true)
        have hk6 := hk5.set1 1 (.bool true)
        obtain ⟨w6, hw6⟩ : ∃ w6, w6 = w5.setCell ⟨q, 1, none⟩ (.bool true) := ⟨_, rfl⟩
        rw [← hw6] at hk6 hst6
        have H6 : Hid (w6 = (w.setCell ⟨q, 4, none⟩ (.int .i64 (wrap64 (d.wr + 1)))).setCell ⟨q, 1, none⟩ (.bool true)) := by rw [← H5.out]; exact hw6
        clear hw6
        have e1 : Hid (d.writeErr x l = 20) := by show _ = _; unfold Dk.writeErr; rw [HL.out, HE.out]; simp [hlit, hfw]
        have e2 : Hid (d.write x l = { d with data := Dk.put d.data x (l.take d.fb.toNat), fw := d.fw - 1, wr := wrap64 (d.wr + 1), down := true }) := by show _ = _; unfold Dk.write; rw [HL.out, HE.out]; simp [hlit, hfw]
        have hlM : Hid (l.take n = l.take d.fb.toNat) := by show _ = _; rw [List.take_of_length_le (show l.length ≤ n by rw [HL.out]; omega), List.take_of_length_le (by have := hfN.out; rw [HL.out]; omega)]
        have hr6' : RdB w6 A n l := hr.keep hk6 (H.off' hr)
        have hh6 := hk6.at_ hhst hne.symm
        have d0 := (five (v0 := .slice (some ⟨h, 0, none⟩) d.data.length d.data.length) hst6).c0
        have Hst6 := Lib.hid hst6
        have Hlit := Lib.hid hlit
        clear hst6 hst5 hhst hlit
        go_enter Try.func41, Try.ntmps41
        go_wp2_with fail
        refine (rmay_any q h d x n (by omega) (by omega) w H0).mono ?_
        rintro e w' ⟨rfl, rfl⟩
        rw [HE.out]
        go_wp2_with fail
        rw [← H6.out]
        clear c0 c1 c2 c3 c4
        go_loopw [9] (fun v9 wr => ∃ i : Nat, i ≤ n ∧ v9 = .int .i64 i ∧ wr.heap[h]? = some (.cells ((Dk.put d.data x (l.take i)).map bv ++ []).toArray 5 (0, 0)) ∧ Keeps (fun k => k = h) w6 wr) (fun v9 _ => n - (intOf v9).toNat)
        case atStart => exact ⟨0, Nat.zero_le _, rfl, by rw [List.take_zero, put_zero]; exact hh6, Keeps.refl _ _⟩
        case round =>
          obtain ⟨i, hi, rfl, hrow, hkr⟩ := hrel
          have d0' := hkr.cell d0 hne
          by_cases hlt : i < n
          · obtain ⟨u, hu⟩ : ∃ y, l[i]? = some y := ⟨_, List.getElem?_eq_getElem (by rw [HL.out]; omega)⟩
            obtain ⟨b, off, rfl, hc⟩ := hr6'.cells (by omega)
            have e3 := hkr.cell (hc i u hu) (fun hh => hA (by omega) ⟨b, off, none⟩ rfl hh)
            have hpl : (Dk.put d.data x (l.take i)).length = d.data.length := Dk.put_length _ _ _ (by rw [List.length_take, HL.out]; omega)
            obtain ⟨u0, hu0⟩ : ∃ y, (Dk.put d.data x (l.take i))[x + i]? = some y := ⟨_, List.getElem?_eq_getElem (by rw [hpl]; omega)⟩
            have e4 := row_cell hrow hu0
            have e5 := row_free hrow (x + i)
            have hrow' : wr.drew.heap[h]? = some (.cells ((Dk.put d.data x (l.take i)).map bv ++ []).toArray 5 (0, 0)) := hrow
            have hset := row_set hrow' (k := x + i) (by rw [hpl]; omega) u
            rw [put_succ d.data x i l u hu (by rw [HL.out]; omega)] at hset
            have Hset := Lib.hid hset
            have hadd : IntKind.i64.wrap ((x : Int) + (i : Int)) = ((x + i : Nat) : Int) := by rw [IntKind.wrap_i64]; omega
            clear hset hrow hrow' hu hu0 hpl
            go_wp2_with fail
            go_region
            go_wp2_with fail
            go_roundw
            case rel => exact ⟨i + 1, by omega, by go_num, Hset.out, (hkr.drew).set1 _ _⟩
            case measure => simp [intOf]; omega
          · obtain rfl : i = n := by omega
            rw [hlM.out] at hrow
            have Hrow := Lib.hid hrow
            clear hrow
            go_wp2_with fail
            go_ret
            refine ⟨ret_int e1.out.symm, ?_, (hk6.mono fun _ _ h => .inl h).trans (hkr.mono fun _ _ h => .inr h)⟩
            rw [e2.out] at hwf ⊢
            exact ⟨_, _, by rw [hwf.2]; exact hkr.at_ Hst6.out hne, Hrow.out, hne, hwf.1, by omega, by omega, (fun h => by cases h), (fun h => by cases h)⟩


theorem rwrite_err (q h : Nat) (d : Dk) (x : Int) (A : Option Addr) (n c : Nat) (l : List UInt8) (hx0 : -9223372036854775808 ≤ x) (hx1 : x ≤ 9223372036854775807) (w : World) (H : Ref w q h d) (hr : l.length = n) (he : d.may x n ≠ 0) :
    Calls Try.prog 41 #[.pointer (some ⟨q, 0, none⟩), .int .i64 x, .slice A n c] w fun e w' => e = .returned (.int .i64 (d.writeErr x l)) ∧ Ref w' q h (d.write x l) ∧ Keeps (fun k => k = q ∨ k = h) w w' := by
  have hb : (d.may x n != 0) = true := by rw [bne_iff_ne]; exact he
  have e1 : Hid (d.writeErr x l = d.may x n) := by show _ = _; unfold Dk.writeErr; rw [hr, if_pos he]
  have e2 : Hid (d.write x l = d) := by show _ = _; unfold Dk.write; rw [hr, if_pos he]
  clear he
  go_enter Try.func41, Try.ntmps41
  go_wp2_with fail
  refine (rmay_any q h d x n hx0 hx1 w H).mono ?_
  rintro e w' ⟨rfl, rfl⟩
  go_wp2_with fail
  go_ret
  exact ⟨ret_int e1.out.symm, by rw [e2.out]; exact H, Keeps.refl _ _⟩

theorem rwrite_any (q h : Nat) (d : Dk) (x : Int) (A : Option Addr) (n c : Nat) (l : List UInt8) (hx0 : -9223372036854775808 ≤ x) (hx1 : x ≤ 9223372036854775807) (w : World) (H : Ref w q h d) (hr : RdB w A n l) (hA : 0 < n → ∀ a, A = some a → a.block ≠ h) :
    Calls Try.prog 41 #[.pointer (some ⟨q, 0, none⟩), .int .i64 x, .slice A n c] w fun e w' => e = .returned (.int .i64 (d.writeErr x l)) ∧ Ref w' q h (d.write x l) ∧ Keeps (fun k => k = q ∨ k = h) w w' := by
  by_cases he : d.may x n = 0
  · obtain ⟨_, h2, _⟩ := Dk.may_zero he
    obtain ⟨y, rfl⟩ := Int.eq_ofNat_of_zero_le h2
    exact rwrite_in q h d y A n c l w H hr hA he
  · exact rwrite_err q h d x A n c l hx0 hx1 w H hr.len he
end Go.Proofs.Ytbmamhcjbhnkiaa
