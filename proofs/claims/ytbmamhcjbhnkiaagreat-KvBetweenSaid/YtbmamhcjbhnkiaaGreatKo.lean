/- Layer 7: the walks of New, Light, Start, Read, Write and Copy. -/
import Derived.Test.YtbmamhcjbhnkiaaGreatKn
namespace Go.Proofs.YtbmamhcjbhnkiaaGreat
open Go.RowKit

theorem make_bytes (n : Nat) (hn : n ≤ 281474976710656) (W : World) : (Instr.makeSlice 60 (.int .i64 (n : Int)) (.int .i64 (n : Int))).run Tryz.prog W =
    .ok (.slice (some ⟨W.heap.size, 0, none⟩) n n) (W.alloc (.cells (madeCells #[.int .u8 0] n) 5)) := by
  obtain ⟨i, hi, hz⟩ := Option.map_eq_some_iff.1 info_u8
  simp only [Prod.mk.injEq] at hz
  have h := run_make (P := Tryz.prog) W 60 5 i (.int .u8 0) Tryz.underlying60 hi hz.1 .i64 .i64 n n (by omega) (by omega) (by rw [hz.2.2]; omega) (by omega)
  rw [hz.2.1] at h
  simpa [Value.cells] using h
theorem madeCells_bytes (n : Nat) : madeCells #[.int .u8 0] n = ((List.replicate n (0 : UInt8)).map bv).toArray := by
  apply Array.ext'
  simp only [madeCells, List.map_replicate]
  apply List.ext_getElem
  · simp
  · intro i h1 h2
    simp [Nat.mod_one]

/-- Noughts; behind a name, so that nothing writes them out. -/
def zeros (n : Nat) : List UInt8 := List.replicate n 0
theorem zeros_length (n : Nat) : (zeros n).length = n := by simp [zeros]
theorem make_zeros (n : Nat) (hn : n ≤ 281474976710656) (W : World) : (Instr.makeSlice 60 (.int .i64 (n : Int)) (.int .i64 (n : Int))).run Tryz.prog W =
    .ok (.slice (some ⟨W.heap.size, 0, none⟩) n n) (W.alloc (.cells ((zeros n).map bv).toArray 5)) := by
  rw [make_bytes n hn, madeCells_bytes]; rfl
theorem heap_zeros (W : World) (n : Nat) : (W.alloc (.cells ((zeros n).map bv).toArray 5)).heap[W.heap.size]? = some (.cells ((zeros n).map bv ++ []).toArray 5 (0, 0)) := by
  rw [List.append_nil]; exact heap_new _ _

theorem new_disk (n : Nat) (h0 : 1024 ≤ n) (h1 : n ≤ 1048576) (w : World) :
    Calls Tryz.prog 8 #[.int .i64 (n : Int)] w fun e w' => e = .returned (.tuple #[.pointer (some ⟨w.heap.size + 1, 0, none⟩), .int .i64 0]) ∧ DiskAt w' (w.heap.size + 1) w.heap.size (Dk.new n) ∧ Keeps Non w w' := by
  have hmk := make_bytes n (by omega)
  have hz := heap_new w (.cells (madeCells #[.int .u8 0] n) 5)
  go_enter Tryz.func8, Tryz.ntmps8
  go_wp2
  go_ret2
  rw [madeCells_bytes] at hz
  refine ⟨rfl, ⟨n, [], ?_, ?_, by simp [Dk.new], by omega, by omega, Dk.WF.new (by omega) h1⟩, ?_⟩
  · rw [madeCells_bytes]
    have := heap_new (w.alloc (.cells ((List.replicate n (0 : UInt8)).map bv).toArray 5)) (.cells #[.slice (some ⟨w.heap.size, 0, none⟩) n n, .bool false, .bool false, .int .i64 0, .int .i64 0, .int .i64 0] 71)
    rw [show (w.alloc (.cells ((List.replicate n (0 : UInt8)).map bv).toArray 5)).heap.size = w.heap.size + 1 by simp] at this
    simpa [Dk.new] using this
  · rw [madeCells_bytes, List.append_nil]
    exact heap_old hz _
  · exact ((Keeps.refl _ _).alloc _).alloc _
theorem new_range (n : Int) (h : n < 1024 ∨ 1048576 < n) (w : World) :
    Calls Tryz.prog 8 #[.int .i64 n] w fun e w' => e = .returned (.tuple #[.pointer none, .int .i64 12]) ∧ w = w' := by
  by_cases h1 : n < 1024
  · go_enter Tryz.func8, Tryz.ntmps8
    go_wp2
    go_ret2
    exact ⟨rfl, rfl⟩
  · have h2 : 1048576 < n := by omega
    go_enter Tryz.func8, Tryz.ntmps8
    go_wp2
    go_ret2
    exact ⟨rfl, rfl⟩

theorem light_any (p g : Nat) (d : Dk) (a b : Int) (ha : a ≤ 9223372036854775807) (hb : b ≤ 9223372036854775807) (w : World) (h : DiskAt w p g d) :
    Calls Tryz.prog 17 #[.pointer (some ⟨p, 0, none⟩), .int .i64 a, .int .i64 b] w fun e w' => e = .returned (.int .i64 (Dk.lightErr a b)) ∧ DiskAt w' p g (d.light a b) ∧ Keeps (fun k => k = p) w w' := by
  obtain ⟨cap, rest, h⟩ := h
  have hs := six h.st
  have c2 := hs.c2
  have c3 := hs.c3
  have c4 := hs.c4
  have f2 := free h.st 2
  have f3 := free h.st 3
  have f4 := free h.st 4
  by_cases h1 : a < 0
  · have e1 : Hid (Dk.lightErr a b = 12) := if_pos (.inl h1)
    have e2 : Hid (d.light a b = d) := if_pos (.inl h1)
    go_enter Tryz.func17, Tryz.ntmps17
    go_wp2
    go_ret
    exact ⟨ret_int e1.out.symm, by rw [e2.out]; exact ⟨cap, rest, h⟩, Keeps.refl _ _⟩
  · by_cases h2 : b < 0
    · have e1 : Hid (Dk.lightErr a b = 12) := if_pos (.inr h2)
      have e2 : Hid (d.light a b = d) := if_pos (.inr h2)
      go_enter Tryz.func17, Tryz.ntmps17
      go_wp2
      go_ret
      exact ⟨ret_int e1.out.symm, by rw [e2.out]; exact ⟨cap, rest, h⟩, Keeps.refl _ _⟩
    · have e1 : Hid (Dk.lightErr a b = 0) := if_neg (by omega)
      have e2 : Hid (d.light a b = { d with lit := true, fw := a, fb := b }) := if_neg (by omega)
      go_enter Tryz.func17, Tryz.ntmps17
      go_wp2
      go_ret
      refine ⟨ret_int e1.out.symm, ?_, ?_⟩
      · rw [e2.out]
        refine ⟨cap, rest, ?_, setCell_other (setCell_other (setCell_other h.row h.ne.symm _) h.ne.symm _) h.ne.symm _, h.room, h.capm, h.ne, ?_⟩
        · exact setCell_row _ p 4 _ _ _ (setCell_row _ p 3 _ _ _ (setCell_row _ p 2 _ _ _ h.st _) _) _
        · have := h.wf.light ha hb; rw [e2.out] at this; exact this
      · exact (((Keeps.refl _ _).set1 _ _).set1 _ _).set1 _ _

theorem start_any (p g : Nat) (d : Dk) (w : World) (h : DiskAt w p g d) :
    Calls Tryz.prog 18 #[.pointer (some ⟨p, 0, none⟩)] w fun e w' => e = .returned (.tuple #[]) ∧ DiskAt w' p g d.start ∧ Keeps (fun k => k = p) w w' := by
  obtain ⟨cap, rest, h⟩ := h
  have hs := six h.st
  have c1 := hs.c1
  have c2 := hs.c2
  have c3 := hs.c3
  have c4 := hs.c4
  have f1 := free h.st 1
  have f2 := free h.st 2
  have f3 := free h.st 3
  have f4 := free h.st 4
  go_enter Tryz.func18, Tryz.ntmps18
  go_wp2
  go_end0
  refine ⟨rfl, ⟨cap, rest, ?_, setCell_other (setCell_other (setCell_other (setCell_other h.row h.ne.symm _) h.ne.symm _) h.ne.symm _) h.ne.symm _, h.room, h.capm, h.ne, h.wf.start⟩, ?_⟩
  · exact setCell_row _ p 4 _ _ _ (setCell_row _ p 3 _ _ _ (setCell_row _ p 2 _ _ _ (setCell_row _ p 1 _ _ _ h.st _) _) _) _
  · exact ((((Keeps.refl _ _).set1 _ _).set1 _ _).set1 _ _).set1 _ _

theorem burn_no (p g : Nat) (d : Dk) (w : World) (h : DiskAt w p g d) (hl : d.lit = false) :
    Calls Tryz.prog 104 #[.pointer (some ⟨p, 0, none⟩)] w fun e w' => e = .returned (.bool true) ∧ w = w' := by
  obtain ⟨cap, rest, h⟩ := h
  have c2 := (six h.st).c2
  rw [hl] at c2
  clear hl
  go_enter Tryz.func104, Tryz.ntmps104
  go_wp2
  go_ret
  exact ⟨rfl, rfl⟩
theorem burn_yes (p g : Nat) (d : Dk) (w : World) (h : DiskAt w p g d) (hl : d.lit = true) :
    Calls Tryz.prog 104 #[.pointer (some ⟨p, 0, none⟩)] w fun e w' => e = .returned (.bool (decide (1 ≤ d.fw))) ∧ w.setCell ⟨p, 3, none⟩ (.int .i64 (d.fw - 1)) = w' := by
  obtain ⟨cap, rest, h⟩ := h
  have c2 := (six h.st).c2
  have c3 := (six h.st).c3
  have f3 := free h.st 3
  have b0 := h.wf.fw0
  have b1 := h.wf.fw1
  rw [hl] at c2
  clear hl
  go_enter Tryz.func104, Tryz.ntmps104
  go_wp2
  go_ret
  exact ⟨rfl, rfl⟩

theorem clone_own (A : Option Addr) (n c : Nat) (l : List UInt8) (w : World) (hr : RdB w A n l) :
    Calls Tryz.prog 43 #[.slice A n c] w (RetOwn w l) := by
  have qT : ∀ (w : World) (a : Option Addr) (n c n' c' : Nat), (binOp .eql 60 (.slice a n c) (.slice none n' c')).run Tryz.prog w = .ok (.bool a.isNone) w := fun w a n c n' c' => Lib.run_eql_slice_nil w _ _ a n c n' c' Tryz.underlying60
  have hle := hr.le
  cases A with
  | none =>
    go_enter Tryz.func43, Tryz.ntmps43
    go_wp2
    go_ret
    have h0 : n = 0 := by
      rcases Nat.eq_zero_or_pos n with h | h
      · exact h
      · obtain ⟨_, _, e, _⟩ := hr.cells h; cases e
    subst h0
    have hl : l = [] := List.eq_nil_of_length_eq_zero hr.len
    subst hl
    exact ⟨.slice none 0 0, rfl, World.ownsRow_nil _ _ _ _, Keeps.refl _ _⟩
  | some a =>
    have hown := own_empty w w.heap.size 5 (Nat.le_refl _)
    have hsrc := src_bytes (P := Tryz.prog) Tryz.underlying60 (hr.keepN ((Keeps.refl _ _).alloc (.cells #[] 5))) c
    go_enter Tryz.func43, Tryz.ntmps43
    go_wp2_with (at_builtin; refine wpList_append_src _ rfl _ _ 60 60 rfl w.heap.size 5 (.int .u8 0) 1 1 Tryz.underlying60 info_u8 rfl (by decide) (.slice (some ⟨w.heap.size, 0, none⟩) 0 0) _ _ rfl hown _ _ _ rfl hsrc (by unfold maxLen; omega) (by omega) (by simp) ?_; intro v' w4 hown' hgrow hat)
    simp only [Nat.zero_add, List.nil_append] at hown'
    have hb : Below w.heap.size w w4 := ((Below.refl _ _).alloc (Nat.le_refl _) _).grown hgrow (by simp) (fun j hj => by simp [Value.ownBlock] at hj; omega)
    have Hl := Lib.hid hr.len
    clear hown hsrc hgrow hat
    go_wp2
    go_ret
    exact ⟨v', rfl, by rw [Hl.out]; exact hown', Keeps.of_below hb⟩
theorem clone_any (A : Option Addr) (n c : Nat) (l : List UInt8) (w : World) (hr : RdB w A n l) :
    Calls Tryz.prog 43 #[.slice A n c] w (RetB w l) :=
  (clone_own A n c l w hr).mono fun e w' h => h.toB (by rw [hr.len]; exact hr.le)

theorem read_err (p g : Nat) (d : Dk) (x n : Int) (hx0 : -9223372036854775808 ≤ x) (hx1 : x ≤ 9223372036854775807) (w : World) (h : DiskAt w p g d) (he : d.may x n ≠ 0) :
    Calls Tryz.prog 97 #[.pointer (some ⟨p, 0, none⟩), .int .i64 x, .int .i64 n] w fun e w' => e = .returned (.tuple #[.slice none 0 0, .int .i64 (d.may x n)]) ∧ w = w' := by
  have hb : (d.may x n != 0) = true := by rw [bne_iff_ne]; exact he
  have HE := Lib.hid he
  clear he
  go_enter Tryz.func97, Tryz.ntmps97
  go_wp2_with fail
  refine (may_any p g d x n hx0 hx1 w h).mono ?_
  rintro e w' ⟨rfl, rfl⟩
  go_wp2_with fail
  go_ret2
  exact ⟨rfl, rfl⟩

theorem add_at (b o : Nat) (i : Nat) : (⟨b, o, none⟩ : Addr).add i = ⟨b, o + i, none⟩ := by unfold Addr.add; split <;> simp_all

theorem setRow_kept (w : World) (g : Nat) (cs : Array Value) : Keeps (fun k => k = g) w (w.setRow g cs) :=
  ⟨rfl, rfl, rfl, by simp [World.setRow], fun k _ hn => setRow_other w g k cs (fun e => hn e)⟩

/-- copy: bytes laid over a row's, from a place on. -/
theorem run_copy_bytes (w : World) (ty : TypeId) (dp : Option Addr) (g off dLen dCap : Nat) (D : List UInt8) (rest : List Value) (hg : w.heap[g]? = some (.cells (D.map bv ++ rest).toArray 5 (0, 0)))
    (A : Option Addr) (n c : Nat) (l : List UInt8) (hr : RdB w A n l) (hdp : 0 < dLen → dp = some ⟨g, off, none⟩) (hfit : off + dLen ≤ D.length) :
    ∃ w', (Builtin.copy_ #[60, 60] ty #[.slice dp dLen dCap, .slice A n c]).run Tryz.prog w = .ok (.int .i64 ((min n dLen : Nat) : Int)) w' ∧
      w'.heap[g]? = some (.cells ((Dk.put D off (l.take dLen)).map bv ++ rest).toArray 5 (0, 0)) ∧ Keeps (fun k => k = g) w w' := by
  have hsz : (Tryz.prog.info? 5).map (·.size) = some 1 := by kernel_rfl
  have hll := hr.len
  rcases Nat.eq_zero_or_pos (min n dLen) with h0 | h0
  · refine ⟨w, ?_, ?_, Keeps.refl _ _⟩
    · rw [h0]
      exact run_copy_none w _ _ ty 5 dp A dLen dCap n c Tryz.underlying60 hsz (by simpa using h0)
    · have : l.take dLen = [] := List.eq_nil_of_length_eq_zero (by rw [List.length_take, hll, Nat.min_comm]; exact h0)
      rw [this]
      simpa [Dk.put] using hg
  · have hd := hdp (by omega)
    subst hd
    obtain ⟨b, o, rfl, hc⟩ := hr.cells (by omega)
    have hl : ((l.take dLen).map bv).length = Nat.min n dLen := by simp [hll, Nat.min_comm]
    have h := run_copy_row (P := Tryz.prog) w 60 60 ty 5 g off dLen dCap ⟨b, o, none⟩ n c _ 5 ((l.take dLen).map bv) Tryz.underlying60 hsz hg hl
      (fun j v hv => by
        rw [add_at]
        simp only [List.getElem?_map, Option.map_eq_some_iff, List.getElem?_take] at hv
        obtain ⟨x, hx, rfl⟩ := hv
        split at hx
        · exact hc j x hx
        · cases hx)
      (by rw [hl, show Nat.min n dLen = min n dLen from rfl]; simp; omega)
      (fun v hv => by obtain ⟨x, _, rfl⟩ := List.mem_map.1 hv; rfl)
    have hgo : goInt ((((l.take dLen).map bv).length : Nat) : Int) = .int .i64 ((min n dLen : Nat) : Int) := by rw [hl]; rfl
    refine ⟨_, h.trans (by rw [hgo]), ?_, setRow_kept _ _ _⟩
    · refine (setRow_heap w g _ _ _ _ hg).trans (congrArg (fun x => some (Obj.cells x 5 (0, 0))) ?_)
      apply Array.ext'
      have ho : off ≤ D.length := by omega
      have ht : (l.take dLen).length ≤ dLen := by simp; omega
      simp only [Dk.put, List.map_append, List.map_take, List.map_drop, List.length_map]
      rw [List.take_append_of_le_length (by simpa using ho), List.drop_append_of_le_length (by simp; simp at ht; omega)]
      simp

theorem read_ok (p g : Nat) (d : Dk) (x n : Nat) (w : World) (h : DiskAt w p g d) (he : d.may x n = 0) :
    Calls Tryz.prog 97 #[.pointer (some ⟨p, 0, none⟩), .int .i64 (x : Int), .int .i64 (n : Int)] w fun e w' =>
      (∃ A c, e = .returned (.tuple #[.slice A n c, .int .i64 0]) ∧ RdB w' A n ((d.data.drop x).take n) ∧ (∀ a, A = some a → w.heap.size ≤ a.block) ∧ n ≤ c ∧ c ≤ 9223372036854775807) ∧ Keeps Non w w' := by
  obtain ⟨h1, h2, h3, h4, h5⟩ := Dk.may_zero he
  have hb : (d.may x n != 0) = false := by rw [he]; rfl
  have h' := h
  obtain ⟨cap, rest, h'⟩ := h'
  have c0 := (six h'.st).c0
  have hle := h'.wf.le
  have hroom := h'.room
  have hcm := h'.capm
  have hlen : Hid (((d.data.drop x).take n).length = n) := by show _ = _; simp; omega
  have HE := Lib.hid he
  clear he h1
  have hsrc : ∀ A : Option Addr, (0 < n → A = some ⟨g, x, none⟩) → RdB w A n ((d.data.drop x).take n) := fun A hA => ⟨hlen.out, by omega, fun h0 => ⟨g, x, hA h0, fun j u hu => by
    rw [List.getElem?_take] at hu
    split at hu
    · rw [List.getElem?_drop] at hu
      exact row_cell h'.row hu
    · cases hu⟩⟩
  have Hsrc := Lib.hid hsrc
  clear hsrc
  go_enter Tryz.func97, Tryz.ntmps97
  go_wp2_with fail
  refine (may_any p g d x n (by omega) (by omega) w h).mono ?_
  rintro e w' ⟨rfl, rfl⟩
  go_wp2_with fail
  all_goals
    refine (clone_any _ n _ _ w (Hsrc.out _ (fun h0 => by first | rfl | omega))).mono ?_
    rintro e w1 ⟨A, n1, c1, rfl, hrd, hk, hge, hnc, hcm'⟩
    have hn1 : n1 = n := by rw [← hrd.len, hlen.out]
    subst hn1
    go_wp2_with fail
    go_ret2
    exact ⟨⟨A, c1, rfl, hrd, hge, hnc, hcm'⟩, hk⟩

theorem write_err (p g : Nat) (d : Dk) (x : Int) (A : Option Addr) (n c : Nat) (l : List UInt8) (hx0 : -9223372036854775808 ≤ x) (hx1 : x ≤ 9223372036854775807) (w : World) (h : DiskAt w p g d) (hr : l.length = n) (he : d.may x n ≠ 0) :
    Calls Tryz.prog 77 #[.pointer (some ⟨p, 0, none⟩), .int .i64 x, .slice A n c] w fun e w' => e = .returned (.int .i64 (d.writeErr x l)) ∧ DiskAt w' p g (d.write x l) ∧ Keeps (fun k => k = p ∨ k = g) w w' := by
  have hb : (d.may x n != 0) = true := by rw [bne_iff_ne]; exact he
  have e1 : Hid (d.writeErr x l = d.may x n) := by show _ = _; unfold Dk.writeErr; rw [hr, if_pos he]
  have e2 : Hid (d.write x l = d) := by show _ = _; unfold Dk.write; rw [hr, if_pos he]
  have HE := Lib.hid he
  clear he
  go_enter Tryz.func77, Tryz.ntmps77
  go_wp2_with fail
  refine (may_any p g d x n hx0 hx1 w h).mono ?_
  rintro e w' ⟨rfl, rfl⟩
  go_wp2_with fail
  go_ret
  exact ⟨ret_int e1.out.symm, by rw [e2.out]; exact h, Keeps.refl _ _⟩

set_option maxRecDepth 100000 in
theorem write_ok (p g : Nat) (d : Dk) (x : Nat) (A : Option Addr) (n c : Nat) (l : List UInt8) (w : World) (h : DiskAt w p g d) (hr : RdB w A n l) (he : d.may x n = 0) (hnc : n ≤ c) :
    Calls Tryz.prog 77 #[.pointer (some ⟨p, 0, none⟩), .int .i64 (x : Int), .slice A n c] w fun e w' => e = .returned (.int .i64 (d.writeErr x l)) ∧ DiskAt w' p g (d.write x l) ∧ Keeps (fun k => k = p ∨ k = g) w w' := by
  obtain ⟨h1, h2, h3, h4, h5⟩ := Dk.may_zero he
  have hb : (d.may x n != 0) = false := by rw [he]; rfl
  have h' := h
  obtain ⟨cap, rest, h'⟩ := h'
  have hle := h'.wf.le
  have hroom := h'.room
  have hcm := h'.capm
  have hln := hr.len
  have hs := six h'.st
  have c5 := hs.c5
  have f5 := free h'.st 5
  have hst5 := setCell_row w p 5 _ _ _ h'.st (.int .i64 (wrap64 (d.wr + 1)))
  have hrow5 := setCell_other (a := ⟨p, 5, none⟩) h'.row h'.ne.symm (.int .i64 (wrap64 (d.wr + 1)))
  have hr5 : RdB (w.setCell ⟨p, 5, none⟩ (.int .i64 (wrap64 (d.wr + 1)))) A n l := hr.keep ((Keeps.refl (fun k => k = p) w).set1 5 _) (h'.off hr)
  have hk5 : Keeps (fun k => k = p) w (w.setCell ⟨p, 5, none⟩ (.int .i64 (wrap64 (d.wr + 1)))) := (Keeps.refl _ _).set1 5 _
  have hr6 := Dk.wrap_range (d.wr + 1)
  have hD5 : DiskAt (w.setCell ⟨p, 5, none⟩ (.int .i64 (wrap64 (d.wr + 1)))) p g { d with wr := wrap64 (d.wr + 1) } :=
    ⟨cap, rest, hst5, hrow5, h'.room, h'.capm, h'.ne, ⟨h'.wf.pos, h'.wf.le, h'.wf.fw0, h'.wf.fw1, h'.wf.fb0, h'.wf.fb1, hr6.1, hr6.2, h'.wf.up⟩⟩
  obtain ⟨w5, hw5⟩ : ∃ w5, w5 = w.setCell ⟨p, 5, none⟩ (.int .i64 (wrap64 (d.wr + 1))) := ⟨_, rfl⟩
  rw [← hw5] at hst5 hrow5 hr5 hk5 hD5
  have H5 := Lib.hid hw5
  clear hw5
  have HE := Lib.hid he
  have HR := Lib.hid hln
  have hne := h'.ne
  have hwf := h.wf.write (x : Int) l
  clear he hln
  cases hlit : d.lit with
  | false =>
    have e1 : Hid (d.writeErr x l = 0) := by show _ = _; unfold Dk.writeErr; rw [HR.out, HE.out]; simp [hlit]
    have e2 : Hid (d.write x l = { d with data := Dk.put d.data x l, wr := wrap64 (d.wr + 1) }) := by show _ = _; unfold Dk.write; rw [HR.out, HE.out]; simp [hlit]
    have Hlit := Lib.hid hlit
    clear hlit
    go_enter Tryz.func77, Tryz.ntmps77
    go_wp2_with fail
    refine (may_any p g d x n (by omega) (by omega) w h).mono ?_
    rintro e w' ⟨rfl, rfl⟩
    go_wp2_with fail
    rw [← H5.out]
    refine (burn_no p g _ _ hD5 Hlit.out).mono ?_
    rintro e w1 ⟨rfl, rfl⟩
    have c50 := (six (v0 := .slice (some ⟨g, 0, none⟩) d.data.length cap) hst5).c0
    have Hcopy := Lib.hid (fun (dp : Option Addr) (dLen dCap : Nat) h1 h2 => run_copy_bytes w5 3 dp g x dLen dCap d.data rest hrow5 A n c l hr5 h1 h2)
    go_wp2_with fail
    case inr =>
      obtain ⟨w6, hcp, hg6, hk6⟩ := Hcopy.out (some ⟨g, x, none⟩) (d.data.length - x) (cap - x) (fun _ => rfl) (by omega)
      rw [hcp]
      have hl : l.take (d.data.length - x) = l := List.take_of_length_le (by rw [HR.out]; omega)
      rw [hl] at hg6
      go_wp2_with fail
      go_ret
      refine ⟨ret_int e1.out.symm, ?_, ?_⟩
      · rw [e2.out] at hwf ⊢
        exact ⟨cap, rest, by rw [hwf.2]; exact hk6.at_ hst5 hne, hg6, by rw [hwf.2]; exact hroom, hcm, hne, hwf.1⟩
      · exact (hk5.mono fun _ _ h => .inl h).trans (hk6.mono fun _ _ h => .inr h)
    case inl =>
      obtain ⟨w6, hcp, hg6, hk6⟩ := Hcopy.out (some ⟨g, 0, none⟩) (d.data.length - x) 0 (fun h => by omega) (by omega)
      rw [hcp]
      have hl : l.take (d.data.length - x) = l := List.take_of_length_le (by rw [HR.out]; omega)
      rw [hl] at hg6
      go_wp2_with fail
      go_ret
      refine ⟨ret_int e1.out.symm, ?_, ?_⟩
      · rw [e2.out] at hwf ⊢
        exact ⟨cap, rest, by rw [hwf.2]; exact hk6.at_ hst5 hne, hg6, by rw [hwf.2]; exact hroom, hcm, hne, hwf.1⟩
      · exact (hk5.mono fun _ _ h => .inl h).trans (hk6.mono fun _ _ h => .inr h)
  | true =>
    have Hlit := Lib.hid hlit
    obtain ⟨w6, hw6⟩ : ∃ w6, w6 = w5.setCell ⟨p, 3, none⟩ (.int .i64 (d.fw - 1)) := ⟨_, rfl⟩
    have hst6 := setCell_row w5 p 3 _ _ _ hst5 (.int .i64 (d.fw - 1))
    have hrow6 := setCell_other (a := ⟨p, 3, none⟩) hrow5 hne.symm (.int .i64 (d.fw - 1))
    have hr6' : RdB (w5.setCell ⟨p, 3, none⟩ (.int .i64 (d.fw - 1))) A n l := hr5.keep ((Keeps.refl (fun k => k = p) w5).set1 3 _) (h'.off hr)
    have hk6' : Keeps (fun k => k = p) w (w5.setCell ⟨p, 3, none⟩ (.int .i64 (d.fw - 1))) := hk5.set1 3 _
    rw [← hw6] at hst6 hrow6 hr6' hk6'
    have H6 := Lib.hid hw6
    clear hw6
    have c60 := (six (v0 := .slice (some ⟨g, 0, none⟩) d.data.length cap) hst6).c0
    by_cases hfw : 1 ≤ d.fw
    · have e1 : Hid (d.writeErr x l = 0) := by show _ = _; unfold Dk.writeErr; rw [HR.out, HE.out]; simp [hlit, hfw]
      have e2 : Hid (d.write x l = { d with data := Dk.put d.data x l, fw := d.fw - 1, wr := wrap64 (d.wr + 1) }) := by show _ = _; unfold Dk.write; rw [HR.out, HE.out]; simp [hlit, hfw]
      clear hlit
      have hdec : decide (1 ≤ d.fw) = true := by simpa using hfw
      have Hcopy := Lib.hid (fun (dp : Option Addr) (dLen dCap : Nat) h1 h2 => run_copy_bytes w6 3 dp g x dLen dCap d.data rest hrow6 A n c l hr6' h1 h2)
      go_enter Tryz.func77, Tryz.ntmps77
      go_wp2_with fail
      refine (may_any p g d x n (by omega) (by omega) w h).mono ?_
      rintro e w' ⟨rfl, rfl⟩
      go_wp2_with fail
      rw [← H5.out]
      refine (burn_yes p g _ _ hD5 Hlit.out).mono ?_
      rintro e w1 ⟨rfl, hw1⟩
      rw [← H6.out] at hw1
      subst hw1
      go_wp2_with fail
      case inr =>
        obtain ⟨w7, hcp, hg7, hk7⟩ := Hcopy.out (some ⟨g, x, none⟩) (d.data.length - x) (cap - x) (fun _ => rfl) (by omega)
        rw [hcp]
        have hl : l.take (d.data.length - x) = l := List.take_of_length_le (by rw [HR.out]; omega)
        rw [hl] at hg7
        go_wp2_with fail
        go_ret
        refine ⟨ret_int e1.out.symm, ?_, ?_⟩
        · rw [e2.out] at hwf ⊢
          exact ⟨cap, rest, by rw [hwf.2]; exact hk7.at_ hst6 hne, hg7, by rw [hwf.2]; exact hroom, hcm, hne, hwf.1⟩
        · exact (hk6'.mono fun _ _ h => .inl h).trans (hk7.mono fun _ _ h => .inr h)
      case inl =>
        obtain ⟨w7, hcp, hg7, hk7⟩ := Hcopy.out (some ⟨g, 0, none⟩) (d.data.length - x) 0 (fun h => by omega) (by omega)
        rw [hcp]
        have hl : l.take (d.data.length - x) = l := List.take_of_length_le (by rw [HR.out]; omega)
        rw [hl] at hg7
        go_wp2_with fail
        go_ret
        refine ⟨ret_int e1.out.symm, ?_, ?_⟩
        · rw [e2.out] at hwf ⊢
          exact ⟨cap, rest, by rw [hwf.2]; exact hk7.at_ hst6 hne, hg7, by rw [hwf.2]; exact hroom, hcm, hne, hwf.1⟩
        · exact (hk6'.mono fun _ _ h => .inl h).trans (hk7.mono fun _ _ h => .inr h)
    · have e1 : Hid (d.writeErr x l = 20) := by show _ = _; unfold Dk.writeErr; rw [HR.out, HE.out]; simp [hlit, hfw]
      have e2 : Hid (d.write x l = { d with data := Dk.put d.data x (l.take d.fb.toNat), fw := d.fw - 1, wr := wrap64 (d.wr + 1), down := true }) := by show _ = _; unfold Dk.write; rw [HR.out, HE.out]; simp [hlit, hfw]
      clear hlit
      have hdec : decide (1 ≤ d.fw) = false := by simpa using hfw
      have b0 := h'.wf.fb0
      have b1 := h'.wf.fb1
      obtain ⟨f, hf⟩ : ∃ f : Nat, d.fb = (f : Int) := ⟨d.fb.toNat, by omega⟩
      have c64 := (six (v4 := .int .i64 d.fb) hst6).c4
      have c61 := (six (v1 := .bool d.down) hst6).c1
      have f61 := free hst6 1
      rw [hf] at c64 b1
      have hfN : Hid (d.fb.toNat = f) := by show _ = _; omega
      clear hf b0
      by_cases hcx : cap = x
      · by_cases hnf : (n : Int) < (f : Int)
        · obtain ⟨w7, hcp, hg7, hk7⟩ := run_copy_bytes w6.drew 3 (some ⟨g, 0, none⟩) g x (d.data.length - x) 0 d.data rest hrow6 A n c l (hr6'.keepN (Keeps.refl _ _).drew) (fun h => by omega) (by omega)
          have hl : l.take (d.data.length - x) = l.take d.fb.toNat := by rw [hfN.out, List.take_of_length_le (by rw [HR.out]; omega), List.take_of_length_le (by rw [HR.out]; omega)]
          rw [hl] at hg7
          have hk67 : Keeps (fun k => k = g) w6 w7 := ((Keeps.refl _ _).drew).trans hk7
          have hst7 := hk67.at_ hst6 hne
          have c71 := (six (v1 := .bool d.down) hst7).c1
          have f71 := free hst7 1
          have Hst7 := Lib.hid hst7
          have Hg7 := Lib.hid hg7
          have Hl := Lib.hid hl
          clear hst7 hg7 hl hst6 hrow6 hst5 hrow5
          go_enter Tryz.func77, Tryz.ntmps77
          go_wp2_with fail
          refine (may_any p g d x n (by omega) (by omega) w h).mono ?_
          rintro e w' ⟨rfl, rfl⟩
          go_wp2_with fail
          rw [← H5.out]
          refine (burn_yes p g _ _ hD5 Hlit.out).mono ?_
          rintro e w1 ⟨rfl, hw1⟩
          rw [← H6.out] at hw1
          subst hw1
          go_wp2_with fail
          go_region
          go_wp2
          go_ret
          refine ⟨ret_int e1.out.symm, ?_, ?_⟩
          · rw [e2.out] at hwf ⊢
            exact ⟨cap, rest, by rw [hwf.2]; exact setCell_row _ p 1 _ _ _ Hst7.out _, setCell_other Hg7.out hne.symm _, by rw [hwf.2]; exact hroom, hcm, hne, hwf.1⟩
          · exact (((hk6'.mono fun _ _ h => .inl h).trans (hk67.mono fun _ _ h => .inr h)).setCell (fun _ => .inl rfl) _)
        · obtain ⟨w7, hcp, hg7, hk7⟩ := run_copy_bytes w6.drew 3 (some ⟨g, 0, none⟩) g x (d.data.length - x) 0 d.data rest hrow6 A f c (l.take f) ((hr6'.take (show f ≤ n by omega)).keepN (Keeps.refl _ _).drew) (fun h => by omega) (by omega)
          have hl : (l.take f).take (d.data.length - x) = l.take d.fb.toNat := by rw [hfN.out, List.take_of_length_le (by rw [List.length_take, HR.out]; omega)]
          rw [hl] at hg7
          have hk67 : Keeps (fun k => k = g) w6 w7 := ((Keeps.refl _ _).drew).trans hk7
          have hst7 := hk67.at_ hst6 hne
          have c71 := (six (v1 := .bool d.down) hst7).c1
          have f71 := free hst7 1
          have Hst7 := Lib.hid hst7
          have Hg7 := Lib.hid hg7
          have Hl := Lib.hid hl
          clear hst7 hg7 hl hst6 hrow6 hst5 hrow5
          go_enter Tryz.func77, Tryz.ntmps77
          go_wp2_with fail
          refine (may_any p g d x n (by omega) (by omega) w h).mono ?_
          rintro e w' ⟨rfl, rfl⟩
          go_wp2_with fail
          rw [← H5.out]
          refine (burn_yes p g _ _ hD5 Hlit.out).mono ?_
          rintro e w1 ⟨rfl, hw1⟩
          rw [← H6.out] at hw1
          subst hw1
          go_wp2_with fail
          go_region
          go_wp2
          go_ret
          refine ⟨ret_int e1.out.symm, ?_, ?_⟩
          · rw [e2.out] at hwf ⊢
            exact ⟨cap, rest, by rw [hwf.2]; exact setCell_row _ p 1 _ _ _ Hst7.out _, setCell_other Hg7.out hne.symm _, by rw [hwf.2]; exact hroom, hcm, hne, hwf.1⟩
          · exact (((hk6'.mono fun _ _ h => .inl h).trans (hk67.mono fun _ _ h => .inr h)).setCell (fun _ => .inl rfl) _)
      · by_cases hnf : (n : Int) < (f : Int)
        · obtain ⟨w7, hcp, hg7, hk7⟩ := run_copy_bytes w6.drew 3 (some ⟨g, x, none⟩) g x (d.data.length - x) (cap - x) d.data rest hrow6 A n c l (hr6'.keepN (Keeps.refl _ _).drew) (fun _ => rfl) (by omega)
          have hl : l.take (d.data.length - x) = l.take d.fb.toNat := by rw [hfN.out, List.take_of_length_le (by rw [HR.out]; omega), List.take_of_length_le (by rw [HR.out]; omega)]
          rw [hl] at hg7
          have hk67 : Keeps (fun k => k = g) w6 w7 := ((Keeps.refl _ _).drew).trans hk7
          have hst7 := hk67.at_ hst6 hne
          have c71 := (six (v1 := .bool d.down) hst7).c1
          have f71 := free hst7 1
          have Hst7 := Lib.hid hst7
          have Hg7 := Lib.hid hg7
          have Hl := Lib.hid hl
          clear hst7 hg7 hl hst6 hrow6 hst5 hrow5
          go_enter Tryz.func77, Tryz.ntmps77
          go_wp2_with fail
          refine (may_any p g d x n (by omega) (by omega) w h).mono ?_
          rintro e w' ⟨rfl, rfl⟩
          go_wp2_with fail
          rw [← H5.out]
          refine (burn_yes p g _ _ hD5 Hlit.out).mono ?_
          rintro e w1 ⟨rfl, hw1⟩
          rw [← H6.out] at hw1
          subst hw1
          go_wp2_with fail
          go_region
          go_wp2
          go_ret
          refine ⟨ret_int e1.out.symm, ?_, ?_⟩
          · rw [e2.out] at hwf ⊢
            exact ⟨cap, rest, by rw [hwf.2]; exact setCell_row _ p 1 _ _ _ Hst7.out _, setCell_other Hg7.out hne.symm _, by rw [hwf.2]; exact hroom, hcm, hne, hwf.1⟩
          · exact (((hk6'.mono fun _ _ h => .inl h).trans (hk67.mono fun _ _ h => .inr h)).setCell (fun _ => .inl rfl) _)
        · obtain ⟨w7, hcp, hg7, hk7⟩ := run_copy_bytes w6.drew 3 (some ⟨g, x, none⟩) g x (d.data.length - x) (cap - x) d.data rest hrow6 A f c (l.take f) ((hr6'.take (show f ≤ n by omega)).keepN (Keeps.refl _ _).drew) (fun _ => rfl) (by omega)
          have hl : (l.take f).take (d.data.length - x) = l.take d.fb.toNat := by rw [hfN.out, List.take_of_length_le (by rw [List.length_take, HR.out]; omega)]
          rw [hl] at hg7
          have hk67 : Keeps (fun k => k = g) w6 w7 := ((Keeps.refl _ _).drew).trans hk7
          have hst7 := hk67.at_ hst6 hne
          have c71 := (six (v1 := .bool d.down) hst7).c1
          have f71 := free hst7 1
          have Hst7 := Lib.hid hst7
          have Hg7 := Lib.hid hg7
          have Hl := Lib.hid hl
          clear hst7 hg7 hl hst6 hrow6 hst5 hrow5
          go_enter Tryz.func77, Tryz.ntmps77
          go_wp2_with fail
          refine (may_any p g d x n (by omega) (by omega) w h).mono ?_
          rintro e w' ⟨rfl, rfl⟩
          go_wp2_with fail
          rw [← H5.out]
          refine (burn_yes p g _ _ hD5 Hlit.out).mono ?_
          rintro e w1 ⟨rfl, hw1⟩
          rw [← H6.out] at hw1
          subst hw1
          go_wp2_with fail
          go_region
          go_wp2
          go_ret
          refine ⟨ret_int e1.out.symm, ?_, ?_⟩
          · rw [e2.out] at hwf ⊢
            exact ⟨cap, rest, by rw [hwf.2]; exact setCell_row _ p 1 _ _ _ Hst7.out _, setCell_other Hg7.out hne.symm _, by rw [hwf.2]; exact hroom, hcm, hne, hwf.1⟩
          · exact (((hk6'.mono fun _ _ h => .inl h).trans (hk67.mono fun _ _ h => .inr h)).setCell (fun _ => .inl rfl) _)
end Go.Proofs.YtbmamhcjbhnkiaaGreat
