/- Layer 9: a store with one change begun; a fresh store; the walk of the anchor. -/
import Derived.Test.YtbmamhcjbhnkiaaKzs
namespace Go.Proofs.Ytbmamhcjbhnkiaa
open Go.RowKit Go.Maps
open Kv (Bs Tab)

/-- A store, and a change that has begun at it when the heap had so many blocks. -/
structure Ses (w : World) (base : Nat) (F : Nat → Prop) (s b p g m age : Nat) (d : Dk) (L : Wal.Lg) (T0 : Tab) (c mc : Nat) (v : Value) (l : List Kv.St) (T : Tab) (over : Bool) : Prop where
  sv : Sv w F s b p g m age d L T0
  tab : TabW (fun k => Zs p g F s k ∨ base ≤ k) w m T0
  ch : Chg (Zs p g F s) w c s mc v l T age over
  lc : base ≤ c
  lm : base ≤ mc
  lv : ∀ k, v.ownBlock = some k → base ≤ k
  hm : m < base
  hz : ∀ k, Zs p g F s k → k < base
section
variable {w w' : World} {base : Nat} {F : Nat → Prop} {s b p g m age : Nat} {d : Dk} {L : Wal.Lg} {T0 : Tab} {c mc : Nat} {v : Value} {l : List Kv.St} {T : Tab} {over : Bool}
theorem Ses.keepN (h : Ses w base F s b p g m age d L T0 c mc v l T over) (hk : Keeps Non w w') : Ses w' base F s b p g m age d L T0 c mc v l T over :=
  ⟨h.sv.keepN hk, h.tab.keepN hk, h.ch.keepN hk, h.lc, h.lm, h.lv, h.hm, h.hz⟩
theorem Ses.move {S : Nat → Prop} {v' : Value} {l' : List Kv.St} {T' : Tab} {over' : Bool} (h : Ses w base F s b p g m age d L T0 c mc v l T over) (hk : Keeps S w w') (hS : ∀ k, S k → base ≤ k) (hc : Chg (Zs p g F s) w' c s mc v' l' T' age over') (hv : ∀ k, v'.ownBlock = some k → base ≤ k) : Ses w' base F s b p g m age d L T0 c mc v' l' T' over' := by
  have ht := h.tab.keep hk (fun q => by have := hS m q; have := h.hm; omega) (fun k q => .inr (hS k q))
  exact ⟨h.sv.keep hk (fun k q r => by have := hS k q; have := h.hz k r; omega) (fun q => by have := hS m q; have := h.hm; omega) (ht.grow fun k q => .inl (.inl q)), ht, hc, h.lc, h.lm, hv, h.hm, h.hz⟩
theorem Ses.size (h : Ses w base F s b p g m age d L T0 c mc v l T over) : base ≤ w.heap.size := by
  have := (Array.getElem?_eq_some_iff.1 h.ch.st).1
  have := h.lc
  omega
theorem Ses.began (hs : Sv w F s b p g m age d L T0) (hml : m < w.heap.size) (hc : Chg (Zs p g F s) w' c s mc (.slice none 0 0) [] T0 age false) (h1 : w.heap.size ≤ c) (h2 : w.heap.size ≤ mc) (hk : Keeps Non w w') : Ses w' w.heap.size F s b p g m age d L T0 c mc (.slice none 0 0) [] T0 false :=
  ⟨hs.keepN hk, (hs.tab.grow fun k q => q).keepN hk, hc, h1, h2, fun k e => by simp [Value.ownBlock] at e, hml, hs.lt⟩
theorem Ses.added {p' : Kv.St} {e : Ending} (h : Ses w base F s b p g m age d L T0 c mc v l T false) (ha : RetAdd (Zs p g F s) w c s mc age v l T p' e w') :
    e = .returned (.int .i64 0) ∧ (∃ v', Ses w' base F s b p g m age d L T0 c mc v' (l ++ [p']) (Kv.do1 T p') false) ∧ Keeps (fun k => base ≤ k) w w' := by
  obtain ⟨he, v', hc, hk, hv⟩ := ha
  have hS : ∀ k, Cb c mc v k → base ≤ k := fun k q => by
    rcases q with q | q | q
    · rw [q]; exact h.lc
    · rw [q]; exact h.lm
    · exact h.lv k q
  refine ⟨he, ⟨v', h.move hk hS hc fun k e => ?_⟩, hk.mono fun k _ q => hS k q⟩
  rcases hv with q | ⟨g', q, q2⟩
  · rw [q] at e; exact h.lv k e
  · rw [q] at e
    injection e with e
    have := h.size
    omega
end

/-- The same, with what is touched. -/
theorem Ses.added2 {w w' : World} {base : Nat} {F : Nat → Prop} {s b p g m age : Nat} {d : Dk} {L : Wal.Lg} {T0 : Tab} {c mc : Nat} {v : Value} {l : List Kv.St} {T : Tab} {p' : Kv.St} {e : Ending} (h : Ses w base F s b p g m age d L T0 c mc v l T false) (ha : RetAdd (Zs p g F s) w c s mc age v l T p' e w') :
    e = .returned (.int .i64 0) ∧ (∃ v', Ses w' base F s b p g m age d L T0 c mc v' (l ++ [p']) (Kv.do1 T p') false ∧ (v'.ownBlock = v.ownBlock ∨ ∃ g, v'.ownBlock = some g ∧ w.heap.size ≤ g)) ∧ Keeps (Cb c mc v) w w' := by
  obtain ⟨he, v', hc, hk, hv⟩ := ha
  have hS : ∀ k, Cb c mc v k → base ≤ k := fun k q => by
    rcases q with q | q | q
    · rw [q]; exact h.lc
    · rw [q]; exact h.lm
    · exact h.lv k q
  refine ⟨he, ⟨v', h.move hk hS hc fun k e => ?_, hv⟩, hk⟩
  rcases hv with q | ⟨g', q, q2⟩
  · rw [q] at e; exact h.lv k e
  · rw [q] at e
    injection e with e
    have := h.size
    omega

/-- A new store. -/
def Fresh (n : Nat) (d : Dk) : Prop := d.lit = false ∧ d.data.length = n
def L0 : Wal.Lg := ⟨0, 1, 16, [], false⟩
theorem kopen_fresh (p g n : Nat) (h0 : 1024 ≤ n) (h1 : n ≤ 1048576) (w : World) (hD : DiskAt w p g (Dk.new n)) :
    Calls Try.prog 56 #[.pointer (some ⟨p, 0, none⟩)] w (RetKOpen w p g L0 (Fresh n) []) :=
  kopen_any p g L0 (Fresh n) [] w Kv.Says.nil ((open_fresh p g n h0 h1 w hD).mono fun e w' h => by
    obtain ⟨d', F, b, he, hL, hl, hn, hW, hF, hk⟩ := h
    exact ⟨d', F, b, he, hL, ⟨hl, hn⟩, hW, hF, hk⟩)

theorem noown (k : Nat) (e : (Value.slice none 0 0).ownBlock = some k) : False := by simp [Value.ownBlock] at e

def ab1 : List Kv.St := [⟨false, [97], [49]⟩]
def ab2 : List Kv.St := [⟨false, [97], [49]⟩, ⟨false, [98], [50]⟩]
def ab3 : List Kv.St := [⟨false, [97], [49]⟩, ⟨false, [98], [50]⟩, ⟨true, [97], []⟩]
theorem ab3_do : Kv.doAll [] ab3 = [([98], [50])] := by decide
theorem ab3_ok : ∀ p ∈ ab3, p.ok := by unfold Kv.St.ok; decide
theorem ab3_len : (Kv.encAll ab3).length = 15 := by decide

set_option maxHeartbeats 8000000 in
set_option maxRecDepth 100000 in
theorem anchor9_any (w : World) : Calls Try.prog 55 #[] w fun e w' => e = .returned (.bool true) ∧ Keeps Non w w' := by
  have kc := fun (w : World) (C : Array Value) (n c : Nat) => Lib.run_convert_bytes_const (P := Try.prog) w 22 5 C n c Try.underlying22 Try.underlying5
  go_enter Try.func55, Try.ntmps55
  go_wp2_with fail
  refine (new_1024 w).mono ?_
  rintro e w1 ⟨p, g, rfl, hD1, hp, hg, hk1⟩
  go_wp2_with fail
  refine (kopen_fresh p g 1024 (by omega) (by omega) w1 hD1).mono ?_
  rintro e w2 ⟨d, F, s, b, m, rfl, hL, ⟨hlit, hlen⟩, hS, hF, hs, hm, hk2⟩
  have hs1 := hk1.size
  have hk02 : Keeps Non w w2 := hk1.into hk2 fun k h1 h2 => by show False; omega
  have hs2 := hk2.size
  have hz : Wal.hs d = 512 := by unfold Wal.hs; rw [hlen]
  have HZ : Hid (∀ k, Zs p g F s k → w.heap.size ≤ k) := fun k q => by
    rcases q with q | q | q | q
    · omega
    · omega
    · have := hF k q; omega
    · omega
  have hml := hS.tab.lt
  clear hk1 hk2 hD1
  have Hb := Lib.hid (begin_any (Zs p g F s) s b m 0 [] w2 hS.st hS.tab hS.lt)
  go_wp2_with fail
  refine Hb.out.mono ?_
  rintro e w3 ⟨c, mc, rfl, hc, h1, h2, hk3⟩
  have hE3 := Ses.began hS hml hc h1 h2 hk3
  have hk03 := hk02.trans hk3
  have hbw := hk02.size
  clear Hb hS hml hc h1 h2 hk3 hk02
  obtain ⟨B, hB⟩ : ∃ B, B = w2.heap.size := ⟨_, rfl⟩
  rw [← hB] at hE3 hbw
  have HB := Lib.hid hbw
  clear hB hbw
  -- a
  have hka : Keeps Non w3 (w3.alloc (.cells #[.int .u8 49] 5 (1, 2))) := (Keeps.refl _ _).alloc _
  have hrx : RdB (w3.alloc (.cells #[.int .u8 49] 5 (1, 2))) (some ⟨w3.heap.size, 0, none⟩) 1 [49] := RdB.of_whole (heap_new _ _) rfl rfl (by decide)
  have hEa := hE3.keepN hka
  have hk0a := hk03.trans hka
  have Hp := Lib.hid (put_ok [97] [49] (by decide) (by decide) (by decide) (some ⟨w3.heap.size, 0, none⟩) 1 1 (by decide) (by decide) hEa.ch hrx hEa.sv.lt)
  have HEa := Lib.hid hEa
  clear hka hrx hE3 hk03 hEa
  go_wp2_with fail
  refine Hp.out.mono ?_
  intro e w4 ha
  obtain ⟨rfl, ⟨v4, hE4⟩, hk4⟩ := Ses.added HEa.out ha
  have hk04 : Keeps Non w w4 := hk0a.into hk4 fun k q1 q2 => by have := HB.out; show False; omega
  clear Hp HEa ha hk0a hk4
  -- b
  have hka : Keeps Non w4 (w4.alloc (.cells #[.int .u8 50] 5 (1, 2))) := (Keeps.refl _ _).alloc _
  have hrx : RdB (w4.alloc (.cells #[.int .u8 50] 5 (1, 2))) (some ⟨w4.heap.size, 0, none⟩) 1 [50] := RdB.of_whole (heap_new _ _) rfl rfl (by decide)
  have hEa := hE4.keepN hka
  have hk0a := hk04.trans hka
  have Hp := Lib.hid (put_ok [98] [50] (by decide) (by decide) (by decide) (some ⟨w4.heap.size, 0, none⟩) 1 1 (by decide) (by decide) hEa.ch hrx hEa.sv.lt)
  have HEa := Lib.hid hEa
  clear hka hrx hE4 hk04 hEa
  go_wp2_with fail
  refine Hp.out.mono ?_
  intro e w5 ha
  obtain ⟨rfl, ⟨v5, hE5⟩, hk5⟩ := Ses.added HEa.out ha
  have hk05 : Keeps Non w w5 := hk0a.into hk5 fun k q1 q2 => by have := HB.out; show False; omega
  clear Hp HEa ha hk0a hk5
  -- the drop
  have Hp := Lib.hid (drop_ok [97] (by decide) (by decide) (by decide) (by decide) hE5.ch hE5.sv.lt)
  have HEa := Lib.hid hE5
  clear hE5
  go_wp2_with fail
  refine Hp.out.mono ?_
  intro e w6 ha
  obtain ⟨rfl, ⟨v6, hE6⟩, hk6⟩ := Ses.added HEa.out ha
  have hk06 : Keeps Non w w6 := hk05.into hk6 fun k q1 q2 => by have := HB.out; show False; omega
  change Ses w6 B F s b p g m 0 d L0 [] c mc v6 ab3 [([98], [50])] false at hE6
  clear Hp HEa ha hk05 hk6
  -- get
  have Hp := Lib.hid (cget_any [97] (by decide) hE6.ch)
  have HEa := Lib.hid hE6
  clear hE6
  go_wp2_with fail
  refine Hp.out.mono ?_
  rintro e w7 ⟨vg, rfl, -, hk7⟩
  have hE7 := HEa.out.keepN hk7
  have hk07 := hk06.trans hk7
  have hg0 : (Kv.get [([98], [50])] [97]).isSome = false := by decide
  rw [hg0]
  clear Hp HEa hk06 hk7
  -- commit
  have Hp := Lib.hid (commit_room hE7.sv (by decide) hL Kv.Says.nil hE7.ch ab3_do.symm ab3_ok (by decide) (by rw [ab3_len]; decide) (by rw [ab3_len, hz]; decide))
  have HBc := Lib.hid hE7.lc
  clear hE7
  go_wp2_with fail
  refine Hp.out.mono ?_
  rintro e w8 ⟨d8, -, -, hk8, h8⟩
  have hk08 : Keeps Non w w8 := hk07.into hk8 fun k q1 q2 => by
    have := HB.out; have := HBc.out
    show False
    rcases q2 with q | q
    · omega
    · have := HZ.out k q; omega
  rcases h8 with ⟨rfl, F8, L8, -, -, -, -, hS8, -⟩ | ⟨hbad, _⟩ | ⟨-, -, -, hbad⟩
  rotate_left
  · rw [hlit] at hbad; cases hbad
  · rw [hz] at hbad; exact absurd hbad (by decide)
  clear Hp hk07 hk8
  -- scan
  have Hp := Lib.hid (sscan_any (Zs p g F8 s) s b mc 1 [([98], [50])] [] (by decide) w8 hS8.st hS8.tab)
  have HS8 := Lib.hid hS8
  clear hS8
  go_wp2_with fail
  refine Hp.out.mono ?_
  rintro e w9 ⟨vp, dp, rfl, hdp, hP, hk9⟩
  have hS9 := HS8.out.keepN hk9
  have hk09 := hk08.trans hk9
  rw [Kv.pre_nil] at hdp
  have hd1 : dp.length = 1 := by have := congrArg List.length hdp; simpa [keys] using this
  obtain ⟨x, hx, hxp⟩ := keys_at hdp (j := 0) (p := ([98], [50])) rfl
  obtain ⟨A, ca, gb, hvp, rfl, -, -, -, q0, -⟩ := hP.at_ hx
  rw [hxp, Nat.zero_mul] at q0
  rw [hd1] at hvp
  subst hvp
  have Hl := Lib.hid (slen_any (Zs p g F8 s) s b mc 1 [([98], [50])] w9 hS9.st hS9.tab)
  clear Hp HS8 hk08 hk9 hP hx hxp hS9 hdp hd1
  simp only [] at q0
  go_wp2_with fail
  refine Hl.out.mono ?_
  rintro e w' ⟨rfl, rfl⟩
  rw [show (([([98], [50])] : Tab).length : Int) = 1 from rfl]
  go_wp2_with fail
  go_ret
  exact ⟨rfl, hk09⟩
end Go.Proofs.Ytbmamhcjbhnkiaa
