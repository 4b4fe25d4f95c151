/- Layer 9: the walks of a step's bytes, and of a record's reader. -/
import Derived.Test.YtbmamhcjbhnkiaaGreatKzw
import Derived.Test.YtbmamhcjbhnkiaaGreatKwu
namespace Go.Proofs.YtbmamhcjbhnkiaaGreat
open Go.RowKit
open Kv (Bs Tab)

theorem own_news (w : World) (base : Nat) (e : TypeId) (vs : List Value) (hb : base ≤ w.heap.size) (hm : vs.length ≤ maxLen) : (w.alloc (.cells vs.toArray e)).ownsRow base e 1 (.slice (some ⟨w.heap.size, 0, none⟩) vs.length vs.length) vs.length vs :=
  ⟨by simp, .inr ⟨_, vs.length, vs.toArray, rfl, hb, heap_new w _, Nat.le_refl _, hm, by simp, by simp⟩⟩

theorem u8_small {n : Nat} (h : n < 256) : (Value.int .u8 (n : Int)) = bv (UInt8.ofNat n) := by
  have : (UInt8.ofNat n).toNat = n := by simp; omega
  unfold bv; rw [this]
theorem u8_div {n : Nat} (h : n ≤ 4096) : (Value.int .u8 ((n : Int) / 256)) = bv (UInt8.ofNat (n / 256)) := by
  have : (UInt8.ofNat (n / 256)).toNat = n / 256 := by simp; omega
  unfold bv; rw [this]; congr 1
theorem u8_mod (n : Nat) : (Value.int .u8 ((n : Int) % 256)) = bv (UInt8.ofNat n) := by
  have : (UInt8.ofNat n).toNat = n % 256 := by simp
  unfold bv; rw [this]; congr 1
theorem src_sv {P : Program} {tx : TypeId} (hk : P.underlying tx = some .string) (w : World) (s : Bs) : Src P 1 tx (sv s) s.length (s.map bv) w := Src.ofString w hk ⟨s.toArray⟩

/-- Two bytes that a walk has laid behind another block. -/
theorem own_two (w : World) (o : Obj) (x y : UInt8) : ((w.alloc o).alloc (.cells #[bv x, bv y] 5)).ownsRow (w.heap.size + 1) 5 1 (.slice (some ⟨w.heap.size + 1, 0, none⟩) 2 2) 2 (([x, y] : Bs).map bv) := by
  have h := own_news (w.alloc o) (w.heap.size + 1) 5 [bv x, bv y] (by simp) (by unfold maxLen; simp)
  have z : (w.alloc o).heap.size = w.heap.size + 1 := by simp
  rw [z] at h
  exact h

/-- The cells of a step. -/
structure Trio (w : World) (b off : Nat) (v0 v1 v2 : Value) : Prop where
  c0 : w.cell? ⟨b, off, none⟩ = some v0
  c1 : w.cell? ⟨b, off + 1, none⟩ = some v1
  c2 : w.cell? ⟨b, off + 2, none⟩ = some v2
theorem trio {w : World} {b : Nat} {v0 v1 v2 : Value} {e : TypeId} {fr : Nat × Nat} (h : w.heap[b]? = some (.cells #[v0, v1, v2] e fr)) : Trio w b 0 v0 v1 v2 := by
  constructor <;> simp [World.cell?, h]
theorem Trio.keep {S : Nat → Prop} {w w' : World} {b off : Nat} {v0 v1 v2 : Value} (h : Trio w b off v0 v1 v2) (hk : Keeps S w w') (hb : ¬ S b) : Trio w' b off v0 v1 v2 := ⟨hk.cell h.c0 hb, hk.cell h.c1 hb, hk.cell h.c2 hb⟩

set_option maxHeartbeats 4000000 in
set_option maxRecDepth 100000 in
theorem sbytes_put (k v : Bs) (hk : k.length ≤ 128) (hv : v.length ≤ 4096) (A : Option Addr) (n c : Nat) (w : World) (hr : RdB w A n v) :
    Calls Tryz.prog 55 #[.agg #[.int .u8 1, sv k, .slice A n c]] w (RetOwn w (Kv.enc ⟨false, k, v⟩)) := by
  have hn := hr.len
  have hown2 := own_two w (.cells #[.int .u8 1, sv k, .slice A n c] 97) 1 (UInt8.ofNat k.length)
  have e1 : bv 1 = .int .u8 1 := rfl
  rw [← u8_small (show k.length < 256 by omega), e1] at hown2
  have b2 := heap_old (heap_new w (.cells #[.int .u8 1, sv k, .slice A n c] 97)) (.cells #[.int .u8 1, .int .u8 (k.length : Int)] 5)
  have hk2 : Keeps Non w ((w.alloc (.cells #[.int .u8 1, sv k, .slice A n c] 97)).alloc (.cells #[.int .u8 1, .int .u8 (k.length : Int)] 5)) := ((Keeps.refl _ _).alloc _).alloc _
  have hsrc2 := src_sv (P := Tryz.prog) Tryz.underlying9 ((w.alloc (.cells #[.int .u8 1, sv k, .slice A n c] 97)).alloc (.cells #[.int .u8 1, .int .u8 (k.length : Int)] 5)) k
  have HE : Hid (∀ x y : UInt8, x = UInt8.ofNat (v.length / 256) → y = UInt8.ofNat v.length → (([1, UInt8.ofNat k.length] : Bs).map bv ++ k.map bv) ++ (([x, y] : Bs).map bv) ++ v.map bv = (Kv.enc ⟨false, k, v⟩).map bv) := by rintro x y rfl rfl; simp [Kv.enc]
  have HX : Hid ((#[.int .u8 ((n : Int) / 256), .int .u8 ((n : Int) % 256)] : Array Value) = (([UInt8.ofNat (n / 256), UInt8.ofNat n] : Bs).map bv).toArray) := by show _ = _; rw [u8_div (by omega), u8_mod]; rfl
  have HL : Hid (2 + k.length + 2 + n = (Kv.enc ⟨false, k, v⟩).length) := by show _ = _; rw [Kv.enc_length, ← hn]; simp; omega

  clear e1
  go_enter Tryz.func55, Tryz.ntmps55
  go_wp2_with (at_builtin; refine hold_it ?_)
  refine let_go ?_
  refine wpList_append_src _ rfl _ _ 60 9 rfl (w.heap.size + 1) 5 (.int .u8 0) 1 1 Tryz.underlying60 info_u8 rfl (by decide) (.slice (some ⟨w.heap.size + 1, 0, none⟩) 2 2) 2 _ rfl hown2 _ _ _ rfl hsrc2 (by unfold maxLen; omega) (by omega) (by simp) ?_
  intro v3 w3 hown3 hgrow3 _
  have hk3 : Keeps Non w w3 := (hk2.into (Keeps.of_grown hgrow3) fun k _ h => by simp [Value.ownBlock] at h; omega)
  have b3 := (Keeps.of_grown hgrow3).at_ b2 (fun h => by simp [Value.ownBlock] at h)
  have z3 : w.heap.size < w3.heap.size := Nat.lt_of_lt_of_le (by simp; omega) hgrow3.size
  have t3 := trio b3
  obtain ⟨c0, c1, c2⟩ := t3
  clear b2 hk2 hsrc2 hown2 hgrow3
  go_wp2_with (at_builtin; refine hold_it ?_)
  refine let_go ?_
  have hown3' := own_kept (Z := Non) hown3 ((Keeps.refl Non w3).alloc (.cells #[.int .u8 ((n : Int) / 256), .int .u8 ((n : Int) % 256)] 5)) (fun _ _ h => h)
  have hsrc3 : Src Tryz.prog 1 60 (.slice (some ⟨w3.heap.size, 0, none⟩) 2 2) 2 (([UInt8.ofNat (n / 256), UInt8.ofNat n] : Bs).map bv) (w3.alloc (.cells #[.int .u8 ((n : Int) / 256), .int .u8 ((n : Int) % 256)] 5)) := src_bytes (P := Tryz.prog) Tryz.underlying60 (RdB.of_whole (heap_new w3 (.cells #[.int .u8 ((n : Int) / 256), .int .u8 ((n : Int) % 256)] 5)) HX.out rfl (by simp)) 2
  refine wpList_append_src _ rfl _ _ 60 60 rfl (w.heap.size + 1) 5 (.int .u8 0) 1 1 Tryz.underlying60 info_u8 rfl (by decide) v3 _ _ rfl hown3' _ _ _ rfl hsrc3 (by unfold maxLen; omega) (by omega) (by simp; omega) ?_
  intro v4 w4 hown4 hgrow4 _
  have z4 : w.heap.size + 1 ≤ w4.heap.size := Nat.le_trans (by simp; omega) hgrow4.size
  have hk4 : Keeps Non w w4 := (hk3.alloc _).into (Keeps.of_grown hgrow4) fun k hk h => by have := own_ge hown3' k h.symm; omega
  have b4 := (Keeps.of_grown hgrow4).at_ (heap_old b3 _) fun h => by have := own_ge hown3' _ h.symm; omega
  clear c0 c1 c2
  have hr4 := hr.keepN hk4
  clear hown3 hown3' hsrc3 hgrow4 b3 hk3
  have t4 := trio b4
  obtain ⟨c0, c1, c2⟩ := t4
  go_wp2_with (at_builtin; refine hold_it ?_)
  refine let_go ?_
  refine wpList_append_src _ rfl _ _ 60 60 rfl (w.heap.size + 1) 5 (.int .u8 0) 1 1 Tryz.underlying60 info_u8 rfl (by decide) v4 _ _ rfl hown4 _ _ _ rfl (src_bytes (P := Tryz.prog) Tryz.underlying60 hr4 c) (by unfold maxLen; omega) (by omega) z4 ?_
  intro v5 w5 hown5 hgrow5 _
  have hk5 : Keeps Non w w5 := hk4.into (Keeps.of_grown hgrow5) fun k hk h => by have := own_ge hown4 k h.symm; omega
  clear hown4 hgrow5 b4 c0 c1 c2 hk4
  go_wp2_with fail
  go_ret
  refine ⟨v5, rfl, own_base (base' := w.heap.size + 1) ?_ (by omega), hk5⟩
  rw [← HL.out, ← HE.out _ _ rfl rfl, hn]
  exact hown5

set_option maxHeartbeats 4000000 in
set_option maxRecDepth 100000 in
theorem sbytes_drop (k : Bs) (hk : k.length ≤ 128) (A : Option Addr) (n c : Nat) (w : World) :
    Calls Tryz.prog 55 #[.agg #[.int .u8 2, sv k, .slice A n c]] w (RetOwn w (Kv.enc ⟨true, k, []⟩)) := by
  have hown2 := own_two w (.cells #[.int .u8 2, sv k, .slice A n c] 97) 2 (UInt8.ofNat k.length)
  have e1 : bv 2 = .int .u8 2 := rfl
  rw [← u8_small (show k.length < 256 by omega), e1] at hown2
  have b2 := heap_old (heap_new w (.cells #[.int .u8 2, sv k, .slice A n c] 97)) (.cells #[.int .u8 2, .int .u8 (k.length : Int)] 5)
  have hk2 : Keeps Non w ((w.alloc (.cells #[.int .u8 2, sv k, .slice A n c] 97)).alloc (.cells #[.int .u8 2, .int .u8 (k.length : Int)] 5)) := ((Keeps.refl _ _).alloc _).alloc _
  have hsrc2 := src_sv (P := Tryz.prog) Tryz.underlying9 ((w.alloc (.cells #[.int .u8 2, sv k, .slice A n c] 97)).alloc (.cells #[.int .u8 2, .int .u8 (k.length : Int)] 5)) k
  have HE : Hid ((([2, UInt8.ofNat k.length] : Bs).map bv ++ k.map bv) = (Kv.enc ⟨true, k, []⟩).map bv) := by show _ = _; simp [Kv.enc]
  have HL : Hid (2 + k.length = (Kv.enc ⟨true, k, []⟩).length) := by show _ = _; rw [Kv.enc_length]; simp
  clear e1
  go_enter Tryz.func55, Tryz.ntmps55
  go_wp2_with (at_builtin; refine hold_it ?_)
  refine let_go ?_
  refine wpList_append_src _ rfl _ _ 60 9 rfl (w.heap.size + 1) 5 (.int .u8 0) 1 1 Tryz.underlying60 info_u8 rfl (by decide) (.slice (some ⟨w.heap.size + 1, 0, none⟩) 2 2) 2 _ rfl hown2 _ _ _ rfl hsrc2 (by unfold maxLen; omega) (by omega) (by simp) ?_
  intro v3 w3 hown3 hgrow3 _
  have hk3 : Keeps Non w w3 := (hk2.into (Keeps.of_grown hgrow3) fun k _ h => by simp [Value.ownBlock] at h; omega)
  have b3 := (Keeps.of_grown hgrow3).at_ b2 (fun h => by simp [Value.ownBlock] at h)
  have t3 := trio b3
  obtain ⟨c0, c1, c2⟩ := t3
  clear b2 hk2 hsrc2 hown2 hgrow3
  go_wp2_with fail
  go_ret
  refine ⟨v3, rfl, own_base (base' := w.heap.size + 1) ?_ (by omega), hk3⟩
  rw [← HL.out, ← HE.out]
  exact hown3

/-- A step's kind. -/
def kz (p : Kv.St) : Int := if p.d then 2 else 1
abbrev kd (p : Kv.St) : Value := .int .u8 (kz p)
theorem sbytes_any (p : Kv.St) (hp : p.ok) (A : Option Addr) (n c : Nat) (w : World) (hr : RdB w A n p.v) :
    Calls Tryz.prog 55 #[.agg #[kd p, sv p.k, .slice A n c]] w (RetOwn w (Kv.enc p)) := by
  obtain ⟨d, k, v⟩ := p
  obtain ⟨_, h2, h3, h4⟩ := hp
  cases d with
  | false => exact sbytes_put k v h2 h3 A n c w hr
  | true =>
    obtain rfl : v = [] := h4 rfl
    exact sbytes_drop k h2 A n c w
end Go.Proofs.YtbmamhcjbhnkiaaGreat
