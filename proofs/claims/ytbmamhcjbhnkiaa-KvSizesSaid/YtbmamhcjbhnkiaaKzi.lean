/- Layer 9: the walks of Put, Drop and Begin. -/
import Derived.Test.YtbmamhcjbhnkiaaKzh
namespace Go.Proofs.Ytbmamhcjbhnkiaa
open Go.RowKit Go.Maps
open Kv (Bs Tab)

section
variable {Y : Nat → Prop} {w : World} {c s m age : Nat} {v : Value} {l : List Kv.St} {T : Tab}
theorem own_lt {w : World} {base size n : Nat} {e : TypeId} {v : Value} {xs : List Value} (h : w.ownsRow base e size v n xs) {g : Nat} (hg : v.ownBlock = some g) : g < w.heap.size := by
  rcases h.2 with ⟨rfl, _⟩ | ⟨g', cap, cur, rfl, _, hg', _⟩
  · simp [Value.ownBlock] at hg
  · have : g' = g := by simpa [Value.ownBlock] using hg
    subst this
    exact (Array.getElem?_eq_some_iff.1 hg').1
theorem Chg.row_lt {over : Bool} (h : Chg Y w c s m v l T age over) {g : Nat} (hg : v.ownBlock = some g) : g < w.heap.size := by
  obtain ⟨R, hR⟩ := h.own
  exact own_lt hR.row hg

/-- What Put and Drop answer where they are allowed. -/
def RetAdd (Y : Nat → Prop) (w : World) (c s m age : Nat) (v : Value) (l : List Kv.St) (T : Tab) (p : Kv.St) (e : Ending) (w' : World) : Prop :=
  e = .returned (.int .i64 0) ∧ ∃ v', Chg Y w' c s m v' (l ++ [p]) (Kv.do1 T p) age false ∧ Keeps (Cb c m v) w w' ∧ (v'.ownBlock = v.ownBlock ∨ ∃ g, v'.ownBlock = some g ∧ w.heap.size ≤ g)

theorem put_ok (k x : Bs) (hk1 : 1 ≤ k.length) (hk2 : k.length ≤ 128) (hx : x.length ≤ 4096) (A : Option Addr) (n cc : Nat) (hl : l.length < 64) (hT : T.length ≤ 1048576) (h : Chg Y w c s m v l T age false) (hr : RdB w A n x) (hy : ∀ k, Y k → k < w.heap.size) :
    Calls Try.prog 58 #[.pointer (some ⟨c, 0, none⟩), sv k, .slice A n cc] w (RetAdd Y w c s m age v l T ⟨false, k, x⟩) := by
  go_enter Try.func58, Try.ntmps58
  go_wp2_with fail
  refine (clone_any A n cc x w hr).mono ?_
  rintro e w1 ⟨A1, n1, c1, rfl, r1, k1, g1, m1, x1⟩
  have h1 := h.keepN k1
  have hs : SlZ (fun k => Y k ∨ v.ownBlock = some k) w1 A1 n1 c1 x := ⟨r1, m1, x1, fun h0 a ha e => by
    have := g1 a ha
    rcases e with e | e
    · have := hy _ e; omega
    · have := h.row_lt e; omega⟩
  have H := Lib.hid (add_ok ⟨false, k, x⟩ ⟨hk1, hk2, hx, fun e => by cases e⟩ A1 n1 c1 hl hT h1 hs (fun k q => by have := hy k q; have := k1.size; omega))
  have z1 := k1.size
  have K1 : Keeps (Cb c m v) w w1 := k1.mono fun _ _ q => q.elim
  clear h h1 hs r1 k1 g1
  go_wp2_with fail
  refine H.out.mono ?_
  rintro e w2 ⟨rfl, v', h2, k2, g2⟩
  clear H
  go_wp2_with fail
  go_ret
  refine ⟨rfl, v', h2, K1.trans k2, ?_⟩
  rcases g2 with e | ⟨g, e1, e2⟩
  · exact .inl e
  · exact .inr ⟨g, e1, by omega⟩
theorem put_no (k x : Bs) (A : Option Addr) (n cc : Nat) (h : Chg Y w c s m v l T age false) (he : addErr k.length n l.length ≠ 0) (hr : RdB w A n x) :
    Calls Try.prog 58 #[.pointer (some ⟨c, 0, none⟩), sv k, .slice A n cc] w fun e w' => e = .returned (.int .i64 (addErr k.length n l.length)) ∧ Keeps Non w w' := by
  have hn := hr.len
  go_enter Try.func58, Try.ntmps58
  go_wp2_with fail
  refine (clone_any A n cc x w hr).mono ?_
  rintro e w1 ⟨A1, n1, c1, rfl, r1, k1, g1, m1, x1⟩
  have hn1 : n1 = n := by rw [← r1.len, hn]
  subst hn1
  have H := Lib.hid (add_no (w := w1) ⟨false, k, x⟩ A1 n1 c1 he (h.keepN k1))
  obtain ⟨er, her⟩ : ∃ er, er = addErr k.length n1 l.length := ⟨_, rfl⟩
  have HE := Lib.hid her
  clear h r1 g1 he her
  go_wp2_with fail
  refine H.out.mono ?_
  rw [← HE.out]
  rintro e w2 ⟨rfl, k2⟩
  clear H
  go_wp2_with fail
  go_ret
  exact ⟨by rw [← HE.out]; rfl, k1.trans k2⟩
theorem put_over (k : Bs) (A : Option Addr) (n cc : Nat) (x : Bs) (h : Chg Y w c s m v l T age true) (hr : RdB w A n x) :
    Calls Try.prog 58 #[.pointer (some ⟨c, 0, none⟩), sv k, .slice A n cc] w fun e w' => e = .returned (.int .i64 16) ∧ Keeps Non w w' := by
  go_enter Try.func58, Try.ntmps58
  go_wp2_with fail
  refine (clone_any A n cc x w hr).mono ?_
  rintro e w1 ⟨A1, n1, c1, rfl, r1, k1, g1, m1, x1⟩
  have H := Lib.hid (add_over (w := w1) ⟨false, k, x⟩ A1 n1 c1 (h.keepN k1))
  clear h r1 g1
  go_wp2_with fail
  refine H.out.mono ?_
  rintro e w2 ⟨rfl, k2⟩
  clear H
  go_wp2_with fail
  go_ret
  exact ⟨rfl, k1.trans k2⟩
theorem drop_ok (k : Bs) (hk1 : 1 ≤ k.length) (hk2 : k.length ≤ 128) (hl : l.length < 64) (hT : T.length ≤ 1048576) (h : Chg Y w c s m v l T age false) (hy : ∀ k, Y k → k < w.heap.size) :
    Calls Try.prog 89 #[.pointer (some ⟨c, 0, none⟩), sv k] w (RetAdd Y w c s m age v l T ⟨true, k, []⟩) := by
  have H := Lib.hid (add_ok ⟨true, k, []⟩ ⟨hk1, hk2, by simp, fun _ => rfl⟩ none 0 0 hl hT h (SlZ.nil _ _) hy)
  clear h
  go_enter Try.func89, Try.ntmps89
  go_wp2_with fail
  refine H.out.mono ?_
  rintro e w2 ⟨rfl, v', h2, k2, g2⟩
  clear H
  go_wp2_with fail
  go_ret
  exact ⟨rfl, v', h2, k2, g2⟩
end

/-- What Begin answers. -/
def RetBegin (Z : Nat → Prop) (w : World) (s age : Nat) (T : Tab) (e : Ending) (w' : World) : Prop := ∃ c m, e = .returned (.pointer (some ⟨c, 0, none⟩)) ∧ Chg Z w' c s m (.slice none 0 0) [] T age false ∧ w.heap.size ≤ c ∧ w.heap.size ≤ m ∧ Keeps Non w w'

set_option maxHeartbeats 4000000 in
theorem begin_any (Z : Nat → Prop) (s b m age : Nat) (T : Tab) (w : World) (hs : StA w s b m age) (h : TabW Z w m T) (hz : ∀ k, Z k → k < w.heap.size) :
    Calls Try.prog 57 #[.pointer (some ⟨s, 0, none⟩)] w (RetBegin Z w s age T) := by
  obtain ⟨c0, c1, c2⟩ := trio hs.st
  obtain ⟨es, ⟨xs, clock, hm, hfit⟩, hal⟩ := h.ex
  have hcon := AnyW.maps_Clone Try.cloneTab m xs clock w.drew (show w.drew.heap[m]? = _ from hm)
  change Calls Try.prog 92 _ _ _ at hcon
  have hk : Keeps Non w (w.drew.alloc (.map xs clock)) := ((Keeps.refl _ _).drew).alloc _
  have hT : TabW Z (w.drew.alloc (.map xs clock)) w.heap.size T := ⟨⟨es, ⟨xs, clock, heap_new w.drew _, hfit⟩, hal.mono fun _ _ q => q.keep hk fun _ q => q.elim⟩, h.rise⟩
  have e1 := hk.cell c1 id
  have e2 := hk.cell c2 id
  have HC := Lib.hid hcon
  have HT := Lib.hid hT
  have hrise := h.rise
  clear hcon hT h hal hfit hm hs
  go_enter Try.func57, Try.ntmps57
  go_wp2_with fail
  go_region_held3 (fun w' => w'.cell? ⟨s, 1, none⟩ = some (.map (some m)) ∧ w'.cell? ⟨s, 2, none⟩ = some (.int .i64 (age : Int))) (first | exact ⟨c1, c2⟩ | exact ⟨by simpa using c1, by simpa using c2⟩ | exact ⟨e1, e2⟩ | exact ⟨((Keeps.refl Non _).alloc _).cell e1 id, ((Keeps.refl Non _).alloc _).cell e2 id⟩) (first
    | (go_at_call 92; refine HC.out.mono ?_; rintro e w6 ⟨rfl, rfl⟩))
  all_goals
    go_wp2_with fail
    go_ret
    have k7 : Keeps Non (w.drew.alloc (.map xs clock)) ((w.drew.alloc (.map xs clock)).alloc (.cells #[.pointer (some ⟨s, 0, none⟩), .map (some w.heap.size), .slice none 0 0, .int .i64 (age : Int), .bool false] 143)) := (Keeps.refl _ _).alloc _
    have b7 := heap_new (w.drew.alloc (.map xs clock)) (.cells #[.pointer (some ⟨s, 0, none⟩), .map (some w.heap.size), .slice none 0 0, .int .i64 (age : Int), .bool false] 143)
    have z7 : (w.drew.alloc (.map xs clock)).heap.size = w.heap.size + 1 := by simp
    rw [z7] at b7
    have hT7 : TabW (fun k => Z k ∨ (Value.slice none 0 0).ownBlock = some k) ((w.drew.alloc (.map xs clock)).alloc (.cells #[.pointer (some ⟨s, 0, none⟩), .map (some w.heap.size), .slice none 0 0, .int .i64 (age : Int), .bool false] 143)) w.heap.size T := (HT.out.keepN k7).grow fun k q => by
      rcases q with q | q
      · exact .inl q
      · simp [Value.ownBlock] at q
    exact ⟨w.heap.size + 1, w.heap.size, rfl, ⟨b7, hT7, ⟨[], StepsAt.nil _ _⟩, fun q => by have := hz _ q; omega, fun q => by have := hz _ q; omega, fun g hg => by simp [Value.ownBlock] at hg⟩, by omega, Nat.le_refl _, hk.trans k7⟩
end Go.Proofs.Ytbmamhcjbhnkiaa
