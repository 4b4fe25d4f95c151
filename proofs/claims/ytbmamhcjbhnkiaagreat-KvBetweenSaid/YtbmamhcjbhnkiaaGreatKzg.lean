/- Layer 9: a store's and a change's structs in memory; the walks of what they tell, and of add. -/
import Derived.Test.YtbmamhcjbhnkiaaGreatKzf
import Derived.Test.YtbmamhcjbhnkiaaGreatKzt
namespace Go.Proofs.YtbmamhcjbhnkiaaGreat
open Go.RowKit Go.Maps
open Kv (Bs Tab)

/-- A store's struct lies in block s. -/
structure StA (w : World) (s b m age : Nat) : Prop where
  st : w.heap[s]? = some (.cells #[.pointer (some ⟨b, 0, none⟩), .map (some m), .int .i64 (age : Int)] 78 (0, 0))
theorem StA.keep {S : Nat → Prop} {w w' : World} {s b m age : Nat} (h : StA w s b m age) (hk : Keeps S w w') (hs : ¬ S s) : StA w' s b m age := ⟨hk.at_ h.st hs⟩
theorem StA.lt {w : World} {s b m age : Nat} (h : StA w s b m age) : s < w.heap.size := (Array.getElem?_eq_some_iff.1 h.st).1

theorem sscan_any (Z : Nat → Prop) (s b m age : Nat) (T : Tab) (key : Bs) (hT : T.length ≤ 1048576) (w : World) (hs : StA w s b m age) (h : TabW Z w m T) :
    Calls Tryz.prog 20 #[.pointer (some ⟨s, 0, none⟩), sv key] w (RetTScan w T key) := by
  obtain ⟨c0, c1, c2⟩ := trio hs.st
  have H := Lib.hid (tscan_any Z m T key hT w h)
  go_enter Tryz.func20, Tryz.ntmps20
  go_wp2_with fail
  refine H.out.mono ?_
  rintro e w1 ⟨v, d, rfl, hd, hv, hk⟩
  go_wp2_with fail
  go_ret
  exact ⟨v, d, rfl, hd, hv, hk⟩
theorem slen_any (Z : Nat → Prop) (s b m age : Nat) (T : Tab) (w : World) (hs : StA w s b m age) (h : TabW Z w m T) :
    Calls Tryz.prog 22 #[.pointer (some ⟨s, 0, none⟩)] w fun e w' => e = .returned (.int .i64 (T.length : Int)) ∧ w = w' := by
  obtain ⟨c0, c1, c2⟩ := trio hs.st
  go_enter Tryz.func22, Tryz.ntmps22
  go_wp2_with (at_len; refine hold_it ?_)
  refine let_go ?_
  refine wp_tab_len _ rfl _ _ rfl 9 60 Z m T Tryz.underlying76 rfl h ?_
  clear h hs
  go_wp2_with fail
  go_ret
  exact ⟨rfl, rfl⟩

/-- The steps of a change; their values lie in no block of Z. -/
structure StepsAt (Z : Nat → Prop) (w : World) (v : Value) (l : List Kv.St) (S : List Value) : Prop where
  row : w.ownsRow 0 97 3 v l.length (List.zipWith stf l S).flatten
  sl : S.length = l.length
  el : ∀ (j : Nat) (p : Kv.St), l[j]? = some p → ∃ A n c, S[j]? = some (.slice A n c) ∧ SlZ Z w A n c p.v
theorem StepsAt.nil (Z : Nat → Prop) (w : World) : StepsAt Z w (.slice none 0 0) [] [] := ⟨World.ownsRow_nil _ _ _ _, rfl, fun j p h => by simp at h⟩
theorem StepsAt.keep {Z Y : Nat → Prop} {w w' : World} {v : Value} {l : List Kv.St} {S : List Value} (h : StepsAt Z w v l S) (hk : Keeps Y w w') (hZ : ∀ k, Y k → Z k) (hr : ∀ g, v.ownBlock = some g → ¬ Y g) : StepsAt Z w' v l S :=
  ⟨own_kept h.row hk hr, h.sl, fun j p hp => by
    obtain ⟨A, n, c, h1, h2⟩ := h.el j p hp
    exact ⟨A, n, c, h1, h2.keep hk hZ⟩⟩
theorem StepsAt.grow {Z Z' : Nat → Prop} {w : World} {v : Value} {l : List Kv.St} {S : List Value} (h : StepsAt Z w v l S) (hz : ∀ k, Z' k → Z k ∨ w.heap.size ≤ k) : StepsAt Z' w v l S :=
  ⟨h.row, h.sl, fun j p hp => by
    obtain ⟨A, n, c, h1, h2⟩ := h.el j p hp
    exact ⟨A, n, c, h1, h2.grow hz⟩⟩
theorem StepsAt.rdS {Z : Nat → Prop} {w : World} {v : Value} {l : List Kv.St} {S : List Value} (h : StepsAt Z w v l S) (hle : l.length ≤ 140737488355328) : ∃ A c, v = .slice A l.length c ∧ RdS Z w A l.length l ∧ l.length ≤ c ∧ c ≤ 9223372036854775807 := by
  rcases h.row.2 with ⟨rfl, h0⟩ | ⟨g, cap, cur, rfl, hg0, hg, hnc, hcm, hcs, htake⟩
  · have : l = [] := List.eq_nil_of_length_eq_zero h0
    subst this
    exact ⟨none, 0, rfl, ⟨rfl, by decide, fun q => by simp at q⟩, Nat.le_refl _, by omega⟩
  · refine ⟨_, cap, rfl, ⟨rfl, hle, fun h0 => ⟨g, 0, rfl, fun j p hp => ?_⟩⟩, hnc, hcm⟩
    obtain ⟨A, n, c, q1, q2⟩ := h.el j p hp
    have hj : j < l.length := (List.getElem?_eq_some_iff.1 hp).1
    have hcell : ∀ (i : Nat) (u : Value), (stf p (.slice A n c))[i]? = some u → w.cell? ⟨g, j * 3 + i, none⟩ = some u := fun i u hu => by
      have hi : i < 3 := (List.getElem?_eq_some_iff.1 hu).1
      have h1 := flatten_get (sz := 3) (List.zipWith stf l S) (zip_len (f := stf) (sz := 3) (fun _ _ => rfl) l S) j i hi
      have h2 : (List.zipWith stf l S)[j]? = some (stf p (.slice A n c)) := by rw [List.getElem?_zipWith, hp, q1]
      rw [h2] at h1
      simp only [Option.bind_some, hu] at h1
      rw [← htake, List.getElem?_take, if_pos (by omega), Array.getElem?_toList] at h1
      simp only [World.cell?, hg, Option.isSome_none, Bool.false_eq_true, if_false]
      exact h1
    refine ⟨A, n, c, ⟨?_, ?_, ?_⟩, q2⟩
    · rw [Nat.zero_add]; exact hcell 0 _ rfl
    · rw [Nat.zero_add]; exact hcell 1 _ rfl
    · rw [Nat.zero_add]; exact hcell 2 _ rfl
theorem StepsAt.push {Y : Nat → Prop} {w w1 : World} {v v' : Value} {l : List Kv.St} {S : List Value} {p : Kv.St} {A : Option Addr} {n c : Nat} (h : StepsAt (fun k => Y k ∨ v.ownBlock = some k) w v l S) (hs : SlZ (fun k => Y k ∨ v.ownBlock = some k) w A n c p.v)
    (hgrow : w.grownBy w1 v.ownBlock) (hloc : v'.ownBlock = v.ownBlock ∨ v'.ownBlock = some w.heap.size) (hown : w1.ownsRow 0 97 3 v' (l.length + 1) ((List.zipWith stf l S).flatten ++ stf p (.slice A n c))) :
    StepsAt (fun k => Y k ∨ v'.ownBlock = some k) w1 v' (l ++ [p]) (S ++ [.slice A n c]) := by
  have hsl := h.sl
  have turn : ∀ {A : Option Addr} {n c : Nat} {q : Bs}, SlZ (fun k => Y k ∨ v.ownBlock = some k) w A n c q → SlZ (fun k => Y k ∨ v'.ownBlock = some k) w1 A n c q := fun {A n c q} hq =>
    ⟨hq.rd.keep (Keeps.of_grown hgrow) (fun q0 a ha e => hq.out q0 a ha (.inr e.symm)), hq.nc, hq.cm, fun q0 a ha e => by
      rcases e with e | e
      · exact hq.out q0 a ha (.inl e)
      · rcases hloc with e' | e'
        · exact hq.out q0 a ha (.inr (e' ▸ e))
        · have := hq.rd.old q0 a ha
          rw [e'] at e
          injection e with e
          omega⟩
  refine ⟨by rw [zip_snoc p _ l S hsl]; simpa using hown, by simp [hsl], fun j q hq => ?_⟩
  by_cases hj : j < l.length
  · rw [List.getElem?_append_left hj] at hq
    obtain ⟨A', n', c', h1, h2⟩ := h.el j q hq
    exact ⟨A', n', c', by rw [List.getElem?_append_left (by omega)]; exact h1, turn h2⟩
  · have hj' : j = l.length := by
      have := (List.getElem?_eq_some_iff.1 hq).1
      simp at this; omega
    subst hj'
    rw [List.getElem?_append_right (Nat.le_refl _)] at hq
    simp at hq
    subst hq
    exact ⟨A, n, c, by rw [List.getElem?_append_right (by omega)]; simp [hsl], turn hs⟩

/-- A change lies in block c, its table in block m; Y: blocks that others may turn. -/
structure Chg (Y : Nat → Prop) (w : World) (c s m : Nat) (v : Value) (l : List Kv.St) (T : Tab) (age : Nat) (over : Bool) : Prop where
  st : w.heap[c]? = some (.cells #[.pointer (some ⟨s, 0, none⟩), .map (some m), v, .int .i64 (age : Int), .bool over] 87 (0, 0))
  tab : TabW (fun k => Y k ∨ v.ownBlock = some k) w m T
  own : ∃ S, StepsAt (fun k => Y k ∨ v.ownBlock = some k) w v l S
  cy : ¬ Y c
  my : ¬ Y m
  ry : ∀ g, v.ownBlock = some g → ¬ Y g
/-- The cells of a block of five. -/
structure Five (w : World) (p : Nat) (v0 v1 v2 v3 v4 : Value) : Prop where
  c0 : w.cell? ⟨p, 0, none⟩ = some v0
  c1 : w.cell? ⟨p, 1, none⟩ = some v1
  c2 : w.cell? ⟨p, 2, none⟩ = some v2
  c3 : w.cell? ⟨p, 3, none⟩ = some v3
  c4 : w.cell? ⟨p, 4, none⟩ = some v4
theorem five {w : World} {p : Nat} {v0 v1 v2 v3 v4 : Value} {e : TypeId} {fr : Nat × Nat} (h : w.heap[p]? = some (.cells #[v0, v1, v2, v3, v4] e fr)) : Five w p v0 v1 v2 v3 v4 := by
  constructor <;> simp [World.cell?, h]

section
variable {Y : Nat → Prop} {w : World} {c s m age : Nat} {v : Value} {l : List Kv.St} {T : Tab} {over : Bool}
theorem Chg.row_ne (h : Chg Y w c s m v l T age over) : v.ownBlock ≠ some c ∧ v.ownBlock ≠ some m ∧ c ≠ m := by
  obtain ⟨S, hS⟩ := h.own
  obtain ⟨es, clock, hm⟩ := h.tab.map
  refine ⟨fun e => ?_, fun e => ?_, fun e => ?_⟩
  · rcases hS.row.2 with ⟨rfl, _⟩ | ⟨g, cap, cur, rfl, _, hg, _⟩
    · simp [Value.ownBlock] at e
    · have e : g = c := by simpa [Value.ownBlock] using e
      subst e
      have := h.st
      rw [hg] at this
      injection this with this
      injection this with _ this
      revert this
      decide
  · rcases hS.row.2 with ⟨rfl, _⟩ | ⟨g, cap, cur, rfl, _, hg, _⟩
    · simp [Value.ownBlock] at e
    · have e : g = m := by simpa [Value.ownBlock] using e
      subst e
      rw [hg] at hm
      cases hm
  · subst e
    have := h.st
    rw [hm] at this
    cases this
theorem Chg.keep {S : Nat → Prop} {w' : World} (h : Chg Y w c s m v l T age over) (hk : Keeps S w w') (hS : ∀ k, S k → Y k) : Chg Y w' c s m v l T age over := by
  obtain ⟨R, hR⟩ := h.own
  exact ⟨hk.at_ h.st fun q => h.cy (hS _ q), h.tab.keep hk (fun q => h.my (hS _ q)) fun k q => .inl (hS k q), ⟨R, hR.keep hk (fun k q => .inl (hS k q)) fun g hg q => h.ry g hg (hS _ q)⟩, h.cy, h.my, h.ry⟩
theorem Chg.keepN {w' : World} (h : Chg Y w c s m v l T age over) (hk : Keeps Non w w') : Chg Y w' c s m v l T age over := h.keep hk fun _ q => q.elim
theorem Chg.grow {Y' : Nat → Prop} (h : Chg Y w c s m v l T age over) (hy : ∀ k, Y' k → Y k ∨ w.heap.size ≤ k) : Chg Y' w c s m v l T age over := by
  obtain ⟨R, hR⟩ := h.own
  have hlt : ∀ k, k < w.heap.size → ¬ Y k → ¬ Y' k := fun k h1 h2 h3 => by
    rcases hy k h3 with q | q
    · exact h2 q
    · omega
  have hz : ∀ k, (Y' k ∨ v.ownBlock = some k) → (Y k ∨ v.ownBlock = some k) ∨ w.heap.size ≤ k := fun k q => by
    rcases q with q | q
    · rcases hy k q with r | r
      · exact .inl (.inl r)
      · exact .inr r
    · exact .inl (.inr q)
  refine ⟨h.st, h.tab.grow hz, ⟨R, hR.grow hz⟩, hlt _ (Array.getElem?_eq_some_iff.1 h.st).1 h.cy, hlt _ h.tab.lt h.my, fun g hg => hlt g ?_ (h.ry g hg)⟩
  rcases hR.row.2 with ⟨rfl, _⟩ | ⟨g', cap, cur, rfl, _, hg', _⟩
  · simp [Value.ownBlock] at hg
  · have : g' = g := by simpa [Value.ownBlock] using hg
    subst this
    exact (Array.getElem?_eq_some_iff.1 hg').1

theorem cget_any (key : Bs) (hkl : key.length ≤ maxLen) (h : Chg Y w c s m v l T age over) :
    Calls Tryz.prog 28 #[.pointer (some ⟨c, 0, none⟩), sv key] w (RetTGet w T key) := by
  obtain ⟨c0, c1, c2, c3, c4⟩ := five h.st
  have H := Lib.hid (tget_any _ m T key hkl w h.tab)
  clear h
  go_enter Tryz.func28, Tryz.ntmps28
  go_wp2_with fail
  refine H.out.mono ?_
  rintro e w1 ⟨v, rfl, hv, hk⟩
  obtain ⟨ok, hok⟩ : ∃ ok, ok = (Kv.get T key).isSome := ⟨_, rfl⟩
  rw [← hok]
  have H1 := Lib.hid hok
  clear hok
  go_wp2_with fail
  go_ret2
  exact ⟨v, by rw [← H1.out]; rfl, hv, hk⟩
theorem cscan_any (key : Bs) (hT : T.length ≤ 1048576) (h : Chg Y w c s m v l T age over) :
    Calls Tryz.prog 37 #[.pointer (some ⟨c, 0, none⟩), sv key] w (RetTScan w T key) := by
  obtain ⟨c0, c1, c2, c3, c4⟩ := five h.st
  have H := Lib.hid (tscan_any _ m T key hT w h.tab)
  clear h
  go_enter Tryz.func37, Tryz.ntmps37
  go_wp2_with fail
  refine H.out.mono ?_
  rintro e w1 ⟨v, d, rfl, hd, hv, hk⟩
  go_wp2_with fail
  go_ret
  exact ⟨v, d, rfl, hd, hv, hk⟩
/-- A cell of the change's own struct is set. -/
theorem Chg.set (h : Chg Y w c s m v l T age over) (i : Nat) (u : Value) {over' : Bool} (hs : (#[.pointer (some ⟨s, 0, none⟩), .map (some m), v, .int .i64 (age : Int), .bool over] : Array Value).setIfInBounds i u = #[.pointer (some ⟨s, 0, none⟩), .map (some m), v, .int .i64 (age : Int), .bool over']) :
    Chg Y (w.setCell ⟨c, i, none⟩ u) c s m v l T age over' ∧ Keeps (fun k => k = c) w (w.setCell ⟨c, i, none⟩ u) := by
  obtain ⟨R, hR⟩ := h.own
  obtain ⟨n1, n2, n3⟩ := h.row_ne
  have hk : Keeps (fun k => k = c) w (w.setCell ⟨c, i, none⟩ u) := (Keeps.refl _ _).set1 i u
  have hst := setCell_row w c i _ _ _ h.st u
  rw [hs] at hst
  have hnu : ∀ (j : Nat) (x : Int), (#[.pointer (some ⟨s, 0, none⟩), .map (some m), v, .int .i64 (age : Int), .bool over] : Array Value)[j]? ≠ some (.int .u8 x) := fun j x => by
    obtain ⟨A, cc, rfl, _⟩ : ∃ A cc, v = .slice A l.length cc ∧ True := by
      rcases hR.row.2 with ⟨rfl, h0⟩ | ⟨g', cap, cur, rfl, _, hg', _⟩
      · exact ⟨none, 0, by rw [h0], trivial⟩
      · exact ⟨_, _, rfl, trivial⟩
    match j with
    | 0 => simp
    | 1 => simp
    | 2 => simp
    | 3 => simp
    | 4 => simp
    | _ + 5 => simp
  have turn : ∀ {A : Option Addr} {n cc : Nat} {q : Bs}, SlZ (fun k => Y k ∨ v.ownBlock = some k) w A n cc q → SlZ (fun k => Y k ∨ v.ownBlock = some k) (w.setCell ⟨c, i, none⟩ u) A n cc q := fun {A n cc q} hq =>
    ⟨hq.rd.keep hk (fun q0 a ha e => RdB.off h.st hnu hq.rd q0 a ha e), hq.nc, hq.cm, hq.out⟩
  obtain ⟨es, ⟨xs, clock, h1, h2⟩, h3⟩ := h.tab.ex
  refine ⟨⟨hst, ⟨⟨es, ⟨xs, clock, hk.at_ h1 (fun e => n3 e.symm), h2⟩, h3.mono fun a b q => ?_⟩, h.tab.rise⟩, ⟨R, own_kept hR.row hk (fun g hg e => n1 (e ▸ hg)), hR.sl, fun j p hp => ?_⟩, h.cy, h.my, h.ry⟩, hk⟩
  · obtain ⟨A, n, cc, q1, q2⟩ := q.val
    exact ⟨q.key, A, n, cc, q1, turn q2⟩
  · obtain ⟨A, n, cc, q1, q2⟩ := hR.el j p hp
    exact ⟨A, n, cc, q1, turn q2⟩
/-- Cancel (ONLY2). -/
theorem cancel_any (h : Chg Y w c s m v l T age over) :
    Calls Tryz.prog 12 #[.pointer (some ⟨c, 0, none⟩)] w fun e w' => e = .returned (.tuple #[]) ∧ Chg Y w' c s m v l T age true ∧ Keeps (fun k => k = c) w w' := by
  obtain ⟨c0, c1, c2, c3, c4⟩ := five h.st
  have f4 := free h.st 4
  have H := Lib.hid (h.set 4 (.bool true) (over' := true) rfl)
  clear h
  go_enter Tryz.func12, Tryz.ntmps12
  go_wp2_with fail
  go_end0
  exact ⟨rfl, H.out⟩
end
end Go.Proofs.YtbmamhcjbhnkiaaGreat
