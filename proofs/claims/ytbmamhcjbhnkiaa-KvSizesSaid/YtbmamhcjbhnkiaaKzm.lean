/- Layer 9: the walk of Commit. -/
import Derived.Test.YtbmamhcjbhnkiaaKzk
import Derived.Test.YtbmamhcjbhnkiaaKzt
namespace Go.Proofs.Ytbmamhcjbhnkiaa
open Go.RowKit Go.Maps
open Kv (Bs Tab)

theorem StA.ne {Y : Nat → Prop} {w : World} {c s m age b ms ages : Nat} {v : Value} {l : List Kv.St} {T : Tab} {over : Bool} {s' : Nat} (hs : StA w s b ms ages) (h : Chg Y w c s' m v l T age over) : s ≠ c ∧ s ≠ m ∧ v.ownBlock ≠ some s := by
  obtain ⟨es, clock, hm⟩ := h.tab.map
  obtain ⟨R, hR⟩ := h.own
  refine ⟨fun e => ?_, fun e => ?_, fun e => ?_⟩
  · subst e
    have := h.st
    rw [hs.st] at this
    injection this with this
    injection this with _ this
    revert this
    decide
  · subst e
    have := hs.st
    rw [hm] at this
    cases this
  · rcases hR.row.2 with ⟨rfl, _⟩ | ⟨g, cap, cur, rfl, _, hg, _⟩
    · simp [Value.ownBlock] at e
    · have e : g = s := by simpa [Value.ownBlock] using e
      subst e
      have := hs.st
      rw [hg] at this
      injection this with this
      injection this with _ this
      revert this
      decide

section
variable {Y : Nat → Prop} {w : World} {c s m age : Nat} {v : Value} {l : List Kv.St} {T : Tab}
/-- A change that is over, or stale. -/
theorem commit_stale (over : Bool) (b ms ages : Nat) (hst : over = true ∨ ¬ age = ages) (ha : age ≤ 1048576) (hb : ages ≤ 1048576) (hs : StA w s b ms ages) (h : Chg Y w c s m v l T age over) :
    Calls Try.prog 59 #[.pointer (some ⟨c, 0, none⟩)] w fun e w' => e = .returned (.int .i64 16) ∧ Chg Y w' c s m v l T age true ∧ Keeps (fun k => k = c) w w' := by
  obtain ⟨c0, c1, c2, c3, c4⟩ := five h.st
  obtain ⟨s0, s1, s2⟩ := trio hs.st
  have f4 : ∀ n, (w.drewN n).frozen? ⟨c, 4, none⟩ = false := fun n => free (show (w.drewN n).heap[c]? = _ from h.st) 4
  have hset := fun n => (h.keepN ((Keeps.refl _ w).drewN n)).set 4 (.bool true) (over' := true) rfl
  have HS := Lib.hid hset
  have hk : ∀ n, Keeps Non w (w.drewN n) := fun n => (Keeps.refl _ _).drewN n
  clear h hset
  have hcase : over = true ∨ (over = false ∧ ¬ age = ages) := by cases over; exact .inr ⟨rfl, by simpa using hst⟩; exact .inl rfl
  clear hst
  rcases hcase with rfl | ⟨rfl, hne⟩
  · go_enter Try.func59, Try.ntmps59
    go_wp2_with fail
    go_quiet (fail)
    go_wp2_with fail
    go_ret
    exact ⟨rfl, (HS.out nq).1, ((hk nq).mono fun _ _ q => q.elim).trans (HS.out nq).2⟩
  · have hne' : ¬ (age : Int) = (ages : Int) := by omega
    go_enter Try.func59, Try.ntmps59
    go_wp2_with fail
    go_quiet (fail)
    go_wp2_with fail
    go_ret
    exact ⟨rfl, (HS.out nq).1, ((hk nq).mono fun _ _ q => q.elim).trans (HS.out nq).2⟩
/-- A change without steps. -/
theorem commit_none (b ms : Nat) (ha : age ≤ 1048576) (hl : l = []) (hs : StA w s b ms age) (h : Chg Y w c s m v l T age false) :
    Calls Try.prog 59 #[.pointer (some ⟨c, 0, none⟩)] w fun e w' => e = .returned (.int .i64 0) ∧ Chg Y w' c s m v l T age true ∧ Keeps (fun k => k = c) w w' := by
  obtain ⟨R, hR⟩ := h.own
  obtain ⟨A, cap, hv⟩ := own_slice hR.row
  subst hv
  have hl0 : l.length = 0 := by rw [hl]; rfl
  obtain ⟨c0, c1, c2, c3, c4⟩ := five h.st
  obtain ⟨s0, s1, s2⟩ := trio hs.st
  have f4 : ∀ n, (w.drewN n).frozen? ⟨c, 4, none⟩ = false := fun n => free (show (w.drewN n).heap[c]? = _ from h.st) 4
  have HS := Lib.hid (fun n => (h.keepN ((Keeps.refl _ w).drewN n)).set 4 (.bool true) (over' := true) rfl)
  have c2' : ∀ n, ((w.drewN n).setCell ⟨c, 4, none⟩ (.bool true)).cell? ⟨c, 2, none⟩ = some (.slice A l.length cap) := fun n => (five ((HS.out n).1.st)).c2
  have hk : ∀ n, Keeps Non w (w.drewN n) := fun n => (Keeps.refl _ _).drewN n
  rw [hl0] at c2'
  clear h hR hl
  go_enter Try.func59, Try.ntmps59
  go_wp2_with fail
  go_quiet (fail)
  go_wp2_with fail
  go_ret
  exact ⟨rfl, (HS.out nq).1, ((hk nq).mono fun _ _ q => q.elim).trans (HS.out nq).2⟩
/-- A change whose record is too great. -/
theorem commit_size (b ms : Nat) (ha : age ≤ 1048576) (hl : ∀ p ∈ l, p.ok) (hb : (Kv.encAll l).length ≤ 1048576) (hb2 : 65536 < (Kv.encAll l).length) (hs : StA w s b ms age) (h : Chg Y w c s m v l T age false) :
    Calls Try.prog 59 #[.pointer (some ⟨c, 0, none⟩)] w fun e w' => e = .returned (.int .i64 11) ∧ Chg Y w' c s m v l T age true ∧ Keeps (fun k => k = c) w w' := by
  obtain ⟨R, hR⟩ := h.own
  obtain ⟨A, cap, hv⟩ := own_slice hR.row
  subst hv
  have hmany := encAll_many l
  have hl0 : ¬ l.length = 0 := fun e => by
    have : l = [] := List.eq_nil_of_length_eq_zero e
    subst this
    simp [Kv.encAll] at hb2
  have hlb : l.length ≤ 1048576 := by omega
  obtain ⟨c0, c1, c2, c3, c4⟩ := five h.st
  obtain ⟨s0, s1, s2⟩ := trio hs.st
  have f4 : ∀ n, (w.drewN n).frozen? ⟨c, 4, none⟩ = false := fun n => free (show (w.drewN n).heap[c]? = _ from h.st) 4
  have HS := Lib.hid (fun n => (h.keepN ((Keeps.refl _ w).drewN n)).set 4 (.bool true) (over' := true) rfl)
  have c2' : ∀ n, ((w.drewN n).setCell ⟨c, 4, none⟩ (.bool true)).cell? ⟨c, 2, none⟩ = some (.slice A l.length cap) := fun n => (five ((HS.out n).1.st)).c2
  have hk : ∀ n, Keeps Non w (w.drewN n) := fun n => (Keeps.refl _ _).drewN n
  have HR := Lib.hid (fun n => crecord_any hl hb (HS.out n).1)
  obtain ⟨bs, hbs⟩ : ∃ bs, bs = Kv.encAll l := ⟨_, rfl⟩
  rw [← hbs] at hb hb2 HR
  clear h hR hl hbs hmany
  go_enter Try.func59, Try.ntmps59
  go_wp2_with fail
  go_quiet (fail)
  go_wp2_with fail
  refine (HR.out nq).mono ?_
  rintro e w2 ⟨u, rfl, hu, hk2⟩
  obtain ⟨Au, cu, rfl⟩ := own_slice hu
  have hb3 : (65536 : Int) < (bs.length : Int) := by omega
  have hfin := Lib.hid (show Chg Y w2 c s m _ l T age true ∧ Keeps (fun k => k = c) w w2 from ⟨(HS.out nq).1.keepN hk2, ((((hk nq).mono fun _ _ q => q.elim).trans (HS.out nq).2)).trans (hk2.mono fun _ _ q => q.elim)⟩)
  clear HR HS hu hk2
  go_wp2_with fail
  go_ret
  exact ⟨rfl, hfin.out⟩
end
end Go.Proofs.Ytbmamhcjbhnkiaa

/- Layer 9: the walk of Commit on a store whose log lives. -/
namespace Go.Proofs.Ytbmamhcjbhnkiaa
open Go.RowKit Go.Maps
open Kv (Bs Tab)

/-- The blocks of a store, of its log and of its disk, that are turned in place. -/
def Zs (p g : Nat) (F : Nat → Prop) (s : Nat) : Nat → Prop := fun k => k = p ∨ k = g ∨ F k ∨ k = s
/-- A store, its log, its disk. -/
structure Sv (w : World) (F : Nat → Prop) (s b p g m age : Nat) (d : Dk) (L : Wal.Lg) (T : Tab) : Prop where
  wl : Wl w F b p g d L
  st : StA w s b m age
  tab : TabW (Zs p g F s) w m T
  sp : s ≠ p
  sg : s ≠ g
  sF : ¬ F s
  mZ : ¬ Zs p g F s m
theorem Sv.keep {S F : Nat → Prop} {w w' : World} {s b p g m age : Nat} {d : Dk} {L : Wal.Lg} {T : Tab} (h : Sv w F s b p g m age d L T) (hk : Keeps S w w') (hS : ∀ k, S k → ¬ Zs p g F s k) (hm : ¬ S m) (ht : TabW (Zs p g F s) w' m T) : Sv w' F s b p g m age d L T :=
  ⟨h.wl.keep hk (fun k q r => hS k r (by rcases q with q | q | q; exact .inr (.inr (.inl q)); exact .inl q; exact .inr (.inl q))), h.st.keep hk (fun q => hS s q (.inr (.inr (.inr rfl)))), ht, h.sp, h.sg, h.sF, h.mZ⟩
theorem Sv.keepN {F : Nat → Prop} {w w' : World} {s b p g m age : Nat} {d : Dk} {L : Wal.Lg} {T : Tab} (h : Sv w F s b p g m age d L T) (hk : Keeps Non w w') : Sv w' F s b p g m age d L T := h.keep hk (fun _ q => q.elim) id (h.tab.keepN hk)
theorem Sv.lt {F : Nat → Prop} {w : World} {s b p g m age : Nat} {d : Dk} {L : Wal.Lg} {T : Tab} (h : Sv w F s b p g m age d L T) : ∀ k, Zs p g F s k → k < w.heap.size := fun k q => by
  have := h.wl.disk.lt
  rcases q with q | q | q | q
  · rw [q]; exact this.1
  · rw [q]; exact this.2
  · exact h.wl.old k q
  · rw [q]; exact h.st.lt

/-- A table stays while a struct without bytes is turned. -/
theorem TabAt.struct {P : Program} {k : TypeId} {Z : Nat → Prop} {w w' : World} {m c : Nat} {T : Tab} {cs : Array Value} {e : TypeId} {fr : Nat × Nat} (h : TabAt P k Z w m T) (hb : w.heap[c]? = some (.cells cs e fr)) (hn : ∀ (i : Nat) (x : Int), cs[i]? ≠ some (.int .u8 x)) (hk : Keeps (fun k => k = c) w w') : TabAt P k Z w' m T := by
  obtain ⟨es, ⟨xs, clock, h1, h2⟩, h3⟩ := h.ex
  have hmc : ¬ m = c := fun q => by subst q; rw [hb] at h1; cases h1
  refine ⟨⟨es, ⟨xs, clock, hk.at_ h1 hmc, h2⟩, h3.mono fun a p q => ?_⟩, h.rise⟩
  obtain ⟨A, n, cc, q1, q2⟩ := q.val
  exact ⟨q.key, A, n, cc, q1, ⟨q2.rd.keep hk (fun q0 a ha e => RdB.off hb hn q2.rd q0 a ha e), q2.nc, q2.cm, q2.out⟩⟩
theorem Chg.no_u8 {Y : Nat → Prop} {w : World} {c s m age : Nat} {v : Value} {l : List Kv.St} {T : Tab} {over : Bool} (h : Chg Y w c s m v l T age over) : ∀ (i : Nat) (x : Int), (#[.pointer (some ⟨s, 0, none⟩), .map (some m), v, .int .i64 (age : Int), .bool over] : Array Value)[i]? ≠ some (.int .u8 x) := fun j x => by
  obtain ⟨R, hR⟩ := h.own
  obtain ⟨A', c', e'⟩ := own_slice hR.row
  subst e'
  match j with
  | 0 => simp
  | 1 => simp
  | 2 => simp
  | 3 => simp
  | 4 => simp
  | _ + 5 => simp
theorem st_no_u8 (b m age : Nat) : ∀ (i : Nat) (x : Int), (#[.pointer (some ⟨b, 0, none⟩), .map (some m), .int .i64 (age : Int)] : Array Value)[i]? ≠ some (.int .u8 x) := fun j x => by
  match j with
  | 0 => simp
  | 1 => simp
  | 2 => simp
  | _ + 3 => simp

/-- What Commit answers on a log that lives. -/
def RetCommit (w : World) (F : Nat → Prop) (s b p g m age c mc : Nat) (d : Dk) (L : Wal.Lg) (T0 T : Tab) (e : Ending) (w' : World) : Prop :=
  ∃ d' : Dk, d'.WF ∧ d'.data.length = d.data.length ∧ Keeps (fun k => k = c ∨ Zs p g F s k) w w' ∧
    ((e = .returned (.int .i64 0) ∧ ∃ F' L', Wal.Live d' L' ∧ Kv.Says L'.recs T ∧ L'.gen ≤ L.gen + 1 ∧ (d.lit = false → d'.lit = false) ∧ Sv w' F' s b p g mc (age + 1) d' L' T ∧ ∀ k, F' k → F k ∨ w.heap.size ≤ k) ∨
      (d.lit = true ∧ e = .returned (.int .i64 20) ∧ d'.down = true ∧ Sv w' F s b p g m age d' (L.die false) T0 ∧ ∃ gen R h, Wal.Has d' gen R h ∧ gen ≤ L.gen + 1 ∧ (Kv.Says R T0 ∨ Kv.Says R T)) ∨
      (e = .returned (.int .i64 21) ∧ d' = d ∧ Sv w' F s b p g m age d L T0 ∧ Wal.hs d < 16 + Kv.rcost T))

/-- The store takes a change's table. -/
theorem Sv.took {F : Nat → Prop} {w : World} {s b p g m age mc : Nat} {d : Dk} {L : Wal.Lg} {T : Tab} (hw : Wl w F b p g d L) (hst : StA w s b m age) (sp : s ≠ p) (sg : s ≠ g) (sF : ¬ F s) (ht : TabW (Zs p g F s) w mc T) (hmc : ¬ Zs p g F s mc) :
    Sv ((w.setCell ⟨s, 1, none⟩ (.map (some mc))).setCell ⟨s, 2, none⟩ (.int .i64 ((age : Int) + 1))) F s b p g mc (age + 1) d L T ∧ Keeps (fun k => k = s) w ((w.setCell ⟨s, 1, none⟩ (.map (some mc))).setCell ⟨s, 2, none⟩ (.int .i64 ((age : Int) + 1))) := by
  have hk : Keeps (fun k => k = s) w ((w.setCell ⟨s, 1, none⟩ (.map (some mc))).setCell ⟨s, 2, none⟩ (.int .i64 ((age : Int) + 1))) := ((Keeps.refl _ _).set1 1 _).set1 2 _
  have hb := setCell_row _ s 2 _ _ _ (setCell_row w s 1 _ _ _ hst.st (.map (some mc))) (.int .i64 ((age : Int) + 1))
  refine ⟨⟨hw.keep hk (fun k q r => ?_), ⟨?_⟩, ht.struct hst.st (st_no_u8 _ _ _) hk, sp, sg, sF, hmc⟩, hk⟩
  · rcases q with q | q | q
    · exact sF (r ▸ q)
    · exact sp (r ▸ q)
    · exact sg (r ▸ q)
  · rw [hb]
    congr 1

section
variable {F : Nat → Prop} {w : World} {s b p g m age c mc : Nat} {d : Dk} {L : Wal.Lg} {v : Value} {l : List Kv.St} {T0 T : Tab}
set_option maxHeartbeats 8000000 in
set_option maxRecDepth 100000 in
theorem commit_room (hsv : Sv w F s b p g m age d L T0) (ha : age ≤ 1048576) (hL : Wal.Live d L) (hsay : Kv.Says L.recs T0) (h : Chg (Zs p g F s) w c s mc v l T age false) (hTT : T = Kv.doAll T0 l) (hl : ∀ p ∈ l, p.ok) (hne : l ≠ [])
    (hb : (Kv.encAll l).length ≤ 65536) (hroom : L.fin + (9 + (Kv.encAll l).length) ≤ Wal.hs d) :
    Calls Try.prog 59 #[.pointer (some ⟨c, 0, none⟩)] w (RetCommit w F s b p g m age c mc d L T0 T) := by
  obtain ⟨R, hR⟩ := h.own
  obtain ⟨A, cap, hv⟩ := own_slice hR.row
  subst hv
  have hmany := encAll_many l
  have hl0 : ¬ l.length = 0 := fun e => hne (List.eq_nil_of_length_eq_zero e)
  have hlb : l.length ≤ 1048576 := by omega
  obtain ⟨c0, c1, c2, c3, c4⟩ := five h.st
  obtain ⟨s0, s1, s2⟩ := trio hsv.st.st
  obtain ⟨x1, x2, x3⟩ := hsv.st.ne h
  have f4 : ∀ n, (w.drewN n).frozen? ⟨c, 4, none⟩ = false := fun n => free (show (w.drewN n).heap[c]? = _ from h.st) 4
  have HS := Lib.hid (fun n => (h.keepN ((Keeps.refl _ w).drewN n)).set 4 (.bool true) (over' := true) rfl)
  have c2' : ∀ n, ((w.drewN n).setCell ⟨c, 4, none⟩ (.bool true)).cell? ⟨c, 2, none⟩ = some (.slice A l.length cap) := fun n => (five ((HS.out n).1.st)).c2
  have hk : ∀ n, Keeps Non w (w.drewN n) := fun n => (Keeps.refl _ _).drewN n
  have HR := Lib.hid (fun n => crecord_any hl (by omega) (HS.out n).1)
  obtain ⟨bs, hbs⟩ : ∃ bs, bs = Kv.encAll l := ⟨_, rfl⟩
  rw [← hbs] at hb HR hroom hmany
  have HBs := Lib.hid hbs
  have hn1 : 1 ≤ bs.length := by omega
  have hc0 := (Array.getElem?_eq_some_iff.1 h.st).1
  have hcZ := h.cy
  have hnu := h.no_u8
  have hcst := h.st
  clear hR hbs hne
  go_enter Try.func59, Try.ntmps59
  go_wp2_with fail
  go_quiet (fail)
  have hk1 : Keeps (fun k => k = c) w ((w.drewN nq).setCell ⟨c, 4, none⟩ (.bool true)) := ((hk nq).mono fun _ _ q => q.elim).trans (HS.out nq).2
  have hC1 := (HS.out nq).1
  have hR1 := HR.out nq
  have c21 := c2' nq
  have f41 := f4 nq
  have c4n : (w.drewN nq).cell? ⟨c, 4, none⟩ = some (.bool false) := c4
  clear HR HS c2' f4
  go_wp2_with fail
  refine hR1.mono ?_
  rintro e w2 ⟨u, rfl, hu, hk2⟩
  obtain ⟨Au, cu, rfl, hru, hbu, hnu2, hcu⟩ := own_rdB hu (by omega)
  have hb3 : ¬ (65536 : Int) < (bs.length : Int) := by omega
  have hC2 := hC1.keepN hk2
  have hK2 : Keeps (fun k => k = c) w w2 := hk1.trans (hk2.mono fun _ _ q => q.elim)
  have hsv2 : Sv w2 F s b p g m age d L T0 := hsv.keep hK2 (fun k q r => hcZ (q ▸ r)) (fun q => by
    obtain ⟨es, clock, hm⟩ := hsv.tab.map
    rw [q, hcst] at hm
    cases hm) (hsv.tab.struct hcst hnu hK2)
  obtain ⟨s0', s1', s2'⟩ := trio hsv2.st.st
  have hz2 := hK2.size
  have hz1 := hk1.size
  have hlt := hsv.lt
  have hA : ∀ a, Au = some a → ¬ (a.block = p ∨ a.block = g ∨ F a.block) := fun a ha q => by
    have h1 := own_ge hu _ (hbu a ha)
    have h2 : Zs p g F s a.block := by rcases q with q | q | q; exact .inl q; exact .inr (.inl q); exact .inr (.inr (.inl q))
    have := hlt _ h2
    omega
  have HA := Lib.hid (append_step F b p g d L Au bs.length cu bs hL hn1 hb hroom w2 hsv2.wl hru hA)
  clear hR1 hu hru hbu hk2 hA hC1 hk1 c21 f41 c4n hk
  go_wp2_with fail
  refine HA.out.mono ?_
  rintro e w3 ⟨d', hwf, hlen, hk3, hcase⟩
  have hk3' : Keeps (Zs p g F s) w2 w3 := hk3.mono fun k _ q => by rcases q with q | q | q; exact .inl q; exact .inr (.inl q); exact .inr (.inr (.inl q))
  have hC3 := hC2.keep hk3' (fun _ q => q)
  have hst3 : StA w3 s b m age := hsv2.st.keep hk3 (fun q => by rcases q with q | q | q; exact hsv.sp q; exact hsv.sg q; exact hsv.sF q)
  have hK3 : Keeps (fun k => k = c ∨ Zs p g F s k) w w3 := (hK2.mono fun k _ q => .inl q).trans (hk3'.mono fun k _ q => .inr q)
  have hH1 := Lib.hid hcase
  clear HA hcase
  rcases hH1.out with ⟨rfl, hL', hlit, F', hW', hF'⟩ | ⟨hlit, rfl, hdn, hW', hHas⟩
  · clear hH1
    have hmcZ : ¬ Zs p g F' s mc := fun q => by
      rcases q with q | q | q | q
      · exact hC3.my (.inl q)
      · exact hC3.my (.inr (.inl q))
      · rcases hF' _ q with r | r
        · exact hC3.my (.inr (.inr (.inl r)))
        · have := hC2.tab.lt; omega
      · exact hC3.my (.inr (.inr (.inr q)))
    have hsF : ¬ F' s := fun q => by
      rcases hF' _ q with r | r
      · exact hsv.sF r
      · have := hsv2.st.lt; omega
    have htab3 : TabW (Zs p g F' s) w3 mc T := by
      have h0 := hC2.tab.grow (Z' := fun k => Zs p g F s k ∨ Zs p g F' s k) fun k q => by
        rcases q with q | q | q | q | q
        · exact .inl (.inl q)
        · exact .inl (.inl (.inl q))
        · exact .inl (.inl (.inr (.inl q)))
        · rcases hF' _ q with r | r
          · exact .inl (.inl (.inr (.inr (.inl r))))
          · exact .inr r
        · exact .inl (.inl (.inr (.inr (.inr q))))
      exact (h0.keep hk3' hC2.my (fun k q => .inl q)).grow fun k q => .inl (.inr q)
    obtain ⟨d0, d1, d2, d3, d4⟩ := five hC3.st
    obtain ⟨s0'', s1'', s2''⟩ := trio hst3.st
    have f1 := free hst3.st 1
    have hst3c : (w3.setCell ⟨s, 1, none⟩ (.map (some mc))).heap[s]? = _ := setCell_row w3 s 1 _ _ _ hst3.st (.map (some mc))
    have f2 := free hst3c 2
    have s2c := (trio hst3c).c2
    have HT := Lib.hid (Sv.took hW' hst3 hsv.sp hsv.sg hsF htab3 hmcZ)
    have hsay' : Kv.Says (L.added bs).recs T := by
      show Kv.Says (L.recs ++ [bs]) T
      rw [HBs.out, hTT]
      exact hsay.add hl
    have hfin := Lib.hid (show ∀ w4, Keeps (fun k => k = s) w3 w4 → Sv w4 F' s b p g mc (age + 1) d' (L.added bs) T → RetCommit w F s b p g m age c mc d L T0 T (.returned (.int .i64 0)) w4 from
      fun w4 k4 h4 => ⟨d', hwf, hlen, hK3.trans (k4.mono fun k _ q => .inr (.inr (.inr (.inr q)))), .inl ⟨rfl, F', L.added bs, hL', hsay', by show L.gen ≤ L.gen + 1; omega, hlit, h4, fun k q => by
        rcases hF' k q with r | r
        · exact .inl r
        · exact .inr (by omega)⟩⟩)
    clear htab3 hmcZ hW' hC3 hC2 hsv2 hst3 hst3c hk3 hk3' hK3 hK2 h hTT hsay hL hL' hF' hsay' hsv hwf
    go_wp2_with fail
    go_ret
    exact hfin.out _ HT.out.2 HT.out.1
  · have hfin := Lib.hid (show RetCommit w F s b p g m age c mc d L T0 T (.returned (.int .i64 20)) w3 from
      ⟨d', hwf, hlen, hK3, .inr (.inl ⟨hlit, rfl, hdn, ⟨hW', hst3, hsv2.tab.keep hk3' hsv2.mZ (fun _ q => q), hsv.sp, hsv.sg, hsv.sF, hsv.mZ⟩, by
        rcases hHas with q | q
        · exact ⟨_, _, _, q, by omega, .inl hsay⟩
        · exact ⟨_, _, _, q, by show L.gen ≤ L.gen + 1; omega, .inr (by show Kv.Says (L.recs ++ [bs]) T; rw [HBs.out, hTT]; exact hsay.add hl)⟩⟩)⟩)
    clear hH1 hHas hC3 hC2 hsv2 hst3 hk3 hk3' hK3 hK2 h hTT hsay hL hsv hwf hW'
    go_wp2_with fail
    go_ret
    exact hfin.out
end
end Go.Proofs.Ytbmamhcjbhnkiaa
