/- Layer 9: the walk of Commit. -/
import Derived.Test.YtbmamhcjbhnkiaaKzk
import Derived.Test.YtbmamhcjbhnkiaaKzt
namespace Go.Proofs.Ytbmamhcjbhnkiaa
open Go.RowKit Go.Maps
open Kv (Bs Tab)

theorem StA.ne {Y : Nat → Prop} {w : World} {c s m age b ms ages : Nat} {v : Value} {l : List Kv.St} {T : Tab} {over : Bool} {s' : Nat} (hs : StA w s b ms ages) (h : Chg Y w c s' m v l T age over) : s ≠ c ∧ s ≠ m ∧ v.ownBlock ≠ some s := by
  obtain ⟨es, clock, hm⟩ := h.tab.map
  obtain ⟨R, hR⟩ := h.own
  refine ⟨fun e => ?_, fun e => ?_, fun e => ?_⟩
  · subst e
    have := h.st
    rw [hs.st] at this
    injection this with this
    injection this with _ this
    revert this
    decide
  · subst e
    have := hs.st
    rw [hm] at this
    cases this
  · rcases hR.row.2 with ⟨rfl, _⟩ | ⟨g, cap, cur, rfl, _, hg, _⟩
    · simp [Value.ownBlock] at e
    · have e : g = s := by simpa [Value.ownBlock] using e
      subst e
      have := hs.st
      rw [hg] at this
      injection this with this
      injection this with _ this
      revert this
      decide

section
variable {Y : Nat → Prop} {w : World} {c s m age : Nat} {v : Value} {l : List Kv.St} {T : Tab}
/-- A change that is over, or stale. -/
theorem commit_stale (over : Bool) (b ms ages : Nat) (hst : over = true ∨ ¬ age = ages) (ha : age ≤ 1048576) (hb : ages ≤ 1048576) (hs : StA w s b ms ages) (h : Chg Y w c s m v l T age over) :
    Calls Try.prog 59 #[.pointer (some ⟨c, 0, none⟩)] w fun e w' => e = .returned (.int .i64 16) ∧ Chg Y w' c s m v l T age true ∧ Keeps (fun k => k = c) w w' := by
  obtain ⟨c0, c1, c2, c3, c4⟩ := five h.st
  obtain ⟨s0, s1, s2⟩ := trio hs.st
  have f4 : ∀ n, (w.drewN n).frozen? ⟨c, 4, none⟩ = false := fun n => free (show (w.drewN n).heap[c]? = _ from h.st) 4
  have hset := fun n => (h.keepN ((Keeps.refl _ w).drewN n)).set 4 (.bool true) (over' := true) rfl
  have HS := Lib.hid hset
  have hk : ∀ n, Keeps Non w (w.drewN n) := fun n => (Keeps.refl _ _).drewN n
  clear h hset
  have hcase : over = true ∨ (over = false ∧ ¬ age = ages) := by cases over; exact .inr ⟨rfl, by simpa using hst⟩; exact .inl rfl
  clear hst
  rcases hcase with rfl | ⟨rfl, hne⟩
  · go_enter Try.func59, Try.ntmps59
    go_wp2_with fail
    go_quiet (fail)
    go_wp2_with fail
    go_ret
    exact ⟨rfl, (HS.out nq).1, ((hk nq).mono fun _ _ q => q.elim).trans (HS.out nq).2⟩
  · have hne' : ¬ (age : Int) = (ages : Int) := by omega
    go_enter Try.func59, Try.ntmps59
    go_wp2_with fail
    go_quiet (fail)
    go_wp2_with fail
    go_ret
    exact ⟨rfl, (HS.out nq).1, ((hk nq).mono fun _ _ q => q.elim).trans (HS.out nq).2⟩
/-- A change without steps. -/
theorem commit_none (b ms : Nat) (ha : age ≤ 1048576) (hl : l = []) (hs : StA w s b ms age) (h : Chg Y w c s m v l T age false) :
    Calls Try.prog 59 #[.pointer (some ⟨c, 0, none⟩)] w fun e w' => e = .returned (.int .i64 0) ∧ Chg Y w' c s m v l T age true ∧ Keeps (fun k => k = c) w w' := by
  obtain ⟨R, hR⟩ := h.own
  obtain ⟨A, cap, hv⟩ := own_slice hR.row
  subst hv
  have hl0 : l.length = 0 := by rw [hl]; rfl
  obtain ⟨c0, c1, c2, c3, c4⟩ := five h.st
  obtain ⟨s0, s1, s2⟩ := trio hs.st
  have f4 : ∀ n, (w.drewN n).frozen? ⟨c, 4, none⟩ = false := fun n => free (show (w.drewN n).heap[c]? = _ from h.st) 4
  have HS := Lib.hid (fun n => (h.keepN ((Keeps.refl _ w).drewN n)).set 4 (.bool true) (over' := true) rfl)
  have c2' : ∀ n, ((w.drewN n).setCell ⟨c, 4, none⟩ (.bool true)).cell? ⟨c, 2, none⟩ = some (.slice A l.length cap) := fun n => (five ((HS.out n).1.st)).c2
  have hk : ∀ n, Keeps Non w (w.drewN n) := fun n => (Keeps.refl _ _).drewN n
  rw [hl0] at c2'
  clear h hR hl
  go_enter Try.func59, Try.ntmps59
  go_wp2_with fail
  go_quiet (fail)
  go_wp2_with fail
  go_ret
  exact ⟨rfl, (HS.out nq).1, ((hk nq).mono fun _ _ q => q.elim).trans (HS.out nq).2⟩
/-- A change whose record is too great. -/
theorem commit_size (b ms : Nat) (ha : age ≤ 1048576) (hl : ∀ p ∈ l, p.ok) (hb : (Kv.encAll l).length ≤ 1048576) (hb2 : 65536 < (Kv.encAll l).length) (hs : StA w s b ms age) (h : Chg Y w c s m v l T age false) :
    Calls Try.prog 59 #[.pointer (some ⟨c, 0, none⟩)] w fun e w' => e = .returned (.int .i64 11) ∧ Chg Y w' c s m v l T age true ∧ Keeps (fun k => k = c) w w' := by
  obtain ⟨R, hR⟩ := h.own
  obtain ⟨A, cap, hv⟩ := own_slice hR.row
  subst hv
  have hmany := encAll_many l
  have hl0 : ¬ l.length = 0 := fun e => by
    have : l = [] := List.eq_nil_of_length_eq_zero e
    subst this
    simp [Kv.encAll] at hb2
  have hlb : l.length ≤ 1048576 := by omega
  obtain ⟨c0, c1, c2, c3, c4⟩ := five h.st
  obtain ⟨s0, s1, s2⟩ := trio hs.st
  have f4 : ∀ n, (w.drewN n).frozen? ⟨c, 4, none⟩ = false := fun n => free (show (w.drewN n).heap[c]? = _ from h.st) 4
  have HS := Lib.hid (fun n => (h.keepN ((Keeps.refl _ w).drewN n)).set 4 (.bool true) (over' := true) rfl)
  have c2' : ∀ n, ((w.drewN n).setCell ⟨c, 4, none⟩ (.bool true)).cell? ⟨c, 2, none⟩ = some (.slice A l.length cap) := fun n => (five ((HS.out n).1.st)).c2
  have hk : ∀ n, Keeps Non w (w.drewN n) := fun n => (Keeps.refl _ _).drewN n
  have HR := Lib.hid (fun n => crecord_any hl hb (HS.out n).1)
  obtain ⟨bs, hbs⟩ : ∃ bs, bs = Kv.encAll l := ⟨_, rfl⟩
  rw [← hbs] at hb hb2 HR
  clear h hR hl hbs hmany
  go_enter Try.func59, Try.ntmps59
  go_wp2_with fail
  go_quiet (fail)
  go_wp2_with fail
  refine (HR.out nq).mono ?_
  rintro e w2 ⟨u, rfl, hu, hk2⟩
  obtain ⟨Au, cu, rfl⟩ := own_slice hu
  have hb3 : (65536 : Int) < (bs.length : Int) := by omega
  have hfin := Lib.hid (show Chg Y w2 c s m _ l T age true ∧ Keeps (fun k => k = c) w w2 from ⟨(HS.out nq).1.keepN hk2, ((((hk nq).mono fun _ _ q => q.elim).trans (HS.out nq).2)).trans (hk2.mono fun _ _ q => q.elim)⟩)
  clear HR HS hu hk2
  go_wp2_with fail
  go_ret
  exact ⟨rfl, hfin.out⟩
end
end Go.Proofs.Ytbmamhcjbhnkiaa
